/-
  The walk of laws.FnExactRanksOf.
-/
import Derived.Test.YtolepfgabbmpdaaRanksO
import Derived.Test.YtolepfgabbmpdaaList
import Derived.Test.YtolepfgabbmpdaaToInt
namespace Go.Proofs.Ytolepfgabbmpdaa
open Go.RowKit
set_option linter.unusedVariables false

set_option maxHeartbeats 1000000 in
theorem walk_FnExactRanksOf (a0 : Option Addr) (len0 cap0 : Nat) (y0 : List Int) (w : World) (w0 : IsRow .i64 w a0 len0 cap0 y0) :
    Calls Try.prog 13 #[.slice a0 len0 cap0] w fun e w' => e = .returned (.bool true) ∧ Below w.heap.size w w' := by
  have hr0 := w0.reads
  have hlen0 := w0.len
  have hwf0 := w0.wfs
  clear w0
  generalize y0.take len0 = z0 at *
  by_cases hbig0 : 1048576 < len0
  · have hbig0' : decide ((1048576 : Int) < (len0 : Int)) = true := by simp; omega
    go_enter Try.func13, Try.ntmps13
    go_wp2_with fail
    go_ret
    exact ⟨rfl, Below.refl _ _⟩
  go_enter Try.func13, Try.ntmps13
  have q0 := Below.refl w.heap.size w
  go_wp2_with fail
  refine (laws_toIntS _ z0 _ (hr0.keep q0) (by omega)).mono ?_
  rintro e w1 ⟨v1, rfl, o1, hb1⟩
  have s1 := hb1.size
  have q1 := q0.trans (hb1.mono q0.size)
  go_wp2_with fail
  refine (spec_RanksOf _ z0 _ o1.reads ).mono ?_
  rintro e w2 ⟨v2, rfl, o2, hb2⟩
  have s2 := hb2.size
  have q2 := q1.trans (hb2.mono q1.size)
  have k1_2 := o1.keep hb2
  go_wp2_with fail
  refine (laws_toIntS _ z0 _ (hr0.keep q2) (by omega)).mono ?_
  rintro e w3 ⟨v3, rfl, o3, hb3⟩
  have s3 := hb3.size
  have q3 := q2.trans (hb3.mono q2.size)
  have k1_3 := k1_2.keep hb3
  have k2_3 := o2.keep hb3
  go_wp2_with fail
  refine (impl_RanksOf _ z0 _ o3.reads ).mono ?_
  rintro e w4 ⟨v4, rfl, o4, hb4⟩
  have s4 := hb4.size
  have q4 := q3.trans (hb4.mono q3.size)
  have k1_4 := k1_3.keep hb4
  have k2_4 := k2_3.keep hb4
  have k3_4 := o3.keep hb4
  have ht : decide (ranksV z0 = ranksV z0) = true := by simp
  have hlr : (ranksV z0).length ≤ 1048576 := by have := ranksV_len z0; omega
  go_wp2_with fail
  refine (laws_eqIntS _ _ _ _ _ o4.reads k2_4.reads).mono ?_
  rintro e w5 ⟨rfl, hb5⟩
  have s5 := hb5.size
  have q5 := q4.trans (hb5.mono q4.size)
  have k1_5 := k1_4.keep hb5
  have k2_5 := k2_4.keep hb5
  have k3_5 := k3_4.keep hb5
  have k4_5 := o4.keep hb5
  have ht0 : decide (z0 = z0) = true := by simp
  go_wp2_with fail
  refine (laws_toIntS _ z0 _ (hr0.keep q5) (by omega)).mono ?_
  rintro e w6 ⟨v6, rfl, o6, hb6⟩
  have s6 := hb6.size
  have q6 := q5.trans (hb6.mono q5.size)
  have k1_6 := k1_5.keep hb6
  have k2_6 := k2_5.keep hb6
  have k3_6 := k3_5.keep hb6
  have k4_6 := k4_5.keep hb6
  go_wp2_with fail
  refine (laws_eqIntS _ _ _ _ _ k3_6.reads o6.reads).mono ?_
  rintro e w7 ⟨rfl, hb7⟩
  have s7 := hb7.size
  have q7 := q6.trans (hb7.mono q6.size)
  have k1_7 := k1_6.keep hb7
  have k2_7 := k2_6.keep hb7
  have k3_7 := k3_6.keep hb7
  have k4_7 := k4_6.keep hb7
  have k6_7 := o6.keep hb7
  go_wp2_with fail
  refine (laws_markIntS _ _ _ _ k3_7 (by first | omega | (simp only [] at *; omega))).mono ?_
  rintro e w8 ⟨rfl, o8, hg8⟩
  have s8 := hg8.size
  have q8 := k3_7.grown hg8 q7 (by omega) q7.size
  have k1_8 := k1_7.other hg8 (Owns.earlier o1 k3_7 (by omega))
  have k2_8 := k2_7.other hg8 (Owns.earlier o2 k3_7 (by omega))
  have k4_8 := k4_7.other hg8 (Owns.later o3 k4_7 (by omega))
  have k6_8 := k6_7.other hg8 (Owns.later o3 k6_7 (by omega))
  go_wp2_with fail
  refine (laws_eqIntS _ _ _ _ _ k4_8.reads k2_8.reads).mono ?_
  rintro e w9 ⟨rfl, hb9⟩
  have s9 := hb9.size
  have q9 := q8.trans (hb9.mono q8.size)
  have k1_9 := k1_8.keep hb9
  have k2_9 := k2_8.keep hb9
  have k3_9 := o8.keep hb9
  have k4_9 := k4_8.keep hb9
  have k6_9 := k6_8.keep hb9
  go_wp2_with fail
  refine (laws_markIntS _ _ _ _ k4_9 (by first | omega | (simp only [] at *; omega))).mono ?_
  rintro e w10 ⟨rfl, o10, hg10⟩
  have s10 := hg10.size
  have q10 := k4_9.grown hg10 q9 (by omega) q9.size
  have k1_10 := k1_9.other hg10 (Owns.earlier o1 k4_9 (by omega))
  have k2_10 := k2_9.other hg10 (Owns.earlier o2 k4_9 (by omega))
  have k3_10 := k3_9.other hg10 (Owns.earlier o3 k4_9 (by omega))
  have k6_10 := k6_9.other hg10 (Owns.later o4 k6_9 (by omega))
  go_wp2_with fail
  refine (laws_heldIntS _ _ _ o10.reads (by omega)).mono ?_
  rintro e w_ ⟨rfl, rfl⟩
  go_wp2_with fail
  refine (laws_toIntS _ z0 _ (hr0.keep q10) (by omega)).mono ?_
  rintro e w11 ⟨v11, rfl, o11, hb11⟩
  have s11 := hb11.size
  have q11 := q10.trans (hb11.mono q10.size)
  have k1_11 := k1_10.keep hb11
  have k2_11 := k2_10.keep hb11
  have k3_11 := k3_10.keep hb11
  have k4_11 := o10.keep hb11
  have k6_11 := k6_10.keep hb11
  go_wp2_with fail
  refine (impl_RanksOf _ z0 _ o11.reads ).mono ?_
  rintro e w12 ⟨v12, rfl, o12, hb12⟩
  have s12 := hb12.size
  have q12 := q11.trans (hb12.mono q11.size)
  have k1_12 := k1_11.keep hb12
  have k2_12 := k2_11.keep hb12
  have k3_12 := k3_11.keep hb12
  have k4_12 := k4_11.keep hb12
  have k6_12 := k6_11.keep hb12
  have k11_12 := o11.keep hb12
  go_wp2_with fail
  refine (laws_eqIntS _ _ _ _ _ o12.reads k2_12.reads).mono ?_
  rintro e w13 ⟨rfl, hb13⟩
  have s13 := hb13.size
  have q13 := q12.trans (hb13.mono q12.size)
  have k1_13 := k1_12.keep hb13
  have k2_13 := k2_12.keep hb13
  have k3_13 := k3_12.keep hb13
  have k4_13 := k4_12.keep hb13
  have k6_13 := k6_12.keep hb13
  have k11_13 := k11_12.keep hb13
  have k12_13 := o12.keep hb13
  go_wp2_with fail
  refine (laws_heldIntS _ _ _ k4_13.reads (by omega)).mono ?_
  rintro e w_ ⟨rfl, rfl⟩
  go_wp2_with fail
  go_ret
  exact ⟨rfl, q13⟩
end Go.Proofs.Ytolepfgabbmpdaa
