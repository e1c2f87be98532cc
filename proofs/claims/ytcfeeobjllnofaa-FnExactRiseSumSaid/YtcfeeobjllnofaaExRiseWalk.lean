/-
  The walk of laws.FnExactRiseSum.
-/
import Derived.Test.YtcfeeobjllnofaaRiseI
import Derived.Test.YtcfeeobjllnofaaToInt
namespace Go.Proofs.Ytcfeeobjllnofaa
open Go.RowKit
set_option linter.unusedVariables false

set_option maxHeartbeats 1000000 in
theorem walk_FnExactRiseSum (a0 : Option Addr) (len0 cap0 : Nat) (y0 : List Int) (a1 : Option Addr) (len1 cap1 : Nat) (y1 : List Int) (w : World) (w0 : IsRow .i64 w a0 len0 cap0 y0) (w1 : IsRow .i64 w a1 len1 cap1 y1) :
    Calls Try.prog 6 #[.slice a0 len0 cap0, .slice a1 len1 cap1] w fun e w' => e = .returned (.bool true) ∧ Below w.heap.size w w' := by
  have hr0 := w0.reads
  have hlen0 := w0.len
  have hwf0 := w0.wfs
  clear w0
  generalize y0.take len0 = z0 at *
  have hr1 := w1.reads
  have hlen1 := w1.len
  have hwf1 := w1.wfs
  clear w1
  generalize y1.take len1 = z1 at *
  by_cases hbig0 : 1048576 < len0
  · have hbig0' : decide ((1048576 : Int) < (len0 : Int)) = true := by simp; omega
    go_enter Try.func6, Try.ntmps6
    go_wp2_with fail
    go_ret
    exact ⟨rfl, Below.refl _ _⟩
  by_cases hbig1 : 1048576 < len1
  · have hbig1' : decide ((1048576 : Int) < (len1 : Int)) = true := by simp; omega
    go_enter Try.func6, Try.ntmps6
    go_wp2_with fail
    go_ret
    exact ⟨rfl, Below.refl _ _⟩
  go_enter Try.func6, Try.ntmps6
  have q0 := Below.refl w.heap.size w
  go_wp2_with fail
  refine (laws_toIntS _ z0 _ (hr0.keep q0) (by omega)).mono ?_
  rintro e w1 ⟨v1, rfl, o1, hb1⟩
  have s1 := hb1.size
  have q1 := q0.trans (hb1.mono q0.size)
  go_wp2_with fail
  refine (laws_toIntS _ z1 _ (hr1.keep q1) (by omega)).mono ?_
  rintro e w2 ⟨v2, rfl, o2, hb2⟩
  have s2 := hb2.size
  have q2 := q1.trans (hb2.mono q1.size)
  have k1_2 := o1.keep hb2
  go_wp2_with fail
  refine (spec_RiseSum _ z0 _ z1 _ k1_2.reads o2.reads ).mono ?_
  rintro e w3 ⟨rfl, hb3⟩
  have s3 := hb3.size
  have q3 := q2.trans (hb3.mono q2.size)
  have k1_3 := k1_2.keep hb3
  have k2_3 := o2.keep hb3
  go_wp2_with fail
  refine (laws_toIntS _ z0 _ (hr0.keep q3) (by omega)).mono ?_
  rintro e w4 ⟨v4, rfl, o4, hb4⟩
  have s4 := hb4.size
  have q4 := q3.trans (hb4.mono q3.size)
  have k1_4 := k1_3.keep hb4
  have k2_4 := k2_3.keep hb4
  go_wp2_with fail
  refine (laws_toIntS _ z1 _ (hr1.keep q4) (by omega)).mono ?_
  rintro e w5 ⟨v5, rfl, o5, hb5⟩
  have s5 := hb5.size
  have q5 := q4.trans (hb5.mono q4.size)
  have k1_5 := k1_4.keep hb5
  have k2_5 := k2_4.keep hb5
  have k4_5 := o4.keep hb5
  go_wp2_with fail
  refine (impl_RiseSum _ z0 _ z1 _ k4_5.reads o5.reads ).mono ?_
  rintro e w6 ⟨rfl, hb6⟩
  have s6 := hb6.size
  have q6 := q5.trans (hb6.mono q5.size)
  have k1_6 := k1_5.keep hb6
  have k2_6 := k2_5.keep hb6
  have k4_6 := k4_5.keep hb6
  have k5_6 := o5.keep hb6
  have hq : (riseV z0 z1 != riseV z0 z1) = false := by simp
  have ht0 : decide (z0 = z0) = true := by simp
  have ht1 : decide (z1 = z1) = true := by simp
  go_wp2_with fail
  refine (laws_toIntS _ z0 _ (hr0.keep q6) (by omega)).mono ?_
  rintro e w7 ⟨v7, rfl, o7, hb7⟩
  have s7 := hb7.size
  have q7 := q6.trans (hb7.mono q6.size)
  have k1_7 := k1_6.keep hb7
  have k2_7 := k2_6.keep hb7
  have k4_7 := k4_6.keep hb7
  have k5_7 := k5_6.keep hb7
  go_wp2_with fail
  refine (laws_eqIntS _ _ _ _ _ k4_7.reads o7.reads).mono ?_
  rintro e w8 ⟨rfl, hb8⟩
  have s8 := hb8.size
  have q8 := q7.trans (hb8.mono q7.size)
  have k1_8 := k1_7.keep hb8
  have k2_8 := k2_7.keep hb8
  have k4_8 := k4_7.keep hb8
  have k5_8 := k5_7.keep hb8
  have k7_8 := o7.keep hb8
  go_wp2_with fail
  refine (laws_toIntS _ z1 _ (hr1.keep q8) (by omega)).mono ?_
  rintro e w9 ⟨v9, rfl, o9, hb9⟩
  have s9 := hb9.size
  have q9 := q8.trans (hb9.mono q8.size)
  have k1_9 := k1_8.keep hb9
  have k2_9 := k2_8.keep hb9
  have k4_9 := k4_8.keep hb9
  have k5_9 := k5_8.keep hb9
  have k7_9 := k7_8.keep hb9
  go_wp2_with fail
  refine (laws_eqIntS _ _ _ _ _ k5_9.reads o9.reads).mono ?_
  rintro e w10 ⟨rfl, hb10⟩
  have s10 := hb10.size
  have q10 := q9.trans (hb10.mono q9.size)
  have k1_10 := k1_9.keep hb10
  have k2_10 := k2_9.keep hb10
  have k4_10 := k4_9.keep hb10
  have k5_10 := k5_9.keep hb10
  have k7_10 := k7_9.keep hb10
  have k9_10 := o9.keep hb10
  go_wp2_with fail
  go_ret
  exact ⟨rfl, q10⟩
end Go.Proofs.Ytcfeeobjllnofaa
