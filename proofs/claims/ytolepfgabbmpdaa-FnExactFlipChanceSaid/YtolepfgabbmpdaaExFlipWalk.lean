/-
  The walk of laws.FnExactFlipChance.
-/
import Derived.Test.YtolepfgabbmpdaaFlip
import Derived.Test.YtolepfgabbmpdaaList
import Derived.Test.YtolepfgabbmpdaaToInt
namespace Go.Proofs.Ytolepfgabbmpdaa
open Go.RowKit
set_option linter.unusedVariables false

set_option maxHeartbeats 1000000 in
theorem walk_FnExactFlipChance (a0 : Option Addr) (len0 cap0 : Nat) (y0 : List Int) (w : World) (w0 : IsRow .i64 w a0 len0 cap0 y0) :
    Calls Try.prog 14 #[.slice a0 len0 cap0] w fun e w' => e = .returned (.bool true) ∧ Below w.heap.size w w' := by
  have hr0 := w0.reads
  have hlen0 := w0.len
  have hwf0 := w0.wfs
  clear w0
  generalize y0.take len0 = z0 at *
  by_cases hbig0 : 1048576 < len0
  · have hbig0' : decide ((1048576 : Int) < (len0 : Int)) = true := by simp; omega
    go_enter Try.func14, Try.ntmps14
    go_wp2_with fail
    go_ret
    exact ⟨rfl, Below.refl _ _⟩
  go_enter Try.func14, Try.ntmps14
  have q0 := Below.refl w.heap.size w
  go_wp2_with fail
  refine (laws_toIntS _ z0 _ (hr0.keep q0) (by omega)).mono ?_
  rintro e w1 ⟨v1, rfl, o1, hb1⟩
  have s1 := hb1.size
  have q1 := q0.trans (hb1.mono q0.size)
  go_wp2_with fail
  refine (spec_FlipChance _ z0 _ o1.reads ).mono ?_
  rintro e w2 ⟨rfl, hb2⟩
  have s2 := hb2.size
  have q2 := q1.trans (hb2.mono q1.size)
  have k1_2 := o1.keep hb2
  go_wp2_with fail
  refine (laws_toIntS _ z0 _ (hr0.keep q2) (by omega)).mono ?_
  rintro e w3 ⟨v3, rfl, o3, hb3⟩
  have s3 := hb3.size
  have q3 := q2.trans (hb3.mono q2.size)
  have k1_3 := k1_2.keep hb3
  go_wp2_with fail
  refine (impl_FlipChance _ z0 _ o3.reads ).mono ?_
  rintro e w4 ⟨rfl, hb4⟩
  have s4 := hb4.size
  have q4 := q3.trans (hb4.mono q3.size)
  have k1_4 := k1_3.keep hb4
  have k3_4 := o3.keep hb4
  have hq0 : (flipA z0 != flipA z0) = false := by simp
  have hq1 : (flipB z0 != flipB z0) = false := by simp
  have ht0 : decide (z0 = z0) = true := by simp
  go_wp2_with fail
  refine (laws_toIntS _ z0 _ (hr0.keep q4) (by omega)).mono ?_
  rintro e w5 ⟨v5, rfl, o5, hb5⟩
  have s5 := hb5.size
  have q5 := q4.trans (hb5.mono q4.size)
  have k1_5 := k1_4.keep hb5
  have k3_5 := k3_4.keep hb5
  go_wp2_with fail
  refine (laws_eqIntS _ _ _ _ _ k3_5.reads o5.reads).mono ?_
  rintro e w6 ⟨rfl, hb6⟩
  have s6 := hb6.size
  have q6 := q5.trans (hb6.mono q5.size)
  have k1_6 := k1_5.keep hb6
  have k3_6 := k3_5.keep hb6
  have k5_6 := o5.keep hb6
  go_wp2_with fail
  go_ret
  exact ⟨rfl, q6⟩
end Go.Proofs.Ytolepfgabbmpdaa
