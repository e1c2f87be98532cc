/-
  The walk of laws.FnExactWinCounts.
-/
import Derived.Test.YtdcjmhajbdbpmaaWinC
namespace Go.Proofs.Ytdcjmhajbdbpmaa
open Go.RowKit
set_option linter.unusedVariables false

set_option maxHeartbeats 1000000 in
theorem walk_FnExactWinCounts (a0 : Int) (a1 : Int) (w : World) (w0 : (Lit.int .i64 a0).wf = true) (w1 : (Lit.int .i64 a1).wf = true) :
    Calls Try.prog 11 #[.int .i64 a0, .int .i64 a1] w fun e w' => e = .returned (.bool true) ∧ Below w.heap.size w w' := by
  have bd0 := wf_bd w0
  clear w0
  have bd1 := wf_bd w1
  clear w1
  go_enter Try.func11, Try.ntmps11
  have q0 := Below.refl w.heap.size w
  go_wp2_with fail
  refine (spec_WinCounts _ _ _ ).mono ?_
  rintro e w1 ⟨v1, rfl, o1, hb1⟩
  have s1 := hb1.size
  have q1 := q0.trans (hb1.mono q0.size)
  go_wp2_with fail
  refine (impl_WinCounts _ _ _ ).mono ?_
  rintro e w2 ⟨v2, rfl, o2, hb2⟩
  have s2 := hb2.size
  have q2 := q1.trans (hb2.mono q1.size)
  have k1_2 := o1.keep hb2
  have ht : decide (winV a0 a1 = winV a0 a1) = true := by simp
  have hlr : (winV a0 a1).length ≤ 1048576 := by have := winV_len a0 a1; omega
  go_wp2_with fail
  refine (laws_eqIntS _ _ _ _ _ o2.reads k1_2.reads).mono ?_
  rintro e w3 ⟨rfl, hb3⟩
  have s3 := hb3.size
  have q3 := q2.trans (hb3.mono q2.size)
  have k1_3 := k1_2.keep hb3
  have k2_3 := o2.keep hb3
  go_wp2_with fail
  refine (laws_markIntS _ _ _ _ k2_3 (by first | omega | (simp only [] at *; omega))).mono ?_
  rintro e w4 ⟨rfl, o4, hg4⟩
  have s4 := hg4.size
  have q4 := k2_3.grown hg4 q3 (by omega) q3.size
  have k1_4 := k1_3.other hg4 (Owns.earlier o1 k2_3 (by omega))
  go_wp2_with fail
  refine (laws_heldIntS _ _ _ o4.reads (by omega)).mono ?_
  rintro e w_ ⟨rfl, rfl⟩
  go_wp2_with fail
  refine (impl_WinCounts _ _ _ ).mono ?_
  rintro e w5 ⟨v5, rfl, o5, hb5⟩
  have s5 := hb5.size
  have q5 := q4.trans (hb5.mono q4.size)
  have k1_5 := k1_4.keep hb5
  have k2_5 := o4.keep hb5
  go_wp2_with fail
  refine (laws_eqIntS _ _ _ _ _ o5.reads k1_5.reads).mono ?_
  rintro e w6 ⟨rfl, hb6⟩
  have s6 := hb6.size
  have q6 := q5.trans (hb6.mono q5.size)
  have k1_6 := k1_5.keep hb6
  have k2_6 := k2_5.keep hb6
  have k5_6 := o5.keep hb6
  go_wp2_with fail
  refine (laws_heldIntS _ _ _ k2_6.reads (by omega)).mono ?_
  rintro e w_ ⟨rfl, rfl⟩
  go_wp2_with fail
  go_ret
  exact ⟨rfl, q6⟩
end Go.Proofs.Ytdcjmhajbdbpmaa
