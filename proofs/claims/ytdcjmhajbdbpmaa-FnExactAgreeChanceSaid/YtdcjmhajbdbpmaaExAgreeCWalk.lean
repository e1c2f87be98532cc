/-
  The walk of laws.FnExactAgreeChance.
-/
import Derived.Test.YtdcjmhajbdbpmaaAgreeC
namespace Go.Proofs.Ytdcjmhajbdbpmaa
open Go.RowKit
set_option linter.unusedVariables false

set_option maxHeartbeats 1000000 in
theorem walk_FnExactAgreeChance (a0 : Int) (a1 : Int) (w : World) (w0 : (Lit.int .i64 a0).wf = true) (w1 : (Lit.int .i64 a1).wf = true) :
    Calls Try.prog 9 #[.int .i64 a0, .int .i64 a1] w fun e w' => e = .returned (.bool true) ∧ Below w.heap.size w w' := by
  have bd0 := wf_bd w0
  clear w0
  have bd1 := wf_bd w1
  clear w1
  go_enter Try.func9, Try.ntmps9
  have q0 := Below.refl w.heap.size w
  go_wp2_with fail
  refine (spec_AgreeChance _ _ _ ).mono ?_
  rintro e w1 ⟨rfl, hb1⟩
  have s1 := hb1.size
  have q1 := q0.trans (hb1.mono q0.size)
  go_wp2_with fail
  refine (impl_AgreeChance _ _ _ ).mono ?_
  rintro e w2 ⟨rfl, hb2⟩
  have s2 := hb2.size
  have q2 := q1.trans (hb2.mono q1.size)
  have hq0 : (agreeA a0 a1 != agreeA a0 a1) = false := by simp
  have hq1 : (agreeB a0 != agreeB a0) = false := by simp
  go_wp2_with fail
  go_ret
  exact ⟨rfl, q2⟩
end Go.Proofs.Ytdcjmhajbdbpmaa
