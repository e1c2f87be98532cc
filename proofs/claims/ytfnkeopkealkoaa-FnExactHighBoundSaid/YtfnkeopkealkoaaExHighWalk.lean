/-
  The walk of laws.FnExactHighBound.
-/
import Derived.Test.YtfnkeopkealkoaaHigh
namespace Go.Proofs.Ytfnkeopkealkoaa
open Go.RowKit
set_option linter.unusedVariables false

set_option maxHeartbeats 1000000 in
theorem walk_FnExactHighBound (a0 : Int) (a1 : Int) (a2 : Int) (a3 : Int) (a4 : Int) (w : World) (w0 : (Lit.int .i64 a0).wf = true) (w1 : (Lit.int .i64 a1).wf = true) (w2 : (Lit.int .i64 a2).wf = true) (w3 : (Lit.int .i64 a3).wf = true) (w4 : (Lit.int .i64 a4).wf = true) :
    Calls Try.prog 9 #[.int .i64 a0, .int .i64 a1, .int .i64 a2, .int .i64 a3, .int .i64 a4] w fun e w' => e = .returned (.bool true) ∧ Below w.heap.size w w' := by
  have bd0 := wf_bd w0
  clear w0
  have bd1 := wf_bd w1
  clear w1
  have bd2 := wf_bd w2
  clear w2
  have bd3 := wf_bd w3
  clear w3
  have bd4 := wf_bd w4
  clear w4
  go_enter Try.func9, Try.ntmps9
  have q0 := Below.refl w.heap.size w
  go_wp2_with fail
  refine (spec_HighBound _ _ _ _ _ _  ).mono ?_
  rintro e w1 ⟨rfl, rfl⟩
  go_wp2_with fail
  refine (impl_HighBound _ _ _ _ _ _  ).mono ?_
  rintro e w1 ⟨rfl, hb1⟩
  have s1 := hb1.size
  have q1 := q0.trans (hb1.mono q0.size)
  have hq : (highV a0 a1 a2 a3 a4 != highV a0 a1 a2 a3 a4) = false := by simp
  go_wp2_with fail
  go_ret
  exact ⟨rfl, q1⟩
end Go.Proofs.Ytfnkeopkealkoaa
