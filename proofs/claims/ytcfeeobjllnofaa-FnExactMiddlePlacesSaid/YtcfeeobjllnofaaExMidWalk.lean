/-
  The walk of laws.FnExactMiddlePlaces.
-/
import Derived.Test.YtcfeeobjllnofaaMidI
namespace Go.Proofs.Ytcfeeobjllnofaa
open Go.RowKit
set_option linter.unusedVariables false

set_option maxHeartbeats 1000000 in
theorem walk_FnExactMiddlePlaces (a0 : Int) (a1 : Int) (a2 : Int) (w : World) (w0 : (Lit.int .i64 a0).wf = true) (w1 : (Lit.int .i64 a1).wf = true) (w2 : (Lit.int .i64 a2).wf = true) :
    Calls Try.prog 4 #[.int .i64 a0, .int .i64 a1, .int .i64 a2] w fun e w' => e = .returned (.bool true) ∧ Below w.heap.size w w' := by
  have bd0 := wf_bd w0
  clear w0
  have bd1 := wf_bd w1
  clear w1
  have bd2 := wf_bd w2
  clear w2
  go_enter Try.func4, Try.ntmps4
  have q0 := Below.refl w.heap.size w
  go_wp2_with fail
  refine (spec_MiddlePlaces _ _ _ _  bd0).mono ?_
  rintro e w1 ⟨rfl, rfl⟩
  go_wp2_with fail
  refine (impl_MiddlePlaces _ _ _ _  bd0).mono ?_
  rintro e w1 ⟨rfl, hb1⟩
  have s1 := hb1.size
  have q1 := q0.trans (hb1.mono q0.size)
  have hq0 : (midX a0 a1 a2 != midX a0 a1 a2) = false := by simp
  have hq1 : (midY a0 a1 a2 != midY a0 a1 a2) = false := by simp
  go_wp2_with fail
  go_ret
  exact ⟨rfl, q1⟩
end Go.Proofs.Ytcfeeobjllnofaa
