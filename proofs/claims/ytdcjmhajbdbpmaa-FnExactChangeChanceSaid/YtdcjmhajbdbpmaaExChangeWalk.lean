/-
  The walk of laws.FnExactChangeChance.
-/
import Derived.Test.YtdcjmhajbdbpmaaChange
namespace Go.Proofs.Ytdcjmhajbdbpmaa
open Go.RowKit

set_option maxHeartbeats 400000 in
theorem walk_FnExactChangeChance (a0 a1 : Int) (w : World) (_w0 : (Lit.int .i64 a0).wf = true) (_w1 : (Lit.int .i64 a1).wf = true) :
    Calls Try.prog 6 #[.int .i64 a0, .int .i64 a1] w fun e w' => e = .returned (.bool true) ∧ Below w.heap.size w w' := by
  go_enter Try.func6, Try.ntmps6
  go_wp2_with (first | (go_at_call 20; refine (spec_ChangeChance _ _ _).mono ?_; rintro e w' ⟨rfl, rfl⟩) | (go_at_call 21; refine (impl_ChangeChance _ _ _).mono ?_; rintro e w' ⟨rfl, hb⟩))
  go_ret
  exact ⟨rfl, by assumption⟩
end Go.Proofs.Ytdcjmhajbdbpmaa
