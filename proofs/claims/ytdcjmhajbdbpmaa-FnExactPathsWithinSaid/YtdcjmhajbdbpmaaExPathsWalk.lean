/-
  The walk of laws.FnExactPathsWithin.
-/
import Derived.Test.YtdcjmhajbdbpmaaPaths
namespace Go.Proofs.Ytdcjmhajbdbpmaa
open Go.RowKit

set_option maxHeartbeats 400000 in
theorem walk_FnExactPathsWithin (a0 a1 a2 : Int) (w : World) (_w0 : (Lit.int .i64 a0).wf = true) (_w1 : (Lit.int .i64 a1).wf = true) (w2 : (Lit.int .i64 a2).wf = true) :
    Calls Try.prog 4 #[.int .i64 a0, .int .i64 a1, .int .i64 a2] w fun e w' => e = .returned (.bool true) ∧ Below w.heap.size w w' := by
  have hd := (wf_bd w2).2
  clear w2
  go_enter Try.func4, Try.ntmps4
  go_wp2_with (first | (go_at_call 15; refine (spec_PathsWithin _ _ _ _ hd).mono ?_; rintro e w' ⟨rfl, rfl⟩) | (go_at_call 16; refine (impl_PathsWithin _ _ _ _).mono ?_; rintro e w' ⟨rfl, hb⟩))
  go_ret
  exact ⟨rfl, by assumption⟩
end Go.Proofs.Ytdcjmhajbdbpmaa
