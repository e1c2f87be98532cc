/-
  The contract of slices.Clip.
-/
import Derived.Test.YtcfeeobjllnofaaAll
import Derived.Test.YtcfeeobjllnofaaList
namespace Go.Proofs.Ytcfeeobjllnofaa
open Go.RowKit

/-- The slice value handed back reads as zs, in the same world. -/
def RetClip (w : World) (B : Nat) (zs : List Int) (e : Ending) (w' : World) : Prop := ∃ v', e = .returned v' ∧ Owns w' B v' zs ∧ w = w'
theorem slices_Clip (v : Value) (zs : List Int) (B : Nat) (w : World) (ho : Owns w B v zs) :
    Calls Try.prog 62 #[v] w (RetClip w B zs) := by
  rcases ho.shape with ⟨rfl, rfl⟩ | ⟨g, cap, rfl, hg1, hg2, hg3, hg4⟩
  · go_enter Try.func62, Try.ntmps62
    go_wp2_with fail
    go_ret
    exact ⟨_, rfl, ho, rfl⟩
  · have hcl := ho.clipped
    go_enter Try.func62, Try.ntmps62
    go_wp2_with fail
    go_ret
    exact ⟨_, rfl, hcl, rfl⟩
end Go.Proofs.Ytcfeeobjllnofaa
