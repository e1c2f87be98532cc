/-
  Contracts of LowBound, both packages.
-/
import Derived.Test.YtcfeeobjllnofaaTail
namespace Go.Proofs.Ytcfeeobjllnofaa
open Go.RowKit
set_option linter.unusedVariables false

def levelB (a b : Int) : Bool := inB b 1 100 && inB a 0 b

theorem spec_level (a b : Int) (w : World) :
    Calls Try.prog 47 #[.int .i64 a, .int .i64 b] w fun e w' => e = .returned (.bool (levelB a b)) ∧ w = w' := by
  cases h : inB b 1 100
  · have hz : Hid (levelB a b = false) := by show _ = _; unfold levelB; rw [h]; rfl
    go_enter Try.func47, Try.ntmps47
    go_wp2_with fail
    refine (spec_inRange _ _ _ _).mono ?_; rintro e w' ⟨rfl, rfl⟩
    go_wp2_with fail
    go_ret
    exact ⟨ret_bool hz.out.symm, rfl⟩
  · have hz : Hid (inB a 0 b = levelB a b) := by show _ = _; unfold levelB; rw [h]; rfl
    go_enter Try.func47, Try.ntmps47
    go_wp2_with fail
    refine (spec_inRange _ _ _ _).mono ?_; rintro e w' ⟨rfl, rfl⟩
    go_wp2_with fail
    refine (spec_inRange _ _ _ _).mono ?_; rintro e w' ⟨rfl, rfl⟩
    go_wp2_with fail
    go_ret
    exact ⟨ret_bool hz.out, rfl⟩

theorem impl_level (a b : Int) (w : World) :
    Calls Try.prog 50 #[.int .i64 a, .int .i64 b] w fun e w' => e = .returned (.bool (levelB a b)) ∧ w = w' := by
  cases h : inB b 1 100
  · have hz : Hid (levelB a b = false) := by show _ = _; unfold levelB; rw [h]; rfl
    go_enter Try.func50, Try.ntmps50
    go_wp2_with fail
    refine (impl_in _ _ _ _).mono ?_; rintro e w' ⟨rfl, rfl⟩
    go_wp2_with fail
    go_ret
    exact ⟨ret_bool hz.out.symm, rfl⟩
  · have hz : Hid (inB a 0 b = levelB a b) := by show _ = _; unfold levelB; rw [h]; rfl
    go_enter Try.func50, Try.ntmps50
    go_wp2_with fail
    refine (impl_in _ _ _ _).mono ?_; rintro e w' ⟨rfl, rfl⟩
    go_wp2_with fail
    refine (impl_in _ _ _ _).mono ?_; rintro e w' ⟨rfl, rfl⟩
    go_wp2_with fail
    go_ret
    exact ⟨ret_bool hz.out, rfl⟩
end Go.Proofs.Ytcfeeobjllnofaa
