/-
  The walk of laws.FnExactFracOf.
-/
import Derived.Test.YtdcjmhajbdbpmaaFrac
namespace Go.Proofs.Ytdcjmhajbdbpmaa
open Go.RowKit

set_option maxHeartbeats 400000 in
theorem walk_FnExactFracOf (a0 a1 : Int) (w : World) (_w0 : (Lit.int .i64 a0).wf = true) (_w1 : (Lit.int .i64 a1).wf = true) :
    Calls Try.prog 5 #[.int .i64 a0, .int .i64 a1] w fun e w' => e = .returned (.bool true) ∧ Below w.heap.size w w' := by
  have q1 : (fracA a0 a1 == fracA a0 a1 && fracB a0 a1 == fracB a0 a1) = true := by simp
  have q2 : (fracOk a0 a1 != fracOk a0 a1) = false := by simp
  go_enter Try.func5, Try.ntmps5
  go_wp2_with fail
  refine (spec_FracOf _ _ _).mono ?_; unfold fracV; rintro e w1 ⟨rfl, hb1⟩
  go_wp2_with fail
  refine (impl_FracOf _ _ _).mono ?_; unfold fracV; rintro e w2 ⟨rfl, hb2⟩
  obtain ⟨hc, hf⟩ := bcell hb2
  have hsz : w1.heap.size < w2.heap.size := by have := hb2.size; simp at this; omega
  have p0 : w2.cell? ⟨w1.heap.size, 0, none⟩ = some (.int .i64 (fracA a0 a1)) := by rw [hc _ _ (by simp)]; simp
  have p1 : w2.cell? ⟨w1.heap.size, 1, none⟩ = some (.int .i64 (fracB a0 a1)) := by rw [hc _ _ (by simp)]; simp
  clear hc hf
  go_wp2_with fail
  refine (laws_eqFrac _ _ _ _ _).mono ?_; rintro e w3 ⟨rfl, hb3⟩
  go_wp2
  go_ret
  refine ⟨rfl, ?_⟩
  exact hb1.trans ((((Below.refl _ _).alloc (Nat.le_refl _) _).trans (hb2.mono (by simp))).mono hb1.size |>.trans ((((Below.refl _ _).alloc (Nat.le_refl _) _).trans (hb3.mono (by simp))).mono (by have := hb1.size; omega)))
end Go.Proofs.Ytdcjmhajbdbpmaa
