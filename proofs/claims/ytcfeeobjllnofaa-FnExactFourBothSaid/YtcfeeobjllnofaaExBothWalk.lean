/-
  The walk of laws.FnExactFourBoth.
-/
import Derived.Test.YtcfeeobjllnofaaChanceBoth
namespace Go.Proofs.Ytcfeeobjllnofaa
open Go.RowKit
set_option linter.unusedVariables false

set_option maxHeartbeats 1000000 in
theorem walk_FnExactFourBoth (a b c d : Int) (w : World) (wa : (Lit.int .i64 a).wf = true) (wb : (Lit.int .i64 b).wf = true) (wc : (Lit.int .i64 c).wf = true) (wd : (Lit.int .i64 d).wf = true) :
    Calls Try.prog 8 #[four a b c d] w fun e w' => e = .returned (.bool true) ∧ Below w.heap.size w w' := by
  have ba := wf_bd wa
  have bb := wf_bd wb
  have bc := wf_bd wc
  have bd := wf_bd wd
  have hbx := below_box w (.cells #[.int .i64 a, .int .i64 b, .int .i64 c, .int .i64 d] 23)
  go_enter Try.func8, Try.ntmps8
  go_wp2_with fail
  refine (laws_toFour a b c d _).mono ?_
  rintro e w1 ⟨rfl, hb1⟩
  go_wp2_with fail
  refine (spec_FourBoth a b c d _ ba bb bc bd).mono ?_
  rintro e w2 ⟨rfl, hb2⟩
  have h12 := hb1.trans (hb2.mono hb1.size)
  obtain ⟨hc, hfz⟩ := bcell h12
  have c0 : w2.cell? ⟨w.heap.size, 0, none⟩ = some (.int .i64 a) := by rw [hc _ _ (by simp)]; simp
  have c1 : w2.cell? ⟨w.heap.size, 1, none⟩ = some (.int .i64 b) := by rw [hc _ _ (by simp)]; simp
  have c2 : w2.cell? ⟨w.heap.size, 2, none⟩ = some (.int .i64 c) := by rw [hc _ _ (by simp)]; simp
  have c3 : w2.cell? ⟨w.heap.size, 3, none⟩ = some (.int .i64 d) := by rw [hc _ _ (by simp)]; simp
  have q2 := hbx.trans (h12.mono hbx.size)
  clear hc hfz hb1 hb2 h12 hbx
  go_wp2_with fail
  refine (laws_toFour a b c d _).mono ?_
  rintro e w3 ⟨rfl, hb3⟩
  go_wp2_with fail
  refine (impl_FourBoth a b c d _ ba bb bc bd).mono ?_
  rintro e w4 ⟨rfl, hb4⟩
  have q3 := q2.trans (hb3.mono q2.size)
  have q4 := q3.trans (hb4.mono q3.size)
  clear hb3 hb4 q2 q3
  generalize someV a b c d (bothT a b c d) = X at *
  generalize allV a b c d = Y at *
  go_wp2
  go_ret
  exact ⟨rfl, q4⟩
end Go.Proofs.Ytcfeeobjllnofaa
