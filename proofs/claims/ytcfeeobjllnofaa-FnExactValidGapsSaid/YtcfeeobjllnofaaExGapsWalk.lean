/-
  The walk of laws.FnExactValidGaps.
-/
import Derived.Test.YtcfeeobjllnofaaGapsL
namespace Go.Proofs.Ytcfeeobjllnofaa
open Go.RowKit
set_option linter.unusedVariables false

theorem ReadsM.none (w : World) : ReadsM w (.slice none 0 0) [] := ⟨_, 0, rfl, Nat.le_refl _, by omega, .inl rfl⟩
theorem spot_none {w : World} {a : Addr} {v : Value} (h : w.cell? (a.add 0) = some v) : a.spot = none := by
  have := World.cell?_spot h
  simpa [Addr.add] using this
/-- An argument that came in. -/
theorem ReadsM.came {W : World} {base : Nat} {a : Addr} {len cap : Nat} {A : Nat → Option Addr} {L C : Nat → Nat} {Z : Nat → List Int} (hl : len ≤ cap) (hm : cap ≤ maxLen)
    (hx : ∀ r, r < cap → W.cell? (a.add r) = some (.slice (A r) (L r) (C r)) ∧ L r ≤ C r ∧ C r ≤ maxLen ∧ (Z r).length = C r ∧ (∀ n ∈ Z r, (Lit.int .i64 n).wf = true) ∧ (A r = Option.none → C r = 0) ∧
      ∀ a', A r = some a' → base ≤ a'.block ∧ ∀ c, c < C r → W.cell? (a'.add c) = some (.int .i64 ((Z r).getD c 0))) :
    ReadsM W (.slice (some a) len cap) ((List.range len).map fun r => (Z r).take (L r)) := by
  have e : ((List.range len).map fun r => (Z r).take (L r)).length = len := by simp
  refine ⟨some a, cap, by rw [e], by rw [e]; exact hl, by unfold maxLen at hm; omega, ?_⟩
  rw [e]
  by_cases h0 : len = 0
  · exact .inl h0
  · right
    obtain ⟨b, o, spot⟩ := a
    have hs := spot_none (hx 0 (by omega)).1
    simp only at hs
    subst hs
    refine ⟨b, o, rfl, fun j hj => ?_⟩
    obtain ⟨h1, h2, h3, h4, h5, h6, h7⟩ := hx j (by omega)
    rw [Addr.add_lit] at h1
    have er : rowR ((List.range len).map fun r => (Z r).take (L r)) j = (Z j).take (L j) := by simp [rowR, List.getD, hj]
    have el : ((Z j).take (L j)).length = L j := by rw [List.length_take]; omega
    rw [er]
    refine ⟨A j, C j, by rw [el]; exact h1, by rw [el]; exact h2, by unfold maxLen at h3; omega, ?_⟩
    rw [el]
    by_cases hL : L j = 0
    · exact .inl hL
    · right
      cases hA : A j with
      | none => have := h6 hA; omega
      | some a' =>
        obtain ⟨_, h8⟩ := h7 a' hA
        obtain ⟨g, q, spot⟩ := a'
        have hs := spot_none (h8 0 (by omega))
        simp only at hs
        subst hs
        refine ⟨g, q, rfl, fun i hi => ?_⟩
        have := h8 i (by omega)
        rw [Addr.add_lit] at this
        rw [this]
        congr 2
        simp [nth, List.getD, hi]

set_option maxHeartbeats 1000000 in
theorem walk_FnExactValidGaps (a0 : Option Addr) (len0 cap0 : Nat) (rs : List (List Int)) (w : World) (w0 : ReadsM w (.slice a0 len0 cap0) rs) :
    Calls Try.prog 5 #[.slice a0 len0 cap0] w fun e w' => e = .returned (.bool true) ∧ Below w.heap.size w w' := by
  go_enter Try.func5, Try.ntmps5
  go_wp2_with fail
  refine (laws_szIntSS _ rs _ w0).mono ?_
  rintro e w1 ⟨r, rfl, hr0, hr1, rfl⟩
  by_cases hneg : r < 0
  · have hneg' : decide (r < 0) = true := decide_eq_true hneg
    go_wp2_with fail
    go_ret
    exact ⟨rfl, Below.refl _ _⟩
  · have hneg' : decide (r < 0) = false := decide_eq_false hneg
    obtain ⟨hn, hm⟩ := hr1 (by omega)
    clear hneg hr0
    go_wp2_with fail
    refine (laws_toIntSS _ rs _ w0 hn hm).mono ?_
    rintro e w1 ⟨v1, rfl, m1, hb1⟩
    go_wp2_with fail
    refine (spec_ValidGaps _ rs _ m1).mono ?_
    rintro e w2 ⟨rfl, hb2⟩
    have q2 := hb1.trans (hb2.mono hb1.size)
    have x2 := w0.keep q2
    clear m1 hb1 hb2
    go_wp2_with fail
    refine (laws_toIntSS _ rs _ x2 hn hm).mono ?_
    rintro e w3 ⟨v3, rfl, m3, hb3⟩
    have q3 := q2.trans (hb3.mono q2.size)
    clear hb3 q2 x2
    go_wp2_with fail
    refine (impl_ValidGaps _ rs _ m3).mono ?_
    rintro e w4 ⟨rfl, hb4⟩
    have q4 := q3.trans (hb4.mono q3.size)
    have m4 := m3.keep hb4
    have x4 := w0.keep q4
    have hq : (gapsB rs != gapsB rs) = false := by simp
    clear hb4 q3 m3
    generalize gapsB rs = G at *
    go_wp2_with fail
    refine (laws_toIntSS _ rs _ x4 hn hm).mono ?_
    rintro e w5 ⟨v5, rfl, m5, hb5⟩
    have q5 := q4.trans (hb5.mono q4.size)
    have m45 := m4.keep hb5
    clear hb5 q4 m4 x4
    go_wp2_with fail
    refine (laws_eqIntSS _ _ rs _ m45 m5).mono ?_
    rintro e w6 ⟨rfl, hb6⟩
    have q6 := q5.trans (hb6.mono q5.size)
    go_wp2_with fail
    go_ret
    exact ⟨rfl, q6⟩
end Go.Proofs.Ytcfeeobjllnofaa
