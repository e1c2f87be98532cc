/-
  A square of numbers of the call's own: rows at blocks of their own below an outer row that can be appended to.
-/
import Derived.Test.YtcfeeobjllnofaaDrawW
import Derived.Test.YtcfeeobjllnofaaGapsL
namespace Go.Proofs.Ytcfeeobjllnofaa
open Go.RowKit
set_option linter.unusedVariables false

theorem below_box1 (w : World) (o : Obj) : Below w.heap.size w (w.alloc o) := (Below.refl _ _).alloc (Nat.le_refl _) o
/-- Row j as a value. -/
abbrev rowV (n : Nat) (G K : Nat → Nat) (j : Nat) : Value := .slice (some ⟨G j, 0, none⟩) n (K j)
structure MatB (w : World) (B : Nat) (v : Value) (k n : Nat) (G K : Nat → Nat) (Z : Nat → List Int) : Prop where
  outer : w.ownsRow B 36 1 v k ((List.range k).map (rowV n G K))
  rows : ∀ j, j < k → Owns w B (rowV n G K j) (Z j) ∧ (Z j).length = n
  apart : ∀ j, j < k → v.ownBlock ≠ some (G j)
  dist : ∀ i j, i < k → j < k → i ≠ j → G i ≠ G j
def upd {α : Type} (f : Nat → α) (k : Nat) (x : α) : Nat → α := fun j => if j = k then x else f j
theorem upd_same {α : Type} (f : Nat → α) (k : Nat) (x : α) : upd f k x k = x := by simp [upd]
theorem upd_other {α : Type} (f : Nat → α) (k : Nat) (x : α) {j : Nat} (h : j ≠ k) : upd f k x j = f j := by simp [upd, h]

theorem MatB.start (w : World) (B : Nat) (hB : B ≤ w.heap.size) (n : Nat) (G K : Nat → Nat) (Z : Nat → List Int) : MatB (w.alloc (.cells #[] 36)) B (.slice (some ⟨w.heap.size, 0, none⟩) 0 0) 0 n G K Z :=
  ⟨World.ownsRow_lit (size := 1) w #[] 0 hB (by unfold maxLen; omega) rfl, fun j hj => by omega, fun j hj => by omega, fun i j hi => by omega⟩
theorem MatB.lt {w : World} {B k n : Nat} {v : Value} {G K : Nat → Nat} {Z : Nat → List Int} (h : MatB w B v k n G K Z) : ∀ j, j < k → B ≤ G j ∧ G j < w.heap.size := fun j hj => by
  have := (h.rows j hj).1.base
  exact ⟨this.1, this.2.1⟩
theorem MatB.keep {w w' : World} {B k n : Nat} {v : Value} {G K : Nat → Nat} {Z : Nat → List Int} (h : MatB w B v k n G K Z) (hb : Below w.heap.size w w') : MatB w' B v k n G K Z :=
  ⟨h.outer.kept (grownBy_of_below hb none) (by cases v.ownBlock <;> simp), fun j hj => ⟨(h.rows j hj).1.keep hb, (h.rows j hj).2⟩, h.apart, h.dist⟩
/-- Past what only another block's owner writes. -/
theorem MatB.past {w w' : World} {B k n : Nat} {v : Value} {G K : Nat → Nat} {Z : Nat → List Int} {r : Option Nat} (h : MatB w B v k n G K Z) (hg : w.grownBy w' r) (hB : ∀ g, r = some g → g < B) : MatB w' B v k n G K Z := by
  refine ⟨h.outer.kept hg ?_, fun j hj => ⟨(h.rows j hj).1.other hg ?_, (h.rows j hj).2⟩, h.apart, h.dist⟩
  · have hlt := World.ownsRow.lt h.outer
    cases ho : v.ownBlock with
    | none => exact .inl rfl
    | some q => right; intro e; have h1 := (hlt q ho).1; have h2 := hB q e.symm; omega
  · right
    intro e
    have h1 := (h.lt j hj).1
    have h2 := hB (G j) e.symm
    omega
/-- One row more. -/
theorem MatB.push {w w' : World} {B k n q c : Nat} {v v' : Value} {G K : Nat → Nat} {Z : Nat → List Int} {zs : List Int} {ob : Obj} (h : MatB w B v k n G K Z) (hr : Owns w B (.slice (some ⟨q, 0, none⟩) n c) zs) (hz : zs.length = n)
    (hq : ∀ j, j < k → G j ≠ q) (hvq : v.ownBlock ≠ some q)
    (hown : w'.ownsRow B 36 1 v' (k + 1) ((List.range k).map (rowV n G K) ++ [.slice (some ⟨q, 0, none⟩) n c])) (hgrow : (w.alloc ob).grownBy w' v.ownBlock) (hblk : v'.ownBlock = v.ownBlock ∨ v'.ownBlock = some (w.heap.size + 1)) :
    MatB w' B v' (k + 1) n (upd G k q) (upd K k c) (upd Z k zs) := by
  have hql : q < w.heap.size := hr.base.2.1
  have hnew : ∀ {p d : Nat} {ys : List Int}, Owns w B (.slice (some ⟨p, 0, none⟩) n d) ys → v.ownBlock ≠ some p → Owns w' B (.slice (some ⟨p, 0, none⟩) n d) ys := fun {p d ys} ho hne =>
    (ho.keep (below_box1 w ob)).other hgrow (by right; intro e; exact hne (by rw [← e]; rfl))
  refine ⟨?_, fun j hj => ?_, fun j hj => ?_, fun i j hi hj hij => ?_⟩
  · rw [List.range_succ, List.map_append]
    have e : (List.range k).map (rowV n (upd G k q) (upd K k c)) = (List.range k).map (rowV n G K) := List.map_congr_left (fun j hj => by
      have : j ≠ k := by have := List.mem_range.1 hj; omega
      simp only [rowV, upd_other _ _ _ this])
    rw [e]
    simpa [rowV, upd_same] using hown
  · by_cases e : j = k
    · subst e
      simp only [rowV, upd_same]
      exact ⟨hnew hr hvq, hz⟩
    · have hj' : j < k := by omega
      simp only [rowV, upd_other _ _ _ e]
      exact ⟨hnew (h.rows j hj').1 (h.apart j hj'), (h.rows j hj').2⟩
  · have hlt : upd G k q j < w.heap.size := by
      by_cases e : j = k
      · subst e; rw [upd_same]; exact hql
      · rw [upd_other _ _ _ e]; exact (h.lt j (by omega)).2
    rcases hblk with hb | hb
    · rw [hb]
      by_cases e : j = k
      · subst e; rw [upd_same]; exact hvq
      · rw [upd_other _ _ _ e]; exact h.apart j (by omega)
    · rw [hb]; intro e; injection e with e; omega
  · by_cases ei : i = k
    · have ej : j ≠ k := by omega
      subst ei
      rw [upd_same, upd_other _ _ _ ej]
      exact fun e => hq j (by omega) e.symm
    · by_cases ej : j = k
      · subst ej
        rw [upd_same, upd_other _ _ _ ei]
        exact hq i (by omega)
      · rw [upd_other _ _ _ ei, upd_other _ _ _ ej]
        exact h.dist i j (by omega) (by omega) hij
/-- Where it lies, and what its cells hold. -/
theorem MatB.open_ {w : World} {B k n : Nat} {v : Value} {G K : Nat → Nat} {Z : Nat → List Int} (h : MatB w B v k n G K Z) (hk : 0 < k) : ∃ g cap, v = .slice (some ⟨g, 0, none⟩) k cap ∧ B ≤ g ∧ g < w.heap.size ∧ k ≤ cap ∧ cap ≤ 9223372036854775807 := by
  rcases h.outer.2 with ⟨rfl, h0⟩ | ⟨g, cap, cur, rfl, h1, h2, h3, h4, h5, h6⟩
  · omega
  · exact ⟨g, cap, rfl, h1, (Array.getElem?_eq_some_iff.1 h2).1, h3, by unfold maxLen at h4; omega⟩
theorem MatB.cell {w : World} {B k n g c cap : Nat} {G K : Nat → Nat} {Z : Nat → List Int} (h : MatB w B (.slice (some ⟨g, 0, none⟩) c cap) k n G K Z) (j : Nat) (hj : j < k) : w.cell? ⟨g, j, none⟩ = some (rowV n G K j) := by
  have := World.ownsRow.cells h.outer (g := g) rfl j (rowV n G K j) (by simp [hj])
  rw [Addr.add_lit, Nat.zero_add] at this
  exact this
theorem MatB.at_ {w : World} {B k n : Nat} {v : Value} {G K : Nat → Nat} {Z : Nat → List Int} (h : MatB w B v k n G K Z) (j i : Nat) (hj : j < k) (hi : i < n) : w.cell? ⟨G j, i, none⟩ = some (.int .i64 (nth (Z j) i)) ∧ w.frozen? ⟨G j, i, none⟩ = false := by
  obtain ⟨h1, h2⟩ := h.rows j hj
  exact ⟨h1.cell i (by omega), h1.free i⟩
/-- A store into row a. -/
theorem MatB.store {w : World} {B k n : Nat} {v : Value} {G K : Nat → Nat} {Z : Nat → List Int} (h : MatB w B v k n G K Z) (a b : Nat) (ha : a < k) (x : Int) :
    MatB (w.setCell ⟨G a, b, none⟩ (.int .i64 x)) B v k n G K (upd Z a ((Z a).set b x)) := by
  have hgr : w.grownBy (w.setCell ⟨G a, b, none⟩ (.int .i64 x)) (some (G a)) := ⟨rfl, rfl, rfl, by simp [World.setCell], fun q _ hr => Below.heap_setCell _ _ _ _ (fun e => hr (by rw [e]))⟩
  refine ⟨h.outer.kept hgr ?_, fun j hj => ?_, h.apart, h.dist⟩
  · cases ho : v.ownBlock with
    | none => exact .inl rfl
    | some q => right; rw [← ho]; exact h.apart a ha
  · by_cases e : j = a
    · subst e
      rw [upd_same]
      obtain ⟨h1, h2⟩ := h.rows j hj
      exact ⟨h1.store b x, by rw [List.length_set]; exact h2⟩
    · rw [upd_other _ _ _ e]
      obtain ⟨h1, h2⟩ := h.rows j hj
      exact ⟨h1.other hgr (by right; intro e2; injection e2 with e2; exact h.dist j a hj ha e e2), h2⟩
theorem MatB.store_below {w w0 : World} {B C k n : Nat} {v : Value} {G K : Nat → Nat} {Z : Nat → List Int} (h : MatB w B v k n G K Z) (a b : Nat) (ha : a < k) (x : Value) (hb : Below C w0 w) (hC : C ≤ B) : Below C w0 (w.setCell ⟨G a, b, none⟩ x) :=
  hb.setCell (p := ⟨G a, b, none⟩) (Nat.le_trans hC (h.lt a ha).1) x
theorem MatB.reads {w : World} {B k n : Nat} {v : Value} {G K : Nat → Nat} {Z : Nat → List Int} (h : MatB w B v k n G K Z) (hk : 0 < k) : ReadsM w v ((List.range k).map Z) := by
  obtain ⟨g, cap, rfl, h1, h2, h3, h4⟩ := h.open_ hk
  have e : ((List.range k).map Z).length = k := by simp
  refine ⟨_, cap, by rw [e], by rw [e]; exact h3, h4, .inr ⟨g, 0, rfl, fun j hj => ?_⟩⟩
  rw [e] at hj
  have er : rowR ((List.range k).map Z) j = Z j := by simp [rowR, List.getD, hj]
  rw [er, Nat.zero_add]
  have h5 := (h.rows j hj)
  exact Reads.rowAt (h.cell j hj) h5.1.reads
theorem MatB.mono {w : World} {B C k n : Nat} {v : Value} {G K : Nat → Nat} {Z : Nat → List Int} (h : MatB w B v k n G K Z) (hC : C ≤ B) : MatB w C v k n G K Z := by
  refine ⟨?_, fun j hj => ⟨(h.rows j hj).1.mono hC, (h.rows j hj).2⟩, h.apart, h.dist⟩
  refine ⟨h.outer.1, ?_⟩
  rcases h.outer.2 with h0 | ⟨g, cap, cur, hv, h1, h2⟩
  · exact .inl h0
  · exact .inr ⟨g, cap, cur, hv, by omega, h2⟩
theorem new_cellsR (w : World) (bn : Nat) (x : Value) (hbn : w.heap.size = bn) : ∀ j u, ([x] : List Value)[j]? = some u → (w.alloc (.cells #[x] 36)).cell? ((⟨bn, 0, none⟩ : Addr).add j) = some u := by
  subst hbn
  intro j u hj
  match j, hj with
  | 0, hj => simp at hj; subst hj; simp [Addr.add]
theorem new_oneR (a : Option Addr) (n c : Nat) : ∀ u ∈ ([.slice a n c] : List Value), u.oneCell' = true := by
  intro u hu; simp at hu; subst hu; rfl
end Go.Proofs.Ytcfeeobjllnofaa
