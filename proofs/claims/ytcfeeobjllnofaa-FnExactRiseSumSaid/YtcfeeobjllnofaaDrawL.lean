/-
  Lists that are drawn: someOdds, dataOf, someData.
-/
import Derived.Test.YtcfeeobjllnofaaRdr
import Derived.Test.YtcfeeobjllnofaaList
namespace Go.Proofs.Ytcfeeobjllnofaa
open Go.RowKit
set_option linter.unusedVariables false

theorem new_cellsL (w : World) (x : Int) : ∀ j u, ([Value.int .i64 x] : List Value)[j]? = some u → (w.alloc (.cells #[.int .i64 x] 3)).cell? ((⟨w.heap.size, 0, none⟩ : Addr).add j) = some u := by
  intro j u hj
  match j, hj with
  | 0, hj => simp at hj; subst hj; simp [Addr.add]
theorem new_oneL (x : Int) : ∀ u ∈ ([Value.int .i64 x] : List Value), u.oneCell' = true := by
  intro u hu; simp at hu; subst hu; rfl
theorem rdr_lit2 (W w : World) (v : Value) (p : Nat) (zs : List Int) (n bn : Nat) (hbn : w.heap.size = bn) (hn : zs.length = n) (h0 : 0 < n) (h100 : n ≤ 100) (hR : Rdr W w v p) (hb : Below W.heap.size W w) (hp : p ≤ 1000) :
    Calls Try.prog 74 #[v, .slice (some ⟨bn, 0, none⟩) n n] (w.alloc (.cells (zs.map (Value.int .i64)).toArray 3)) (RetOne W w v p zs) := by
  subst hbn
  exact rdr_lit W w v p zs n hn h0 h100 hR hb hp
def lenV : Value → Nat
  | .slice _ n _ => n
  | _ => 0
theorem OwnsA.past {w w' : World} {B : Nat} {v rv : Value} {zs : List Int} (h : OwnsA w B v zs) (hg : w.grownBy w' (rdrBlock rv)) (hB : ∀ g, rdrBlock rv = some g → g < B) : OwnsA w' B v zs := by
  refine World.ownsRow.kept h hg ?_
  have hlt := World.ownsRow.lt h
  cases ho : v.ownBlock with
  | none => exact .inl rfl
  | some k =>
    right
    intro e
    have h1 := (hlt k ho).1
    have h2 := hB k e.symm
    omega
theorem Rdr.other {W w w' : World} {v : Value} {p : Nat} {r : Option Nat} (h : Rdr W w v p) (hg : w.grownBy w' r) (hne : rdrBlock v ≠ r) : Rdr W w' v p := by
  obtain ⟨g, a, L, cap, rfl, h1, h2, h3⟩ := h
  have hlt : g < w.heap.size := (Array.getElem?_eq_some_iff.1 h2).1
  exact ⟨g, a, L, cap, rfl, h1, by rw [hg.block g hlt hne]; exact h2, h3⟩
theorem Rdr.blk {W w : World} {v : Value} {p : Nat} (h : Rdr W w v p) : ∀ g, rdrBlock v = some g → g < w.heap.size := by
  obtain ⟨g, a, L, cap, rfl, h1, h2, h3⟩ := h
  intro g' e
  simp [rdrBlock] at e
  subst e
  exact (Array.getElem?_eq_some_iff.1 h2).1
/-- What holds behind an append. -/
theorem appended_all {W w w' : World} {B p : Nat} {o v' rv : Value} {zs : List Int} {x : Int} {ob : Obj} (hown : OwnsA w B o zs) (hR : Rdr W w rv p) (hb : Below W.heap.size W w) (hBW : W.heap.size ≤ B) (hgB : ∀ g, rdrBlock rv = some g → g < B)
    (hown' : w'.ownsRow B 3 1 v' (zs.length + 1) (zs.map (Value.int .i64) ++ [.int .i64 x])) (hgrow : (w.alloc ob).grownBy w' o.ownBlock) :
    OwnsA w' B v' (zs ++ [x]) ∧ Rdr W w' rv p ∧ Below W.heap.size W w' := by
  have hs := hb.size
  have hal : Below w.heap.size w (w.alloc ob) := (Below.refl _ _).alloc (Nat.le_refl _) _
  refine ⟨OwnsA.appended hown', (hR.keep hal).other hgrow ?_, OwnsA.grownBelow (B := B) (zs := zs) (World.ownsRow.alloc hown ob) hgrow (hb.alloc hs _) hBW (by simp; omega)⟩
  intro e
  have hlt := World.ownsRow.lt hown
  cases ho : rdrBlock rv with
  | none =>
    obtain ⟨g, a, L, cap, rfl, _⟩ := hR
    simp [rdrBlock] at ho
  | some k =>
    rw [ho] at e
    have h1 := (hlt k e.symm).1
    have h2 := hgB k ho
    omega

theorem OwnsA.mono {w : World} {B C : Nat} {v : Value} {zs : List Int} (h : OwnsA w B v zs) (hC : C ≤ B) : OwnsA w C v zs := by
  refine ⟨h.1, ?_⟩
  rcases h.2 with h0 | ⟨g, cap, cur, hv, h1, h2⟩
  · exact .inl h0
  · exact .inr ⟨g, cap, cur, hv, by omega, h2⟩
/-- A drawn list. -/
def RetList (W w : World) (rv : Value) (e : Ending) (w' : World) : Prop :=
  ∃ v zs p, e = .returned v ∧ OwnsA w' w.heap.size v zs ∧ zs.length ≤ 30 ∧ Rdr W w' rv p ∧ p ≤ 300 ∧ Below W.heap.size W w'

/-- The list alone. -/
def RetL1 (w : World) (e : Ending) (w' : World) : Prop := ∃ v zs, e = .returned v ∧ OwnsA w' w.heap.size v zs ∧ zs.length ≤ 30 ∧ Below w.heap.size w w'
end Go.Proofs.Ytcfeeobjllnofaa
