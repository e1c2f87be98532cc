/-
  Words for slices of integers in memory: 'Reads' (they can be read), 'Owns' (they lie in a row of the call's own).
-/
import Derived.Test.YtolepfgabbmpdaaIn
import Derived.Handy
import Derived.OwnWalk
namespace Go.Proofs.Ytolepfgabbmpdaa
open Go.RowKit

/-- The number at a place. -/
def nth (zs : List Int) (j : Nat) : Int := zs.getD j 0
theorem nth_eq (zs : List Int) (j : Nat) : nth zs j = zs.getD j 0 := rfl

/-- The slice value v reads as the numbers zs. -/
def Reads (w : World) (v : Value) (zs : List Int) : Prop :=
  ∃ ao cap, v = .slice ao zs.length cap ∧ zs.length ≤ cap ∧ cap ≤ maxLen ∧
    (zs = [] ∨ ∃ b o, ao = some ⟨b, o, none⟩ ∧ ∀ j, j < zs.length → w.cell? ⟨b, o + j, none⟩ = some (.int .i64 (nth zs j)))

theorem Reads.keep {w w' : World} {v : Value} {zs : List Int} (h : Reads w v zs) (hb : Below w.heap.size w w') : Reads w' v zs := by
  obtain ⟨ao, cap, rfl, hl, hc, h⟩ := h
  refine ⟨ao, cap, rfl, hl, hc, ?_⟩
  rcases h with h | ⟨b, o, rfl, h⟩
  · exact .inl h
  · refine .inr ⟨b, o, rfl, fun j hj => ?_⟩
    have h1 := h j hj
    have h2 := World.block_lt_of_cell? _ _ h1
    exact (hb.cell (p := ⟨b, o + j, none⟩) h2).trans h1
theorem Reads.le {w : World} {v : Value} {zs : List Int} (h : Reads w v zs) : zs.length ≤ 9223372036854775807 := by
  obtain ⟨ao, cap, rfl, hl, hc, _⟩ := h
  unfold maxLen at hc; omega
theorem Reads.nil (w : World) : Reads w (.slice none 0 0) [] := ⟨none, 0, rfl, Nat.le_refl _, Nat.zero_le _, .inl rfl⟩

/-- An argument of a law. -/
theorem IsRow.reads {w : World} {a : Option Addr} {len cap : Nat} {zs : List Int} (h : IsRow .i64 w a len cap zs) : Reads w (.slice a len cap) (zs.take len) := by
  rcases h with ⟨rfl, rfl, rfl, rfl⟩ | ⟨x, rfl, hl, hm, hz, hcell, _⟩
  · exact Reads.nil w
  · have e : (zs.take len).length = len := by rw [List.length_take]; omega
    refine ⟨some x, cap, by rw [e], by omega, hm, ?_⟩
    by_cases h0 : len = 0
    · left; subst h0; rfl
    · right
      obtain ⟨b, off, spot⟩ := x
      have hc := hcell 0 (by omega)
      have hspot : spot = none := by simpa [Addr.add] using World.cell?_spot hc
      subst hspot
      refine ⟨b, off, rfl, fun j hj => ?_⟩
      have := hcell j (by omega)
      rw [Addr.add_lit] at this
      rw [this]
      congr 2
      simp [nth, List.getD, show j < len by omega]
theorem IsRow.len {w : World} {a : Option Addr} {len cap : Nat} {zs : List Int} (h : IsRow .i64 w a len cap zs) : (zs.take len).length = len ∧ len ≤ 9223372036854775807 := by
  rcases h with ⟨rfl, rfl, rfl, rfl⟩ | ⟨x, rfl, hl, hm, hz, hcell, _⟩
  · exact ⟨rfl, by omega⟩
  · unfold maxLen at hm; rw [List.length_take]; omega
theorem IsRow.wfs {w : World} {a : Option Addr} {len cap : Nat} {zs : List Int} (h : IsRow .i64 w a len cap zs) : ∀ n ∈ zs.take len, -9223372036854775808 ≤ n ∧ n ≤ 9223372036854775807 := by
  intro n hn
  rcases h with ⟨rfl, rfl, rfl, rfl⟩ | ⟨x, rfl, hl, hm, hz, hcell, hw⟩
  · simp at hn
  · exact wf_bd (hw n (List.mem_of_mem_take hn))

/-- The slice value v owns the numbers zs, in a block from B on. -/
def Owns (w : World) (B : Nat) (v : Value) (zs : List Int) : Prop := w.ownsRow B 3 1 v zs.length (zs.map (Value.int .i64))

theorem Owns.nil (w : World) (B : Nat) : Owns w B (.slice none 0 0) [] := World.ownsRow_nil w B _ 1
theorem Owns.keep {w w' : World} {B : Nat} {v : Value} {zs : List Int} (h : Owns w B v zs) (hb : Below w.heap.size w w') : Owns w' B v zs := by
  refine ⟨h.1, ?_⟩
  rcases h.2 with h | ⟨g, cap, cur, rfl, h1, h2, h3⟩
  · exact .inl h
  · have hlt : g < w.heap.size := (Array.getElem?_eq_some_iff.1 h2).1
    exact .inr ⟨g, cap, cur, rfl, h1, by rw [hb.block g hlt]; exact h2, h3⟩
/-- Below the row's own base, or below any number that lies behind the row. -/
theorem Owns.keep2 {w w' : World} {B C : Nat} {v : Value} {zs : List Int} (h : Owns w B v zs) (hb : Below C w w') (hC : ∀ g, v.ownBlock = some g → g < C) : Owns w' B v zs := by
  refine ⟨h.1, ?_⟩
  rcases h.2 with h | ⟨g, cap, cur, rfl, h1, h2, h3⟩
  · exact .inl h
  · exact .inr ⟨g, cap, cur, rfl, h1, by rw [hb.block g (hC g rfl)]; exact h2, h3⟩
theorem Owns.mono {w : World} {B C : Nat} {v : Value} {zs : List Int} (h : Owns w B v zs) (hC : C ≤ B) : Owns w C v zs := by
  refine ⟨h.1, ?_⟩
  rcases h.2 with h | ⟨g, cap, cur, rfl, h1, h2, h3⟩
  · exact .inl h
  · exact .inr ⟨g, cap, cur, rfl, by omega, h2, h3⟩
theorem Owns.reads {w : World} {B : Nat} {v : Value} {zs : List Int} (h : Owns w B v zs) : Reads w v zs := by
  rcases h.2 with ⟨rfl, h0⟩ | ⟨g, cap, cur, rfl, h1, h2, h3, h4, h5, h6⟩
  · have : zs = [] := List.eq_nil_of_length_eq_zero h0
    subst this; exact Reads.nil w
  · refine ⟨_, cap, rfl, h3, h4, .inr ⟨g, 0, rfl, fun j hj => ?_⟩⟩
    have := World.ownsRow.cellAt h j (by omega)
    rw [Nat.zero_add, this]
    simp [nth, List.getD, hj]
/-- Where it lies. -/
theorem Owns.shape {w : World} {B : Nat} {v : Value} {zs : List Int} (h : Owns w B v zs) : (v = .slice none 0 0 ∧ zs = []) ∨ ∃ g cap, v = .slice (some ⟨g, 0, none⟩) zs.length cap ∧ B ≤ g ∧ g < w.heap.size ∧ zs.length ≤ cap ∧ cap ≤ 9223372036854775807 := by
  rcases h.2 with ⟨rfl, h0⟩ | ⟨g, cap, cur, rfl, h1, h2, h3, h4, h5, h6⟩
  · exact .inl ⟨rfl, List.eq_nil_of_length_eq_zero h0⟩
  · exact .inr ⟨g, cap, rfl, h1, (Array.getElem?_eq_some_iff.1 h2).1, h3, by unfold maxLen at h4; omega⟩
theorem Owns.cell {w : World} {B g cap n : Nat} {zs : List Int} (h : Owns w B (.slice (some ⟨g, 0, none⟩) n cap) zs) (j : Nat) (hj : j < zs.length) : w.cell? ⟨g, j, none⟩ = some (.int .i64 (nth zs j)) := by
  have h' := h
  obtain ⟨_, h0⟩ := h'
  rcases h0 with ⟨h0, _⟩ | ⟨g', cap', cur, h0, _⟩
  · cases h0
  · injection h0 with h0 h1 h2
    subst h1
    have := World.ownsRow.cellAt h j (by omega)
    rw [this]; simp [nth, List.getD, hj]
theorem Owns.free {w : World} {B g cap n : Nat} {zs : List Int} (h : Owns w B (.slice (some ⟨g, 0, none⟩) n cap) zs) (j : Nat) : w.frozen? ⟨g, j, none⟩ = false := by
  have h' := h
  obtain ⟨_, h0⟩ := h'
  rcases h0 with ⟨h0, _⟩ | ⟨g', cap', cur, h0, _⟩
  · cases h0
  · injection h0 with h0 h1 h2
    subst h1
    exact World.ownsRow.frozenAt h j
theorem Owns.base {w : World} {B g cap n : Nat} {zs : List Int} (h : Owns w B (.slice (some ⟨g, 0, none⟩) n cap) zs) : B ≤ g ∧ g < w.heap.size ∧ n = zs.length ∧ n ≤ cap := by
  rcases h.shape with ⟨h0, _⟩ | ⟨g', cap', h0, h1⟩
  · cases h0
  · injection h0 with h0 h2 h3
    injection h0 with h0
    injection h0 with h0
    subst h0 h2 h3
    exact ⟨h1.1, h1.2.1, rfl, h1.2.2.1⟩
/-- A store. -/
theorem Owns.store {w : World} {B g cap n : Nat} {zs : List Int} (h : Owns w B (.slice (some ⟨g, 0, none⟩) n cap) zs) (j : Nat) (x : Int) : Owns (w.setCell ⟨g, j, none⟩ (.int .i64 x)) B (.slice (some ⟨g, 0, none⟩) n cap) (zs.set j x) := by
  have hb := h.base
  have hn := hb.2.2.1
  subst hn
  have := (World.ownsRow.stored h j (.int .i64 x)).1
  unfold Owns
  rw [List.length_set, List.map_set]
  exact this
theorem Owns.store_below {w0 w : World} {C B g cap n : Nat} {zs : List Int} (hb : Below C w0 w) (h : Owns w B (.slice (some ⟨g, 0, none⟩) n cap) zs) (hC : C ≤ B) (j : Nat) (x : Value) : Below C w0 (w.setCell ⟨g, j, none⟩ x) :=
  hb.setCell (p := ⟨g, j, none⟩) (Nat.le_trans hC h.base.1) x
/-- A block that was just made. -/
theorem Owns.made {w : World} {B n : Nat} {v : Value} {z : Array Value} {zs : List Int} (h : w.ownsRow B 3 1 v n (madeCells z n).toList) (hz : z = #[.int .i64 0]) (e : zs = List.replicate n 0) : Owns w B v zs := by
  subst hz e
  unfold Owns
  rw [List.length_replicate, List.map_replicate, ← toList_madeCells_one]
  exact h
theorem Owns.reslice {w : World} {B g cap n : Nat} {zs : List Int} (h : Owns w B (.slice (some ⟨g, 0, none⟩) n cap) zs) (k : Nat) (hk : k ≤ n) : Owns w B (.slice (some ⟨g, 0, none⟩) k cap) (zs.take k) := by
  have hb := h.base
  have hl : (zs.take k).length = k := by rw [List.length_take]; omega
  obtain ⟨h1, h2⟩ := h
  rcases h2 with ⟨h0, _⟩ | ⟨g', cap', cur, h0, h3, h4, h5, h6, h7, h8⟩
  · cases h0
  · injection h0 with h0 h9 h10
    injection h0 with h0
    injection h0 with h0
    subst h0 h10
    refine ⟨by simp, .inr ⟨g, cap, cur, by rw [hl], h3, h4, by omega, h6, h7, ?_⟩⟩
    rw [hl, List.map_take, ← h8, List.take_take]
    congr 1; omega
end Go.Proofs.Ytolepfgabbmpdaa
