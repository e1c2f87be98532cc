/-
  Words for slices of integers in memory: 'Reads' (they can be read), 'Owns' (they lie in a row of the call's own).
-/
import Derived.Test.YtcfeeobjllnofaaIn
import Derived.Handy
import Derived.OwnWalk
namespace Go.Proofs.Ytcfeeobjllnofaa
open Go.RowKit

/-- The number at a place. -/
def nth (zs : List Int) (j : Nat) : Int := zs.getD j 0
theorem nth_eq (zs : List Int) (j : Nat) : nth zs j = zs.getD j 0 := rfl

/-- The slice value v reads as the numbers zs. -/
def Reads (w : World) (v : Value) (zs : List Int) : Prop :=
  ∃ ao cap, v = .slice ao zs.length cap ∧ zs.length ≤ cap ∧ cap ≤ maxLen ∧
    (zs = [] ∨ ∃ b o, ao = some ⟨b, o, none⟩ ∧ ∀ j, j < zs.length → w.cell? ⟨b, o + j, none⟩ = some (.int .i64 (nth zs j)))

theorem Reads.keep {w w' : World} {v : Value} {zs : List Int} (h : Reads w v zs) (hb : Below w.heap.size w w') : Reads w' v zs := by
  obtain ⟨ao, cap, rfl, hl, hc, h⟩ := h
  refine ⟨ao, cap, rfl, hl, hc, ?_⟩
  rcases h with h | ⟨b, o, rfl, h⟩
  · exact .inl h
  · refine .inr ⟨b, o, rfl, fun j hj => ?_⟩
    have h1 := h j hj
    have h2 := World.block_lt_of_cell? _ _ h1
    exact (hb.cell (p := ⟨b, o + j, none⟩) h2).trans h1
theorem Reads.le {w : World} {v : Value} {zs : List Int} (h : Reads w v zs) : zs.length ≤ 9223372036854775807 := by
  obtain ⟨ao, cap, rfl, hl, hc, _⟩ := h
  unfold maxLen at hc; omega
theorem Reads.nil (w : World) : Reads w (.slice none 0 0) [] := ⟨none, 0, rfl, Nat.le_refl _, Nat.zero_le _, .inl rfl⟩

/-- An argument of a law. -/
theorem IsRow.reads {w : World} {a : Option Addr} {len cap : Nat} {zs : List Int} (h : IsRow .i64 w a len cap zs) : Reads w (.slice a len cap) (zs.take len) := by
  rcases h with ⟨rfl, rfl, rfl, rfl⟩ | ⟨x, rfl, hl, hm, hz, hcell, _⟩
  · exact Reads.nil w
  · have e : (zs.take len).length = len := by rw [List.length_take]; omega
    refine ⟨some x, cap, by rw [e], by omega, hm, ?_⟩
    by_cases h0 : len = 0
    · left; subst h0; rfl
    · right
      obtain ⟨b, off, spot⟩ := x
      have hc := hcell 0 (by omega)
      have hspot : spot = none := by simpa [Addr.add] using World.cell?_spot hc
      subst hspot
      refine ⟨b, off, rfl, fun j hj => ?_⟩
      have := hcell j (by omega)
      rw [Addr.add_lit] at this
      rw [this]
      congr 2
      simp [nth, List.getD, show j < len by omega]
theorem IsRow.len {w : World} {a : Option Addr} {len cap : Nat} {zs : List Int} (h : IsRow .i64 w a len cap zs) : (zs.take len).length = len ∧ len ≤ 9223372036854775807 := by
  rcases h with ⟨rfl, rfl, rfl, rfl⟩ | ⟨x, rfl, hl, hm, hz, hcell, _⟩
  · exact ⟨rfl, by omega⟩
  · unfold maxLen at hm; rw [List.length_take]; omega
theorem IsRow.wfs {w : World} {a : Option Addr} {len cap : Nat} {zs : List Int} (h : IsRow .i64 w a len cap zs) : ∀ n ∈ zs.take len, -9223372036854775808 ≤ n ∧ n ≤ 9223372036854775807 := by
  intro n hn
  rcases h with ⟨rfl, rfl, rfl, rfl⟩ | ⟨x, rfl, hl, hm, hz, hcell, hw⟩
  · simp at hn
  · exact wf_bd (hw n (List.mem_of_mem_take hn))

/-- The slice value v lies at the head of a block of the call's own, from B on, and holds the numbers zs. -/
def Owns (w : World) (B : Nat) (v : Value) (zs : List Int) : Prop :=
  (v = .slice none 0 0 ∧ zs = []) ∨
  ∃ g cap cur, v = .slice (some ⟨g, 0, none⟩) zs.length cap ∧ B ≤ g ∧ w.heap[g]? = some (.cells cur 3 (0, 0)) ∧ zs.length ≤ cap ∧ cap ≤ maxLen ∧ cap ≤ cur.size ∧ cur.toList.take zs.length = zs.map (Value.int .i64)

/-- The same, and the block is no longer than the slice's capacity: so it can be appended to. -/
def OwnsA (w : World) (B : Nat) (v : Value) (zs : List Int) : Prop := w.ownsRow B 3 1 v zs.length (zs.map (Value.int .i64))
theorem OwnsA.nil (w : World) (B : Nat) : OwnsA w B (.slice none 0 0) [] := World.ownsRow_nil w B _ 1
theorem OwnsA.weak {w : World} {B : Nat} {v : Value} {zs : List Int} (h : OwnsA w B v zs) : Owns w B v zs := by
  rcases h.2 with ⟨rfl, h0⟩ | ⟨g, cap, cur, rfl, h1, h2, h3, h4, h5, h6⟩
  · exact .inl ⟨rfl, List.eq_nil_of_length_eq_zero h0⟩
  · exact .inr ⟨g, cap, cur, rfl, h1, h2, h3, h4, by omega, by simpa using h6⟩
theorem OwnsA.appended {w : World} {B : Nat} {v : Value} {zs : List Int} {x : Int} (h : w.ownsRow B 3 1 v (zs.length + 1) (zs.map (Value.int .i64) ++ [.int .i64 x])) : OwnsA w B v (zs ++ [x]) := by
  unfold OwnsA
  rw [List.length_append, List.map_append]
  exact h
theorem OwnsA.grownBelow {w0 w w' : World} {B C : Nat} {v : Value} {zs : List Int} (h : OwnsA w B v zs) (hg : w.grownBy w' v.ownBlock) (hb : Below C w0 w) (hC : C ≤ B) (hs : C ≤ w.heap.size) : Below C w0 w' :=
  hb.grown hg hs (fun k hk => Nat.le_trans hC (World.ownsRow.lt h k hk).1)

theorem Owns.nil (w : World) (B : Nat) : Owns w B (.slice none 0 0) [] := .inl ⟨rfl, rfl⟩
theorem Owns.keep {w w' : World} {B : Nat} {v : Value} {zs : List Int} (h : Owns w B v zs) (hb : Below w.heap.size w w') : Owns w' B v zs := by
  rcases h with h | ⟨g, cap, cur, rfl, h1, h2, h3⟩
  · exact .inl h
  · have hlt : g < w.heap.size := (Array.getElem?_eq_some_iff.1 h2).1
    exact .inr ⟨g, cap, cur, rfl, h1, by rw [hb.block g hlt]; exact h2, h3⟩
theorem Owns.mono {w : World} {B C : Nat} {v : Value} {zs : List Int} (h : Owns w B v zs) (hC : C ≤ B) : Owns w C v zs := by
  rcases h with h | ⟨g, cap, cur, rfl, h1, h2, h3⟩
  · exact .inl h
  · exact .inr ⟨g, cap, cur, rfl, by omega, h2, h3⟩
theorem Owns.cellAt {w : World} {g : Nat} {cur : Array Value} {zs : List Int} (h2 : w.heap[g]? = some (.cells cur 3 (0, 0))) (h6 : cur.toList.take zs.length = zs.map (Value.int .i64)) (j : Nat) (hj : j < zs.length) : w.cell? ⟨g, j, none⟩ = some (.int .i64 (nth zs j)) := by
  rw [cell_of_row w g j cur _ (0, 0) h2]
  have e : (cur.toList.take zs.length)[j]? = (zs.map (Value.int .i64))[j]? := by rw [h6]
  rw [List.getElem?_take, if_pos hj] at e
  rw [← Array.getElem?_toList, e]
  simp [nth, List.getD, hj]
theorem Owns.reads {w : World} {B : Nat} {v : Value} {zs : List Int} (h : Owns w B v zs) : Reads w v zs := by
  rcases h with ⟨rfl, rfl⟩ | ⟨g, cap, cur, rfl, h1, h2, h3, h4, h5, h6⟩
  · exact Reads.nil w
  · exact ⟨_, cap, rfl, h3, h4, .inr ⟨g, 0, rfl, fun j hj => by rw [Nat.zero_add]; exact Owns.cellAt h2 h6 j hj⟩⟩
/-- Where it lies. -/
theorem Owns.shape {w : World} {B : Nat} {v : Value} {zs : List Int} (h : Owns w B v zs) : (v = .slice none 0 0 ∧ zs = []) ∨ ∃ g cap, v = .slice (some ⟨g, 0, none⟩) zs.length cap ∧ B ≤ g ∧ g < w.heap.size ∧ zs.length ≤ cap ∧ cap ≤ 9223372036854775807 := by
  rcases h with h | ⟨g, cap, cur, rfl, h1, h2, h3, h4, h5, h6⟩
  · exact .inl h
  · exact .inr ⟨g, cap, rfl, h1, (Array.getElem?_eq_some_iff.1 h2).1, h3, by unfold maxLen at h4; omega⟩
theorem Owns.open_ {w : World} {B g cap n : Nat} {zs : List Int} (h : Owns w B (.slice (some ⟨g, 0, none⟩) n cap) zs) : ∃ cur, n = zs.length ∧ B ≤ g ∧ w.heap[g]? = some (.cells cur 3 (0, 0)) ∧ zs.length ≤ cap ∧ cap ≤ maxLen ∧ cap ≤ cur.size ∧ cur.toList.take zs.length = zs.map (Value.int .i64) := by
  rcases h with ⟨h0, _⟩ | ⟨g', cap', cur, h0, h1⟩
  · cases h0
  · injection h0 with h0 h2 h3
    injection h0 with h0
    injection h0 with h0
    subst h0 h3
    exact ⟨cur, h2, h1⟩
theorem Owns.cell {w : World} {B g cap n : Nat} {zs : List Int} (h : Owns w B (.slice (some ⟨g, 0, none⟩) n cap) zs) (j : Nat) (hj : j < zs.length) : w.cell? ⟨g, j, none⟩ = some (.int .i64 (nth zs j)) := by
  obtain ⟨cur, rfl, h1, h2, h3, h4, h5, h6⟩ := h.open_
  exact Owns.cellAt h2 h6 j hj
theorem Owns.free {w : World} {B g cap n : Nat} {zs : List Int} (h : Owns w B (.slice (some ⟨g, 0, none⟩) n cap) zs) (j : Nat) : w.frozen? ⟨g, j, none⟩ = false := by
  obtain ⟨cur, rfl, h1, h2, _⟩ := h.open_
  exact frozen_of_row w g j cur _ h2
theorem Owns.base {w : World} {B g cap n : Nat} {zs : List Int} (h : Owns w B (.slice (some ⟨g, 0, none⟩) n cap) zs) : B ≤ g ∧ g < w.heap.size ∧ n = zs.length ∧ n ≤ cap := by
  obtain ⟨cur, rfl, h1, h2, h3, _⟩ := h.open_
  exact ⟨h1, (Array.getElem?_eq_some_iff.1 h2).1, rfl, h3⟩
/-- A store. -/
theorem Owns.store {w : World} {B g cap n : Nat} {zs : List Int} (h : Owns w B (.slice (some ⟨g, 0, none⟩) n cap) zs) (j : Nat) (x : Int) : Owns (w.setCell ⟨g, j, none⟩ (.int .i64 x)) B (.slice (some ⟨g, 0, none⟩) n cap) (zs.set j x) := by
  obtain ⟨cur, rfl, h1, h2, h3, h4, h5, h6⟩ := h.open_
  have hl : (zs.set j x).length = zs.length := by simp
  refine .inr ⟨g, cap, cur.setIfInBounds j (.int .i64 x), by rw [hl], h1, heap_setCell_same w g j cur _ _ h2, by rw [hl]; exact h3, h4, by simpa using h5, ?_⟩
  rw [hl, Array.toList_setIfInBounds, List.take_set, h6, List.map_set]
theorem Owns.stored {w : World} {B g cap n : Nat} {zs : List Int} (_h : Owns w B (.slice (some ⟨g, 0, none⟩) n cap) zs) (j : Nat) (x : Int) : w.grownBy (w.setCell ⟨g, j, none⟩ (.int .i64 x)) (some g) :=
  ⟨rfl, rfl, rfl, by simp [World.setCell], fun k _ hr => Below.heap_setCell _ _ _ _ (fun e => hr (by rw [e]))⟩
theorem Owns.store_below {w0 w : World} {C B g cap n : Nat} {zs : List Int} (hb : Below C w0 w) (h : Owns w B (.slice (some ⟨g, 0, none⟩) n cap) zs) (hC : C ≤ B) (j : Nat) (x : Value) : Below C w0 (w.setCell ⟨g, j, none⟩ x) :=
  hb.setCell (p := ⟨g, j, none⟩) (Nat.le_trans hC h.base.1) x
/-- A block that was just made. -/
theorem OwnsA.made {w : World} {B n : Nat} {v : Value} {z : Array Value} {zs : List Int} (h : w.ownsRow B 3 1 v n (madeCells z n).toList) (hz : z = #[.int .i64 0]) (e : zs = List.replicate n 0) : OwnsA w B v zs := by
  subst hz e
  unfold OwnsA
  rw [List.length_replicate, List.map_replicate, ← toList_madeCells_one]
  exact h
theorem Owns.made {w : World} {B n : Nat} {v : Value} {z : Array Value} {zs : List Int} (h : w.ownsRow B 3 1 v n (madeCells z n).toList) (hz : z = #[.int .i64 0]) (e : zs = List.replicate n 0) : Owns w B v zs := (OwnsA.made h hz e).weak
theorem Owns.reslice {w : World} {B g cap n : Nat} {zs : List Int} (h : Owns w B (.slice (some ⟨g, 0, none⟩) n cap) zs) (k c : Nat) (hk : k ≤ n) (hkc : k ≤ c) (hc : c ≤ cap) : Owns w B (.slice (some ⟨g, 0, none⟩) k c) (zs.take k) := by
  obtain ⟨cur, rfl, h1, h2, h3, h4, h5, h6⟩ := h.open_
  have hl : (zs.take k).length = k := by rw [List.length_take]; omega
  refine .inr ⟨g, c, cur, by rw [hl], h1, h2, by omega, by omega, by omega, ?_⟩
  rw [hl, List.map_take, ← h6, List.take_take]
  congr 1; omega
theorem Owns.clipped {w : World} {B g cap n : Nat} {zs : List Int} (h : Owns w B (.slice (some ⟨g, 0, none⟩) n cap) zs) : Owns w B (.slice (some ⟨g, 0, none⟩) n n) zs := by
  obtain ⟨cur, rfl, h1, h2, h3, h4, h5, h6⟩ := h.open_
  exact .inr ⟨g, _, cur, rfl, h1, h2, Nat.le_refl _, by omega, by omega, h6⟩
theorem grownBy_trans {a b c : World} {r : Option Nat} (h : a.grownBy b r) (k : b.grownBy c r) : a.grownBy c r :=
  ⟨k.os.trans h.os, k.tape.trans h.tape, k.output.trans h.output, Nat.le_trans h.size k.size, fun i hi hr => (k.block i (Nat.lt_of_lt_of_le hi h.size) hr).trans (h.block i hi hr)⟩
theorem grownBy_of_below {w w' : World} (h : Below w.heap.size w w') (r : Option Nat) : w.grownBy w' r :=
  ⟨h.os, h.tape, h.output, h.size, fun k hk _ => h.block k hk⟩
theorem grownBy_set {w w' : World} {b : Nat} (h : w.grownBy w' (some b)) (o : Nat) (v : Value) : w.grownBy (w'.setCell ⟨b, o, none⟩ v) (some b) :=
  ⟨h.os, h.tape, h.output, by simpa [World.setCell] using h.size, fun k hk hr => by rw [Below.heap_setCell _ _ _ _ (fun e => hr (by rw [e]))]; exact h.block k hk hr⟩
theorem grownBy_cell {w w' : World} {r : Option Nat} (h : w.grownBy w' r) {b o : Nat} {v : Value} (hc : w.cell? ⟨b, o, none⟩ = some v) (hne : some b ≠ r) : w'.cell? ⟨b, o, none⟩ = some v :=
  World.grownBy.cell h hc hne
/-- What is owned stays owned while another row is written. -/
theorem Owns.other {w w' : World} {B : Nat} {v : Value} {zs : List Int} {r : Option Nat} (h : Owns w B v zs) (hg : w.grownBy w' r) (hne : v.ownBlock = none ∨ v.ownBlock ≠ r) : Owns w' B v zs := by
  rcases h with h | ⟨g, cap, cur, rfl, h1, h2, h3⟩
  · exact .inl h
  · have hlt : g < w.heap.size := (Array.getElem?_eq_some_iff.1 h2).1
    exact .inr ⟨g, cap, cur, rfl, h1, by rw [hg.block g hlt (by simpa [Value.ownBlock] using hne)]; exact h2, h3⟩
/-- Rows that were made at different times. -/
theorem Owns.later {w1 w2 : World} {B1 B2 : Nat} {v1 v2 : Value} {z1 z2 : List Int} (h1 : Owns w1 B1 v1 z1) (h2 : Owns w2 B2 v2 z2) (h : w1.heap.size ≤ B2) : v2.ownBlock = none ∨ v2.ownBlock ≠ v1.ownBlock := by
  rcases h2.shape with ⟨rfl, _⟩ | ⟨g2, c2, rfl, b2, _⟩
  · exact .inl rfl
  · right
    rcases h1.shape with ⟨rfl, _⟩ | ⟨g1, c1, rfl, _, b1, _⟩
    · simp [Value.ownBlock]
    · simp [Value.ownBlock]; omega
theorem Owns.earlier {w1 w2 : World} {B1 B2 : Nat} {v1 v2 : Value} {z1 z2 : List Int} (h1 : Owns w1 B1 v1 z1) (h2 : Owns w2 B2 v2 z2) (h : w1.heap.size ≤ B2) : v1.ownBlock = none ∨ v1.ownBlock ≠ v2.ownBlock := by
  rcases h1.shape with ⟨rfl, _⟩ | ⟨g1, c1, rfl, _, b1, _⟩
  · exact .inl rfl
  · right
    rcases h2.shape with ⟨rfl, _⟩ | ⟨g2, c2, rfl, b2, _⟩
    · simp [Value.ownBlock]
    · simp [Value.ownBlock]; omega
theorem Owns.grown {w0 w w' : World} {B C : Nat} {v : Value} {zs : List Int} (h : Owns w B v zs) (hg : w.grownBy w' v.ownBlock) (hb : Below C w0 w) (hC : C ≤ B) (hs : C ≤ w.heap.size) : Below C w0 w' :=
  hb.grown hg hs (fun k hk => by
    rcases h.shape with ⟨rfl, _⟩ | ⟨g, c, rfl, b, _⟩
    · simp [Value.ownBlock] at hk
    · simp [Value.ownBlock] at hk; omega)
end Go.Proofs.Ytcfeeobjllnofaa
