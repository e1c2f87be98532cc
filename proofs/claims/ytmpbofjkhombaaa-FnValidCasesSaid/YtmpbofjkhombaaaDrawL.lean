/-
  Lists that are drawn: someOdds, dataOf, someData.
-/
import Derived.Test.YtmpbofjkhombaaaRdr
import Derived.Test.YtmpbofjkhombaaaList
namespace Go.Proofs.Ytmpbofjkhombaaa
open Go.RowKit
set_option linter.unusedVariables false

theorem new_cellsL (w : World) (x : Int) : ∀ j u, ([Value.int .i64 x] : List Value)[j]? = some u → (w.alloc (.cells #[.int .i64 x] 3)).cell? ((⟨w.heap.size, 0, none⟩ : Addr).add j) = some u := by
  intro j u hj
  match j, hj with
  | 0, hj => simp at hj; subst hj; simp [Addr.add]
theorem new_oneL (x : Int) : ∀ u ∈ ([Value.int .i64 x] : List Value), u.oneCell' = true := by
  intro u hu; simp at hu; subst hu; rfl
theorem rdr_lit2 (W w : World) (v : Value) (p : Nat) (zs : List Int) (n bn : Nat) (hbn : w.heap.size = bn) (hn : zs.length = n) (h0 : 0 < n) (h100 : n ≤ 100) (hR : Rdr W w v p) (hb : Below W.heap.size W w) (hp : p ≤ 1000) :
    Calls Try.prog 32 #[v, .slice (some ⟨bn, 0, none⟩) n n] (w.alloc (.cells (zs.map (Value.int .i64)).toArray 3)) (RetOne W w v p zs) := by
  subst hbn
  exact rdr_lit W w v p zs n hn h0 h100 hR hb hp
def lenV : Value → Nat
  | .slice _ n _ => n
  | _ => 0
theorem OwnsA.past {w w' : World} {B : Nat} {v rv : Value} {zs : List Int} (h : OwnsA w B v zs) (hg : w.grownBy w' (rdrBlock rv)) (hB : ∀ g, rdrBlock rv = some g → g < B) : OwnsA w' B v zs := by
  refine World.ownsRow.kept h hg ?_
  have hlt := World.ownsRow.lt h
  cases ho : v.ownBlock with
  | none => exact .inl rfl
  | some k =>
    right
    intro e
    have h1 := (hlt k ho).1
    have h2 := hB k e.symm
    omega
theorem Rdr.other {W w w' : World} {v : Value} {p : Nat} {r : Option Nat} (h : Rdr W w v p) (hg : w.grownBy w' r) (hne : rdrBlock v ≠ r) : Rdr W w' v p := by
  obtain ⟨g, a, L, cap, rfl, h1, h2, h3⟩ := h
  have hlt : g < w.heap.size := (Array.getElem?_eq_some_iff.1 h2).1
  exact ⟨g, a, L, cap, rfl, h1, by rw [hg.block g hlt hne]; exact h2, h3⟩
theorem Rdr.blk {W w : World} {v : Value} {p : Nat} (h : Rdr W w v p) : ∀ g, rdrBlock v = some g → g < w.heap.size := by
  obtain ⟨g, a, L, cap, rfl, h1, h2, h3⟩ := h
  intro g' e
  simp [rdrBlock] at e
  subst e
  exact (Array.getElem?_eq_some_iff.1 h2).1
/-- What holds behind an append. -/
theorem appended_all {W w w' : World} {B p : Nat} {o v' rv : Value} {zs : List Int} {x : Int} {ob : Obj} (hown : OwnsA w B o zs) (hR : Rdr W w rv p) (hb : Below W.heap.size W w) (hBW : W.heap.size ≤ B) (hgB : ∀ g, rdrBlock rv = some g → g < B)
    (hown' : w'.ownsRow B 3 1 v' (zs.length + 1) (zs.map (Value.int .i64) ++ [.int .i64 x])) (hgrow : (w.alloc ob).grownBy w' o.ownBlock) :
    OwnsA w' B v' (zs ++ [x]) ∧ Rdr W w' rv p ∧ Below W.heap.size W w' := by
  have hs := hb.size
  have hal : Below w.heap.size w (w.alloc ob) := (Below.refl _ _).alloc (Nat.le_refl _) _
  refine ⟨OwnsA.appended hown', (hR.keep hal).other hgrow ?_, OwnsA.grownBelow (B := B) (zs := zs) (World.ownsRow.alloc hown ob) hgrow (hb.alloc hs _) hBW (by simp; omega)⟩
  intro e
  have hlt := World.ownsRow.lt hown
  cases ho : rdrBlock rv with
  | none =>
    obtain ⟨g, a, L, cap, rfl, _⟩ := hR
    simp [rdrBlock] at ho
  | some k =>
    rw [ho] at e
    have h1 := (hlt k e.symm).1
    have h2 := hgB k ho
    omega

theorem OwnsA.mono {w : World} {B C : Nat} {v : Value} {zs : List Int} (h : OwnsA w B v zs) (hC : C ≤ B) : OwnsA w C v zs := by
  refine ⟨h.1, ?_⟩
  rcases h.2 with h0 | ⟨g, cap, cur, hv, h1, h2⟩
  · exact .inl h0
  · exact .inr ⟨g, cap, cur, hv, by omega, h2⟩
/-- A drawn list. -/
def RetList (W w : World) (rv : Value) (e : Ending) (w' : World) : Prop :=
  ∃ v zs p, e = .returned v ∧ OwnsA w' w.heap.size v zs ∧ zs.length ≤ 30 ∧ Rdr W w' rv p ∧ p ≤ 300 ∧ Below W.heap.size W w'

set_option maxHeartbeats 1000000 in
theorem draw_someOdds (W w : World) (rv : Value) (hR : Rdr W w rv 0) (hb : Below W.heap.size W w) :
    Calls Try.prog 31 #[rv] w (RetList W w rv) := by
  obtain ⟨ti, hi, hz0, hz1, hz2⟩ := info_parts infoInt
  have hgB := hR.blk
  have hBW := hb.size
  have hown0 : OwnsA (w.alloc (.cells #[] 3)) w.heap.size (.slice (some ⟨w.heap.size, 0, none⟩) 0 0) [] := World.ownsRow_lit (size := 1) w #[] 0 (Nat.le_refl _) (by unfold maxLen; omega) rfl
  have hal : Below w.heap.size w (w.alloc (.cells #[] 3)) := (Below.refl _ _).alloc (Nat.le_refl _) _
  have hR0 := hR.keep hal
  have hb0 := hb.trans (hal.mono hb.size)
  go_enter Try.func31, Try.ntmps31
  go_wp2_with fail
  refine (rdr_lit2 W (w.alloc (.cells #[] 3)) rv 0 [3, 4, 5, 2, 6, 1, 0] 7 (w.heap.size + 1) (by simp) rfl (by omega) (by omega) hR0 hb0 (by omega)).mono ?_
  rintro e w1 ⟨n, rfl, hn, hR1, hb1, hg1⟩
  have hown1 := hown0.past hg1 hgB
  have hs1 : w.heap.size ≤ w1.heap.size := by have := hg1.size; simp at this; omega
  have hnb : 0 ≤ n ∧ n ≤ 6 := by simp at hn; omega
  clear hn hR hb hR0 hb0 hal hown0 hg1
  go_wp2_with fail
  go_loopw [3] (fun o wr => ∃ zs, OwnsA wr w.heap.size o zs ∧ zs.length ≤ 6 ∧ Rdr W wr rv (1 + 4 * zs.length) ∧ Below W.heap.size W wr ∧ w.heap.size ≤ wr.heap.size) (fun o _ => 7 - lenV o)
  case atStart => exact ⟨[], hown1, by simp, hR1, hb1, hs1⟩
  case round =>
    clear hown1 hR1 hb1 hs1
    obtain ⟨zs, hown, hl, hR, hb, hsz⟩ := hrel
    obtain ⟨ao, cap, hv, hl2, hc2, _⟩ := hown.weak.reads
    subst hv
    by_cases hlt : (zs.length : Int) < n
    · go_wp2_with fail
      refine (rdr_pick W _ rv _ _ hR hb (by omega) (by omega)).mono ?_
      rintro e w2 ⟨r2, rfl, ⟨f2, f2b, _⟩, hR2, hb2, hg2⟩
      have s2 := Nat.le_trans hsz hg2.size
      have o2 := hown.past hg2 hgB
      have f2c := f2b (by omega)
      clear hown hR hb hg2 f2b
      go_wp2_with fail
      refine (rdr_pick W _ rv _ _ hR2 hb2 (by omega) (by omega)).mono ?_
      rintro e w3 ⟨r3, rfl, ⟨f3, f3b, _⟩, hR3, hb3, hg3⟩
      have s3 := Nat.le_trans s2 hg3.size
      have o3 := o2.past hg3 hgB
      have f3c := f3b (by omega)
      clear o2 hR2 hb2 hg3 f3b
      go_wp2_with fail
      refine (rdr_pick W _ rv _ _ hR3 hb3 (by omega) (by omega)).mono ?_
      rintro e w4 ⟨r4, rfl, ⟨f4, f4b, _⟩, hR4, hb4, hg4⟩
      have s4 := Nat.le_trans s3 hg4.size
      have o4 := o3.past hg4 hgB
      have f4c := f4b (by omega)
      clear o3 hR3 hb3 hg4 f4b
      go_wp2_with fail
      refine (rdr_lit W w4 rv _ [r2, r3, 4 * r4, 10, 0, 1000] 6 rfl (by omega) (by omega) hR4 hb4 (by omega)).mono ?_
      rintro e w5 ⟨r5, rfl, hr5, hR, hb, hg5⟩
      have s5 := Nat.le_trans s4 hg5.size
      have hown := o4.past hg5 hgB
      clear o4 hR4 hb4 hg5 hr5
      go_wp2_with (at_builtin; refine wpList_append_own _ rfl _ _ 23 rfl w.heap.size 3 ti (.int .i64 0) 1 8 Try.underlying23 hi hz0 hz1 hz2 rfl (by decide) _ _ _ rfl (hown.alloc _) ⟨w5.heap.size, 0, none⟩ 1 1 [.int .i64 (r5)] rfl rfl (new_cellsL _ _) (new_oneL _) (by unfold maxLen; omega) (by omega) (by simp; omega) ?_)
      intro v' w9 hown' hgrow _
      obtain ⟨ho9, hR9, hb9⟩ := appended_all hown hR hb hBW hgB hown' hgrow
      have hs9 : w.heap.size ≤ w9.heap.size := by have := hgrow.size; simp at this; omega
      clear hown' hgrow hown hR hb
      go_wp2
      go_roundw
      case rel => exact ⟨zs ++ [r5], ho9, by simp; omega, by simpa [Nat.mul_add, Nat.add_assoc] using hR9, hb9, hs9⟩
      case measure =>
        obtain ⟨ao', cap', hv', _⟩ := ho9.weak.reads
        rw [hv']
        simp [lenV]
        omega
    · go_wp2_with fail
      refine (rdr_pick W _ rv _ _ hR hb (by omega) (by omega)).mono ?_
      rintro e w2 ⟨r2, rfl, ⟨f2, f2b, _⟩, hR2, hb2, hg2⟩
      have s2 := Nat.le_trans hsz hg2.size
      have o2 := hown.past hg2 hgB
      clear hown hR hb hg2 f2b
      by_cases hr : r2 = 0
      · have hr' : (r2 == 0) = true := by simp [hr]
        clear hr
        go_wp2_with fail
        refine (rdr_lit W w2 rv _ [1001, -1] 2 rfl (by omega) (by omega) hR2 hb2 (by omega)).mono ?_
        rintro e w5 ⟨r5, rfl, hr5, hR, hb, hg5⟩
        have s5 := Nat.le_trans s2 hg5.size
        have hown := o2.past hg5 hgB
        clear o2 hR2 hb2 hg5 hr5
        go_wp2_with (at_builtin; refine wpList_append_own _ rfl _ _ 23 rfl w.heap.size 3 ti (.int .i64 0) 1 8 Try.underlying23 hi hz0 hz1 hz2 rfl (by decide) _ _ _ rfl (hown.alloc _) ⟨w5.heap.size, 0, none⟩ 1 1 [.int .i64 (r5)] rfl rfl (new_cellsL _ _) (new_oneL _) (by unfold maxLen; omega) (by omega) (by simp; omega) ?_)
        intro v' w9 hown' hgrow _
        obtain ⟨ho9, hR9, hb9⟩ := appended_all hown hR hb hBW hgB hown' hgrow
        have hs9 : w.heap.size ≤ w9.heap.size := by have := hgrow.size; simp at this; omega
        clear hown' hgrow hown hR hb
        go_wp2
        go_ret
        exact ⟨_, zs ++ [r5], _, rfl, ho9, by simp; omega, hR9, by omega, hb9⟩
      · have hr' : (r2 == 0) = false := by simp [hr]
        clear hr
        go_wp2_with fail
        go_ret
        exact ⟨_, zs, _, rfl, o2, by omega, hR2, by omega, hb2⟩

/-- The list alone. -/
def RetL1 (w : World) (e : Ending) (w' : World) : Prop := ∃ v zs, e = .returned v ∧ OwnsA w' w.heap.size v zs ∧ zs.length ≤ 30 ∧ Below w.heap.size w w'
theorem draw_ValidOdds (a : Option Addr) (len cap : Nat) (z : List Int) (w : World) (h : IsRow .u8 w a len cap z) :
    Calls Try.prog 16 #[.slice a len cap] w (RetL1 w) := by
  go_enter Try.func16, Try.ntmps16
  go_wp2_with fail
  refine (rdr_new a len cap z w h).mono ?_
  rintro e w0 ⟨v, rfl, hR0, hb0⟩
  clear h
  go_wp2_with fail
  refine (draw_someOdds w w0 v hR0 hb0).mono ?_
  rintro e w1 ⟨u, zs, p, rfl, ho, hl, _, _, hb⟩
  go_wp2_with fail
  go_ret
  exact ⟨u, zs, rfl, OwnsA.mono ho hb0.size, hl, hb⟩
end Go.Proofs.Ytmpbofjkhombaaa
