/-
  Lists that are drawn: dataOf, someData.
-/
import Derived.Test.YtmpbofjkhombaaaDrawL
namespace Go.Proofs.Ytmpbofjkhombaaa
open Go.RowKit
set_option linter.unusedVariables false

theorem new_cellsN (w : World) (xs : List Int) (hl : xs.length ≤ 100) : ∀ j u, (xs.map (Value.int .i64))[j]? = some u → (w.alloc (.cells (xs.map (Value.int .i64)).toArray 3)).cell? ((⟨w.heap.size, 0, none⟩ : Addr).add j) = some u := by
  intro j u hj
  have ho := owns_list w w.heap.size xs (Nat.le_refl _) hl
  rw [List.getElem?_map] at hj
  cases hx : xs[j]? with
  | none => rw [hx] at hj; cases hj
  | some x =>
    rw [hx] at hj
    simp at hj
    subst hj
    have hj2 : j < xs.length := (List.getElem?_eq_some_iff.1 hx).1
    have hc := ho.cell j hj2
    rw [Addr.add_lit, Nat.zero_add]
    rw [hc]; simp [nth, List.getD, hx]
theorem new_oneN (xs : List Int) : ∀ u ∈ (xs.map (Value.int .i64)), u.oneCell' = true := by
  intro u hu
  rw [List.mem_map] at hu
  obtain ⟨x, _, rfl⟩ := hu
  rfl
theorem appended_allN {W w w' : World} {B p : Nat} {o v' rv : Value} {zs xs : List Int} {ob : Obj} (hown : OwnsA w B o zs) (hR : Rdr W w rv p) (hb : Below W.heap.size W w) (hBW : W.heap.size ≤ B) (hgB : ∀ g, rdrBlock rv = some g → g < B)
    (hown' : w'.ownsRow B 3 1 v' (zs.length + xs.length) (zs.map (Value.int .i64) ++ xs.map (Value.int .i64))) (hgrow : (w.alloc ob).grownBy w' o.ownBlock) :
    OwnsA w' B v' (zs ++ xs) ∧ Rdr W w' rv p ∧ Below W.heap.size W w' := by
  have hs := hb.size
  have hal : Below w.heap.size w (w.alloc ob) := (Below.refl _ _).alloc (Nat.le_refl _) _
  refine ⟨?_, (hR.keep hal).other hgrow ?_, OwnsA.grownBelow (B := B) (zs := zs) (World.ownsRow.alloc hown ob) hgrow (hb.alloc hs _) hBW (by simp; omega)⟩
  · unfold OwnsA
    rw [List.length_append, List.map_append]
    exact hown'
  intro e
  have hlt := World.ownsRow.lt hown
  cases ho : rdrBlock rv with
  | none =>
    obtain ⟨g, a, L, cap, rfl, _⟩ := hR
    simp [rdrBlock] at ho
  | some k =>
    rw [ho] at e
    have h1 := (hlt k e.symm).1
    have h2 := hgB k ho
    omega

set_option maxHeartbeats 1000000 in
theorem draw_dataOf (W w : World) (rv : Value) (p0 : Nat) (n : Int) (hR : Rdr W w rv p0) (hb : Below W.heap.size W w) (hp0 : p0 ≤ 50) (hnb : 0 ≤ n ∧ n ≤ 10) :
    Calls Try.prog 49 #[rv, .int .i64 n] w (RetList W w rv) := by
  obtain ⟨ti, hi, hz0, hz1, hz2⟩ := info_parts infoInt
  have hgB := hR.blk
  have hBW := hb.size
  have hown0 : OwnsA (w.alloc (.cells #[] 3)) w.heap.size (.slice (some ⟨w.heap.size, 0, none⟩) 0 0) [] := World.ownsRow_lit (size := 1) w #[] 0 (Nat.le_refl _) (by unfold maxLen; omega) rfl
  have hal : Below w.heap.size w (w.alloc (.cells #[] 3)) := (Below.refl _ _).alloc (Nat.le_refl _) _
  have hR0 := hR.keep hal
  have hb0 := hb.trans (hal.mono hb.size)
  go_enter Try.func49, Try.ntmps49
  go_wp2_with fail
  refine (rdr_lit2 W (w.alloc (.cells #[] 3)) rv p0 [3, 10, 40, 200] 4 (w.heap.size + 1) (by simp) rfl (by omega) (by omega) hR0 hb0 (by omega)).mono ?_
  rintro e w1 ⟨most, rfl, hm, hR1, hb1, hg1⟩
  have hown1 := hown0.past hg1 hgB
  have hs1 : w.heap.size ≤ w1.heap.size := by have := hg1.size; simp at this; omega
  have hmb : 3 ≤ most ∧ most ≤ 200 := by simp at hm; omega
  clear hm hR hb hR0 hb0 hal hown0 hg1
  go_wp2_with fail
  go_loopw [5] (fun o wr => ∃ zs, OwnsA wr w.heap.size o zs ∧ zs.length ≤ 10 ∧ Rdr W wr rv (p0 + 1 + zs.length) ∧ Below W.heap.size W wr ∧ w.heap.size ≤ wr.heap.size) (fun o _ => 11 - lenV o)
  case atStart => exact ⟨[], hown1, by simp, hR1, hb1, hs1⟩
  case round =>
    clear hown1 hR1 hb1 hs1
    obtain ⟨zs, hown, hl, hR, hb, hsz⟩ := hrel
    obtain ⟨ao, cap, hv, hl2, hc2, _⟩ := hown.weak.reads
    subst hv
    by_cases hlt : (zs.length : Int) < n
    · go_wp2_with fail
      refine (rdr_pick W _ rv _ (2 * most + 1) hR hb (by omega) (by omega)).mono ?_
      rintro e w5 ⟨r2, rfl, ⟨f2, f2b, _⟩, hR2, hb2, hg2⟩
      have s5 := Nat.le_trans hsz hg2.size
      have o2 := hown.past hg2 hgB
      have f2c := f2b (by omega)
      clear hown hR hb hg2 f2b
      have hR := hR2
      have hb := hb2
      have hown := o2
      clear hR2 hb2 o2
      go_wp2_with (at_builtin; refine wpList_append_own _ rfl _ _ 23 rfl w.heap.size 3 ti (.int .i64 0) 1 8 Try.underlying23 hi hz0 hz1 hz2 rfl (by decide) _ _ _ rfl (hown.alloc _) ⟨w5.heap.size, 0, none⟩ 1 1 [.int .i64 (r2 % 401 - most)] rfl rfl (new_cellsL _ _) (new_oneL _) (by unfold maxLen; omega) (by omega) (by simp; omega) ?_)
      intro v' w9 hown' hgrow _
      obtain ⟨ho9, hR9, hb9⟩ := appended_all hown hR hb hBW hgB hown' hgrow
      have hs9 : w.heap.size ≤ w9.heap.size := by have := hgrow.size; simp at this; omega
      clear hown' hgrow hown hR hb
      go_wp2
      go_roundw
      case rel => exact ⟨zs ++ [r2 % 401 - most], ho9, by simp; omega, by simpa [Nat.add_assoc] using hR9, hb9, hs9⟩
      case measure =>
        obtain ⟨ao', cap', hv', _⟩ := ho9.weak.reads
        rw [hv']
        simp [lenV]
        omega
    · go_wp2_with fail
      refine (rdr_pick W _ rv _ _ hR hb (by omega) (by omega)).mono ?_
      rintro e w2 ⟨r2, rfl, ⟨f2, f2b, _⟩, hR2, hb2, hg2⟩
      have s2 := Nat.le_trans hsz hg2.size
      have o2 := hown.past hg2 hgB
      clear hown hR hb hg2 f2b
      by_cases hr : r2 = 0
      · have hr' : (r2 == 0) = true := by simp [hr]
        clear hr
        go_wp2_with fail
        refine (rdr_lit W w2 rv _ [201, -201] 2 rfl (by omega) (by omega) hR2 hb2 (by omega)).mono ?_
        rintro e w5 ⟨r5, rfl, hr5, hR, hb, hg5⟩
        have s5 := Nat.le_trans s2 hg5.size
        have hown := o2.past hg5 hgB
        clear o2 hR2 hb2 hg5 hr5
        go_wp2_with (at_builtin; refine wpList_append_own _ rfl _ _ 23 rfl w.heap.size 3 ti (.int .i64 0) 1 8 Try.underlying23 hi hz0 hz1 hz2 rfl (by decide) _ _ _ rfl (hown.alloc _) ⟨w5.heap.size, 0, none⟩ 1 1 [.int .i64 (r5)] rfl rfl (new_cellsL _ _) (new_oneL _) (by unfold maxLen; omega) (by omega) (by simp; omega) ?_)
        intro v' w9 hown' hgrow _
        obtain ⟨ho9, hR9, hb9⟩ := appended_all hown hR hb hBW hgB hown' hgrow
        have hs9 : w.heap.size ≤ w9.heap.size := by have := hgrow.size; simp at this; omega
        clear hown' hgrow hown hR hb
        go_wp2
        go_ret
        exact ⟨_, zs ++ [r5], _, rfl, ho9, by simp; omega, hR9, by omega, hb9⟩
      · have hr' : (r2 == 0) = false := by simp [hr]
        clear hr
        by_cases hr1 : r2 = 1
        · have hr1' : (r2 == 1) = true := by simp [hr1]
          clear hr1
          have hown := o2
          have hR := hR2
          have hb := hb2
          go_wp2_with (at_builtin; refine wpList_append_own _ rfl _ _ 23 rfl w.heap.size 3 ti (.int .i64 0) 1 8 Try.underlying23 hi hz0 hz1 hz2 rfl (by decide) _ _ _ rfl (hown.alloc _) ⟨w2.heap.size, 0, none⟩ 11 11 (([1, 2, 3, 4, 5, 6, 7, 8, 9, 10, 11] : List Int).map (Value.int .i64)) rfl rfl (new_cellsN _ _ (by decide)) (new_oneN _) (by unfold maxLen; omega) (by omega) (by simp; omega) ?_)
          intro v' w9 hown' hgrow _
          obtain ⟨ho9, hR9, hb9⟩ := appended_allN (xs := [1, 2, 3, 4, 5, 6, 7, 8, 9, 10, 11]) hown hR hb hBW hgB hown' hgrow
          clear hown' hgrow hown hR hb o2 hR2 hb2
          go_wp2
          go_ret
          exact ⟨_, zs ++ [1, 2, 3, 4, 5, 6, 7, 8, 9, 10, 11], _, rfl, ho9, by simp; omega, hR9, by omega, hb9⟩
        · have hr1' : (r2 == 1) = false := by simp [hr1]
          clear hr1
          go_wp2_with fail
          go_ret
          exact ⟨_, zs, _, rfl, o2, by omega, hR2, by omega, hb2⟩

theorem draw_someData (W w : World) (rv : Value) (hR : Rdr W w rv 0) (hb : Below W.heap.size W w) :
    Calls Try.prog 39 #[rv] w (RetList W w rv) := by
  go_enter Try.func39, Try.ntmps39
  go_wp2_with fail
  refine (rdr_lit W w rv 0 [4, 5, 6, 3, 2, 8, 1, 0, 10] 9 rfl (by omega) (by omega) hR hb (by omega)).mono ?_
  rintro e w1 ⟨n, rfl, hn, hR1, hb1, hg1⟩
  have hnb : 0 ≤ n ∧ n ≤ 10 := by simp at hn; omega
  have hs := hg1.size
  clear hn hg1
  go_wp2_with fail
  refine (draw_dataOf W w1 rv 1 n hR1 hb1 (by omega) hnb).mono ?_
  rintro e w2 ⟨v, zs, p, rfl, ho, hl, hR2, hp, hb2⟩
  have HP : Hid (RetList W w rv (.returned v) w2) := ⟨v, zs, p, rfl, OwnsA.mono ho hs, hl, hR2, hp, hb2⟩
  clear ho hR2 hb2 hR1 hb1 hR hb
  go_wp2_with fail
  go_ret
  exact HP.out

theorem draw_ValidData (a : Option Addr) (len cap : Nat) (z : List Int) (w : World) (h : IsRow .u8 w a len cap z) :
    Calls Try.prog 18 #[.slice a len cap] w (RetL1 w) := by
  go_enter Try.func18, Try.ntmps18
  go_wp2_with fail
  refine (rdr_new a len cap z w h).mono ?_
  rintro e w0 ⟨v, rfl, hR0, hb0⟩
  clear h
  go_wp2_with fail
  refine (draw_someData w w0 v hR0 hb0).mono ?_
  rintro e w1 ⟨u, zs, p, rfl, ho, hl, _, _, hb⟩
  go_wp2_with fail
  go_ret
  exact ⟨u, zs, rfl, OwnsA.mono ho hb0.size, hl, hb⟩
end Go.Proofs.Ytmpbofjkhombaaa
