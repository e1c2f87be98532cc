/-
  Tables with the same sums: the contract of impl.FoursLike.
-/
import Derived.Test.YtcfeeobjllnofaaLikeI
import Derived.Test.YtcfeeobjllnofaaOdds
namespace Go.Proofs.Ytcfeeobjllnofaa
open Go.RowKit
set_option linter.unusedVariables false

theorem new_cellsL2 (w : World) (bn : Nat) (x : Int) (hbn : w.heap.size = bn) : ∀ j u, ([Value.int .i64 x] : List Value)[j]? = some u → (w.alloc (.cells #[.int .i64 x] 3)).cell? ((⟨bn, 0, none⟩ : Addr).add j) = some u := by
  subst hbn; exact new_cellsL w x
/-- How rows are read. -/
theorem rows_read {w : World} {B : Nat} {v : Value} {a b c d : Int} {zs : List Int} (h : w.ownsRow B 26 4 v zs.length (rowsF a b c d zs)) :
    ∃ ao cap, v = .slice ao zs.length cap ∧ zs.length ≤ cap ∧ cap ≤ 9223372036854775807 ∧ (zs.length = 0 ∨ ∃ g, ao = some ⟨g, 0, none⟩ ∧ B ≤ g ∧ g < w.heap.size ∧ ∀ i, i < zs.length →
      w.cell? ⟨g, i * 4, none⟩ = some (.int .i64 (nth zs i)) ∧ w.cell? ⟨g, i * 4 + 1, none⟩ = some (.int .i64 (a + b - nth zs i)) ∧ w.cell? ⟨g, i * 4 + 2, none⟩ = some (.int .i64 (a + c - nth zs i)) ∧ w.cell? ⟨g, i * 4 + 3, none⟩ = some (.int .i64 (d - a + nth zs i))) := by
  have hcells := fun g hg => h.cells (g := g) hg
  have hlt := World.ownsRow.lt h
  rcases h.2 with ⟨rfl, h0⟩ | ⟨g, cap, cur, rfl, h1, h2, h3, h4, h5, h6⟩
  · refine ⟨none, 0, by rw [h0], by omega, by omega, .inl h0⟩
  · refine ⟨_, cap, rfl, h3, by unfold maxLen at h4; omega, .inr ⟨g, rfl, h1, (hlt g rfl).2, fun i hi => ?_⟩⟩
    have hc := fun r (hr : r < 4) u (hu : (rowF a b c d (nth zs i))[r]? = some u) => hcells g rfl (i * 4 + r) u ((rowsF_at a b c d zs i r hi hr).trans hu)
    have e : ∀ r, (⟨g, 0, none⟩ : Addr).add (i * 4 + r) = ⟨g, i * 4 + r, none⟩ := fun r => by simp [Addr.add]; intro h1 h2; omega
    have g0 := hc 0 (by omega) _ rfl
    have g1 := hc 1 (by omega) _ rfl
    have g2 := hc 2 (by omega) _ rfl
    have g3 := hc 3 (by omega) _ rfl
    rw [e] at g0 g1 g2 g3
    exact ⟨g0, g1, g2, g3⟩

set_option maxHeartbeats 2000000 in
theorem impl_FoursLike (a b c d : Int) (w : World) :
    Calls Try.prog 28 #[four a b c d] w (RetOwns w (likeV a b c d)) := by
  obtain ⟨ti, hi, hz0, hz1, hz2⟩ := info_parts infoInt
  have hbx := below_box w (.cells #[.int .i64 a, .int .i64 b, .int .i64 c, .int .i64 d] 26)
  cases hf : fourB a b c d
  · have hz : Hid (likeV a b c d = []) := by show _ = _; unfold likeV; rw [hf]; rfl
    go_enter Try.func28, Try.ntmps28
    go_wp2_with fail
    refine (impl_valid a b c d _).mono ?_
    rintro e w1 ⟨rfl, hb1⟩
    rw [hf]
    go_wp2_with fail
    go_ret
    exact ⟨_, rfl, by rw [hz.out]; exact Owns.nil _ _, hbx.trans (hb1.mono hbx.size)⟩
  · have hz : Hid (likeV a b c d = likeL a b c d) := if_pos hf
    obtain ⟨ha, hb, hc, hd⟩ := fourB_iff.1 hf
    have k0 := box_new w (.cells #[.int .i64 a, .int .i64 b, .int .i64 c, .int .i64 d] 26)
    go_enter Try.func28, Try.ntmps28
    go_wp2_with fail
    refine (impl_valid a b c d _).mono ?_
    rintro e w1 ⟨rfl, hb1⟩
    rw [hf]
    have k1 := box_keep k0 hb1
    have q1 := hbx.trans (hb1.mono hbx.size)
    have hlt1 : w.heap.size < w1.heap.size := (Array.getElem?_eq_some_iff.1 k1).1
    obtain ⟨c0, c1, c2, c3⟩ := box_of k1
    clear hf k0 hbx hb1
    go_wp2_with fail
    refine (impl_like a b c d _ ha hb hc hd).mono ?_
    rintro e w2 ⟨v, rfl, hrows, hb2⟩
    have q2 := q1.trans (hb2.mono q1.size)
    have hll : (likeL a b c d).length ≤ 17 := by have := likeTo_len a b c d (a + b + 1).toNat; unfold likeL; omega
    obtain ⟨ao, cap, rfl, hl1, hl2, hread⟩ := rows_read hrows
    have hs2 : w.heap.size ≤ w2.heap.size := q2.size
    generalize hL : likeL a b c d = L at *
    clear hL hrows k1 q1 c0 c1 c2 c3 hb2 hlt1
    have hown := OwnsA.nil w2 w2.heap.size
    go_wp2_with fail
    go_loopw [3, 12] (fun o i wr => ∃ k : Nat, k ≤ L.length ∧ i = .int .i64 k ∧ OwnsA wr w2.heap.size o (L.take k) ∧ Below w2.heap.size w2 wr) (fun _ i _ => L.length - (intOf i).toNat)
    case atStart => exact ⟨0, Nat.zero_le _, rfl, hown, Below.refl _ _⟩
    case round =>
      clear hown
      obtain ⟨k, hk, rfl, hown, hbel⟩ := hrel
      by_cases hlt : k < L.length
      · rcases hread with h0 | ⟨g, rfl, hg1, hg2, hread⟩
        · omega
        · obtain ⟨r0, r1, r2, r3⟩ := hread k hlt
          obtain ⟨hcc, _⟩ := bcell hbel
          have s0 := (hcc _ _ hg2).trans r0
          have s1 := (hcc _ _ hg2).trans r1
          have s2 := (hcc _ _ hg2).trans r2
          have s3 := (hcc _ _ hg2).trans r3
          have i1 : (k : Int) < (L.length : Int) := by omega
          clear hread r0 r1 r2 r3 hcc
          have hal := below_box wr (.cells #[.int .i64 (nth L k), .int .i64 (a + b - nth L k), .int .i64 (a + c - nth L k), .int .i64 (d - a + nth L k)] 26)
          have o3 : OwnsA _ w2.heap.size u3 (L.take k) := rowKeep hown hal
          have q3 := hbel.trans (hal.mono hbel.size)
          have hsr := hbel.size
          have hpl : (L.take k).length ≤ 17 := by rw [List.length_take]; omega
          have HT : Hid (L.take (k + 1) = L.take k ++ [nth L k]) := by
            show _ = _; rw [List.take_add_one, List.getElem?_eq_getElem hlt]; simp [nth, List.getD, hlt]
          generalize L.take k = P at *
          have H3 := Lib.hid (And.intro o3 q3)
          clear o3 q3 hown hal
          go_wp2_with (at_builtin; refine wpList_append_own _ rfl _ _ 36 rfl w2.heap.size 3 ti (.int .i64 0) 1 8 Try.underlying36 hi hz0 hz1 hz2 rfl (by decide) _ _ _ rfl (World.ownsRow.alloc H3.out.1 _) ⟨wr.heap.size + 1, 0, none⟩ 1 1 [.int .i64 (nth L k)] rfl rfl (new_cellsL2 _ _ _ (by simp)) (new_oneL _) (by unfold maxLen; omega) (by omega) (by simp; omega) ?_)
          intro v' w9 hown' hgrow _
          have q9 : Below w2.heap.size w2 w9 := OwnsA.grownBelow (World.ownsRow.alloc H3.out.1 _) hgrow (H3.out.2.alloc H3.out.2.size _) (Nat.le_refl _) (by simp; omega)
          have o9 := OwnsA.appended hown'
          rw [← HT.out] at o9
          clear hown' hgrow H3
          go_wp2
          go_roundw
          case rel => exact ⟨k + 1, by omega, by go_num, o9, q9⟩
          case measure => simp [intOf]; omega
      · have e : L.take k = L := List.take_of_length_le (by omega)
        rw [e] at hown
        clear e
        go_wp2_with fail
        refine (slices_Clip _ _ _ _ hown.weak).mono ?_; rintro e w3 ⟨v', rfl, hclip, rfl⟩
        go_wp2_with fail
        go_ret
        exact ⟨_, rfl, by rw [hz.out]; exact hclip.mono hs2, q2.trans (hbel.mono q2.size)⟩
end Go.Proofs.Ytcfeeobjllnofaa
