/-
  Contracts of both FoundAt.
-/
import Derived.Test.YtmpbofjkhombaaaTimes
namespace Go.Proofs.Ytmpbofjkhombaaa
open Go.RowKit

/-- The indices below k of the numbers that are at most the level. -/
def foundTo (zs : List Int) (lv : Int) : Nat → List Int
  | 0 => []
  | k + 1 => foundTo zs lv k ++ (if nth zs k ≤ lv then [(k : Int)] else [])
theorem foundTo_len (zs : List Int) (lv : Int) (k : Nat) : (foundTo zs lv k).length ≤ k := by
  induction k with
  | zero => simp [foundTo]
  | succ k ih => rw [foundTo, List.length_append]; split <;> simp <;> omega
theorem found_yes (zs : List Int) (lv : Int) (k : Nat) (h : nth zs k ≤ lv) : foundTo zs lv (k + 1) = foundTo zs lv k ++ [(k : Int)] := by rw [foundTo, if_pos h]
theorem found_no (zs : List Int) (lv : Int) (k : Nat) (h : ¬ nth zs k ≤ lv) : foundTo zs lv (k + 1) = foundTo zs lv k := by rw [foundTo, if_neg h, List.append_nil]

/-- FoundAt. -/
def foundV (zs : List Int) (lv : Int) : List Int := if oddsB zs = true ∧ inB lv 0 1000 = true then foundTo zs lv zs.length else []
theorem foundV_len (zs : List Int) (lv : Int) : (foundV zs lv).length ≤ 6 := by
  unfold foundV
  split
  · rename_i h; have := foundTo_len zs lv zs.length; have := (odds_len h.1).2; omega
  · simp

set_option maxHeartbeats 1000000 in
theorem spec_FoundAt (v : Value) (zs : List Int) (lv : Int) (w : World) (hr : Reads w v zs) :
    Calls Try.prog 12 #[v, .int .i64 lv] w (RetOwns w (foundV zs lv)) := by
  by_cases h : oddsB zs = true ∧ inB lv 0 1000 = true
  · obtain ⟨ti, hi, hz0, hz1, hz2⟩ := info_parts infoInt
    have hz : Hid (foundV zs lv = foundTo zs lv zs.length) := if_pos h
    obtain ⟨h1, h2⟩ := h
    have hlen := odds_len h1
    have hr0 := hr
    obtain ⟨ao, cap, rfl, hl, hc, hcell⟩ := hr
    go_enter Try.func12, Try.ntmps12
    go_wp2_with fail
    refine (spec_validOdds _ zs _ hr0).mono ?_; rintro e w1 ⟨rfl, rfl⟩
    have hb := Below.refl w.heap.size w
    have hs1 := hb.size
    go_wp2_with (go_at_call 37; refine (spec_inRange _ _ _ _).mono ?_; rintro e w' ⟨rfl, rfl⟩)
    go_loopw [5, 6] (fun o i wr => ∃ k : Nat, k ≤ zs.length ∧ i = .int .i64 k ∧ OwnsA wr w.heap.size o (foundTo zs lv k) ∧ Below w.heap.size w wr) (fun _ i _ => zs.length - (intOf i).toNat)
    case atStart => exact ⟨0, Nat.zero_le _, rfl, owns_lit0 _ _ (by omega), hb.alloc (by omega) _⟩
    case round =>
      obtain ⟨k, hk, rfl, hown, hbel⟩ := hrel
      have hlk := foundTo_len zs lv k
      by_cases hlt : k < zs.length
      · rcases hcell with h0 | ⟨b, o, rfl, hcell⟩
        · exfalso; subst h0; have e0 : ([] : List Int).length = 0 := rfl; omega
        · have g1 := hcell k hlt
          have g2 := World.block_lt_of_cell? _ _ g1
          have hsrc : wr.cell? ⟨b, o + k, none⟩ = some (.int .i64 (nth zs k)) := (hbel.cell (p := ⟨b, o + k, none⟩) g2).trans g1
          clear g1 g2 hcell
          have hsz := hbel.size
          by_cases hx : nth zs k ≤ lv
          · have HT := Lib.hid (found_yes zs lv k hx)
            generalize foundTo zs lv k = P at *
            go_wp2_with (at_builtin; refine wpList_append_own _ rfl _ _ 23 rfl w.heap.size 3 ti (.int .i64 0) 1 8 Try.underlying23 hi hz0 hz1 hz2 rfl (by decide) _ _ _ rfl (hown.alloc _) ⟨wr.heap.size, 0, none⟩ 1 1 [.int .i64 (k : Int)] rfl rfl (new_cells _ _) (new_one _) (by unfold maxLen; omega) (by omega) (by simp; omega) ?_)
            intro v' w2 hown' hgrow _
            have ho2 := OwnsA.appended hown'
            rw [← HT.out] at ho2
            have hb2 : Below w.heap.size w w2 := OwnsA.grownBelow (hown.alloc _) hgrow (hbel.alloc hsz _) (Nat.le_refl _) (by simp; omega)
            clear hown' hgrow hown hbel hsrc
            go_wp2
            go_roundw
            case rel => exact ⟨k + 1, by omega, by go_num, ho2, hb2⟩
            case measure => simp [intOf]; omega
          · have HT := Lib.hid (found_no zs lv k hx)
            rw [← HT.out] at hown
            go_wp2
            go_roundw
            case rel => exact ⟨k + 1, by omega, by go_num, hown, hbel⟩
            case measure => simp [intOf]; omega
      · have hk2 : k = zs.length := by omega
        rw [hk2] at hown
        clear hk2
        go_wp2
        go_ret
        exact ⟨_, rfl, by rw [hz.out]; exact hown.weak, hbel⟩
  · have hz : Hid (foundV zs lv = []) := if_neg h
    have hnil : ∀ (w1 : World), Owns w1 w.heap.size (.slice none 0 0) (foundV zs lv) := fun w1 => by rw [hz.out]; exact Owns.nil _ _
    have HNil := Lib.hid hnil
    clear hnil
    cases h1 : oddsB zs
    all_goals
      cases h2 : inB lv 0 1000
      all_goals first
        | (exfalso; exact h ⟨h1, h2⟩)
        | (clear h
           go_enter Try.func12, Try.ntmps12
           go_wp2_with (first | (go_at_call 36; refine (spec_validOdds _ zs _ hr).mono ?_; rintro e w' ⟨rfl, rfl⟩) | (go_at_call 37; refine (spec_inRange _ _ _ _).mono ?_; rintro e w' ⟨rfl, rfl⟩))
           go_ret
           exact ⟨_, rfl, HNil.out _, Below.refl _ _⟩)

set_option maxHeartbeats 1000000 in
theorem impl_FoundAt (v : Value) (zs : List Int) (lv : Int) (w : World) (hr : Reads w v zs) :
    Calls Try.prog 10 #[v, .int .i64 lv] w (RetOwns w (foundV zs lv)) := by
  by_cases h : oddsB zs = true ∧ inB lv 0 1000 = true
  · obtain ⟨ti, hi, hz0, hz1, hz2⟩ := info_parts infoInt
    have hz : Hid (foundV zs lv = foundTo zs lv zs.length) := if_pos h
    obtain ⟨h1, h2⟩ := h
    have hlen := odds_len h1
    have hr0 := hr
    obtain ⟨ao, cap, rfl, hl, hc, hcell⟩ := hr
    go_enter Try.func10, Try.ntmps10
    go_wp2_with fail
    refine (impl_ValidOdds _ zs _ hr0).mono ?_; rintro e w1 ⟨rfl, hb⟩
    have hs1 := hb.size
    go_wp2_with (go_at_call 34; refine (impl_in _ _ _ _).mono ?_; rintro e w' ⟨rfl, rfl⟩)
    go_loopw [5, 18] (fun o i wr => ∃ k : Nat, k ≤ zs.length ∧ i = .int .i64 k ∧ OwnsA wr w.heap.size o (foundTo zs lv k) ∧ Below w.heap.size w wr) (fun _ i _ => zs.length - (intOf i).toNat)
    case atStart => exact ⟨0, Nat.zero_le _, rfl, OwnsA.nil _ _, hb⟩
    case round =>
      obtain ⟨k, hk, rfl, hown, hbel⟩ := hrel
      have hlk := foundTo_len zs lv k
      by_cases hlt : k < zs.length
      · rcases hcell with h0 | ⟨b, o, rfl, hcell⟩
        · exfalso; subst h0; have e0 : ([] : List Int).length = 0 := rfl; omega
        · have g1 := hcell k hlt
          have g2 := World.block_lt_of_cell? _ _ g1
          have hsrc : wr.cell? ⟨b, o + k, none⟩ = some (.int .i64 (nth zs k)) := (hbel.cell (p := ⟨b, o + k, none⟩) g2).trans g1
          clear g1 g2 hcell
          have hsz := hbel.size
          by_cases hx : nth zs k ≤ lv
          · have HT := Lib.hid (found_yes zs lv k hx)
            generalize foundTo zs lv k = P at *
            go_wp2_with (at_builtin; refine wpList_append_own _ rfl _ _ 23 rfl w.heap.size 3 ti (.int .i64 0) 1 8 Try.underlying23 hi hz0 hz1 hz2 rfl (by decide) _ _ _ rfl (hown.alloc _) ⟨wr.heap.size, 0, none⟩ 1 1 [.int .i64 (k : Int)] rfl rfl (new_cells _ _) (new_one _) (by unfold maxLen; omega) (by omega) (by simp; omega) ?_)
            intro v' w2 hown' hgrow _
            have ho2 := OwnsA.appended hown'
            rw [← HT.out] at ho2
            have hb2 : Below w.heap.size w w2 := OwnsA.grownBelow (hown.alloc _) hgrow (hbel.alloc hsz _) (Nat.le_refl _) (by simp; omega)
            clear hown' hgrow hown hbel hsrc
            go_wp2
            go_roundw
            case rel => exact ⟨k + 1, by omega, by go_num, ho2, hb2⟩
            case measure => simp [intOf]; omega
          · have HT := Lib.hid (found_no zs lv k hx)
            rw [← HT.out] at hown
            go_wp2
            go_roundw
            case rel => exact ⟨k + 1, by omega, by go_num, hown, hbel⟩
            case measure => simp [intOf]; omega
      · have hk2 : k = zs.length := by omega
        rw [hk2] at hown
        clear hk2
        go_wp2_with fail
        refine (slices_Clip _ _ _ _ hown.weak).mono ?_; rintro e w2 ⟨v', rfl, hclip, rfl⟩
        go_wp2_with fail
        go_ret
        exact ⟨_, rfl, by rw [hz.out]; exact hclip, hbel⟩
  · have hz : Hid (foundV zs lv = []) := if_neg h
    have hnil : ∀ (w1 : World), Owns w1 w.heap.size (.slice none 0 0) (foundV zs lv) := fun w1 => by rw [hz.out]; exact Owns.nil _ _
    have HNil := Lib.hid hnil
    clear hnil
    cases h1 : oddsB zs
    all_goals
      cases h2 : inB lv 0 1000
      all_goals first
        | (exfalso; exact h ⟨h1, h2⟩)
        | (clear h
           go_enter Try.func10, Try.ntmps10
           go_wp2_with (first | (go_at_call 13; refine (impl_ValidOdds _ zs _ hr).mono ?_; rintro e w' ⟨rfl, hb⟩) | (go_at_call 34; refine (impl_in _ _ _ _).mono ?_; rintro e w' ⟨rfl, rfl⟩))
           go_ret
           exact ⟨_, rfl, HNil.out _, by assumption⟩)
end Go.Proofs.Ytmpbofjkhombaaa
