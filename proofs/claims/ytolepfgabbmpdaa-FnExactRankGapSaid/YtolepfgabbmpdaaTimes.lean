/-
  Contracts of both TimesAll.
-/
import Derived.Test.YtolepfgabbmpdaaOdds
namespace Go.Proofs.Ytolepfgabbmpdaa
open Go.RowKit

theorem new_cells (w : World) (x : Int) : ∀ j u, ([Value.int .i64 x] : List Value)[j]? = some u → (w.alloc (.cells #[.int .i64 x] 3)).cell? ((⟨w.heap.size, 0, none⟩ : Addr).add j) = some u := by
  intro j u hj
  match j, hj with
  | 0, hj => simp at hj; subst hj; simp [Addr.add]
theorem new_one (x : Int) : ∀ u ∈ ([Value.int .i64 x] : List Value), u.oneCell' = true := by
  intro u hu; simp at hu; subst hu; rfl

def timesL (zs : List Int) : List Int := zs.map (fun z => min 1000 (z * zs.length))
theorem timesL_length (zs : List Int) : (timesL zs).length = zs.length := by simp [timesL]
theorem nth_timesL (zs : List Int) (k : Nat) (h : k < zs.length) : nth (timesL zs) k = min 1000 (nth zs k * zs.length) := by simp [nth, timesL, List.getD, h]

/-- TimesAll. -/
def timesV (zs : List Int) : List Int := if oddsB zs = true then timesL zs else []
theorem timesV_len (zs : List Int) : (timesV zs).length ≤ 6 := by
  unfold timesV
  split
  · rename_i h; rw [timesL_length]; exact (odds_len h).2
  · simp

theorem owns_lit0 (w : World) (B : Nat) (hB : B ≤ w.heap.size) : OwnsA (w.alloc (.cells #[] 3)) B (.slice (some ⟨w.heap.size, 0, none⟩) 0 0) [] :=
  World.ownsRow_lit (size := 1) w #[] 0 hB (by unfold maxLen; omega) rfl

set_option maxHeartbeats 1000000 in
theorem spec_TimesAll (v : Value) (zs : List Int) (w : World) (hr : Reads w v zs) :
    Calls Try.prog 27 #[v] w (RetOwns w (timesV zs)) := by
  cases h : oddsB zs
  · have hz : Hid (timesV zs = []) := if_neg (by rw [h]; simp)
    go_enter Try.func27, Try.ntmps27
    go_wp2_with (go_at_call 45; refine (spec_validOdds v zs _ hr).mono ?_; rintro e w' ⟨rfl, rfl⟩)
    go_ret
    exact ⟨_, rfl, by rw [hz.out]; exact Owns.nil _ _, Below.refl _ _⟩
  · obtain ⟨ti, hi, hz0, hz1, hz2⟩ := info_parts infoInt
    have hz : Hid (timesV zs = timesL zs) := if_pos h
    have hlen := odds_len h
    have hno := Lib.hid (odds_nth h)
    have hlt0 : (timesL zs).length ≤ zs.length := by rw [timesL_length]; exact Nat.le_refl _
    have hlt1 : zs.length ≤ (timesL zs).length := by rw [timesL_length]; exact Nat.le_refl _
    have hr0 := hr
    obtain ⟨ao, cap, rfl, hl, hc, hcell⟩ := hr
    go_enter Try.func27, Try.ntmps27
    go_wp2_with (go_at_call 45; refine (spec_validOdds _ zs _ hr0).mono ?_; rintro e w' ⟨rfl, rfl⟩)
    go_loopw [3, 4] (fun o i wr => ∃ k : Nat, k ≤ zs.length ∧ i = .int .i64 k ∧ OwnsA wr w.heap.size o ((timesL zs).take k) ∧ Below w.heap.size w wr) (fun _ i _ => zs.length - (intOf i).toNat)
    case atStart =>
      exact ⟨0, Nat.zero_le _, rfl, owns_lit0 w _ (Nat.le_refl _), (Below.refl _ _).alloc (Nat.le_refl _) _⟩
    case round =>
      obtain ⟨k, hk, rfl, hown, hbel⟩ := hrel
      have hlk : ((timesL zs).take k).length ≤ 6 := by rw [List.length_take]; omega
      by_cases hlt : k < zs.length
      · rcases hcell with h0 | ⟨b, o, rfl, hcell⟩
        · exfalso; subst h0; have e0 : ([] : List Int).length = 0 := rfl; omega
        · have h1 := hcell k hlt
          have h2 := World.block_lt_of_cell? _ _ h1
          have hsrc : wr.cell? ⟨b, o + k, none⟩ = some (.int .i64 (nth zs k)) := (hbel.cell (p := ⟨b, o + k, none⟩) h2).trans h1
          clear h1 h2 hcell
          have hx := hno.out k hlt
          have hm := mul_bd (nth zs k) (zs.length : Int) 1000 6 hx.1 hx.2 (by omega) (by omega)
          have HT : Hid ((timesL zs).take (k + 1) = (timesL zs).take k ++ [min 1000 (nth zs k * zs.length)]) := by
            show _ = _; rw [take_snoc (by omega), nth_timesL zs k hlt]
          have hsz := hbel.size
          generalize hP : (timesL zs).take k = P at *
          have HP := Lib.hid hP
          clear hP
          by_cases hmin : ¬ 1000 < nth zs k * (zs.length : Int)
          · have HM : Hid (min 1000 (nth zs k * (zs.length : Int)) = nth zs k * (zs.length : Int)) := by show _ = _; omega
            go_wp2_with (at_builtin; refine wpList_append_own _ rfl _ _ 22 rfl w.heap.size 3 ti (.int .i64 0) 1 8 Try.underlying22 hi hz0 hz1 hz2 rfl (by decide) _ _ _ rfl (hown.alloc _) ⟨wr.heap.size, 0, none⟩ 1 1 [.int .i64 (nth zs k * (zs.length : Int))] rfl rfl (new_cells _ _) (new_one _) (by unfold maxLen; omega) (by omega) (by simp; omega) ?_)
            intro v' w1 hown' hgrow _
            have ho2 := OwnsA.appended hown'
            rw [← HM.out, ← HT.out] at ho2
            have hb2 : Below w.heap.size w w1 := OwnsA.grownBelow (hown.alloc _) hgrow (hbel.alloc hsz _) (Nat.le_refl _) (by simp; omega)
            clear hown' hgrow hown hbel hsrc
            go_wp2
            go_roundw
            case rel => exact ⟨k + 1, by omega, by go_num, ho2, hb2⟩
            case measure => simp [intOf]; omega
          · have HM : Hid (min 1000 (nth zs k * (zs.length : Int)) = 1000) := by show _ = _; omega
            go_wp2_with (at_builtin; refine wpList_append_own _ rfl _ _ 22 rfl w.heap.size 3 ti (.int .i64 0) 1 8 Try.underlying22 hi hz0 hz1 hz2 rfl (by decide) _ _ _ rfl (hown.alloc _) ⟨wr.heap.size, 0, none⟩ 1 1 [.int .i64 (1000)] rfl rfl (new_cells _ _) (new_one _) (by unfold maxLen; omega) (by omega) (by simp; omega) ?_)
            intro v' w1 hown' hgrow _
            have ho2 := OwnsA.appended hown'
            rw [← HM.out, ← HT.out] at ho2
            have hb2 : Below w.heap.size w w1 := OwnsA.grownBelow (hown.alloc _) hgrow (hbel.alloc hsz _) (Nat.le_refl _) (by simp; omega)
            clear hown' hgrow hown hbel hsrc
            go_wp2
            go_roundw
            case rel => exact ⟨k + 1, by omega, by go_num, ho2, hb2⟩
            case measure => simp [intOf]; omega
      · rw [drop_zero_all _ k (by omega)] at hown
        go_wp2
        go_ret
        exact ⟨_, rfl, by rw [hz.out]; exact hown.weak, hbel⟩

theorem filled_set (f : List Int) (k n : Nat) (x : Int) (hf : f.length = n) (hk : k < n) (hx : nth f k = x) : (f.take k ++ List.replicate (n - k) 0).set k x = f.take (k + 1) ++ List.replicate (n - (k + 1)) 0 := by
  subst hf hx
  exact copied_set f k hk

set_option maxHeartbeats 1000000 in
theorem impl_TimesAll (v : Value) (zs : List Int) (w : World) (hr : Reads w v zs) :
    Calls Try.prog 28 #[v] w (RetOwns w (timesV zs)) := by
  cases h : oddsB zs
  · have hz : Hid (timesV zs = []) := if_neg (by rw [h]; simp)
    go_enter Try.func28, Try.ntmps28
    go_wp2_with (go_at_call 20; refine (impl_ValidOdds v zs _ hr).mono ?_; rintro e w' ⟨rfl, hb⟩)
    go_ret
    exact ⟨_, rfl, by rw [hz.out]; exact Owns.nil _ _, by assumption⟩
  · obtain ⟨ti, hi, hz0, hz1, hz2⟩ := info_parts infoInt
    have hz : Hid (timesV zs = timesL zs) := if_pos h
    have hlen := odds_len h
    have hno := Lib.hid (odds_nth h)
    have hr0 := hr
    obtain ⟨ao, cap, rfl, hl, hc, hcell⟩ := hr
    go_enter Try.func28, Try.ntmps28
    go_wp2_with fail
    refine (impl_ValidOdds _ zs _ hr0).mono ?_; rintro e w1 ⟨rfl, hb⟩
    go_wp2_with (at_make; refine wpList_make_full _ rfl _ _ 22 rfl w1.heap.size 3 ti (.int .i64 0) 1 Try.underlying22 hi hz0 hz1 .i64 .i64 _ _ zs.length rfl rfl rfl rfl (by rw [hz2]; omega) (by unfold maxLen; omega) (Nat.le_refl _) ?_)
    intro w2 hown0 hgrow0
    have hown := Owns.made (zs := List.replicate zs.length 0) (by simpa using hown0) rfl rfl
    have hbel : Below w.heap.size w w2 := hb.trans (((Below.refl _ _).grown hgrow0 (Nat.le_refl _) (by simp) : Below w1.heap.size w1 w2).mono hb.size)
    have hs1 := hb.size
    clear hown0 hgrow0
    go_wp2
    go_loopw [14] (fun i wr => ∃ k : Nat, k ≤ zs.length ∧ i = .int .i64 k ∧ Owns wr w1.heap.size (.slice (some ⟨w1.heap.size, 0, none⟩) zs.length zs.length) ((timesL zs).take k ++ List.replicate (zs.length - k) 0) ∧ Below w.heap.size w wr) (fun i _ => zs.length - (intOf i).toNat)
    case atStart => exact ⟨0, Nat.zero_le _, rfl, by simpa using hown, hbel⟩
    case round =>
      obtain ⟨k, hk, rfl, hown, hbel⟩ := hrel
      by_cases hlt : k < zs.length
      · rcases hcell with h0 | ⟨b, o, rfl, hcell⟩
        · exfalso; subst h0; have e0 : ([] : List Int).length = 0 := rfl; omega
        · have h1 := hcell k hlt
          have h2 := World.block_lt_of_cell? _ _ h1
          have hsrc : wr.cell? ⟨b, o + k, none⟩ = some (.int .i64 (nth zs k)) := (hbel.cell (p := ⟨b, o + k, none⟩) h2).trans h1
          have hdst := hown.cell k (by simp [timesL_length]; omega)
          have hfree := hown.free k
          have hx := hno.out k hlt
          have hm := mul_bd (nth zs k) (zs.length : Int) 1000 6 hx.1 hx.2 (by omega) (by omega)
          have HS : ∀ x, min 1000 (nth zs k * (zs.length : Int)) = x → Owns (wr.setCell ⟨w1.heap.size, k, none⟩ (.int .i64 x)) w1.heap.size (.slice (some ⟨w1.heap.size, 0, none⟩) zs.length zs.length) ((timesL zs).take (k + 1) ++ List.replicate (zs.length - (k + 1)) 0) := by
            intro x hx
            have := hown.store k x
            rw [filled_set (timesL zs) k zs.length x (timesL_length zs) hlt (by rw [nth_timesL zs k hlt]; exact hx)] at this
            exact this
          have hbel2 := fun x => Owns.store_below hbel hown hs1 k (.int .i64 x)
          have HS' := Lib.hid HS
          have HB' := Lib.hid hbel2
          clear h1 h2 hown hbel hcell HS hbel2
          by_cases hmin : nth zs k * (zs.length : Int) < 1000
          all_goals
            go_wp2
            go_roundw
            case rel => exact ⟨k + 1, by omega, by go_num, HS'.out _ (by omega), HB'.out _⟩
            case measure => simp [intOf]; omega
      · have e : (timesL zs).take k ++ List.replicate (zs.length - k) 0 = timesL zs := by
          have : k = zs.length := by omega
          rw [this, List.take_of_length_le (by rw [timesL_length]; exact Nat.le_refl _)]; simp
        rw [e] at hown
        clear e
        go_wp2
        go_ret
        exact ⟨_, rfl, by rw [hz.out]; exact hown.mono hs1, hbel⟩
end Go.Proofs.Ytolepfgabbmpdaa
