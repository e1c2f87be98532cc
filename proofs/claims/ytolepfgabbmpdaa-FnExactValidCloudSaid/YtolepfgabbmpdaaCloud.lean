/-
  Contracts of ValidCloud, both packages; slices.Min, slices.Max.
-/
import Derived.Test.YtolepfgabbmpdaaAll
namespace Go.Proofs.Ytolepfgabbmpdaa
open Go.RowKit
set_option linter.unusedVariables false

def minTo (zs : List Int) : Nat → Int
  | 0 => nth zs 0
  | k + 1 => min (minTo zs k) (nth zs (k + 1))
def maxTo (zs : List Int) : Nat → Int
  | 0 => nth zs 0
  | k + 1 => max (maxTo zs k) (nth zs (k + 1))
theorem minmax_all (zs : List Int) : ∀ k j, j ≤ k → minTo zs k ≤ nth zs j ∧ nth zs j ≤ maxTo zs k := by
  intro k
  induction k with
  | zero => intro j hj; have : j = 0 := by omega
            subst this; exact ⟨Int.le_refl _, Int.le_refl _⟩
  | succ k ih =>
    intro j hj
    show min (minTo zs k) (nth zs (k + 1)) ≤ _ ∧ _ ≤ max (maxTo zs k) (nth zs (k + 1))
    by_cases h : j = k + 1
    · subst h; omega
    · have := ih j (by omega); omega
theorem minmax_eq (zs : List Int) : ∀ k, (∀ j, j ≤ k → nth zs j = nth zs 0) → minTo zs k = nth zs 0 ∧ maxTo zs k = nth zs 0 := by
  intro k
  induction k with
  | zero => intro _; exact ⟨rfl, rfl⟩
  | succ k ih =>
    intro h
    have h1 := ih (fun j hj => h j (by omega))
    have h2 := h (k + 1) (Nat.le_refl _)
    show min (minTo zs k) (nth zs (k + 1)) = _ ∧ max (maxTo zs k) (nth zs (k + 1)) = _
    omega
def wideB (zs : List Int) : Bool := decide (minTo zs (zs.length - 1) < maxTo zs (zs.length - 1))
def placesB (xs ys : List Int) (most : Int) : Bool := decide (xs.length = ys.length) && (inB (xs.length : Int) 1 most && (allB xs (-12) 12 && allB ys (-12) 12))
def pointsB (xs ys : List Int) : Bool := decide (xs.length = ys.length) && (decide (xs.length ≤ 7) && (allB xs (-12) 12 && allB ys (-12) 12))
def cloudB (xs ys : List Int) : Bool := placesB xs ys 7 && wideB xs
theorem cloud_points (xs ys : List Int) : (pointsB xs ys && wideB xs) = cloudB xs ys := by
  unfold cloudB pointsB placesB
  by_cases h0 : xs.length = 0
  · have hw : wideB xs = false := by unfold wideB; rw [h0]; simp [minTo, maxTo]
    rw [hw]; simp
  · have e : decide (xs.length ≤ 7) = inB (xs.length : Int) 1 7 := by
      by_cases h : xs.length ≤ 7
      · rw [decide_eq_true h, inB_true ⟨by omega, by omega⟩]
      · rw [decide_eq_false h, inB_false.2 (by omega)]
    rw [e]

set_option maxHeartbeats 400000 in
theorem slices_Min (v : Value) (zs : List Int) (w : World) (hr : Reads w v zs) (h0 : 0 < zs.length) :
    Calls Try.prog 51 #[v] w fun e w' => e = .returned (.int .i64 (minTo zs (zs.length - 1))) ∧ w = w' := by
  have hle := hr.le
  obtain ⟨ao, cap, rfl, hl, hc, hcell⟩ := hr
  rcases hcell with hE | ⟨b, o, rfl, hcell⟩
  · exfalso; rw [hE] at h0; simp at h0
  have c0 := hcell 0 h0
  rw [Nat.add_zero] at c0
  have hne : decide ((zs.length : Int) < 1) = false := decide_eq_false (by omega)
  go_enter Try.func51, Try.ntmps51
  go_wp2
  go_loop [3, 4] (fun m i => ∃ k : Nat, k < zs.length ∧ i = .int .i64 ((k : Int) + 1) ∧ m = .int .i64 (minTo zs k)) (fun _ i => zs.length - (intOf i).toNat)
  case atStart => exact ⟨0, h0, rfl, rfl⟩
  case round =>
    obtain ⟨k, hk, rfl, rfl⟩ := hrel
    by_cases hlt : k + 1 < zs.length
    · have hsrc := hcell (k + 1) hlt
      have i1 : (k : Int) + 1 < (zs.length : Int) := by omega
      have HS : Hid (minTo zs (k + 1) = min (minTo zs k) (nth zs (k + 1))) := rfl
      clear hcell c0
      by_cases hm : nth zs (k + 1) < minTo zs k
      · have hm' : decide (nth zs (k + 1) < minTo zs k) = true := decide_eq_true hm
        have HS2 : Hid (minTo zs (k + 1) = nth zs (k + 1)) := by show _ = _; rw [HS.out]; omega
        go_wp2
        go_round
        case rel => exact ⟨k + 1, by omega, by go_num, by rw [HS2.out]⟩
        case measure => simp [intOf]; omega
      · have hm' : decide (nth zs (k + 1) < minTo zs k) = false := decide_eq_false hm
        have HS2 : Hid (minTo zs (k + 1) = minTo zs k) := by show _ = _; rw [HS.out]; omega
        go_wp2
        go_round
        case rel => exact ⟨k + 1, by omega, by go_num, by rw [HS2.out]⟩
        case measure => simp [intOf]; omega
    · have e : Hid (k = zs.length - 1) := by show _ = _; omega
      go_wp2
      go_ret
      exact ⟨ret_int (by rw [e.out]), rfl⟩

set_option maxHeartbeats 400000 in
theorem slices_Max (v : Value) (zs : List Int) (w : World) (hr : Reads w v zs) (h0 : 0 < zs.length) :
    Calls Try.prog 52 #[v] w fun e w' => e = .returned (.int .i64 (maxTo zs (zs.length - 1))) ∧ w = w' := by
  have hle := hr.le
  obtain ⟨ao, cap, rfl, hl, hc, hcell⟩ := hr
  rcases hcell with hE | ⟨b, o, rfl, hcell⟩
  · exfalso; rw [hE] at h0; simp at h0
  have c0 := hcell 0 h0
  rw [Nat.add_zero] at c0
  have hne : decide ((zs.length : Int) < 1) = false := decide_eq_false (by omega)
  go_enter Try.func52, Try.ntmps52
  go_wp2
  go_loop [3, 4] (fun m i => ∃ k : Nat, k < zs.length ∧ i = .int .i64 ((k : Int) + 1) ∧ m = .int .i64 (maxTo zs k)) (fun _ i => zs.length - (intOf i).toNat)
  case atStart => exact ⟨0, h0, rfl, rfl⟩
  case round =>
    obtain ⟨k, hk, rfl, rfl⟩ := hrel
    by_cases hlt : k + 1 < zs.length
    · have hsrc := hcell (k + 1) hlt
      have i1 : (k : Int) + 1 < (zs.length : Int) := by omega
      have HS : Hid (maxTo zs (k + 1) = max (maxTo zs k) (nth zs (k + 1))) := rfl
      clear hcell c0
      by_cases hm : maxTo zs k < nth zs (k + 1)
      · have hm' : decide (maxTo zs k < nth zs (k + 1)) = true := decide_eq_true hm
        have HS2 : Hid (maxTo zs (k + 1) = nth zs (k + 1)) := by show _ = _; rw [HS.out]; omega
        go_wp2
        go_round
        case rel => exact ⟨k + 1, by omega, by go_num, by rw [HS2.out]⟩
        case measure => simp [intOf]; omega
      · have hm' : decide (maxTo zs k < nth zs (k + 1)) = false := decide_eq_false hm
        have HS2 : Hid (maxTo zs (k + 1) = maxTo zs k) := by show _ = _; rw [HS.out]; omega
        go_wp2
        go_round
        case rel => exact ⟨k + 1, by omega, by go_num, by rw [HS2.out]⟩
        case measure => simp [intOf]; omega
    · have e : Hid (k = zs.length - 1) := by show _ = _; omega
      go_wp2
      go_ret
      exact ⟨ret_int (by rw [e.out]), rfl⟩

set_option maxHeartbeats 400000 in
theorem impl_placesValid (v : Value) (xs : List Int) (u : Value) (ys : List Int) (most : Int) (w : World) (hr : Reads w v xs) (ks : Reads w u ys) :
    Calls Try.prog 50 #[v, u, .int .i64 most] w fun e w' => e = .returned (.bool (placesB xs ys most)) ∧ Below w.heap.size w w' := by
  have hle := hr.le
  have kle := ks.le
  have hr' := hr
  have ks' := ks
  obtain ⟨ao, cap, rfl, hl, hc, hcell⟩ := hr'
  obtain ⟨bo, dap, rfl, kl, kc, kcell⟩ := ks'
  clear hcell kcell
  by_cases h2 : xs.length = ys.length
  · have h2' : ((xs.length : Int) == (ys.length : Int)) = true := by simp; omega
    have H2 := Lib.hid h2
    clear h2
    cases h1 : inB (xs.length : Int) 1 most
    · have hz : Hid (placesB xs ys most = false) := by show _ = _; unfold placesB; rw [h1]; simp
      go_enter Try.func50, Try.ntmps50
      go_wp2_with (go_at_call 46; refine (impl_in _ _ _ _).mono ?_; rintro e w' ⟨rfl, rfl⟩)
      go_ret
      exact ⟨ret_bool hz.out.symm, Below.refl _ _⟩
    · cases h3 : allB xs (-12) 12
      · have hz : Hid (placesB xs ys most = false) := by show _ = _; unfold placesB; rw [h3]; simp
        go_enter Try.func50, Try.ntmps50
        go_wp2_with (go_at_call 46; refine (impl_in _ _ _ _).mono ?_; rintro e w' ⟨rfl, rfl⟩)
        refine (impl_allIn _ xs _ _ _ hr).mono ?_
        rintro e w' ⟨rfl, hb⟩
        go_wp2_with fail
        go_ret
        exact ⟨ret_bool hz.out.symm, hb⟩
      · have hz : Hid (allB ys (-12) 12 = placesB xs ys most) := by show _ = _; unfold placesB; rw [h1, h3, decide_eq_true H2.out]; rfl
        go_enter Try.func50, Try.ntmps50
        go_wp2_with (go_at_call 46; refine (impl_in _ _ _ _).mono ?_; rintro e w' ⟨rfl, rfl⟩)
        refine (impl_allIn _ xs _ _ _ hr).mono ?_
        rintro e w1 ⟨rfl, hb⟩
        go_wp2_with fail
        refine (impl_allIn _ ys _ _ _ (ks.keep hb)).mono ?_
        rintro e w2 ⟨rfl, hb2⟩
        go_wp2_with fail
        go_ret
        exact ⟨ret_bool hz.out, hb.trans (hb2.mono hb.size)⟩
  · have h2' : ((xs.length : Int) == (ys.length : Int)) = false := by simp; omega
    have hz : Hid (placesB xs ys most = false) := by show _ = _; unfold placesB; rw [decide_eq_false h2]; rfl
    clear h2
    go_enter Try.func50, Try.ntmps50
    go_wp2_with fail
    go_ret
    exact ⟨ret_bool hz.out.symm, Below.refl _ _⟩

theorem impl_ValidCloud (v : Value) (xs : List Int) (u : Value) (ys : List Int) (w : World) (hr : Reads w v xs) (ks : Reads w u ys) :
    Calls Try.prog 26 #[v, u] w fun e w' => e = .returned (.bool (cloudB xs ys)) ∧ Below w.heap.size w w' := by
  cases h : placesB xs ys 7
  · have hz : Hid (cloudB xs ys = false) := by show _ = _; unfold cloudB; rw [h]; rfl
    go_enter Try.func26, Try.ntmps26
    go_wp2_with fail
    refine (impl_placesValid _ xs _ ys _ _ hr ks).mono ?_; rintro e w1 ⟨rfl, hb⟩
    go_wp2_with fail
    go_ret
    exact ⟨ret_bool hz.out.symm, hb⟩
  · have hz : Hid (decide (minTo xs (xs.length - 1) < maxTo xs (xs.length - 1)) = cloudB xs ys) := by show _ = _; unfold cloudB; rw [h]; rfl
    have hp : 0 < xs.length := by
      have h2 := h
      unfold placesB at h2
      simp only [Bool.and_eq_true] at h2
      have := inB_iff.1 h2.2.1; omega
    go_enter Try.func26, Try.ntmps26
    go_wp2_with fail
    refine (impl_placesValid _ xs _ ys _ _ hr ks).mono ?_; rintro e w1 ⟨rfl, hb⟩
    go_wp2_with fail
    refine (slices_Min _ xs _ (hr.keep hb) hp).mono ?_; rintro e w2 ⟨rfl, rfl⟩
    go_wp2_with fail
    refine (slices_Max _ xs _ (hr.keep hb) hp).mono ?_; rintro e w2 ⟨rfl, rfl⟩
    go_wp2_with fail
    go_ret
    exact ⟨ret_bool hz.out, hb⟩

set_option maxHeartbeats 400000 in
theorem spec_wide (v : Value) (zs : List Int) (w : World) (hr : Reads w v zs) :
    Calls Try.prog 71 #[v] w fun e w' => e = .returned (.bool (wideB zs)) ∧ Below w.heap.size w w' := by
  have hle := hr.le
  obtain ⟨ao, cap, rfl, hl, hc, hcell⟩ := hr
  go_enter Try.func71, Try.ntmps71
  go_wp2
  go_loopw [3] (fun i wr => ∃ k : Nat, k ≤ zs.length ∧ i = .int .i64 ((k : Int) + 1) ∧ Hid (∀ j, j ≤ k → nth zs j = nth zs 0) ∧ Below w.heap.size w wr) (fun i _ => zs.length + 1 - (intOf i).toNat)
  case atStart => exact ⟨0, Nat.zero_le _, rfl, fun j hj => by rw [show j = 0 by omega], Below.refl _ _⟩
  case round =>
    obtain ⟨k, hk, rfl, hall, hbel⟩ := hrel
    by_cases hlt : k + 1 < zs.length
    · rcases hcell with h0 | ⟨b, o, rfl, hcell⟩
      · exfalso; rw [h0] at hlt; simp at hlt
      · have h1 := hcell (k + 1) hlt
        have h2 := hcell 0 (by omega)
        rw [Nat.add_zero] at h2
        have ca : _ = _ := (hbel.cell (p := ⟨b, o + (k + 1), none⟩) (World.block_lt_of_cell? _ _ h1)).trans h1
        have cb : _ = _ := (hbel.cell (p := ⟨b, o, none⟩) (World.block_lt_of_cell? _ _ h2)).trans h2
        have i1 : (k : Int) + 1 < (zs.length : Int) := by omega
        have i2 : (0 : Int) < (zs.length : Int) := by omega
        clear h1 h2 hcell
        by_cases hx : nth zs (k + 1) = nth zs 0
        · have hx' : (nth zs (k + 1) != nth zs 0) = false := by simp [hx]
          have HX : Hid (∀ j, j ≤ k + 1 → nth zs j = nth zs 0) := fun j hj => by
            by_cases e : j = k + 1
            · rw [e]; exact hx
            · exact hall.out j (by omega)
          clear hx
          go_wp2
          go_quiet (fail)
          go_wp2
          go_roundw
          case rel => exact ⟨k + 1, by omega, by go_num, HX, below_dn hbel _⟩
          case measure => simp [intOf]; omega
        · have hx' : (nth zs (k + 1) != nth zs 0) = true := by simp [hx]
          have HB : Hid (wideB zs = true) := by
            have m1 := minmax_all zs (zs.length - 1) (k + 1) (by omega)
            have m2 := minmax_all zs (zs.length - 1) 0 (by omega)
            exact decide_eq_true (by omega)
          clear hx
          go_wp2
          go_quiet (fail)
          go_wp2
          go_ret
          exact ⟨ret_bool HB.out.symm, below_dn hbel _⟩
    · have HB : Hid (wideB zs = false) := by
        have := minmax_eq zs (zs.length - 1) (fun j hj => hall.out j (by omega))
        exact decide_eq_false (by omega)
      clear hcell
      go_wp2
      go_ret
      exact ⟨ret_bool HB.out.symm, hbel⟩

set_option maxHeartbeats 800000 in
theorem spec_validPoints (v : Value) (xs : List Int) (u : Value) (ys : List Int) (w : World) (hr : Reads w v xs) (ks : Reads w u ys) :
    Calls Try.prog 70 #[v, u] w fun e w' => e = .returned (.bool (pointsB xs ys)) ∧ w = w' := by
  have hle := hr.le
  have kle := ks.le
  obtain ⟨ao, cap, rfl, hl, hc, hcell⟩ := hr
  obtain ⟨bo, dap, rfl, kl, kc, kcell⟩ := ks
  go_enter Try.func70, Try.ntmps70
  go_wp2
  go_loop [5] (fun i => ∃ k : Nat, k ≤ xs.length ∧ k ≤ ys.length ∧ i = .int .i64 k ∧ Hid (∀ j, j < k → inB (nth xs j) (-12) 12 = true ∧ inB (nth ys j) (-12) 12 = true)) (fun i => xs.length - (intOf i).toNat)
  case atStart => exact ⟨0, Nat.zero_le _, Nat.zero_le _, rfl, fun j hj => absurd hj (by omega)⟩
  case round =>
    obtain ⟨k, hk, hky, rfl, hall⟩ := hrel
    by_cases hlt : k < xs.length
    · rcases hcell with h0 | ⟨b, o, rfl, hcell⟩
      · exfalso; rw [h0] at hlt; simp at hlt
      have hsrc := hcell k hlt
      clear hcell
      by_cases hly : k < ys.length
      · rcases kcell with h0 | ⟨b2, o2, rfl, kcell⟩
        · exfalso; rw [h0] at hly; simp at hly
        have ksrc := kcell k hly
        clear kcell
        have hly' : decide ((ys.length : Int) ≤ (k : Int)) = false := decide_eq_false (by omega)
        cases hx : inB (nth xs k) (-12) 12
        · have HB : Hid (pointsB xs ys = false) := by show _ = _; unfold pointsB; rw [allB_no k hlt hx]; simp
          go_wp2_with (go_at_call 53; refine (spec_inRange _ _ _ _).mono ?_; rintro e w' ⟨rfl, rfl⟩)
          go_ret
          exact ⟨ret_bool HB.out.symm, rfl⟩
        · cases hy : inB (nth ys k) (-12) 12
          · have HB : Hid (pointsB xs ys = false) := by show _ = _; unfold pointsB; rw [allB_no k hly hy]; simp
            go_wp2_with (go_at_call 53; refine (spec_inRange _ _ _ _).mono ?_; rintro e w' ⟨rfl, rfl⟩)
            go_ret
            exact ⟨ret_bool HB.out.symm, rfl⟩
          · have HX : Hid (∀ j, j < k + 1 → inB (nth xs j) (-12) 12 = true ∧ inB (nth ys j) (-12) 12 = true) := fun j hj => by
              by_cases e : j = k
              · rw [e]; exact ⟨hx, hy⟩
              · exact hall.out j (by omega)
            go_wp2_with (go_at_call 53; refine (spec_inRange _ _ _ _).mono ?_; rintro e w' ⟨rfl, rfl⟩)
            go_round
            case rel => exact ⟨k + 1, by omega, by omega, by go_num, HX⟩
            case measure => simp [intOf]; omega
      · have hly' : decide ((ys.length : Int) ≤ (k : Int)) = true := decide_eq_true (by omega)
        have HB : Hid (pointsB xs ys = false) := by show _ = _; unfold pointsB; rw [decide_eq_false (by omega)]; rfl
        clear kcell
        go_wp2_with fail
        go_ret
        exact ⟨ret_bool HB.out.symm, rfl⟩
    · clear hcell kcell
      have hk2 : k = xs.length := by omega
      by_cases h2 : xs.length = ys.length
      · have h2' : ((xs.length : Int) == (ys.length : Int)) = true := by simp; omega
        have HB : Hid (pointsB xs ys = decide (xs.length ≤ 7)) := by
          show _ = _; unfold pointsB
          rw [allB_yes (fun j hj => (hall.out j (by omega)).1), allB_yes (fun j hj => (hall.out j (by omega)).2), decide_eq_true h2]; simp
        clear h2 hk2
        go_wp2_with fail
        go_ret
        exact ⟨ret_bool (by rw [HB.out] <;> simp <;> omega), rfl⟩
      · have h2' : ((xs.length : Int) == (ys.length : Int)) = false := by simp; omega
        have HB : Hid (pointsB xs ys = false) := by show _ = _; unfold pointsB; rw [decide_eq_false h2]; rfl
        clear h2 hk2
        go_wp2_with fail
        go_ret
        exact ⟨ret_bool HB.out.symm, rfl⟩

theorem spec_validCloud (v : Value) (xs : List Int) (u : Value) (ys : List Int) (w : World) (hr : Reads w v xs) (ks : Reads w u ys) :
    Calls Try.prog 49 #[v, u] w fun e w' => e = .returned (.bool (cloudB xs ys)) ∧ Below w.heap.size w w' := by
  have hcp := cloud_points xs ys
  cases h : pointsB xs ys
  · have hz : Hid (cloudB xs ys = false) := by show _ = _; rw [← hcp, h]; rfl
    clear hcp
    go_enter Try.func49, Try.ntmps49
    go_wp2_with fail
    refine (spec_validPoints _ xs _ ys _ hr ks).mono ?_; rintro e w1 ⟨rfl, rfl⟩
    go_wp2_with fail
    go_ret
    exact ⟨ret_bool hz.out.symm, Below.refl _ _⟩
  · have hz : Hid (wideB xs = cloudB xs ys) := by show _ = _; rw [← hcp, h]; rfl
    clear hcp
    go_enter Try.func49, Try.ntmps49
    go_wp2_with fail
    refine (spec_validPoints _ xs _ ys _ hr ks).mono ?_; rintro e w1 ⟨rfl, rfl⟩
    go_wp2_with fail
    refine (spec_wide _ xs _ hr).mono ?_; rintro e w1 ⟨rfl, hb⟩
    go_wp2_with fail
    go_ret
    exact ⟨ret_bool hz.out, hb⟩

theorem spec_ValidCloud (v : Value) (xs : List Int) (u : Value) (ys : List Int) (w : World) (hr : Reads w v xs) (ks : Reads w u ys) :
    Calls Try.prog 25 #[v, u] w fun e w' => e = .returned (.bool (cloudB xs ys)) ∧ Below w.heap.size w w' := by
  go_enter Try.func25, Try.ntmps25
  go_wp2_with fail
  refine (spec_validCloud v xs u ys _ hr ks).mono ?_
  rintro e w' ⟨rfl, hb⟩
  go_wp2_with fail
  go_ret
  exact ⟨rfl, hb⟩
end Go.Proofs.Ytolepfgabbmpdaa
