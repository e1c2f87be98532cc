/-
  Contracts of ValidOdds, TimesAll, FoundAt, slices.Clip.
-/
import Derived.Test.YtmpbofjkhombaaaAll
import Derived.Test.YtmpbofjkhombaaaList
namespace Go.Proofs.Ytmpbofjkhombaaa
open Go.RowKit

set_option maxHeartbeats 400000 in
theorem impl_ValidOdds (v : Value) (zs : List Int) (w : World) (hr : Reads w v zs) :
    Calls Try.prog 13 #[v] w fun e w' => e = .returned (.bool (oddsB zs)) ∧ Below w.heap.size w w' := by
  have hle := hr.le
  have hr' := hr
  obtain ⟨ao, cap, rfl, hl, hc, hcell⟩ := hr'
  cases h : inB (zs.length : Int) 1 6
  · have hz : Hid (oddsB zs = false) := by show _ = _; unfold oddsB; rw [h]; rfl
    go_enter Try.func13, Try.ntmps13
    go_wp2_with (go_at_call 34; refine (impl_in _ _ _ _).mono ?_; rintro e w' ⟨rfl, rfl⟩)
    go_ret
    exact ⟨ret_bool hz.out.symm, Below.refl _ _⟩
  · have hz : Hid (allB zs 0 1000 = oddsB zs) := by show _ = _; unfold oddsB; rw [h]; rfl
    go_enter Try.func13, Try.ntmps13
    go_wp2_with (go_at_call 34; refine (impl_in _ _ _ _).mono ?_; rintro e w' ⟨rfl, rfl⟩)
    refine (impl_allIn _ zs _ _ _ hr).mono ?_
    rintro e w' ⟨rfl, hb⟩
    go_wp2_with fail
    go_ret
    exact ⟨ret_bool hz.out, hb⟩

set_option maxHeartbeats 400000 in
theorem spec_validOdds (v : Value) (zs : List Int) (w : World) (hr : Reads w v zs) :
    Calls Try.prog 36 #[v] w fun e w' => e = .returned (.bool (oddsB zs)) ∧ w = w' := by
  have hle := hr.le
  obtain ⟨ao, cap, rfl, hl, hc, hcell⟩ := hr
  go_enter Try.func36, Try.ntmps36
  go_wp2
  go_loop [3] (fun i => ∃ k : Nat, k ≤ zs.length ∧ i = .int .i64 k ∧ Hid (∀ j, j < k → inB (nth zs j) 0 1000 = true)) (fun i => zs.length - (intOf i).toNat)
  case atStart => exact ⟨0, Nat.zero_le _, rfl, fun j hj => absurd hj (by omega)⟩
  case round =>
    obtain ⟨k, hk, rfl, hall⟩ := hrel
    by_cases hlt : k < zs.length
    · rcases hcell with h0 | ⟨b, o, rfl, hcell⟩
      · exfalso; subst h0; have e0 : ([] : List Int).length = 0 := rfl; omega
      · have hsrc := hcell k hlt
        clear hcell
        cases hx : inB (nth zs k) 0 1000
        · have HB : Hid (oddsB zs = false) := by show _ = _; unfold oddsB; rw [allB_no k hlt hx]; simp
          go_wp2_with (go_at_call 37; refine (spec_inRange _ _ _ _).mono ?_; rintro e w' ⟨rfl, rfl⟩)
          go_ret
          exact ⟨ret_bool HB.out.symm, rfl⟩
        · have HX : Hid (∀ j, j < k + 1 → inB (nth zs j) 0 1000 = true) := fun j hj => by
            by_cases e : j = k
            · rw [e]; exact hx
            · exact hall.out j (by omega)
          go_wp2_with (go_at_call 37; refine (spec_inRange _ _ _ _).mono ?_; rintro e w' ⟨rfl, rfl⟩)
          go_round
          case rel => exact ⟨k + 1, by omega, by go_num, HX⟩
          case measure => simp [intOf]; omega
    · have HB : Hid (oddsB zs = inB (zs.length : Int) 1 6) := by show _ = _; unfold oddsB; rw [allB_yes (fun j hj => hall.out j (by omega))]; simp
      go_wp2_with (go_at_call 37; refine (spec_inRange _ _ _ _).mono ?_; rintro e w' ⟨rfl, rfl⟩)
      go_ret
      exact ⟨ret_bool HB.out.symm, rfl⟩

theorem spec_ValidOdds (v : Value) (zs : List Int) (w : World) (hr : Reads w v zs) :
    Calls Try.prog 17 #[v] w fun e w' => e = .returned (.bool (oddsB zs)) ∧ w = w' := by
  go_enter Try.func17, Try.ntmps17
  go_wp2_with fail
  refine (spec_validOdds v zs _ hr).mono ?_
  rintro e w' ⟨rfl, rfl⟩
  go_wp2_with fail
  go_ret
  exact ⟨rfl, rfl⟩

theorem odds_len {zs : List Int} (h : oddsB zs = true) : 1 ≤ zs.length ∧ zs.length ≤ 6 := by
  unfold oddsB at h
  rw [Bool.and_eq_true] at h
  have := inB_iff.1 h.1
  omega
theorem odds_nth {zs : List Int} (h : oddsB zs = true) (j : Nat) (hj : j < zs.length) : 0 ≤ nth zs j ∧ nth zs j ≤ 1000 := by
  unfold oddsB at h
  rw [Bool.and_eq_true] at h
  exact allB_nth h.2 j hj
theorem take_snoc {zs : List Int} {k : Nat} (h : k < zs.length) : zs.take (k + 1) = zs.take k ++ [nth zs k] := by
  rw [List.take_add_one]
  have : zs[k]? = some (nth zs k) := by simp [nth, List.getD, h]
  rw [this]; rfl
theorem drop_zero_all (zs : List Int) (k : Nat) (h : ¬ k < zs.length) : zs.take k = zs := List.take_of_length_le (by omega)

/-- The slice value handed back reads as zs, in the same world. -/
def RetClip (w : World) (B : Nat) (zs : List Int) (e : Ending) (w' : World) : Prop := ∃ v', e = .returned v' ∧ Owns w' B v' zs ∧ w = w'
theorem slices_Clip (v : Value) (zs : List Int) (B : Nat) (w : World) (ho : Owns w B v zs) :
    Calls Try.prog 35 #[v] w (RetClip w B zs) := by
  rcases ho.shape with ⟨rfl, rfl⟩ | ⟨g, cap, rfl, hg1, hg2, hg3, hg4⟩
  · go_enter Try.func35, Try.ntmps35
    go_wp2_with fail
    go_ret
    exact ⟨_, rfl, ho, rfl⟩
  · have hcl := ho.clipped
    go_enter Try.func35, Try.ntmps35
    go_wp2_with fail
    go_ret
    exact ⟨_, rfl, hcl, rfl⟩
end Go.Proofs.Ytmpbofjkhombaaa
