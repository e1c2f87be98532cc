/-
  Contracts of ChangeChance.
-/
import Derived.Test.YtohdbbdolmgaaaaNum
import Derived.Test.YtohdbbdolmgaaaaSum
import Derived.Handy
import Derived.BigQuiet
import Derived.Deep.QuietTactic
namespace Go.Proofs.Ytohdbbdolmgaaaa
open Go.RowKit

def chgF (b c : Int) (k : Nat) : Int := if max b c ≤ max (k : Int) (b + c - k) then binI (b + c) k else 0
theorem chgF_bd (b c : Int) (k : Nat) (h : b + c ≤ 32) : 0 ≤ chgF b c k ∧ chgF b c k ≤ 4294967296 := by
  unfold chgF
  split
  · exact ⟨binI_nonneg _ _, binI_le _ _ h⟩
  · omega
theorem chg_sum_bd (b c : Int) (k : Nat) (h : b + c ≤ 32) (hk : k ≤ 33) : 0 ≤ sumTo (chgF b c) k ∧ sumTo (chgF b c) k ≤ 141733920768 := by
  have := sumTo_bd (chgF b c) 4294967296 k (fun k _ => chgF_bd b c k h)
  omega

/-- ChangeChance. -/
def changeA (b c : Int) : Int := if inB b 0 8 = true ∧ inB c 0 8 = true then sumTo (chgF b c) (b + c + 1).toNat else -1
def changeB (b c : Int) : Int := if inB b 0 8 = true ∧ inB c 0 8 = true then 2 ^ (b + c).toNat else -1

set_option maxHeartbeats 1000000 in
theorem spec_ChangeChance (b c : Int) (w : World) :
    Calls Try.prog 29 #[.int .i64 b, .int .i64 c] w fun e w' => e = .returned (.tuple #[.int .i64 (changeA b c), .int .i64 (changeB b c)]) ∧ w = w' := by
  by_cases h : inB b 0 8 = true ∧ inB c 0 8 = true
  · obtain ⟨h1, h2⟩ := h
    have hz : Hid (changeA b c = sumTo (chgF b c) (b + c + 1).toNat ∧ changeB b c = 2 ^ (b + c).toNat) := ⟨if_pos ⟨h1, h2⟩, if_pos ⟨h1, h2⟩⟩
    have g1 := inB_iff.1 h1
    have g2 := inB_iff.1 h2
    go_enter Try.func29, Try.ntmps29
    go_wp2_with (go_at_call 55; refine (spec_inRange _ _ _ _).mono ?_; rintro e w' ⟨rfl, rfl⟩)
    go_loop [7, 8] (fun o i => ∃ j : Nat, (j : Int) ≤ b + c + 1 ∧ i = .int .i64 j ∧ o = .int .i64 (sumTo (chgF b c) j)) (fun _ i => (b + c + 1).toNat - (intOf i).toNat)
    case atStart => exact ⟨0, by omega, rfl, rfl⟩
    case round =>
      obtain ⟨j, hj, rfl, rfl⟩ := hrel
      have hb := chg_sum_bd b c j (by omega) (by omega)
      have hb1 := binI_le (b + c) j (by omega)
      have hb2 := binI_nonneg (b + c) j
      by_cases hlt : (j : Int) ≤ b + c
      · by_cases hc : max b c ≤ max (j : Int) (b + c - j)
        · have hs : Hid (sumTo (chgF b c) (j + 1) = sumTo (chgF b c) j + binI (b + c) j) := by
            show _ = _; rw [sumTo_succ]; unfold chgF; rw [if_pos hc]
          go_wp2_with (go_at_call 63; refine (spec_choose _ _ _ (by omega) (by omega)).mono ?_; rintro e w' ⟨rfl, rfl⟩)
          all_goals
            go_round
            case rel => exact ⟨j + 1, by omega, by go_num, by rw [hs.out]⟩
            case measure => simp [intOf]; omega
        · have hs : Hid (sumTo (chgF b c) (j + 1) = sumTo (chgF b c) j) := by
            show _ = _; rw [sumTo_succ]; unfold chgF; rw [if_neg hc, Int.add_zero]
          go_wp2_with (go_at_call 63; refine (spec_choose _ _ _ (by omega) (by omega)).mono ?_; rintro e w' ⟨rfl, rfl⟩)
          all_goals
            go_round
            case rel => exact ⟨j + 1, by omega, by go_num, by rw [hs.out]⟩
            case measure => simp [intOf]; omega
      · go_wp2_with (go_at_call 64; refine (spec_power _ _ (by omega) (by omega)).mono ?_; rintro e w' ⟨rfl, rfl⟩)
        go_ret2
        refine ⟨?_, rfl⟩
        rw [hz.out.1, hz.out.2]
        exact ret_int2 (by have : j = (b + c + 1).toNat := by omega
                           rw [this]) rfl
  · have hz : Hid (changeA b c = -1 ∧ changeB b c = -1) := ⟨if_neg h, if_neg h⟩
    cases h1 : inB b 0 8
    all_goals
      cases h2 : inB c 0 8
      all_goals first
        | (exfalso; exact h ⟨h1, h2⟩)
        | (clear h
           go_enter Try.func29, Try.ntmps29
           go_wp2_with (go_at_call 55; refine (spec_inRange _ _ _ _).mono ?_; rintro e w' ⟨rfl, rfl⟩)
           go_ret2
           exact ⟨ret_int2 hz.out.1.symm hz.out.2.symm, rfl⟩)

set_option maxHeartbeats 1000000 in
theorem impl_ChangeChance (b c : Int) (w : World) :
    Calls Try.prog 28 #[.int .i64 b, .int .i64 c] w fun e w' => e = .returned (.tuple #[.int .i64 (changeA b c), .int .i64 (changeB b c)]) ∧ Below w.heap.size w w' := by
  by_cases h : inB b 0 8 = true ∧ inB c 0 8 = true
  · obtain ⟨h1, h2⟩ := h
    have hz : Hid (changeA b c = sumTo (chgF b c) (b + c + 1).toNat ∧ changeB b c = 2 ^ (b + c).toNat) := ⟨if_pos ⟨h1, h2⟩, if_pos ⟨h1, h2⟩⟩
    have g1 := inB_iff.1 h1
    have g2 := inB_iff.1 h2
    go_enter Try.func28, Try.ntmps28
    go_wp2_with (go_at_call 52; refine (impl_in _ _ _ _).mono ?_; rintro e w' ⟨rfl, rfl⟩)
    go_loop [7, 8] (fun o i => ∃ j : Nat, (j : Int) ≤ b + c + 1 ∧ i = .int .i64 j ∧ o = .int .i64 (sumTo (chgF b c) j)) (fun _ i => (b + c + 1).toNat - (intOf i).toNat)
    case atStart => exact ⟨0, by omega, rfl, rfl⟩
    case round =>
      obtain ⟨j, hj, rfl, rfl⟩ := hrel
      have hb := chg_sum_bd b c j (by omega) (by omega)
      have hb1 := binI_le (b + c) j (by omega)
      have hb2 := binI_nonneg (b + c) j
      by_cases hlt : (j : Int) ≤ b + c
      · by_cases hc : max b c ≤ max (j : Int) (b + c - j)
        · have hs : Hid (sumTo (chgF b c) (j + 1) = sumTo (chgF b c) j + binI (b + c) j) := by
            show _ = _; rw [sumTo_succ]; unfold chgF; rw [if_pos hc]
          go_wp2_with (go_at_call 62; refine (impl_choose _ _ _ (by omega) (by omega)).mono ?_; rintro e w' ⟨rfl, rfl⟩)
          all_goals
            go_round
            case rel => exact ⟨j + 1, by omega, by go_num, by rw [hs.out]⟩
            case measure => simp [intOf]; omega
        · have hs : Hid (sumTo (chgF b c) (j + 1) = sumTo (chgF b c) j) := by
            show _ = _; rw [sumTo_succ]; unfold chgF; rw [if_neg hc, Int.add_zero]
          go_wp2_with (go_at_call 62; refine (impl_choose _ _ _ (by omega) (by omega)).mono ?_; rintro e w' ⟨rfl, rfl⟩)
          all_goals
            go_round
            case rel => exact ⟨j + 1, by omega, by go_num, by rw [hs.out]⟩
            case measure => simp [intOf]; omega
      · have h2 := two_bd (b + c).toNat (by omega)
        go_wp2
        go_quiet (fail)
        go_wp2
        go_ret2
        refine ⟨?_, below_dn (Below.refl _ _) _⟩
        rw [hz.out.1, hz.out.2]
        exact ret_int2 (by have : j = (b + c + 1).toNat := by omega
                           rw [this]) rfl
  · have hz : Hid (changeA b c = -1 ∧ changeB b c = -1) := ⟨if_neg h, if_neg h⟩
    cases h1 : inB b 0 8
    all_goals
      cases h2 : inB c 0 8
      all_goals first
        | (exfalso; exact h ⟨h1, h2⟩)
        | (clear h
           go_enter Try.func28, Try.ntmps28
           go_wp2_with (go_at_call 52; refine (impl_in _ _ _ _).mono ?_; rintro e w' ⟨rfl, rfl⟩)
           go_ret2
           exact ⟨ret_int2 hz.out.1.symm hz.out.2.symm, Below.refl _ _⟩)
end Go.Proofs.Ytohdbbdolmgaaaa
