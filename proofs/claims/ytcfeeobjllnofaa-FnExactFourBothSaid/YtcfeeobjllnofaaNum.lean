/-
  Contracts of the binomials of both packages: 0 ≤ n ≤ 32.
-/
import Derived.Test.YtcfeeobjllnofaaIn
import Derived.Test.YtcfeeobjllnofaaMath
namespace Go.Proofs.Ytcfeeobjllnofaa
open Go.RowKit

theorem binI_neg (n k : Int) (h : k < 0 ∨ n < k) (hn : 0 ≤ n) : binI n k = 0 := by
  unfold binI
  split
  · rfl
  · rw [bin_gt _ _ (by omega)]; rfl


set_option maxHeartbeats 400000 in
theorem spec_choose (n k : Int) (w : World) (h0 : 0 ≤ n) (h1 : n ≤ 32) :
    Calls Try.prog 42 #[.int .i64 n, .int .i64 k] w fun e w' => e = .returned (.int .i64 (binI n k)) ∧ w = w' := by
  by_cases hk : k < 0 ∨ n < k
  · have hz := Lib.hid (binI_neg n k hk h0)
    by_cases hk0 : k < 0
    all_goals
      go_enter Try.func42, Try.ntmps42
      go_wp2
      go_ret
      exact ⟨ret_int hz.out.symm, rfl⟩
  · obtain ⟨n, rfl⟩ := Int.eq_ofNat_of_zero_le h0
    obtain ⟨k, rfl⟩ := Int.eq_ofNat_of_zero_le (show 0 ≤ k by omega)
    have hb := Lib.hid (binI_nat n k)
    have hkn : (k : Int) ≤ n := by omega
    clear hk
    go_enter Try.func42, Try.ntmps42
    go_wp2
    go_loop [5, 6] (fun o i => ∃ j : Nat, j ≤ k ∧ i = .int .i64 j ∧ o = .int .i64 (bin n j)) (fun _ i => k - (intOf i).toNat)
    case atStart => exact ⟨0, Nat.zero_le _, rfl, by rw [bin_zero]; rfl⟩
    case round =>
      obtain ⟨j, hj, rfl, rfl⟩ := hrel
      have hbd := bin_le32 n j (by omega)
      have hm := mul_bd (bin n j) ((n : Int) - j) 4294967296 32 (by omega) (by omega) (by omega) (by omega)
      have hs := Lib.hid (bin_next_int n j (by omega))
      by_cases hlt : j < k
      · go_wp2
        go_round
        case rel => exact ⟨j + 1, by omega, by go_num, by rw [← hs.out]⟩
        case measure => simp [intOf]; omega
      · go_wp2
        go_ret
        exact ⟨ret_int (by rw [hb.out]; have : j = k := by omega
                           rw [this]), rfl⟩

set_option maxHeartbeats 400000 in
theorem impl_choose (n k : Int) (w : World) (h0 : 0 ≤ n) (h1 : n ≤ 32) :
    Calls Try.prog 45 #[.int .i64 n, .int .i64 k] w fun e w' => e = .returned (.int .i64 (binI n k)) ∧ w = w' := by
  by_cases hk : k < 0 ∨ n < k
  · have hz := Lib.hid (binI_neg n k hk h0)
    have hb : inB k 0 n = false := inB_false.2 (by omega)
    go_enter Try.func45, Try.ntmps45
    go_wp2_with (go_at_call 49; refine (impl_in _ _ _ _).mono ?_; rintro e w' ⟨rfl, rfl⟩)
    go_ret
    exact ⟨ret_int hz.out.symm, rfl⟩
  · obtain ⟨n, rfl⟩ := Int.eq_ofNat_of_zero_le h0
    obtain ⟨k, rfl⟩ := Int.eq_ofNat_of_zero_le (show 0 ≤ k by omega)
    have hb := Lib.hid (binI_nat n k)
    have hkn : (k : Int) ≤ n := by omega
    have hin : inB (k : Int) 0 n = true := inB_true (by omega)
    clear hk
    go_enter Try.func45, Try.ntmps45
    go_wp2_with (go_at_call 49; refine (impl_in _ _ _ _).mono ?_; rintro e w' ⟨rfl, rfl⟩)
    go_loop [5, 6] (fun o i => ∃ j : Nat, j ≤ k ∧ i = .int .i64 ((j : Int) + 1) ∧ o = .int .i64 (bin (n - k + j) j)) (fun _ i => k + 1 - (intOf i).toNat)
    case atStart => exact ⟨0, Nat.zero_le _, rfl, by rw [bin_zero]; rfl⟩
    case round =>
      obtain ⟨j, hj, rfl, rfl⟩ := hrel
      have hbd := bin_le32 (n - k + j) j (by omega)
      have hm := mul_bd (bin (n - k + j) j) ((n : Int) - k + (j + 1)) 4294967296 33 (by omega) (by omega) (by omega) (by omega)
      have hs : Hid (((bin (n - k + j) j : Nat) : Int) * ((n : Int) - k + (j + 1)) / ((j : Int) + 1) = (bin (n - k + (j + 1)) (j + 1) : Nat)) := by
        refine Lib.hid ?_
        have := bin_diag_int (n - k + j) j
        rw [show (((n - k + j : Nat) : Int) + 1) = (n : Int) - k + (j + 1) from by omega] at this
        exact this
      by_cases hlt : j < k
      · go_wp2
        go_round
        case rel => exact ⟨j + 1, by omega, by go_num, by rw [← hs.out]⟩
        case measure => simp [intOf]; omega
      · go_wp2
        go_ret
        exact ⟨ret_int (by rw [hb.out]; have : j = k := by omega
                           rw [this]; congr 2; omega), rfl⟩

theorem pow_bd (x : Int) (h0 : 0 ≤ x) (h1 : x ≤ 12) (j : Nat) (hj : j ≤ 10) : 0 ≤ x ^ j ∧ x ^ j ≤ 61917364224 := by
  refine ⟨Int.pow_nonneg h0, ?_⟩
  have h2 : x ^ j ≤ 12 ^ j := by
    clear hj
    induction j with
    | zero => simp
    | succ j ih =>
      rw [Int.pow_succ, Int.pow_succ]
      exact Int.mul_le_mul ih h1 h0 (Int.pow_nonneg (by omega))
  have h3 : ∀ j : Fin 11, (12 : Int) ^ j.val ≤ 61917364224 := by decide
  exact Int.le_trans h2 (h3 ⟨j, by omega⟩)
theorem two_bd (j : Nat) (hj : j ≤ 32) : 1 ≤ (2 : Int) ^ j ∧ (2 : Int) ^ j ≤ 4294967296 := by
  have h3 : ∀ j : Fin 33, 1 ≤ (2 : Int) ^ j.val ∧ (2 : Int) ^ j.val ≤ 4294967296 := by decide
  exact h3 ⟨j, by omega⟩

set_option maxHeartbeats 400000 in
theorem spec_power (n : Int) (w : World) (h0 : 0 ≤ n) (h1 : n ≤ 32) :
    Calls Try.prog 48 #[.int .i64 n] w fun e w' => e = .returned (.int .i64 (2 ^ n.toNat)) ∧ w = w' := by
  obtain ⟨n, rfl⟩ := Int.eq_ofNat_of_zero_le h0
  rw [Int.toNat_natCast]
  go_enter Try.func48, Try.ntmps48
  go_wp2
  go_loop [0, 3] (fun i o => ∃ j : Nat, j ≤ n ∧ i = .int .i64 ((n : Int) - j) ∧ o = .int .i64 (2 ^ j)) (fun i _ => (intOf i).toNat)
  case atStart => exact ⟨0, Nat.zero_le _, by simp, by simp⟩
  case round =>
    obtain ⟨j, hj, rfl, rfl⟩ := hrel
    have hbd := two_bd j (by omega)
    by_cases hlt : j < n
    · go_wp2
      go_round
      case rel => exact ⟨j + 1, by omega, by go_num, by rw [Int.pow_succ, Int.mul_comm]⟩
      case measure => simp [intOf]; omega
    · go_wp2
      go_ret
      exact ⟨ret_int (by have : j = n := by omega
                         rw [this]), rfl⟩

set_option maxHeartbeats 400000 in
theorem impl_power (x n : Int) (w : World) (hx0 : 0 ≤ x) (hx1 : x ≤ 12) (h0 : 0 ≤ n) (h1 : n ≤ 10) :
    Calls Try.prog 78 #[.int .i64 x, .int .i64 n] w fun e w' => e = .returned (.int .i64 (x ^ n.toNat)) ∧ w = w' := by
  obtain ⟨n, rfl⟩ := Int.eq_ofNat_of_zero_le h0
  rw [Int.toNat_natCast]
  go_enter Try.func78, Try.ntmps78
  go_wp2
  go_loop [5, 7] (fun o i => ∃ j : Nat, j ≤ n ∧ i = .int .i64 j ∧ o = .int .i64 (x ^ j)) (fun _ i => n - (intOf i).toNat)
  case atStart => exact ⟨0, Nat.zero_le _, by simp, by simp⟩
  case round =>
    obtain ⟨j, hj, rfl, rfl⟩ := hrel
    have hbd := pow_bd x hx0 hx1 j (by omega)
    have hm := mul_bd (x ^ j) x 61917364224 12 (by omega) (by omega) (by omega) (by omega)
    by_cases hlt : j < n
    · go_wp2
      go_round
      case rel => exact ⟨j + 1, by omega, by go_num, by rw [Int.pow_succ]⟩
      case measure => simp [intOf]; omega
    · go_wp2
      go_ret
      exact ⟨ret_int (by have : j = n := by omega
                         rw [this]), rfl⟩
end Go.Proofs.Ytcfeeobjllnofaa
