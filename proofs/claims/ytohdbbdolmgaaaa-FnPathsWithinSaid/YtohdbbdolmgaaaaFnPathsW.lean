/-
  The walk of laws.FnPathsWithin.
-/
import Derived.Test.YtohdbbdolmgaaaaLawsN
import Derived.Test.YtohdbbdolmgaaaaLawsH
import Derived.Test.YtohdbbdolmgaaaaPaths
namespace Go.Proofs.Ytohdbbdolmgaaaa
open Go.RowKit
set_option linter.unusedVariables false

theorem draw_PathsWithin (a : Option Addr) (len cap : Nat) (z : List Int) (w : World) (h : IsRow .u8 w a len cap z) :
    Calls Try.prog 24 #[.slice a len cap] w (RetD3 w (fun m n d => (0 ≤ m ∧ m ≤ 7) ∧ (1 ≤ n ∧ n ≤ 6) ∧ -1 ≤ d ∧ d ≤ 39)) := by
  go_enter Try.func24, Try.ntmps24
  go_wp2_with fail
  refine (rdr_new a len cap z w h).mono ?_
  rintro e w0 ⟨v, rfl, hR0, hb0⟩
  clear h
  go_wp2_with fail
  refine (rdr_lit w w0 v 0 [3, 4, 2, 5, 1, 6, 0, 7] 8 rfl (by omega) (by omega) hR0 hb0 (by omega)).mono ?_
  rintro e w1 ⟨r1, rfl, f1, hR1, hb1, hg1⟩
  have F1 := Lib.hid f1
  simp only [List.mem_cons, List.not_mem_nil, or_false] at f1
  have g1 : -10000000 ≤ r1 ∧ r1 ≤ 10000000 := by omega
  clear hg1 f1 hR0 hb0
  go_wp2_with fail
  refine (rdr_lit w w1 v 1 [3, 2, 4, 1, 6, 5] 6 rfl (by omega) (by omega) hR1 hb1 (by omega)).mono ?_
  rintro e w2 ⟨r2, rfl, f2, hR2, hb2, hg2⟩
  have F2 := Lib.hid f2
  simp only [List.mem_cons, List.not_mem_nil, or_false] at f2
  have g2 : -10000000 ≤ r2 ∧ r2 ≤ 10000000 := by omega
  clear hg2 f2 hR1 hb1
  go_wp2_with fail
  refine (rdr_pick w w2 v 2 (12) hR2 hb2 (by omega) (by omega)).mono ?_
  rintro e w3 ⟨r3, rfl, ⟨f3a, f3b, f3c⟩, hR3, hb3, hg3⟩
  have f3 := f3b (by omega)
  clear hg3 f3b f3c hR2 hb2
  go_wp2_with fail
  refine (rdr_pick w w3 v 3 (40) hR3 hb3 (by omega) (by omega)).mono ?_
  rintro e w4 ⟨r4, rfl, ⟨f4a, f4b, f4c⟩, hR4, hb4, hg4⟩
  have f4 := f4b (by omega)
  clear hg4 f4b f4c hR3 hb3
  go_wp2_with fail
  refine (rdr_lit w w4 v 4 [r3, r4, 36, 0, -1] 5 rfl (by omega) (by omega) hR4 hb4 (by omega)).mono ?_
  rintro e w5 ⟨r5, rfl, f5, hR5, hb5, hg5⟩
  have F5 := Lib.hid f5
  simp only [List.mem_cons, List.not_mem_nil, or_false] at f5
  have g5 : -10000000 ≤ r5 ∧ r5 ≤ 10000000 := by omega
  clear hg5 f5 hR4 hb4
  have HP : Hid (RetD3 w (fun m n d => (0 ≤ m ∧ m ≤ 7) ∧ (1 ≤ n ∧ n ≤ 6) ∧ -1 ≤ d ∧ d ≤ 39) (.returned (.tuple #[.int .i64 (r1), .int .i64 (r2), .int .i64 (r5)])) w5) := by
    refine ⟨r1, r2, r5, rfl, ?_, hb5⟩
    have F1 := F1.out 
    have F2 := F2.out 
    have F5 := F5.out
    simp only [List.mem_cons, List.not_mem_nil, or_false] at F1 F2 F5
    omega
  clear hR5 hb5
  go_wp2_with fail
  go_ret3
  exact HP.out

theorem fwd_sym (m n d : Int) : ∀ s i k, i + k = s → fwd m n d i k = fwd n m d k i := by
  intro s
  induction s with
  | zero =>
    intro i k h
    have h1 : i = 0 := by omega
    have h2 : k = 0 := by omega
    subst h1 h2
    unfold fwd
    simp
  | succ s ih =>
    intro i k h
    unfold fwd
    have e : max ((i : Int) * n - k * m) (-((i : Int) * n - k * m)) = max ((k : Int) * m - i * n) (-((k : Int) * m - i * n)) := by omega
    rw [e]
    split
    · rfl
    · match i, k, h with
      | i + 1, 0, h => exact ih i 0 (by omega)
      | 0, k + 1, h => exact ih 0 k (by omega)
      | i + 1, k + 1, h =>
        show fwd m n d i (k + 1) + fwd m n d (i + 1) k = fwd n m d k (i + 1) + fwd n m d (k + 1) i
        rw [ih i (k + 1) (by omega), ih (i + 1) k (by omega), Int.add_comm]
theorem fwd_nonneg (m n d : Int) : ∀ s i k, i + k = s → 0 ≤ fwd m n d i k := by
  intro s
  induction s with
  | zero =>
    intro i k h
    have h1 : i = 0 := by omega
    have h2 : k = 0 := by omega
    subst h1 h2
    unfold fwd
    split <;> simp
  | succ s ih =>
    intro i k h
    unfold fwd
    split
    · omega
    · match i, k, h with
      | i + 1, 0, h => exact ih i 0 (by omega)
      | 0, k + 1, h => exact ih 0 k (by omega)
      | i + 1, k + 1, h =>
        show 0 ≤ fwd m n d i (k + 1) + fwd m n d (i + 1) k
        have := ih i (k + 1) (by omega)
        have := ih (i + 1) k (by omega)
        omega
theorem fwd_mono (m n d : Int) : ∀ s i k, i + k = s → fwd m n d i k ≤ fwd m n (d + 1) i k := by
  intro s
  induction s with
  | zero =>
    intro i k h
    have h1 : i = 0 := by omega
    have h2 : k = 0 := by omega
    subst h1 h2
    unfold fwd
    simp
    split <;> split <;> omega
  | succ s ih =>
    intro i k h
    by_cases hc : d < max ((i : Int) * n - k * m) (-((i : Int) * n - k * m))
    · rw [fwd_out m n d i k hc]; exact fwd_nonneg _ _ _ _ i k rfl
    · unfold fwd
      rw [if_neg hc, if_neg (by omega)]
      match i, k, h with
      | i + 1, 0, h => exact ih i 0 (by omega)
      | 0, k + 1, h => exact ih 0 k (by omega)
      | i + 1, k + 1, h =>
        show fwd m n d i (k + 1) + fwd m n d (i + 1) k ≤ fwd m n (d + 1) i (k + 1) + fwd m n (d + 1) (i + 1) k
        have := ih i (k + 1) (by omega)
        have := ih (i + 1) k (by omega)
        omega
theorem fwd_wide (m n : Nat) : ∀ s i k, i + k = s → i ≤ m → k ≤ n → fwd m n ((m : Int) * n) i k = (bin (i + k) i : Nat) := by
  intro s
  induction s with
  | zero =>
    intro i k h hi hk
    have h1 : i = 0 := by omega
    have h2 : k = 0 := by omega
    subst h1 h2
    have := Int.mul_nonneg (show (0 : Int) ≤ m by omega) (show (0 : Int) ≤ n by omega)
    unfold fwd
    rw [if_neg (by simp; omega)]
    rfl
  | succ s ih =>
    intro i k h hi hk
    have a1 : (i : Int) * n ≤ m * n := Int.mul_le_mul_of_nonneg_right (by omega) (by omega)
    have a2 : (k : Int) * m ≤ n * m := Int.mul_le_mul_of_nonneg_right (by omega) (by omega)
    have a3 : (n : Int) * m = m * n := Int.mul_comm _ _
    have a4 := Int.mul_nonneg (show (0 : Int) ≤ i by omega) (show (0 : Int) ≤ n by omega)
    have a5 := Int.mul_nonneg (show (0 : Int) ≤ k by omega) (show (0 : Int) ≤ m by omega)
    unfold fwd
    rw [if_neg (by omega)]
    match i, k, h with
    | i + 1, 0, h =>
      show fwd m n ((m : Int) * n) i 0 = _
      rw [ih i 0 (by omega) (by omega) (by omega)]
      rw [Nat.add_zero, Nat.add_zero, bin_self, bin_self]
    | 0, k + 1, h =>
      show fwd m n ((m : Int) * n) 0 k = _
      rw [ih 0 k (by omega) (by omega) (by omega), bin_zero, bin_zero]
    | i + 1, k + 1, h =>
      show fwd m n ((m : Int) * n) i (k + 1) + fwd m n ((m : Int) * n) (i + 1) k = _
      rw [ih i (k + 1) (by omega) (by omega) (by omega), ih (i + 1) k (by omega) (by omega) (by omega)]
      have e : i + 1 + (k + 1) = (i + (k + 1)) + 1 := by omega
      rw [e, bin_succ, show i + 1 + k = i + (k + 1) by omega]
      simp
theorem fwd_le (m n d : Int) : ∀ s i k, i + k = s → fwd m n d i k ≤ 2 ^ (i + k) := by
  intro s
  induction s with
  | zero =>
    intro i k h
    have h1 : i = 0 := by omega
    have h2 : k = 0 := by omega
    subst h1 h2
    unfold fwd
    split <;> simp
  | succ s ih =>
    intro i k h
    have hp := one_le_two_pow (i + k)
    unfold fwd
    split
    · omega
    · match i, k, h with
      | i + 1, 0, h =>
        have := ih i 0 (by omega)
        have e : (2 : Int) ^ (i + 1 + 0) = 2 ^ (i + 0) * 2 := by rw [show i + 1 + 0 = (i + 0) + 1 by omega, Int.pow_succ] <;> rfl
        have := one_le_two_pow (i + 0)
        show fwd m n d i 0 ≤ _
        omega
      | 0, k + 1, h =>
        have := ih 0 k (by omega)
        have e : (2 : Int) ^ (0 + (k + 1)) = 2 ^ (0 + k) * 2 := by rw [show 0 + (k + 1) = (0 + k) + 1 by omega, Int.pow_succ]
        have := one_le_two_pow (0 + k)
        show fwd m n d 0 k ≤ _
        omega
      | i + 1, k + 1, h =>
        have h1 := ih i (k + 1) (by omega)
        have h2 := ih (i + 1) k (by omega)
        have e : (2 : Int) ^ (i + 1 + (k + 1)) = 2 ^ (i + (k + 1)) * 2 := by rw [show i + 1 + (k + 1) = (i + (k + 1)) + 1 by omega, Int.pow_succ]
        rw [show i + 1 + k = i + (k + 1) by omega] at h2
        show fwd m n d i (k + 1) + fwd m n d (i + 1) k ≤ _
        omega

set_option maxHeartbeats 1000000 in
theorem walk_FnPathsWithin (a0 : Option Addr) (len0 cap0 : Nat) (z0 : List Int) (w : World) (w0 : IsRow .u8 w a0 len0 cap0 z0) :
    Calls Try.prog 5 #[.slice a0 len0 cap0] w fun e w' => e = .returned (.bool true) ∧ Below w.heap.size w w' := by
  by_cases hbig : 1048576 < len0
  · have hbig' : decide ((1048576 : Int) < (len0 : Int)) = true := decide_eq_true (by omega)
    go_enter Try.func5, Try.ntmps5
    go_wp2_with fail
    go_ret
    exact ⟨rfl, Below.refl _ _⟩
  · have hbig' : decide ((1048576 : Int) < (len0 : Int)) = false := decide_eq_false (by omega)
    go_enter Try.func5, Try.ntmps5
    go_wp2_with fail
    refine (draw_PathsWithin a0 len0 cap0 z0 w w0).mono ?_
    clear hbig hbig' w0
    rintro e w1 ⟨m, n, d, rfl, ⟨⟨hm0, hm1⟩, ⟨hn0, hn1⟩, hd0, hd1⟩, hb1⟩
    have hlaw : pathsV m n d = -1 ∨ ∃ mm nn : Nat, m = mm ∧ n = nn ∧ 1 ≤ mm ∧ mm ≤ 6 ∧ 1 ≤ nn ∧ nn ≤ 6 ∧ 0 ≤ pathsV m n d ∧ pathsV m n d ≤ 4096 ∧ pathsV n m d = pathsV m n d ∧ pathsV m n d ≤ pathsV m n (d + 1) ∧ pathsV m n (m * n) = (bin (mm + nn) mm : Nat) := by
      by_cases h : (1 ≤ m ∧ m ≤ 6) ∧ 0 ≤ d
      · right
        obtain ⟨⟨h1, h2⟩, h3⟩ := h
        obtain ⟨mm, rfl⟩ := Int.eq_ofNat_of_zero_le (show 0 ≤ m by omega)
        obtain ⟨nn, rfl⟩ := Int.eq_ofNat_of_zero_le (show 0 ≤ n by omega)
        have i1 := inB_true (n := (mm : Int)) (lo := 1) (hi := 6) ⟨h1, h2⟩
        have i2 := inB_true (n := (nn : Int)) (lo := 1) (hi := 6) ⟨by omega, by omega⟩
        have hmn := Int.mul_nonneg (show (0 : Int) ≤ mm by omega) (show (0 : Int) ≤ nn by omega)
        refine ⟨mm, nn, rfl, rfl, by omega, by omega, by omega, by omega, ?_⟩
        rw [pathsV_yes i1 i2 h3, pathsV_yes i2 i1 h3, pathsV_yes i1 i2 (show 0 ≤ d + 1 by omega), pathsV_yes i1 i2 hmn]
        simp only [Int.toNat_natCast]
        have hle := fwd_le mm nn d _ mm nn rfl
        have hp : (2 : Int) ^ (mm + nn) ≤ 4096 := by
          have := two_pow_le (show mm + nn ≤ 12 by omega)
          have e : (2 : Int) ^ (mm + nn) = ((2 ^ (mm + nn) : Nat) : Int) := by simp
          rw [e]; omega
        exact ⟨fwd_nonneg _ _ _ _ mm nn rfl, by omega, (fwd_sym mm nn d _ mm nn rfl).symm, fwd_mono _ _ _ _ mm nn rfl, fwd_wide mm nn _ mm nn rfl (Nat.le_refl _) (Nat.le_refl _)⟩
      · left
        apply pathsV_no
        by_cases h1 : 1 ≤ m ∧ m ≤ 6
        · right; right; exact Int.not_le.1 (fun h2 => h ⟨h1, h2⟩)
        · left; exact inB_false.2 h1
    go_wp2_with fail
    refine (impl_PathsWithin m n d w1).mono ?_
    rintro e w2 ⟨rfl, hb2⟩
    go_wp2_with fail
    refine (spec_PathsWithin m n d w2 (by omega)).mono ?_
    rintro e w3 ⟨rfl, rfl⟩
    have q2 := hb1.trans (hb2.mono hb1.size)
    clear hb1 hb2
    have hq : (pathsV m n d != pathsV m n d) = false := by simp
    rcases hlaw with hE | ⟨mm, nn, rfl, rfl, h1, h2, h3, h4, h5, h6, h7, h8, h9⟩
    · have hlt : decide (pathsV m n d < 0) = true := by rw [hE]; rfl
      clear hE
      go_wp2_with fail
      refine (spec_PathsWithin m n d w2 (by omega)).mono ?_
      rintro e w3 ⟨rfl, rfl⟩
      go_wp2_with fail
      go_ret
      exact ⟨by simp, q2⟩
    · have hlt : decide (pathsV mm nn d < 0) = false := decide_eq_false (by omega)
      have ht1 : (pathsV nn mm d == pathsV mm nn d) = true := by rw [h7]; simp
      have ht2 : decide (pathsV mm nn d ≤ pathsV mm nn (d + 1)) = true := decide_eq_true h8
      have ht3 : (pathsV mm nn ((mm : Int) * nn) == ((bin (mm + nn) mm : Nat) : Int)) = true := by rw [h9]; simp
      have hmul := mul_bd (mm : Int) (nn : Int) 6 6 (by omega) (by omega) (by omega) (by omega)
      have hbin := bin_le32 (mm + nn) mm (by omega)
      have hc := fun wx => laws_choose (mm + nn) mm wx (by omega) (by omega)
      rw [Int.natCast_add] at hc
      have HC := Lib.hid hc
      clear hc h7 h8 h9 hq
      go_wp2_with fail
      refine (impl_PathsWithin nn mm d w2).mono ?_
      rintro e w3 ⟨rfl, hb3⟩
      go_wp2_with fail
      refine (impl_PathsWithin mm nn (d + 1) w3).mono ?_
      rintro e w4 ⟨rfl, hb4⟩
      go_wp2_with fail
      refine (impl_PathsWithin mm nn ((mm : Int) * nn) w4).mono ?_
      rintro e w5 ⟨rfl, hb5⟩
      go_wp2_with fail
      refine (HC.out _).mono ?_
      rintro e w6 ⟨rfl, rfl⟩
      go_wp2_with fail
      go_ret
      exact ⟨rfl, q2.trans (((hb3.trans (hb4.mono hb3.size)).trans (hb5.mono (Nat.le_trans hb3.size hb4.size))).mono q2.size)⟩
end Go.Proofs.Ytohdbbdolmgaaaa
