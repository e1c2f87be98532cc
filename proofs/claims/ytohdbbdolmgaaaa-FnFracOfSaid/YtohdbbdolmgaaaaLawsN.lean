/-
  Contracts of laws.raised and laws.choose, and what is drawn.
-/
import Derived.Test.YtohdbbdolmgaaaaNum
import Derived.Test.YtohdbbdolmgaaaaRdr
namespace Go.Proofs.Ytohdbbdolmgaaaa
open Go.RowKit
set_option linter.unusedVariables false

theorem pow_bd16 (x : Int) (h0 : 0 ≤ x) (h1 : x ≤ 12) (j : Nat) (hj : j ≤ 10 ∨ (x ≤ 2 ∧ j ≤ 32)) : 0 ≤ x ^ j ∧ x ^ j ≤ 61917364224 := by
  rcases hj with hj | ⟨hx, hj⟩
  · exact pow_bd x h0 h1 j hj
  · have : x = 0 ∨ x = 1 ∨ x = 2 := by omega
    rcases this with h | h | h
    · subst h
      cases j with
      | zero => simp
      | succ j => rw [Int.pow_succ]; simp
    · subst h; rw [Int.one_pow]; omega
    · subst h; have := two_bd j hj; omega

theorem laws_raised (x n : Int) (w : World) (hx0 : 0 ≤ x) (hx1 : x ≤ 12) (h0 : 0 ≤ n) (h1 : n ≤ 10 ∨ (x ≤ 2 ∧ n ≤ 32)) :
    Calls Try.prog 30 #[.int .i64 x, .int .i64 n] w fun e w' => e = .returned (.int .i64 (x ^ n.toNat)) ∧ w = w' := by
  obtain ⟨n, rfl⟩ := Int.eq_ofNat_of_zero_le h0
  rw [Int.toNat_natCast]
  go_enter Try.func30, Try.ntmps30
  go_wp2
  go_loop [1, 5] (fun i o => ∃ j : Nat, j ≤ n ∧ i = .int .i64 ((n : Int) - j) ∧ o = .int .i64 (x ^ j)) (fun i _ => (intOf i).toNat)
  case atStart => exact ⟨0, Nat.zero_le _, by simp, by simp⟩
  case round =>
    obtain ⟨j, hj, rfl, rfl⟩ := hrel
    have hbd := pow_bd16 x hx0 hx1 j (by omega)
    have hm := mul_bd (x ^ j) x 61917364224 12 (by omega) (by omega) (by omega) (by omega)
    by_cases hlt : j < n
    · go_wp2
      go_round
      case rel => exact ⟨j + 1, by omega, by go_num, by rw [Int.pow_succ]⟩
      case measure => simp [intOf]; omega
    · go_wp2
      go_ret
      exact ⟨ret_int (by have : j = n := by omega
                         rw [this]), rfl⟩

set_option maxHeartbeats 400000 in
theorem laws_choose (n k : Nat) (w : World) (h1 : n ≤ 32) (hk : k ≤ n) :
    Calls Try.prog 19 #[.int .i64 n, .int .i64 k] w fun e w' => e = .returned (.int .i64 (bin n k : Nat)) ∧ w = w' := by
  go_enter Try.func19, Try.ntmps19
  go_wp2
  go_loop [5, 6] (fun o i => ∃ j : Nat, j ≤ k ∧ i = .int .i64 (j : Int) ∧ o = .int .i64 (bin n j : Nat)) (fun _ i => k - (intOf i).toNat)
  case atStart => exact ⟨0, Nat.zero_le _, rfl, by rw [bin_zero]; rfl⟩
  case round =>
    obtain ⟨j, hj, rfl, rfl⟩ := hrel
    have hb := bin_le32 n j h1
    have hn := Lib.hid (bin_next_int n j (by omega))
    have hm := mul_bd ((bin n j : Nat) : Int) ((n : Int) - j) 4294967296 32 (by omega) (by omega) (by omega) (by omega)
    by_cases hlt : j < k
    · go_wp2
      go_round
      case rel => exact ⟨j + 1, by omega, by go_num, by rw [hn.out]⟩
      case measure => simp [intOf]; omega
    · have e : Hid (j = k) := by show _ = _; omega
      go_wp2
      go_ret
      exact ⟨ret_int (by rw [e.out]), rfl⟩

/-- Drawn numbers. -/
def RetD1 (w : World) (P : Int → Prop) (e : Ending) (w' : World) : Prop := ∃ r : Int, e = .returned (.int .i64 r) ∧ P r ∧ Below w.heap.size w w'
def RetD2 (w : World) (P : Int → Int → Prop) (e : Ending) (w' : World) : Prop := ∃ a b : Int, e = .returned (.tuple #[.int .i64 a, .int .i64 b]) ∧ P a b ∧ Below w.heap.size w w'
def RetD3 (w : World) (P : Int → Int → Int → Prop) (e : Ending) (w' : World) : Prop := ∃ a b c : Int, e = .returned (.tuple #[.int .i64 a, .int .i64 b, .int .i64 c]) ∧ P a b c ∧ Below w.heap.size w w'
def RetD4 (w : World) (P : Int → Int → Int → Int → Prop) (e : Ending) (w' : World) : Prop := ∃ a b c d : Int, e = .returned (.tuple #[.int .i64 a, .int .i64 b, .int .i64 c, .int .i64 d]) ∧ P a b c d ∧ Below w.heap.size w w'
end Go.Proofs.Ytohdbbdolmgaaaa
