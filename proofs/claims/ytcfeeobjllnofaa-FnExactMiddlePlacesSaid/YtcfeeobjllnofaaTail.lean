/-
  Contracts of chapter 4: the terms, the tails.
-/
import Derived.Test.YtcfeeobjllnofaaNum
import Derived.Test.YtcfeeobjllnofaaSum
import Derived.Handy
namespace Go.Proofs.Ytcfeeobjllnofaa
open Go.RowKit

/-- The ways with just h hits. -/
def termI (n h u v : Int) : Int := binI n h * u ^ h.toNat * (v - u) ^ (n - h).toNat

theorem binI_bd10 (n k : Int) (_h0 : 0 ≤ n) (h : n ≤ 10) : 0 ≤ binI n k ∧ binI n k ≤ 1024 := by
  refine ⟨binI_nonneg n k, ?_⟩
  unfold binI
  split
  · omega
  · have := bin_le n.toNat k.toNat
    have h2 : (2 : Nat) ^ n.toNat ≤ 2 ^ 10 := two_pow_le (by omega)
    have h3 : (2 : Nat) ^ 10 = 1024 := by decide
    omega
theorem pow_mono (x y : Int) (h0 : 0 ≤ x) (h1 : x ≤ y) (j : Nat) : x ^ j ≤ y ^ j := by
  induction j with
  | zero => simp
  | succ j ih =>
    rw [Int.pow_succ, Int.pow_succ]
    exact Int.mul_le_mul ih h1 h0 (Int.pow_nonneg (by omega))
theorem two_pows (u v : Int) (a b : Nat) (u0 : 0 ≤ u) (u1 : u ≤ v) (v1 : v ≤ 12) (hab : a + b ≤ 10) : 0 ≤ u ^ a * (v - u) ^ b ∧ u ^ a * (v - u) ^ b ≤ 61917364224 := by
  refine ⟨Int.mul_nonneg (Int.pow_nonneg u0) (Int.pow_nonneg (by omega)), ?_⟩
  have h1 := Int.mul_le_mul (pow_mono u v u0 u1 a) (pow_mono (v - u) v (by omega) (by omega) b) (Int.pow_nonneg (by omega)) (Int.pow_nonneg (by omega))
  rw [← Int.pow_add] at h1
  have := pow_bd v (by omega) v1 (a + b) hab
  omega
theorem termI_bd (n h u v : Int) (h0 : 0 ≤ n) (h1 : n ≤ 10) (k0 : 0 ≤ h) (k1 : h ≤ n) (u0 : 0 ≤ u) (u1 : u ≤ v) (v1 : v ≤ 12) : 0 ≤ termI n h u v ∧ termI n h u v ≤ 63403380965376 := by
  have b1 := binI_bd10 n h h0 h1
  have m1 := two_pows u v h.toNat (n - h).toNat u0 u1 v1 (by omega)
  have m2 := mul_bd (binI n h) (u ^ h.toNat * (v - u) ^ (n - h).toNat) 1024 61917364224 b1.1 b1.2 m1.1 m1.2
  rw [← Int.mul_assoc] at m2
  unfold termI
  omega

set_option maxHeartbeats 400000 in
theorem impl_exact (n h u v : Int) (w : World) (h0 : 0 ≤ n) (h1 : n ≤ 10) (k0 : 0 ≤ h) (k1 : h ≤ n) (u0 : 0 ≤ u) (u1 : u ≤ v) (v1 : v ≤ 12) :
    Calls Try.prog 71 #[.int .i64 n, .int .i64 h, .int .i64 u, .int .i64 v] w fun e w' => e = .returned (.int .i64 (termI n h u v)) ∧ w = w' := by
  have b1 := binI_bd10 n h h0 h1
  have b2 := pow_bd u u0 (by omega) h.toNat (by omega)
  have b3 := pow_bd (v - u) (by omega) (by omega) (n - h).toNat (by omega)
  have m1 := mul_bd (binI n h) (u ^ h.toNat) 1024 61917364224 b1.1 b1.2 b2.1 b2.2
  have m2 := termI_bd n h u v h0 h1 k0 k1 u0 u1 v1
  unfold termI at m2 ⊢
  go_enter Try.func71, Try.ntmps71
  go_wp2_with (first | (go_at_call 45; refine (impl_choose _ _ _ (by omega) (by omega)).mono ?_; rintro e w' ⟨rfl, rfl⟩) | (go_at_call 78; refine (impl_power _ _ _ (by omega) (by omega) (by omega) (by omega)).mono ?_; rintro e w' ⟨rfl, rfl⟩))
  go_ret
  exact ⟨rfl, rfl⟩
end Go.Proofs.Ytcfeeobjllnofaa
