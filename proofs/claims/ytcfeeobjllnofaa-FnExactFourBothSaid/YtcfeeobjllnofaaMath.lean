/-
  Plain mathematics, no program in sight: binomials, factorials, powers.
-/
import Derived.Lib.Hide
namespace Go.Proofs.Ytcfeeobjllnofaa

/-- How many sets of k of n things there are. -/
def bin : Nat → Nat → Nat
  | _, 0 => 1
  | 0, _ + 1 => 0
  | n + 1, k + 1 => bin n k + bin n (k + 1)

theorem bin_zero (n : Nat) : bin n 0 = 1 := by cases n <;> rfl
theorem bin_succ (n k : Nat) : bin (n + 1) (k + 1) = bin n k + bin n (k + 1) := rfl
theorem bin_gt (n : Nat) : ∀ k, n < k → bin n k = 0 := by
  induction n with
  | zero => intro k h; cases k with
    | zero => omega
    | succ k => rfl
  | succ n ih => intro k h; cases k with
    | zero => omega
    | succ k => rw [bin_succ, ih k (by omega), ih (k + 1) (by omega)]
theorem bin_self (n : Nat) : bin n n = 1 := by
  induction n with
  | zero => rfl
  | succ n ih => rw [bin_succ, ih, bin_gt n (n + 1) (by omega)]
theorem bin_pos (n : Nat) : ∀ k, k ≤ n → 1 ≤ bin n k := by
  induction n with
  | zero => intro k h; have : k = 0 := by omega
            subst this; exact Nat.le_refl _
  | succ n ih => intro k h; cases k with
    | zero => rw [bin_zero]; exact Nat.le_refl _
    | succ k => rw [bin_succ]; have := ih k (by omega); omega
theorem bin_le (n : Nat) : ∀ k, bin n k ≤ 2 ^ n := by
  induction n with
  | zero => intro k; cases k with
    | zero => exact Nat.le_refl _
    | succ k => exact Nat.zero_le _
  | succ n ih => intro k; cases k with
    | zero => rw [bin_zero]; exact Nat.one_le_two_pow
    | succ k => rw [bin_succ, Nat.pow_succ]; have := ih k; have := ih (k + 1); omega
theorem bin_mul (n : Nat) : ∀ k, (k + 1) * bin (n + 1) (k + 1) = (n + 1) * bin n k := by
  induction n with
  | zero => intro k; cases k with
    | zero => rfl
    | succ k => show (k + 1 + 1) * bin 1 (k + 2) = _; rw [bin_gt 1 (k + 2) (by omega)]; simp [bin]
  | succ n ih => intro k; cases k with
    | zero => rw [bin_succ, bin_zero]; have := ih 0; rw [bin_zero] at this; simp only [Nat.zero_add, Nat.one_mul, Nat.mul_one] at *; rw [this]; omega
    | succ k =>
      have h1 := ih k
      have h2 := ih (k + 1)
      rw [bin_succ (n + 1) (k + 1), bin_succ n k]
      have e1 : bin (n + 1) (k + 1) = bin n k + bin n (k + 1) := rfl
      rw [e1] at h1
      have e2 : (k + 1 + 1) * (bin n k + bin n (k + 1) + bin (n + 1) (k + 1 + 1)) = ((k + 1) * (bin n k + bin n (k + 1)) + (bin n k + bin n (k + 1))) + (k + 1 + 1) * bin (n + 1) (k + 1 + 1) := by
        rw [Nat.mul_add, Nat.add_mul (k + 1) 1, Nat.one_mul]
      rw [e2, h1, h2, Nat.add_mul (n + 1) 1, Nat.one_mul, Nat.mul_add]; omega
/-- (k+1) C(n,k+1) = (n-k) C(n,k) -/
theorem bin_next (n k : Nat) (h : k ≤ n) : bin n (k + 1) * (k + 1) = bin n k * (n - k) := by
  have h1 := bin_mul n k
  rw [bin_succ, Nat.mul_add] at h1
  have h2 : (n + 1) * bin n k = (k + 1) * bin n k + (n - k) * bin n k := by rw [← Nat.add_mul]; congr 1; omega
  rw [h2] at h1
  rw [Nat.mul_comm (bin n (k + 1)), Nat.mul_comm (bin n k) (n - k)]; omega
theorem bin_next_int (n k : Nat) (h : k ≤ n) : ((bin n k : Nat) : Int) * ((n : Int) - k) / ((k : Int) + 1) = (bin n (k + 1) : Nat) := by
  have h1 := bin_next n k h
  have h2 : ((bin n k : Nat) : Int) * ((n : Int) - k) = ((bin n (k + 1) : Nat) : Int) * ((k : Int) + 1) := by
    have : ((n : Int) - k) = ((n - k : Nat) : Int) := by omega
    rw [this, ← Int.natCast_mul, ← h1, Int.natCast_mul]; rfl
  rw [h2, Int.mul_ediv_cancel _ (by omega)]
theorem bin_diag_int (n k : Nat) : ((bin n k : Nat) : Int) * ((n : Int) + 1) / ((k : Int) + 1) = (bin (n + 1) (k + 1) : Nat) := by
  have h1 := bin_mul n k
  have h2 : ((bin n k : Nat) : Int) * ((n : Int) + 1) = ((bin (n + 1) (k + 1) : Nat) : Int) * ((k : Int) + 1) := by
    have e : ((n : Int) + 1) = ((n + 1 : Nat) : Int) := by omega
    have e' : ((k : Int) + 1) = ((k + 1 : Nat) : Int) := by omega
    rw [e, e', ← Int.natCast_mul, ← Int.natCast_mul, Nat.mul_comm (bin n k), ← h1, Nat.mul_comm (k + 1)]
  rw [h2, Int.mul_ediv_cancel _ (by omega)]
theorem bin_comm (a : Nat) : ∀ b, bin (a + b) a = bin (a + b) b := by
  induction a with
  | zero => intro b; rw [Nat.zero_add, bin_zero, bin_self]
  | succ a ih => intro b; induction b with
    | zero => rw [Nat.add_zero, bin_self, bin_zero]
    | succ b ihb =>
      have e : a + 1 + (b + 1) = (a + 1 + b) + 1 := by omega
      rw [e, bin_succ, bin_succ]
      have h1 := ih (b + 1)
      have e1 : a + (b + 1) = a + 1 + b := by omega
      rw [e1] at h1
      rw [h1, ihb]; omega
/-- with k of whatever sign -/
def binI (n k : Int) : Int := if k < 0 then 0 else (bin n.toNat k.toNat : Nat)
theorem binI_nat (n k : Nat) : binI n k = (bin n k : Nat) := by unfold binI; rw [if_neg (by omega)]; simp
theorem binI_nonneg (n k : Int) : 0 ≤ binI n k := by unfold binI; split <;> omega
theorem two_pow_le {a b : Nat} (h : a ≤ b) : (2 : Nat) ^ a ≤ 2 ^ b := Nat.pow_le_pow_right (by omega) h
theorem binI_le (n k : Int) (h : n ≤ 32) : binI n k ≤ 4294967296 := by
  unfold binI
  split
  · omega
  · have := bin_le n.toNat k.toNat
    have h2 : (2 : Nat) ^ n.toNat ≤ 2 ^ 32 := two_pow_le (by omega)
    have h3 : (2 : Nat) ^ 32 = 4294967296 := by decide
    omega
theorem bin_le32 (n k : Nat) (h : n ≤ 32) : bin n k ≤ 4294967296 := by
    have := bin_le n k
    have h2 : (2 : Nat) ^ n ≤ 2 ^ 32 := two_pow_le (by omega)
    have h3 : (2 : Nat) ^ 32 = 4294967296 := by decide
    omega

/-- The product of the numbers up to n. -/
def fact : Nat → Nat
  | 0 => 1
  | n + 1 => (n + 1) * fact n
theorem fact_le (n : Nat) (h : n ≤ 10) : fact n ≤ 3628800 := by
  have : ∀ n : Fin 11, fact n.val ≤ 3628800 := by decide
  exact this ⟨n, by omega⟩
theorem fact_pos (n : Nat) : 1 ≤ fact n := by
  induction n with
  | zero => exact Nat.le_refl _
  | succ n ih => show 1 ≤ (n + 1) * fact n; exact Nat.mul_pos (by omega) ih
end Go.Proofs.Ytcfeeobjllnofaa
