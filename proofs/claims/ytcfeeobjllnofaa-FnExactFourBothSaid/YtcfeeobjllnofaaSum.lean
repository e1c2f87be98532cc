/-
  Plain mathematics: sums over 0 .. n-1.
-/
import Derived.Test.YtcfeeobjllnofaaMath
namespace Go.Proofs.Ytcfeeobjllnofaa

def sumTo (f : Nat → Int) : Nat → Int
  | 0 => 0
  | k + 1 => sumTo f k + f k
theorem sumTo_zero (f : Nat → Int) : sumTo f 0 = 0 := rfl
theorem sumTo_succ (f : Nat → Int) (k : Nat) : sumTo f (k + 1) = sumTo f k + f k := rfl
theorem sumTo_bd (f : Nat → Int) (M : Int) : ∀ n : Nat, (∀ k, k < n → 0 ≤ f k ∧ f k ≤ M) → 0 ≤ sumTo f n ∧ sumTo f n ≤ n * M := by
  intro n
  induction n with
  | zero => intro _; simp [sumTo_zero]
  | succ n ih =>
    intro h
    have h1 := ih (fun k hk => h k (by omega))
    have h2 := h n (by omega)
    rw [sumTo_succ]
    have e : ((n + 1 : Nat) : Int) * M = n * M + M := by rw [Int.natCast_add, Int.add_mul]; simp
    omega
theorem sumTo_congr (f g : Nat → Int) : ∀ n : Nat, (∀ k, k < n → f k = g k) → sumTo f n = sumTo g n := by
  intro n
  induction n with
  | zero => intro _; rfl
  | succ n ih => intro h; rw [sumTo_succ, sumTo_succ, ih (fun k hk => h k (by omega)), h n (by omega)]
theorem sumTo_none (f : Nat → Int) : ∀ n : Nat, (∀ k, k < n → f k = 0) → sumTo f n = 0 := by
  intro n
  induction n with
  | zero => intro _; rfl
  | succ n ih => intro h; rw [sumTo_succ, ih (fun k hk => h k (by omega)), h n (by omega)]; rfl
theorem sumTo_add (f g : Nat → Int) : ∀ n : Nat, sumTo (fun k => f k + g k) n = sumTo f n + sumTo g n := by
  intro n
  induction n with
  | zero => rfl
  | succ n ih => rw [sumTo_succ, sumTo_succ, sumTo_succ, ih]; omega
theorem sumTo_front (f : Nat → Int) : ∀ n : Nat, sumTo f (n + 1) = f 0 + sumTo (fun k => f (k + 1)) n := by
  intro n
  induction n with
  | zero => simp [sumTo]
  | succ n ih => rw [sumTo_succ, ih, sumTo_succ]; omega
theorem sumTo_rev (f : Nat → Int) : ∀ n : Nat, sumTo f n = sumTo (fun k => f (n - 1 - k)) n := by
  intro n
  induction n with
  | zero => rfl
  | succ n ih =>
    rw [sumTo_succ, sumTo_front, ih, Int.add_comm]
    congr 1
    refine sumTo_congr _ _ _ (fun k hk => ?_)
    congr 1; omega
theorem sumTo_mul (f : Nat → Int) (c : Int) : ∀ n : Nat, sumTo (fun k => c * f k) n = c * sumTo f n := by
  intro n
  induction n with
  | zero => simp [sumTo]
  | succ n ih => rw [sumTo_succ, sumTo_succ, ih, Int.mul_add]
end Go.Proofs.Ytcfeeobjllnofaa
