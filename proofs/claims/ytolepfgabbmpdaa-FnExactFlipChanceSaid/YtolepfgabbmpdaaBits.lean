/-
  Plain mathematics: bits of a number, sums over all sets, lists of counts of sets.
-/
import Derived.Test.YtolepfgabbmpdaaAcc
import Derived.WalkKit
namespace Go.Proofs.Ytolepfgabbmpdaa
open Go.RowKit

theorem i64_and1 (n : Int) : bits .and .i64 n 1 = n % 2 := by
  have h1 : (BitVec.ofInt 64 1).toNat = 2 ^ 1 - 1 := by decide
  have key : (BitVec.ofInt 64 n &&& BitVec.ofInt 64 1).toNat = (n % ((2 ^ 64 : Nat) : Int)).toNat % 2 ^ 1 := by
    rw [BitVec.toNat_and, BitVec.toNat_ofInt, h1, Nat.and_two_pow_sub_one_eq_mod]
  show IntKind.i64.wrap ((BitVec.ofInt 64 n &&& BitVec.ofInt 64 1).toNat : Nat) = n % 2
  rw [key, IntKind.wrap_i64]
  omega
def bitN (s i : Nat) : Nat := s / 2 ^ i % 2
theorem bitN_lt (s i : Nat) : bitN s i < 2 := Nat.mod_lt _ (by omega)
theorem and_bit (s i : Nat) : bits .and .i64 ((s : Int) / 2 ^ i) 1 = (bitN s i : Nat) := by
  rw [i64_and1]
  have e : ((2 : Int) ^ i) = ((2 ^ i : Nat) : Int) := by simp
  rw [e, ← Int.natCast_ediv]
  unfold bitN; omega
theorem bitN_low (N s b i : Nat) (hi : i < N) : bitN (2 ^ N * b + s) i = bitN s i := by
  unfold bitN
  obtain ⟨c, rfl⟩ : ∃ c, N = i + 1 + c := ⟨N - i - 1, by omega⟩
  have e : 2 ^ (i + 1 + c) * b = 2 ^ i * (2 * (2 ^ c * b)) := by rw [Nat.pow_add, Nat.pow_add, Nat.pow_one]; simp only [Nat.mul_assoc]
  rw [e, Nat.mul_add_div (Nat.two_pow_pos i)]
  omega
theorem bitN_top (N s b : Nat) (hs : s < 2 ^ N) (hb : b < 2) : bitN (2 ^ N * b + s) N = b := by
  unfold bitN
  rw [Nat.mul_add_div (Nat.two_pow_pos N), Nat.div_eq_of_lt hs]
  omega
theorem bitN_low1 (N s i : Nat) (hi : i < N) : bitN (2 ^ N + s) i = bitN s i := by
  have := bitN_low N s 1 i hi; rwa [Nat.mul_one] at this
theorem bitN_top1 (N s : Nat) (hs : s < 2 ^ N) : bitN (2 ^ N + s) N = 1 := by
  have := bitN_top N s 1 hs (by omega); rwa [Nat.mul_one] at this
theorem bitN_top0 (N s : Nat) (hs : s < 2 ^ N) : bitN s N = 0 := by
  have := bitN_top N s 0 hs (by omega); rwa [Nat.mul_zero, Nat.zero_add] at this

theorem sumTo_split (f : Nat → Int) (a : Nat) : ∀ b, sumTo f (a + b) = sumTo f a + sumTo (fun k => f (a + k)) b := by
  intro b
  induction b with
  | zero => simp [sumTo]
  | succ b ih => rw [← Nat.add_assoc, sumTo_succ, ih, sumTo_succ]; omega
theorem sumTo_sets (f : Nat → Int) (N : Nat) : sumTo f (2 ^ (N + 1)) = sumTo f (2 ^ N) + sumTo (fun k => f (2 ^ N + k)) (2 ^ N) := by
  have e : 2 ^ (N + 1) = 2 ^ N + 2 ^ N := by rw [Nat.pow_succ]; omega
  rw [e, sumTo_split]

/-- The list of counts: at each step t one more at the place f t, if there is one. -/
def accBy (len : Nat) (f : Nat → Option Nat) : Nat → List Int
  | 0 => List.replicate len 0
  | t + 1 => match f t with
    | some p => addAt (accBy len f t) p 1
    | none => accBy len f t
theorem accBy_length (len : Nat) (f : Nat → Option Nat) (t : Nat) : (accBy len f t).length = len := by
  induction t with
  | zero => simp [accBy]
  | succ t ih => rw [accBy]; split <;> simp [addAt_length, ih]
theorem accBy_some (len : Nat) (f : Nat → Option Nat) (t p : Nat) (h : f t = some p) : accBy len f (t + 1) = addAt (accBy len f t) p 1 := by rw [accBy, h]
theorem accBy_none (len : Nat) (f : Nat → Option Nat) (t : Nat) (h : f t = none) : accBy len f (t + 1) = accBy len f t := by rw [accBy, h]
theorem nth_accBy (len : Nat) (f : Nat → Option Nat) (t : Nat) (hf : ∀ s p, s < t → f s = some p → p < len) (q : Nat) : nth (accBy len f t) q = sumTo (fun s => if f s = some q then 1 else 0) t := by
  induction t with
  | zero => rw [accBy, nth_replicate]; rfl
  | succ t ih =>
    have ih := ih (fun s p hs h => hf s p (by omega) h)
    rw [sumTo_succ]
    cases h : f t with
    | none => rw [accBy_none len f t h, ih]; simp
    | some p => rw [accBy_some len f t p h, nth_addAt _ _ _ _ (by rw [accBy_length]; exact hf t p (by omega) h), ih]; simp
theorem ind_bd (g : Nat → Prop) [DecidablePred g] (t : Nat) : 0 ≤ sumTo (fun s => if g s then 1 else 0) t ∧ sumTo (fun s => if g s then 1 else 0) t ≤ t := by
  have := sumTo_bd (fun s => if g s then 1 else 0) 1 t (fun k _ => by split <;> omega)
  omega
theorem accBy_bd (len : Nat) (f : Nat → Option Nat) (t : Nat) (hf : ∀ s p, s < t → f s = some p → p < len) (q : Nat) : 0 ≤ nth (accBy len f t) q ∧ nth (accBy len f t) q ≤ t := by
  rw [nth_accBy len f t hf q]
  exact ind_bd _ t

/-- The sum of a set of the numbers 1 .. n. -/
def rsum : Nat → Nat → Nat
  | 0, _ => 0
  | n + 1, s => rsum n s + bitN s n * (n + 1)
theorem rsum_le (n s : Nat) : 2 * rsum n s ≤ n * (n + 1) := by
  induction n with
  | zero => simp [rsum]
  | succ n ih =>
    have hb := bitN_lt s n
    have h1 : bitN s n * (n + 1) ≤ 1 * (n + 1) := Nat.mul_le_mul_right _ (by omega)
    have e : (n + 1) * (n + 1 + 1) = n * (n + 1) + 2 * (n + 1) := by rw [Nat.mul_comm (n + 1) (n + 1 + 1), ← Nat.add_mul]
    rw [rsum]; omega
theorem rsum_congr (n a b : Nat) (h : ∀ i, i < n → bitN a i = bitN b i) : rsum n a = rsum n b := by
  induction n with
  | zero => rfl
  | succ n ih => rw [rsum, rsum, ih (fun i hi => h i (by omega)), h n (by omega)]
def rcnt (n t : Nat) : Int := sumTo (fun s => if rsum n s = t then 1 else 0) (2 ^ n)
theorem rcnt_zero (t : Nat) : rcnt 0 t = if t = 0 then 1 else 0 := by
  unfold rcnt
  by_cases h : t = 0
  · subst h; rfl
  · have h' : ¬ rsum 0 0 = t := by simp [rsum]; omega
    show (0 : Int) + (if rsum 0 0 = t then 1 else 0) = _
    rw [if_neg h', if_neg h]; rfl
theorem rcnt_succ (n t : Nat) : rcnt (n + 1) t = rcnt n t + if n + 1 ≤ t then rcnt n (t - (n + 1)) else 0 := by
  unfold rcnt
  rw [sumTo_sets]
  congr 1
  · refine sumTo_congr _ _ _ (fun s hs => ?_)
    have : rsum (n + 1) s = rsum n s := by rw [rsum, bitN_top0 n s hs]; omega
    simp only [this]
  · have e : ∀ s, s < 2 ^ n → rsum (n + 1) (2 ^ n + s) = rsum n s + (n + 1) := by
      intro s hs
      rw [rsum, bitN_top1 n s hs, rsum_congr n _ s (fun i hi => bitN_low1 n s i hi)]; omega
    by_cases h : n + 1 ≤ t
    · rw [if_pos h]
      refine sumTo_congr _ _ _ (fun s hs => ?_)
      simp only [e s hs]
      by_cases h2 : rsum n s = t - (n + 1)
      · rw [if_pos h2, if_pos (by omega)]
      · rw [if_neg h2, if_neg (by omega)]
    · rw [if_neg h]
      refine sumTo_none _ _ (fun s hs => ?_)
      simp only [e s hs]
      rw [if_neg (by omega)]

/-- The next row of the counts of sums, as far as the place i. -/
def rankTo (l : List Int) (k : Nat) : Nat → List Int
  | 0 => List.replicate (l.length + k) 0
  | i + 1 => addAt (addAt (rankTo l k i) i (nth l i)) (i + k) (nth l i)
theorem rankTo_length (l : List Int) (k i : Nat) : (rankTo l k i).length = l.length + k := by
  induction i with
  | zero => simp [rankTo]
  | succ i ih => rw [rankTo, addAt_length, addAt_length, ih]
theorem nth_rankTo (l : List Int) (k i : Nat) (hi : i ≤ l.length) (p : Nat) : nth (rankTo l k i) p = (if p < i then nth l p else 0) + (if k ≤ p ∧ p - k < i then nth l (p - k) else 0) := by
  induction i with
  | zero => rw [rankTo, nth_replicate]; simp
  | succ i ih =>
    rw [rankTo, nth_addAt _ _ _ _ (by rw [addAt_length, rankTo_length]; omega), nth_addAt _ _ _ _ (by rw [rankTo_length]; omega), ih (by omega)]
    have c1 : (if p < i + 1 then nth l p else 0) = (if p < i then nth l p else 0) + (if i = p then nth l i else 0) := by
      by_cases a : p < i
      · rw [if_pos a, if_pos (by omega), if_neg (by omega), Int.add_zero]
      · by_cases b : i = p
        · subst b; rw [if_neg a, if_pos (by omega), if_pos rfl, Int.zero_add]
        · rw [if_neg a, if_neg (by omega), if_neg b]; rfl
    have c2 : (if k ≤ p ∧ p - k < i + 1 then nth l (p - k) else 0) = (if k ≤ p ∧ p - k < i then nth l (p - k) else 0) + (if i + k = p then nth l i else 0) := by
      by_cases b : i + k = p
      · have : p - k = i := by omega
        rw [if_pos b, if_pos (by omega), if_neg (by omega), this, Int.zero_add]
      · rw [if_neg b, Int.add_zero]
        by_cases a : k ≤ p ∧ p - k < i
        · rw [if_pos a, if_pos (by omega)]
        · rw [if_neg a, if_neg (by omega)]
    rw [c1, c2]; omega
theorem nth_out (l : List Int) (p : Nat) (h : l.length ≤ p) : nth l p = 0 := by
  unfold nth; simp [List.getD, show l[p]? = none by simp; omega]
/-- The counts of sets by their sums. -/
def rankL : Nat → List Int
  | 0 => [1]
  | n + 1 => rankTo (rankL n) (n + 1) (rankL n).length
theorem rankL_length (n : Nat) : 2 * (rankL n).length = n * (n + 1) + 2 := by
  induction n with
  | zero => rfl
  | succ n ih =>
    rw [rankL, rankTo_length]
    have e : (n + 1) * (n + 1 + 1) = n * (n + 1) + 2 * (n + 1) := by rw [Nat.mul_comm (n + 1) (n + 1 + 1), ← Nat.add_mul]
    omega
theorem nth_rankL (n : Nat) : ∀ p, nth (rankL n) p = rcnt n p := by
  induction n with
  | zero =>
    intro p
    rw [rcnt_zero]
    cases p with
    | zero => rfl
    | succ p => rw [nth_out _ _ (by simp [rankL]), if_neg (by omega)]
  | succ n ih =>
    intro p
    rw [rankL, nth_rankTo _ _ _ (Nat.le_refl _), rcnt_succ, ← ih p, ← ih (p - (n + 1))]
    congr 1
    · by_cases a : p < (rankL n).length
      · rw [if_pos a]
      · rw [if_neg a, nth_out _ _ (by omega)]
    · by_cases a : n + 1 ≤ p
      · by_cases b : p - (n + 1) < (rankL n).length
        · rw [if_pos ⟨a, b⟩, if_pos a]
        · rw [if_neg (by omega), if_pos a, nth_out _ _ (by omega)]
      · rw [if_neg (by omega), if_neg a]
theorem rank_acc (n : Nat) (len : Nat) (h : len = (rankL n).length) : accBy len (fun s => some (rsum n s)) (2 ^ n) = rankL n := by
  have hl := rankL_length n
  refine list_ext (by rw [accBy_length]; exact h) (fun p hp => ?_)
  rw [nth_accBy, nth_rankL]
  · unfold rcnt
    refine sumTo_congr _ _ _ (fun s _ => ?_)
    simp
  · intro s p _ hsp
    simp at hsp
    have := rsum_le n s
    omega
theorem rankTo_bd (n i : Nat) (hn : n ≤ 9) (hi : i ≤ (rankL n).length) (p : Nat) : 0 ≤ nth (rankTo (rankL n) (n + 1) i) p ∧ nth (rankTo (rankL n) (n + 1) i) p ≤ 1024 := by
  rw [nth_rankTo _ _ _ hi]
  have b : ∀ q, 0 ≤ nth (rankL n) q ∧ nth (rankL n) q ≤ 512 := by
    intro q
    rw [nth_rankL]
    have h1 := ind_bd (fun s => rsum n s = q) (2 ^ n)
    have h2 : 2 ^ n ≤ 2 ^ 9 := Nat.pow_le_pow_right (by omega) hn
    have h3 : 2 ^ 9 = 512 := by decide
    unfold rcnt
    omega
  have b1 := b p
  have b2 := b (p - (n + 1))
  split <;> split <;> omega
theorem rank_nth_bd (n p : Nat) (hn : n ≤ 10) : 0 ≤ nth (rankL n) p ∧ nth (rankL n) p ≤ 1024 := by
  rw [nth_rankL]
  have h1 := ind_bd (fun s => rsum n s = p) (2 ^ n)
  have h2 : 2 ^ n ≤ 2 ^ 10 := Nat.pow_le_pow_right (by omega) hn
  have h3 : 2 ^ 10 = 1024 := by decide
  unfold rcnt
  omega
end Go.Proofs.Ytolepfgabbmpdaa
