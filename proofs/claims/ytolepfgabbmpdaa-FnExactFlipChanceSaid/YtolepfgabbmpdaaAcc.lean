/-
  Plain mathematics: lists of counts to which is added place by place; the counts of falling pairs.
-/
import Derived.Test.YtolepfgabbmpdaaMem
import Derived.Test.YtolepfgabbmpdaaSum
namespace Go.Proofs.Ytolepfgabbmpdaa

def sumL : List Int → Int
  | [] => 0
  | a :: l => a + sumL l
def NonNeg (l : List Int) : Prop := ∀ a ∈ l, 0 ≤ a
theorem sumL_append (a b : List Int) : sumL (a ++ b) = sumL a + sumL b := by
  induction a with
  | nil => simp [sumL]
  | cons x a ih => simp only [List.cons_append, sumL, ih]; omega
theorem sumL_replicate (n : Nat) : sumL (List.replicate n 0) = 0 := by
  induction n with
  | zero => rfl
  | succ n ih => rw [List.replicate_succ, sumL, ih]; rfl
theorem nth_set (l : List Int) (p q : Nat) (y : Int) : nth (l.set p y) q = if p = q ∧ p < l.length then y else nth l q := by
  simp only [nth, List.getD, List.getElem?_set]
  by_cases h : p = q
  · subst h
    by_cases h2 : p < l.length
    · simp [h2]
    · simp [h2]
  · simp [h]
theorem sumL_set (l : List Int) : ∀ (p : Nat) (y : Int), p < l.length → sumL (l.set p y) = sumL l - nth l p + y := by
  induction l with
  | nil => intro p y h; simp at h
  | cons a l ih =>
    intro p y h
    cases p with
    | zero => simp [sumL, nth]; omega
    | succ p =>
      have := ih p y (by simpa using h)
      have e : nth (a :: l) (p + 1) = nth l p := by simp [nth]
      rw [List.set_cons_succ, sumL, this, sumL, e]; omega
theorem nonNeg_nth {l : List Int} (h : NonNeg l) (p : Nat) : 0 ≤ nth l p := by
  unfold nth
  by_cases hp : p < l.length
  · have e : l.getD p 0 = l[p] := by simp [List.getD, hp]
    rw [e]; exact h _ (List.getElem_mem _)
  · have e : l.getD p 0 = 0 := by simp [List.getD, show l[p]? = none by simp; omega]
    rw [e]; exact Int.le_refl _
theorem nth_le_sumL : ∀ (l : List Int), NonNeg l → ∀ p, nth l p ≤ sumL l ∧ 0 ≤ sumL l := by
  intro l
  induction l with
  | nil => intro _ p; simp [nth, sumL]
  | cons a l ih =>
    intro h p
    have h1 := h a (by simp)
    have hn : NonNeg l := fun b hb => h b (by simp [hb])
    cases p with
    | zero => have := (ih hn 0).2; simp [nth, sumL]; omega
    | succ p =>
      have := ih hn p
      have e : nth (a :: l) (p + 1) = nth l p := by simp [nth]
      rw [e, sumL]; omega
theorem nonNeg_set {l : List Int} (h : NonNeg l) (p : Nat) (y : Int) (hy : 0 ≤ y) : NonNeg (l.set p y) := by
  intro a ha
  rcases List.mem_or_eq_of_mem_set ha with h1 | h1
  · exact h a h1
  · omega
theorem nonNeg_replicate (n : Nat) : NonNeg (List.replicate n 0) := by
  intro a ha; rw [List.mem_replicate] at ha; omega
theorem list_ext {a b : List Int} (hl : a.length = b.length) (h : ∀ p, p < a.length → nth a p = nth b p) : a = b := by
  apply List.ext_getElem hl
  intro p h1 h2
  have := h p h1
  simpa [nth, List.getD, h1, h2] using this
theorem nth_replicate (n p : Nat) : nth (List.replicate n 0) p = 0 := by
  unfold nth
  by_cases h : p < n
  · simp [List.getD, h]
  · simp [List.getD, h]

/-- x more at the place p. -/
def addAt (l : List Int) (p : Nat) (x : Int) : List Int := l.set p (nth l p + x)
theorem addAt_length (l : List Int) (p : Nat) (x : Int) : (addAt l p x).length = l.length := by simp [addAt]
theorem addAt_sum (l : List Int) (p : Nat) (x : Int) (h : p < l.length) : sumL (addAt l p x) = sumL l + x := by
  unfold addAt; rw [sumL_set l p _ h]; omega
theorem addAt_nonNeg {l : List Int} (h : NonNeg l) (p : Nat) (x : Int) (hx : 0 ≤ x) : NonNeg (addAt l p x) :=
  nonNeg_set h p _ (by have := nonNeg_nth h p; omega)
theorem nth_addAt (l : List Int) (p q : Nat) (x : Int) (h : p < l.length) : nth (addAt l p x) q = nth l q + if p = q then x else 0 := by
  unfold addAt
  rw [nth_set]
  by_cases e : p = q
  · subst e; rw [if_pos ⟨rfl, h⟩, if_pos rfl]
  · rw [if_neg (fun h => e h.1), if_neg e, Int.add_zero]

/-- x more at each of the places i, .., i+j-1. -/
def rowAdd (l : List Int) (i : Nat) (x : Int) : Nat → List Int
  | 0 => l
  | j + 1 => addAt (rowAdd l i x j) (i + j) x
theorem rowAdd_length (l : List Int) (i : Nat) (x : Int) (j : Nat) : (rowAdd l i x j).length = l.length := by
  induction j with
  | zero => rfl
  | succ j ih => rw [rowAdd, addAt_length, ih]
theorem rowAdd_sum (l : List Int) (i : Nat) (x : Int) (j : Nat) (h : i + j ≤ l.length) : sumL (rowAdd l i x j) = sumL l + j * x := by
  induction j with
  | zero => simp [rowAdd]
  | succ j ih =>
    rw [rowAdd, addAt_sum _ _ _ (by rw [rowAdd_length]; omega), ih (by omega)]
    have : ((j + 1 : Nat) : Int) * x = j * x + x := by rw [Int.natCast_add, Int.add_mul]; simp
    omega
theorem rowAdd_nonNeg {l : List Int} (h : NonNeg l) (i : Nat) (x : Int) (hx : 0 ≤ x) (j : Nat) : NonNeg (rowAdd l i x j) := by
  induction j with
  | zero => exact h
  | succ j ih => exact addAt_nonNeg ih _ _ hx
/-- The next row of counts, as far as the place i. -/
def fallTo (l : List Int) (k : Nat) : Nat → List Int
  | 0 => List.replicate (l.length + k - 1) 0
  | i + 1 => rowAdd (fallTo l k i) i (nth l i) k
theorem fallTo_length (l : List Int) (k i : Nat) : (fallTo l k i).length = l.length + k - 1 := by
  induction i with
  | zero => simp [fallTo]
  | succ i ih => rw [fallTo, rowAdd_length, ih]
theorem fallTo_nonNeg {l : List Int} (h : NonNeg l) (k i : Nat) : NonNeg (fallTo l k i) := by
  induction i with
  | zero => exact nonNeg_replicate _
  | succ i ih => exact rowAdd_nonNeg ih _ _ (nonNeg_nth h i) _
theorem sumL_take_succ (l : List Int) (i : Nat) (h : i < l.length) : sumL (l.take (i + 1)) = sumL (l.take i) + nth l i := by
  rw [List.take_add_one, sumL_append]
  have : l[i]? = some (nth l i) := by simp [nth, List.getD, h]
  rw [this]; simp [sumL]
theorem fallTo_sum (l : List Int) (k : Nat) (hk : 1 ≤ k) (i : Nat) (hi : i ≤ l.length) : sumL (fallTo l k i) = k * sumL (l.take i) := by
  induction i with
  | zero => simp [fallTo, sumL_replicate, sumL]
  | succ i ih =>
    rw [fallTo, rowAdd_sum _ _ _ _ (by rw [fallTo_length]; omega), ih (by omega), sumL_take_succ l i (by omega), Int.mul_add]
/-- The counts of orders by their falling pairs. -/
def fallsL : Nat → List Int
  | 0 => [1]
  | 1 => [1]
  | n + 2 => fallTo (fallsL (n + 1)) (n + 2) (fallsL (n + 1)).length
theorem fallsL_nonNeg : ∀ n, NonNeg (fallsL n) := by
  intro n
  induction n with
  | zero => intro a ha; simp [fallsL] at ha; omega
  | succ n ih => cases n with
    | zero => intro a ha; simp [fallsL] at ha; omega
    | succ n => exact fallTo_nonNeg ih _ _
theorem fallsL_sum : ∀ n, sumL (fallsL n) = (fact n : Nat) := by
  intro n
  induction n with
  | zero => rfl
  | succ n ih => cases n with
    | zero => rfl
    | succ n =>
      rw [fallsL, fallTo_sum _ _ (by omega) _ (Nat.le_refl _), List.take_of_length_le (Nat.le_refl _), ih]
      show _ = (((n + 2) * fact (n + 1) : Nat) : Int)
      rw [Int.natCast_mul]
theorem fallsL_length : ∀ n, 2 * (fallsL (n + 1)).length = (n + 1) * n + 2 := by
  intro n
  induction n with
  | zero => rfl
  | succ n ih =>
    rw [fallsL, fallTo_length]
    have e : (n + 1 + 1) * (n + 1) = (n + 1) * n + 2 * (n + 1) := by
      rw [Nat.mul_comm (n + 1) n, ← Nat.add_mul]
    omega
theorem fallsL_len_le (n : Nat) (h : n ≤ 10) : (fallsL n).length ≤ 46 := by
  have : ∀ m : Fin 11, (fallsL m.val).length ≤ 46 := by
    intro m
    cases hm : m.val with
    | zero => decide
    | succ k =>
      have := fallsL_length k
      have h3 : (k + 1) * k ≤ 10 * 9 := Nat.mul_le_mul (by omega) (by omega)
      omega
  exact this ⟨n, by omega⟩
theorem fall_bd (n i j : Nat) (hn : n ≤ 8) (hi : i < (fallsL (n + 1)).length) (hj : j ≤ n + 2) (p : Nat) :
    0 ≤ nth (rowAdd (fallTo (fallsL (n + 1)) (n + 2) i) i (nth (fallsL (n + 1)) i) j) p ∧ nth (rowAdd (fallTo (fallsL (n + 1)) (n + 2) i) i (nth (fallsL (n + 1)) i) j) p ≤ 7257600 := by
  have hN := fallsL_nonNeg (n + 1)
  have hx := nonNeg_nth hN i
  have h1 := rowAdd_nonNeg (fallTo_nonNeg hN (n + 2) i) i _ hx j
  have h2 := (nth_le_sumL _ h1 p).1
  rw [rowAdd_sum _ _ _ _ (by rw [fallTo_length]; omega), fallTo_sum _ _ (by omega) _ (by omega)] at h2
  have h3 : sumL ((fallsL (n + 1)).take (i + 1)) = sumL ((fallsL (n + 1)).take i) + nth (fallsL (n + 1)) i := sumL_take_succ _ _ hi
  have h4 : sumL ((fallsL (n + 1)).take (i + 1)) ≤ sumL (fallsL (n + 1)) := by
    have e := sumL_append ((fallsL (n + 1)).take (i + 1)) ((fallsL (n + 1)).drop (i + 1))
    rw [List.take_append_drop] at e
    have : NonNeg ((fallsL (n + 1)).drop (i + 1)) := fun a ha => hN a (List.mem_of_mem_drop ha)
    have := (nth_le_sumL _ this 0).2
    omega
  have h5 : NonNeg ((fallsL (n + 1)).take i) := fun a ha => hN a (List.mem_of_mem_take ha)
  have h6 := (nth_le_sumL _ h5 0).2
  have h7 : (j : Int) * nth (fallsL (n + 1)) i ≤ ((n + 2 : Nat) : Int) * nth (fallsL (n + 1)) i := Int.mul_le_mul_of_nonneg_right (by omega) hx
  have h8 : ((n + 2 : Nat) : Int) * sumL ((fallsL (n + 1)).take (i + 1)) ≤ ((n + 2 : Nat) : Int) * sumL (fallsL (n + 1)) := Int.mul_le_mul_of_nonneg_left h4 (by omega)
  rw [h3, Int.mul_add, fallsL_sum] at h8
  have h9 : ((n + 2 : Nat) : Int) * (fact (n + 1) : Nat) = (fact (n + 2) : Nat) := by rw [← Int.natCast_mul]; rfl
  have h10 := fact_le (n + 2) (by omega)
  exact ⟨nonNeg_nth h1 p, by omega⟩
theorem falls_nth_bd (n p : Nat) (hn : n ≤ 10) : 0 ≤ nth (fallsL n) p ∧ nth (fallsL n) p ≤ 3628800 := by
  have h1 := (nth_le_sumL _ (fallsL_nonNeg n) p).1
  rw [fallsL_sum] at h1
  have := fact_le n hn
  exact ⟨nonNeg_nth (fallsL_nonNeg n) p, by omega⟩
end Go.Proofs.Ytolepfgabbmpdaa
