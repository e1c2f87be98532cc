/-
  Plain mathematics: orders of two letters by their runs.
-/
import Derived.Test.YtohdbbdolmgaaaaLetters
namespace Go.Proofs.Ytohdbbdolmgaaaa

/-- The runs of the first k truth values, at least one. -/
def rn (f : Nat → Bool) : Nat → Nat
  | 0 => 1
  | 1 => 1
  | k + 2 => rn f (k + 1) + if f (k + 1) = f k then 0 else 1
theorem rn_succ (f : Nat → Bool) (k : Nat) (h : 1 ≤ k) : rn f (k + 1) = rn f k + if f k = f (k - 1) then 0 else 1 := by
  obtain ⟨k, rfl⟩ : ∃ j, k = j + 1 := ⟨k - 1, by omega⟩
  rw [rn]; rfl
theorem rn_le (f : Nat → Bool) (k : Nat) : 1 ≤ rn f k ∧ rn f (k + 1) ≤ k + 1 := by
  induction k with
  | zero => simp [rn]
  | succ k ih =>
    have h := rn_succ f (k + 1) (by omega)
    have : 1 ≤ rn f (k + 1) := by
      by_cases h0 : k = 0
      · subst h0; simp [rn]
      · rw [rn_succ f k (by omega)]; omega
    rw [h]
    refine ⟨this, ?_⟩
    split <;> omega
theorem rn_congr (f g : Nat → Bool) (k : Nat) (h : ∀ i, i < k → f i = g i) : rn f k = rn g k := by
  induction k with
  | zero => rfl
  | succ k ih =>
    by_cases h0 : k = 0
    · subst h0; rfl
    · rw [rn_succ f k (by omega), rn_succ g k (by omega), ih (fun i hi => h i (by omega)), h k (by omega), h (k - 1) (by omega)]

def rind (N p r : Nat) (b : Bool) (s : Nat) : Int := if popc N s = p ∧ rn (bitB s) N = r ∧ bitB s (N - 1) = b then 1 else 0
def rc (N p r : Nat) (b : Bool) : Int := sumTo (rind N p r b) (2 ^ N)

theorem bitB_low (N s i : Nat) (hi : i < N) : bitB (2 ^ N + s) i = bitB s i := by unfold bitB; rw [bitN_low1 N s i hi]
theorem rc_succ_true (N p r : Nat) (hN : 1 ≤ N) : rc (N + 1) p r true = if 1 ≤ p then rc N (p - 1) r true + (if 1 ≤ r then rc N (p - 1) (r - 1) false else 0) else 0 := by
  unfold rc
  rw [sumTo_sets]
  have z : sumTo (rind (N + 1) p r true) (2 ^ N) = 0 := by
    refine sumTo_none _ _ (fun s hs => ?_)
    unfold rind
    rw [if_neg]
    rintro ⟨_, _, h⟩
    simp [bitB, bitN_top0 N s hs] at h
  rw [z, Int.zero_add]
  have e : ∀ s, s < 2 ^ N → rind (N + 1) p r true (2 ^ N + s) = if 1 ≤ p then rind N (p - 1) r true s + (if 1 ≤ r then rind N (p - 1) (r - 1) false s else 0) else 0 := by
    intro s hs
    have h1 : popc (N + 1) (2 ^ N + s) = popc N s + 1 := by rw [popc, bitN_top1 N s hs, popc_congr N _ s (fun i hi => bitN_low1 N s i hi)]
    have h2 : bitB (2 ^ N + s) N = true := by simp [bitB, bitN_top1 N s hs]
    have h3 : rn (bitB (2 ^ N + s)) (N + 1) = rn (bitB s) N + if bitB s (N - 1) = true then 0 else 1 := by
      rw [rn_succ _ N hN, rn_congr _ (bitB s) N (fun i hi => bitB_low N s i hi), h2, bitB_low N s (N - 1) (by omega)]
      cases bitB s (N - 1) <;> rfl
    unfold rind
    rw [h1, h3, Nat.add_sub_cancel, h2]
    by_cases hp : 1 ≤ p
    · rw [if_pos hp]
      cases hb : bitB s (N - 1)
      · have a1 : (1 ≤ r ∧ popc N s = p - 1 ∧ rn (bitB s) N = r - 1) ↔ (popc N s + 1 = p ∧ rn (bitB s) N + 1 = r) := by omega
        by_cases c : popc N s + 1 = p ∧ rn (bitB s) N + 1 = r
        · have c' := a1.2 c
          simp [c'.1, c'.2.1, c'.2.2]; omega
        · have c' := fun x => c (a1.1 x)
          by_cases hr : 1 ≤ r
          · have : ¬ (popc N s = p - 1 ∧ rn (bitB s) N = r - 1) := fun x => c' ⟨hr, x⟩
            simp [hr]
            rw [if_neg (by simpa using c)]
            by_cases y : popc N s = p - 1
            · have : ¬ rn (bitB s) N = r - 1 := fun z => this ⟨y, z⟩
              simp [this]
            · simp [y]
          · simp [hr]; intro h; omega
      · have a1 : (popc N s = p - 1 ∧ rn (bitB s) N = r) ↔ (popc N s + 1 = p ∧ rn (bitB s) N = r) := by omega
        by_cases c : popc N s + 1 = p ∧ rn (bitB s) N = r
        · have c' := a1.2 c
          simp [c'.1, c'.2]; omega
        · have c' := fun x => c (a1.1 x)
          simp
          rw [if_neg c, if_neg c']
    · rw [if_neg hp, if_neg (by omega)]
  rw [sumTo_congr _ _ _ e]
  by_cases hp : 1 ≤ p
  · simp only [if_pos hp]
    rw [sumTo_add]
    congr 1
    by_cases hr : 1 ≤ r
    · simp only [if_pos hr]
    · simp only [if_neg hr]; exact sumTo_none _ _ (fun _ _ => rfl)
  · simp only [if_neg hp]; exact sumTo_none _ _ (fun _ _ => rfl)
theorem rc_succ_false (N p r : Nat) (hN : 1 ≤ N) : rc (N + 1) p r false = rc N p r false + (if 1 ≤ r then rc N p (r - 1) true else 0) := by
  unfold rc
  rw [sumTo_sets]
  have z : sumTo (fun k => rind (N + 1) p r false (2 ^ N + k)) (2 ^ N) = 0 := by
    refine sumTo_none _ _ (fun s hs => ?_)
    unfold rind
    rw [if_neg]
    rintro ⟨_, _, h⟩
    simp [bitB, bitN_top1 N s hs] at h
  rw [z, Int.add_zero]
  have e : ∀ s, s < 2 ^ N → rind (N + 1) p r false s = rind N p r false s + (if 1 ≤ r then rind N p (r - 1) true s else 0) := by
    intro s hs
    have h1 : popc (N + 1) s = popc N s := by rw [popc, bitN_top0 N s hs]; rfl
    have h2 : bitB s N = false := by simp [bitB, bitN_top0 N s hs]
    have h3 : rn (bitB s) (N + 1) = rn (bitB s) N + if bitB s (N - 1) = false then 0 else 1 := by
      rw [rn_succ _ N hN, h2]
      cases bitB s (N - 1) <;> rfl
    unfold rind
    rw [h1, h3, Nat.add_sub_cancel, h2]
    cases hb : bitB s (N - 1)
    · by_cases c : popc N s = p ∧ rn (bitB s) N = r
      · simp [c.1, c.2]
      · simp
    · have a1 : (1 ≤ r ∧ popc N s = p ∧ rn (bitB s) N = r - 1) ↔ (popc N s = p ∧ rn (bitB s) N + 1 = r) := by omega
      by_cases c : popc N s = p ∧ rn (bitB s) N + 1 = r
      · have c' := a1.2 c
        simp [c.1, c'.1, c'.2.2]
      · have c' := fun x => c (a1.1 x)
        by_cases hr : 1 ≤ r
        · have : ¬ (popc N s = p ∧ rn (bitB s) N = r - 1) := fun x => c' ⟨hr, x⟩
          simp [hr]
          rw [if_neg c, if_neg this]
        · simp [hr]; intro h; omega
  rw [sumTo_congr _ _ _ e, sumTo_add]
  congr 1
  by_cases hr : 1 ≤ r
  · simp only [if_pos hr]
  · simp only [if_neg hr]; exact sumTo_none _ _ (fun _ _ => rfl)

theorem rc_zero (N p r : Nat) (b : Bool) (h : N < p) : rc N p r b = 0 := by
  refine sumTo_none _ _ (fun s _ => ?_)
  unfold rind
  rw [if_neg]
  rintro ⟨h1, _⟩
  have := popc_le N s
  omega
/-- Rows of N letters, p of them true, with r runs, that end in b. -/
def rowsN : Nat → Nat → Nat → Bool → Nat
  | 0, _, _, _ => 0
  | 1, p, r, b => if r = 1 ∧ p = (if b = true then 1 else 0) then 1 else 0
  | N + 2, p, r, b =>
    if N + 2 < p then 0
    else if b = true then (if p = 0 then 0 else rowsN (N + 1) (p - 1) r true + (if r = 0 then 0 else rowsN (N + 1) (p - 1) (r - 1) false))
    else rowsN (N + 1) p r false + (if r = 0 then 0 else rowsN (N + 1) p (r - 1) true)
theorem rc_one (p r : Nat) (b : Bool) : rc 1 p r b = (rowsN 1 p r b : Nat) := by
  have e : rc 1 p r b = rind 1 p r b 0 + rind 1 p r b 1 := by
    show (0 : Int) + rind 1 p r b 0 + rind 1 p r b 1 = _; omega
  have b0 : bitB 0 0 = false := by decide
  have b1 : bitB 1 0 = true := by decide
  have p0 : popc 1 0 = 0 := by decide
  have p1 : popc 1 1 = 1 := by decide
  rw [e]
  unfold rind rowsN
  rw [p0, p1]
  have r0 : rn (bitB 0) 1 = 1 := rfl
  have r1 : rn (bitB 1) 1 = 1 := rfl
  rw [r0, r1, show 1 - 1 = 0 from rfl, b0, b1]
  by_cases hr : r = 1
  · subst hr
    cases b
    · by_cases h0 : p = 0
      · subst h0; simp
      · simp [h0]; omega
    · by_cases h0 : p = 1
      · subst h0; simp
      · simp [h0]; omega
  · have : ¬ 1 = r := by omega
    simp [hr, this]
theorem rc_rows (N : Nat) : ∀ (p r : Nat) (b : Bool), rc (N + 1) p r b = (rowsN (N + 1) p r b : Nat) := by
  induction N with
  | zero => exact rc_one
  | succ N ih =>
    intro p r b
    by_cases h : N + 2 < p
    · rw [rc_zero _ _ _ _ h, rowsN, if_pos h]; rfl
    · rw [rowsN, if_neg h]
      cases b
      · rw [rc_succ_false (N + 1) p r (by omega), ih, ih, if_neg (show ¬ (false = true) by simp)]
        by_cases hr : r = 0
        · rw [if_neg (show ¬ 1 ≤ r by omega), if_pos hr]; rfl
        · rw [if_pos (show 1 ≤ r by omega), if_neg hr]; rfl
      · rw [rc_succ_true (N + 1) p r (by omega), ih, ih, if_pos (show true = true from rfl)]
        by_cases hp : p = 0
        · rw [if_neg (show ¬ 1 ≤ p by omega), if_pos hp]; rfl
        · rw [if_pos (show 1 ≤ p by omega), if_neg hp]
          by_cases hr : r = 0
          · rw [if_neg (show ¬ 1 ≤ r by omega), if_pos hr]; rfl
          · rw [if_pos (show 1 ≤ r by omega), if_neg hr]; rfl

/-- The indicator that impl.RunCount adds up. -/
def runI (N : Nat) (m r : Int) (s : Nat) : Int := if ((popc N s : Nat) : Int) = m ∧ ((rn (bitB s) N : Nat) : Int) = r then 1 else 0
theorem runI_sum (N : Nat) (m r : Int) (hm : 0 ≤ m) (hr : 0 ≤ r) : sumTo (runI N m r) (2 ^ N) = rc N m.toNat r.toNat true + rc N m.toNat r.toNat false := by
  unfold rc
  rw [← sumTo_add]
  refine sumTo_congr _ _ _ (fun s _ => ?_)
  unfold runI rind
  by_cases c : popc N s = m.toNat ∧ rn (bitB s) N = r.toNat
  · have c' : ((popc N s : Nat) : Int) = m ∧ ((rn (bitB s) N : Nat) : Int) = r := by omega
    rw [if_pos c']
    cases bitB s (N - 1) <;> simp [c.1, c.2]
  · have c' : ¬ (((popc N s : Nat) : Int) = m ∧ ((rn (bitB s) N : Nat) : Int) = r) := by omega
    rw [if_neg c', if_neg (fun x => c ⟨x.1, x.2.1⟩), if_neg (fun x => c ⟨x.1, x.2.1⟩)]; rfl

/-- RunCount. -/
def runF (m n r : Int) : Int :=
  if m + n < r then 0
  else if r % 2 = 0 then 2 * binI (m - 1) (r / 2 - 1) * binI (n - 1) (r / 2 - 1)
  else binI (m - 1) (r / 2) * binI (n - 1) (r / 2 - 1) + binI (m - 1) (r / 2 - 1) * binI (n - 1) (r / 2)
def runV (m n r : Int) : Int := if inB m 1 6 = true ∧ inB n 1 6 = true ∧ 1 ≤ r then runF m n r else -1
set_option maxRecDepth 100000 in
theorem rows_formula : ∀ m n : Fin 6, ∀ r : Fin 12, ((rowsN (m.val + n.val + 2) (m.val + 1) (r.val + 1) true : Nat) : Int) + (rowsN (m.val + n.val + 2) (m.val + 1) (r.val + 1) false : Nat) = runF ((m.val : Int) + 1) ((n.val : Int) + 1) ((r.val : Int) + 1) := by
  decide +kernel
theorem run_total (m n r : Int) (hm : 1 ≤ m ∧ m ≤ 6) (hn : 1 ≤ n ∧ n ≤ 6) (hr : 1 ≤ r) : sumTo (runI (m + n).toNat m r) (2 ^ (m + n).toNat) = runF m n r := by
  by_cases h12 : r ≤ 12
  · rw [runI_sum _ _ _ (by omega) (by omega)]
    obtain ⟨a, ha⟩ : ∃ a : Nat, m = (a : Int) + 1 := ⟨(m - 1).toNat, by omega⟩
    obtain ⟨b, hb⟩ : ∃ b : Nat, n = (b : Int) + 1 := ⟨(n - 1).toNat, by omega⟩
    obtain ⟨c, hc⟩ : ∃ c : Nat, r = (c : Int) + 1 := ⟨(r - 1).toNat, by omega⟩
    have e1 : (m + n).toNat = (a + b + 1) + 1 := by omega
    have e2 : m.toNat = a + 1 := by omega
    have e3 : r.toNat = c + 1 := by omega
    rw [e1, e2, e3, rc_rows, rc_rows]
    have := rows_formula ⟨a, by omega⟩ ⟨b, by omega⟩ ⟨c, by omega⟩
    rw [ha, hb, hc]
    exact this
  · have z : runF m n r = 0 := if_pos (by omega)
    rw [z]
    refine sumTo_none _ _ (fun s _ => ?_)
    unfold runI
    rw [if_neg]
    rintro ⟨_, h⟩
    obtain ⟨k, hk⟩ : ∃ k, (m + n).toNat = k + 1 := ⟨(m + n).toNat - 1, by omega⟩
    have := (rn_le (bitB s) k).2
    rw [hk] at h
    omega
end Go.Proofs.Ytohdbbdolmgaaaa
