/-
  Plain mathematics: orders of two letters by their wins.
-/
import Derived.Test.YtohdbbdolmgaaaaLettersW
namespace Go.Proofs.Ytohdbbdolmgaaaa

/-- The pairs of a true behind a false among the first bits. -/
def wn : Nat → Nat → Nat
  | 0, _ => 0
  | k + 1, s => wn k s + if bitB s k = true then k - popc k s else 0
theorem wn_congr (n a b : Nat) (h : ∀ i, i < n → bitN a i = bitN b i) : wn n a = wn n b := by
  induction n with
  | zero => rfl
  | succ n ih =>
    have hb : bitB a n = bitB b n := by unfold bitB; rw [h n (by omega)]
    rw [wn, wn, ih (fun i hi => h i (by omega)), hb, popc_congr n a b (fun i hi => h i (by omega))]
def wc (N p t : Nat) : Int := sumTo (fun s => if popc N s = p ∧ wn N s = t then 1 else 0) (2 ^ N)
theorem wc_zero (p t : Nat) : wc 0 p t = if p = 0 ∧ t = 0 then 1 else 0 := by
  show (0 : Int) + (if popc 0 0 = p ∧ wn 0 0 = t then 1 else 0) = _
  have e : (popc 0 0 = p ∧ wn 0 0 = t) ↔ (p = 0 ∧ t = 0) := by simp [popc, wn]; omega
  by_cases h : p = 0 ∧ t = 0
  · rw [if_pos h, if_pos (e.2 h)]; rfl
  · rw [if_neg h, if_neg (fun x => h (e.1 x))]; rfl
theorem wc_many (N p t : Nat) (h : N < p) : wc N p t = 0 := by
  refine sumTo_none _ _ (fun s _ => ?_)
  rw [if_neg]
  rintro ⟨h1, _⟩
  have := popc_le N s
  omega
theorem wc_succ (N p t : Nat) : wc (N + 1) p t = wc N p t + if 1 ≤ p ∧ N - (p - 1) ≤ t then wc N (p - 1) (t - (N - (p - 1))) else 0 := by
  unfold wc
  rw [sumTo_sets]
  congr 1
  · refine sumTo_congr _ _ _ (fun s hs => ?_)
    have h1 : popc (N + 1) s = popc N s := by rw [popc, bitN_top0 N s hs]; rfl
    have h2 : bitB s N = false := by simp [bitB, bitN_top0 N s hs]
    have h3 : wn (N + 1) s = wn N s := by rw [wn, h2]; rfl
    simp only [h1, h3]
  · have h1 : ∀ s, s < 2 ^ N → popc (N + 1) (2 ^ N + s) = popc N s + 1 := by
      intro s hs; rw [popc, bitN_top1 N s hs, popc_congr N _ s (fun i hi => bitN_low1 N s i hi)]
    have h3 : ∀ s, s < 2 ^ N → wn (N + 1) (2 ^ N + s) = wn N s + (N - popc N s) := by
      intro s hs
      have h2 : bitB (2 ^ N + s) N = true := by simp [bitB, bitN_top1 N s hs]
      rw [wn, h2, if_pos rfl, wn_congr N _ s (fun i hi => bitN_low1 N s i hi), popc_congr N _ s (fun i hi => bitN_low1 N s i hi)]
    by_cases h : 1 ≤ p ∧ N - (p - 1) ≤ t
    · rw [if_pos h]
      refine sumTo_congr _ _ _ (fun s hs => ?_)
      simp only [h1 s hs, h3 s hs]
      by_cases c : popc N s = p - 1 ∧ wn N s = t - (N - (p - 1))
      · rw [if_pos c, if_pos (by omega)]
      · rw [if_neg c, if_neg]
        rintro ⟨c1, c2⟩
        have : popc N s = p - 1 := by omega
        rw [this] at c2
        exact c ⟨this, by omega⟩
    · rw [if_neg h]
      refine sumTo_none _ _ (fun s hs => ?_)
      simp only [h1 s hs, h3 s hs]
      rw [if_neg]
      rintro ⟨c1, c2⟩
      have : popc N s = p - 1 := by omega
      rw [this] at c2
      exact h ⟨by omega, by omega⟩

/-- The counts, by both numbers. -/
def wI : Nat → Nat → Nat → Nat
  | 0 => fun _ t => if t = 0 then 1 else 0
  | m + 1 => fun n => Nat.rec (motive := fun _ => Nat → Nat) (fun t => if t = 0 then 1 else 0) (fun n ih t => (if n + 1 ≤ t then wI m (n + 1) (t - (n + 1)) else 0) + ih t) n
theorem wI_0 (n t : Nat) : wI 0 n t = if t = 0 then 1 else 0 := rfl
theorem wI_m0 (m t : Nat) : wI (m + 1) 0 t = if t = 0 then 1 else 0 := rfl
theorem wI_mn (m n t : Nat) : wI (m + 1) (n + 1) t = (if n + 1 ≤ t then wI m (n + 1) (t - (n + 1)) else 0) + wI (m + 1) n t := rfl
theorem wI_zero0 (m t : Nat) : wI m 0 t = if t = 0 then 1 else 0 := by cases m <;> rfl
theorem wc_wI (k : Nat) : ∀ m n t, m + n ≤ k → wc (m + n) m t = (wI m n t : Nat) := by
  induction k with
  | zero =>
    intro m n t h
    have h1 : m = 0 := by omega
    have h2 : n = 0 := by omega
    subst h1 h2
    rw [wc_zero, wI_0]
    by_cases h : t = 0 <;> simp [h]
  | succ k ih =>
    intro m n t h
    cases m with
    | zero =>
      cases n with
      | zero => rw [wc_zero, wI_0]; by_cases h : t = 0 <;> simp [h]
      | succ n =>
        rw [show 0 + (n + 1) = (0 + n) + 1 from by omega, wc_succ, ih 0 n t (by omega), if_neg (by omega), Int.add_zero]; rfl
    | succ m =>
      cases n with
      | zero =>
        have e := ih m 0 t (by omega)
        rw [Nat.add_zero] at e
        rw [Nat.add_zero, wc_succ, wc_many _ _ _ (by omega), if_pos (by omega), Nat.add_sub_cancel, Nat.sub_self, Nat.sub_zero, e, wI_m0, wI_zero0, Int.zero_add]
      | succ n =>
        rw [show m + 1 + (n + 1) = (m + 1 + n) + 1 from by omega, wc_succ, ih (m + 1) n t (by omega), wI_mn]
        have e : m + 1 + n - (m + 1 - 1) = n + 1 := by omega
        rw [e, Nat.add_sub_cancel]
        have e2 : m + 1 + n = m + (n + 1) := by omega
        rw [e2, ih m (n + 1) _ (by omega)]
        by_cases hc : n + 1 ≤ t
        · rw [if_pos ⟨by omega, hc⟩, if_pos hc]; omega
        · rw [if_neg (by omega), if_neg hc]; omega
theorem wI_out (k : Nat) : ∀ m n t, m + n ≤ k → m * n < t → wI m n t = 0 := by
  induction k with
  | zero =>
    intro m n t h ht
    have h1 : m = 0 := by omega
    subst h1
    rw [wI_0, if_neg (by omega)]
  | succ k ih =>
    intro m n t h ht
    cases m with
    | zero => rw [wI_0, if_neg (by omega)]
    | succ m =>
      cases n with
      | zero => rw [wI_m0, if_neg (by omega)]
      | succ n =>
        have e1 : (m + 1) * (n + 1) = m * (n + 1) + (n + 1) := by rw [Nat.add_mul, Nat.one_mul]
        have e2 : (m + 1) * (n + 1) = (m + 1) * n + (m + 1) := by rw [Nat.mul_add, Nat.mul_one]
        rw [wI_mn, ih (m + 1) n t (by omega) (by omega)]
        split
        · rw [ih m (n + 1) _ (by omega) (by omega)]
        · rfl
/-- WinCounts as a list. -/
def winL (m n : Nat) : List Int := (List.range (m * n + 1)).map (fun t => ((wI m n t : Nat) : Int))
theorem winL_length (m n : Nat) : (winL m n).length = m * n + 1 := by simp [winL]
theorem nth_winL (m n t : Nat) : nth (winL m n) t = (wI m n t : Nat) := by
  by_cases h : t < m * n + 1
  · simp [nth, winL, List.getD, h]
  · rw [nth_out _ _ (by rw [winL_length]; omega), wI_out (m + n) m n t (Nat.le_refl _) (by omega)]; rfl
/-- The place where impl.WinCounts counts a set. -/
def winF (N : Nat) (m : Int) (s : Nat) : Option Nat := if ((popc N s : Nat) : Int) = m then some (wn N s) else none
theorem wn_le (N s : Nat) : wn N s ≤ popc N s * (N - popc N s) := by
  induction N with
  | zero => simp [wn]
  | succ N ih =>
    have hp := popc_le N s
    rw [wn, popc]
    unfold bitB
    have hb := bitN_lt s N
    by_cases h : bitN s N = 1
    · simp only [h, decide_true, if_true]
      have e : N + 1 - (popc N s + 1) = N - popc N s := by omega
      rw [e, Nat.add_mul, Nat.one_mul]; omega
    · have h0 : bitN s N = 0 := by omega
      simp only [h0]
      have e : N + 1 - (popc N s + 0) = (N - popc N s) + 1 := by omega
      rw [e, Nat.add_zero, Nat.mul_add, Nat.mul_one]
      simp; omega
theorem winF_lt (m n : Nat) (s p : Nat) (h : winF (m + n) m s = some p) : p < m * n + 1 := by
  unfold winF at h
  split at h
  · rename_i hp
    injection h with h
    have h2 := wn_le (m + n) s
    have : popc (m + n) s = m := by omega
    rw [this, show m + n - m = n from by omega] at h2
    omega
  · cases h
theorem win_acc (m n : Nat) : accBy (m * n + 1) (winF (m + n) m) (2 ^ (m + n)) = winL m n := by
  refine list_ext (by rw [accBy_length, winL_length]) (fun p hp => ?_)
  rw [nth_accBy _ _ _ (fun s p _ h => winF_lt m n s p h), nth_winL, ← wc_wI (m + n) m n p (Nat.le_refl _)]
  unfold wc
  refine sumTo_congr _ _ _ (fun s _ => ?_)
  unfold winF
  by_cases h : popc (m + n) s = m
  · have h' : ((popc (m + n) s : Nat) : Int) = m := by omega
    rw [if_pos h']
    by_cases h2 : wn (m + n) s = p
    · simp [h, h2]
    · simp [h2]
  · have h' : ¬ ((popc (m + n) s : Nat) : Int) = m := by omega
    rw [if_neg h']
    simp [h]

/-- The first loop of spec.winCounts: x shifted by n. -/
def winA (len : Nat) (X : List Int) (n : Nat) : Nat → List Int
  | 0 => List.replicate len 0
  | i + 1 => addAt (winA len X n i) (i + n) (nth X i)
theorem winA_length (len : Nat) (X : List Int) (n i : Nat) : (winA len X n i).length = len := by
  induction i with
  | zero => simp [winA]
  | succ i ih => rw [winA, addAt_length, ih]
theorem nth_winA (len : Nat) (X : List Int) (n i : Nat) (h : i + n ≤ len) (p : Nat) : nth (winA len X n i) p = if n ≤ p ∧ p - n < i then nth X (p - n) else 0 := by
  induction i with
  | zero => rw [winA, nth_replicate, if_neg (by omega)]
  | succ i ih =>
    rw [winA, nth_addAt _ _ _ _ (by rw [winA_length]; omega), ih (by omega)]
    by_cases b : i + n = p
    · have : p - n = i := by omega
      rw [if_pos b, if_neg (by omega), if_pos (by omega), this, Int.zero_add]
    · rw [if_neg b, Int.add_zero]
      by_cases a : n ≤ p ∧ p - n < i
      · rw [if_pos a, if_pos (by omega)]
      · rw [if_neg a, if_neg (by omega)]
/-- The second loop: y. -/
def winB (A Y : List Int) : Nat → List Int
  | 0 => A
  | i + 1 => addAt (winB A Y i) i (nth Y i)
theorem winB_length (A Y : List Int) (i : Nat) : (winB A Y i).length = A.length := by
  induction i with
  | zero => rfl
  | succ i ih => rw [winB, addAt_length, ih]
theorem nth_winB (A Y : List Int) (i : Nat) (h : i ≤ A.length) (p : Nat) : nth (winB A Y i) p = nth A p + if p < i then nth Y p else 0 := by
  induction i with
  | zero => simp [winB]
  | succ i ih =>
    rw [winB, nth_addAt _ _ _ _ (by rw [winB_length]; omega), ih (by omega)]
    by_cases b : i = p
    · subst b; rw [if_pos rfl, if_neg (by omega), if_pos (by omega), Int.add_zero]
    · rw [if_neg b, Int.add_zero]
      by_cases a : p < i
      · rw [if_pos a, if_pos (by omega)]
      · rw [if_neg a, if_neg (by omega)]
theorem win_join (m n : Nat) (hm : 1 ≤ m) (hn : 1 ≤ n) :
    winB (winA (m * n + 1) (winL (m - 1) n) n ((m - 1) * n + 1)) (winL m (n - 1)) (m * (n - 1) + 1) = winL m n := by
  obtain ⟨m, rfl⟩ : ∃ k, m = k + 1 := ⟨m - 1, by omega⟩
  obtain ⟨n, rfl⟩ : ∃ k, n = k + 1 := ⟨n - 1, by omega⟩
  have e1 : (m + 1) * (n + 1) = m * (n + 1) + (n + 1) := by rw [Nat.add_mul, Nat.one_mul]
  have e2 : (m + 1) * (n + 1) = (m + 1) * n + (m + 1) := by rw [Nat.mul_add, Nat.mul_one]
  simp only [Nat.add_sub_cancel]
  refine list_ext (by rw [winB_length, winA_length, winL_length]) (fun p hp => ?_)
  rw [nth_winB _ _ _ (by rw [winA_length]; omega), nth_winA _ _ _ _ (by omega), nth_winL, nth_winL, nth_winL, wI_mn]
  have c1 : (if n + 1 ≤ p ∧ p - (n + 1) < m * (n + 1) + 1 then ((wI m (n + 1) (p - (n + 1)) : Nat) : Int) else 0) = ((if n + 1 ≤ p then wI m (n + 1) (p - (n + 1)) else 0 : Nat) : Int) := by
    by_cases a : n + 1 ≤ p
    · by_cases b : p - (n + 1) < m * (n + 1) + 1
      · rw [if_pos ⟨a, b⟩, if_pos a]
      · rw [if_neg (fun x => b x.2), if_pos a, wI_out _ m (n + 1) _ (Nat.le_refl _) (by omega)]; rfl
    · rw [if_neg (fun x => a x.1), if_neg a]; rfl
  have c2 : (if p < (m + 1) * n + 1 then ((wI (m + 1) n p : Nat) : Int) else 0) = ((wI (m + 1) n p : Nat) : Int) := by
    by_cases a : p < (m + 1) * n + 1
    · rw [if_pos a]
    · rw [if_neg a, wI_out _ (m + 1) n _ (Nat.le_refl _) (by omega)]; rfl
  rw [c1, c2]; omega
theorem wI_bd (m n t : Nat) (h : m + n ≤ 12) : 0 ≤ ((wI m n t : Nat) : Int) ∧ ((wI m n t : Nat) : Int) ≤ 4096 := by
  rw [← wc_wI (m + n) m n t (Nat.le_refl _)]
  have h1 := ind_bd (fun s => popc (m + n) s = m ∧ wn (m + n) s = t) (2 ^ (m + n))
  have h2 : 2 ^ (m + n) ≤ 2 ^ 12 := Nat.pow_le_pow_right (by omega) h
  have h3 : 2 ^ 12 = 4096 := by decide
  unfold wc
  omega
end Go.Proofs.Ytohdbbdolmgaaaa
