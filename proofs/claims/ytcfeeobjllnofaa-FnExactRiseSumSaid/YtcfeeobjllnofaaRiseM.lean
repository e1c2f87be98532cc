/-
  The least sum of distances of a row that rises: heights of the numbers suffice. (No program in sight.)
-/
import Derived.Test.YtcfeeobjllnofaaMem
namespace Go.Proofs.Ytcfeeobjllnofaa
set_option linter.unusedVariables false

/-- The least up to k. -/
def pm (f : Nat → Int) : Nat → Int
  | 0 => f 0
  | k + 1 => if f (k + 1) < pm f k then f (k + 1) else pm f k
/-- How far a number is from a height. -/
def absI (x l : Int) : Int := if x - l < l - x then l - x else x - l
/-- The sums row by row, over heights L. -/
def runF (ws xs : Nat → Int) (L : Nat → Int) : Nat → Nat → Int
  | 0 => fun _ => 0
  | i + 1 => fun k => pm (runF ws xs L i) k + ws i * absI (xs i) (L k)
theorem pm_self (f : Nat → Int) (k : Nat) : pm f k ≤ f k := by
  cases k with
  | zero => exact Int.le_refl _
  | succ k => unfold pm; split <;> omega
theorem pm_step (f : Nat → Int) (k : Nat) : pm f (k + 1) ≤ pm f k := by
  conv => lhs; unfold pm
  split <;> omega
theorem pm_or (f : Nat → Int) (k : Nat) : pm f (k + 1) = pm f k ∨ pm f (k + 1) = f (k + 1) := by
  conv => lhs; lhs; unfold pm
  conv => rhs; lhs; unfold pm
  split
  · exact .inr rfl
  · exact .inl rfl
theorem pm_anti (f : Nat → Int) (a : Nat) : ∀ t, pm f (a + t) ≤ pm f a := by
  intro t
  induction t with
  | zero => exact Int.le_refl _
  | succ t ih => exact Int.le_trans (pm_step f (a + t)) ih
theorem pm_anti' (f : Nat → Int) {a b : Nat} (h : a ≤ b) : pm f b ≤ pm f a := by
  have := pm_anti f a (b - a)
  rwa [show a + (b - a) = b from by omega] at this
theorem pm_le (f : Nat → Int) {j k : Nat} (h : j ≤ k) : pm f k ≤ f j := Int.le_trans (pm_anti' f h) (pm_self f j)
theorem pm_ge (f : Nat → Int) (c : Int) (k : Nat) (h : ∀ j, j ≤ k → c ≤ f j) : c ≤ pm f k := by
  induction k with
  | zero => exact h 0 (Nat.le_refl _)
  | succ k ih =>
    have h1 := ih (fun j hj => h j (by omega))
    have h2 := h (k + 1) (Nat.le_refl _)
    unfold pm; split <;> omega
theorem absI_nonneg (x l : Int) : 0 ≤ absI x l := by unfold absI; split <;> omega
theorem runF_nonneg (ws xs L : Nat → Int) (hw : ∀ i, 0 ≤ ws i) : ∀ i k, 0 ≤ runF ws xs L i k := by
  intro i
  induction i with
  | zero => intro k; exact Int.le_refl _
  | succ i ih =>
    intro k
    have h1 := pm_ge (runF ws xs L i) 0 k (fun j _ => ih j)
    have h2 := Int.mul_nonneg (hw i) (absI_nonneg (xs i) (L k))
    show 0 ≤ pm (runF ws xs L i) k + ws i * absI (xs i) (L k)
    omega

theorem climb (g : Nat → Int) (a b : Nat) (hab : a ≤ b) (h : ∀ e, a ≤ e → e < b → g e ≤ g (e + 1)) : g a ≤ g b := by
  obtain ⟨t, rfl⟩ : ∃ t, b = a + t := ⟨b - a, by omega⟩
  clear hab
  induction t with
  | zero => exact Int.le_refl _
  | succ t ih => exact Int.le_trans (ih (fun e h1 h2 => h e h1 (by omega))) (h (a + t) (by omega) (by omega))
/-- Between its ends a bowed row is nowhere below both. -/
theorem bowed (g : Nat → Int) (a b d : Nat) (hab : a ≤ b) (hbd : b ≤ d) (h : ∀ e, a ≤ e → e + 1 < d → g e + g (e + 2) ≤ 2 * g (e + 1)) : g a ≤ g b ∨ g d ≤ g b := by
  by_cases hx : ∃ e, a ≤ e ∧ e < b ∧ g (e + 1) < g e
  · right
    obtain ⟨e, h1, h2, h3⟩ := hx
    have down : ∀ t, e + t < d → g (e + t + 1) < g (e + t) := by
      intro t
      induction t with
      | zero => intro _; exact h3
      | succ t ih =>
        intro ht
        have h4 := ih (by omega)
        have h5 := h (e + t) (by omega) (by omega)
        have e1 : e + (t + 1) + 1 = e + t + 2 := by omega
        have e2 : e + (t + 1) = e + t + 1 := by omega
        rw [e1, e2]
        omega
    have := climb (fun m => - g m) b d hbd (fun m hm1 hm2 => by
      have h6 := down (m - e) (by omega)
      rw [show e + (m - e) = m from by omega] at h6
      show - g m ≤ - g (m + 1)
      omega)
    have h7 : - g b ≤ - g d := this
    omega
  · left
    exact climb g a b hab (fun e h1 h2 => by
      rcases Int.lt_or_le (g (e + 1)) (g e) with h3 | h3
      · exact absurd ⟨e, h1, h2, h3⟩ hx
      · exact h3)

/-- Sums over heights from -30 on. -/
abbrev hF (ws xs : Nat → Int) (i : Nat) : Nat → Int := runF ws xs (fun b => (b : Int) - 30) i
theorem affine (x : Int) (e : Nat) (w : Int) (h : ((e + 1 : Nat) : Int) - 30 ≠ x) : 2 * (w * absI x (((e + 1 : Nat) : Int) - 30)) = w * absI x (((e : Nat) : Int) - 30) + w * absI x (((e + 2 : Nat) : Int) - 30) := by
  have e1 : 2 * absI x (((e + 1 : Nat) : Int) - 30) = absI x (((e : Nat) : Int) - 30) + absI x (((e + 2 : Nat) : Int) - 30) := by
    unfold absI
    split <;> split <;> split <;> omega
  rw [← Int.mul_add, ← e1, ← Int.mul_assoc, ← Int.mul_assoc, Int.mul_comm 2 w]
theorem far_le (x w : Int) (hw : 0 ≤ w) (a b : Int) (h : (a ≤ b ∧ b ≤ x) ∨ (x ≤ b ∧ b ≤ a)) : w * absI x b ≤ w * absI x a := by
  apply Int.mul_le_mul_of_nonneg_left _ hw
  unfold absI
  split <;> split <;> omega

/-- Whether b is none of the heights. -/
def Off (T : Nat → Nat) (n b : Nat) : Prop := ∀ k, k < n → T k ≠ b

theorem rise_all (ws xs : Nat → Int) (T : Nat → Nat) (n : Nat) (hn : 0 < n) (hT : ∀ i j, i ≤ j → j < n → T i ≤ T j) (hw : ∀ i, 0 ≤ ws i) (N : Nat) (hx : ∀ i, i < N → ∃ k, k < n ∧ xs i = (T k : Int) - 30) :
    ∀ i, i ≤ N → (∀ k, k < n → pm (runF ws xs (fun k => (T k : Int) - 30) i) k = pm (hF ws xs i) (T k)) ∧
      (∀ e, Off T n (e + 1) → pm (hF ws xs i) e + pm (hF ws xs i) (e + 2) ≤ 2 * pm (hF ws xs i) (e + 1)) ∧
      (∀ t, pm (hF ws xs i) (T (n - 1) + t) = pm (hF ws xs i) (T (n - 1))) := by
  intro i
  induction i with
  | zero =>
    intro _
    have hz : ∀ (f : Nat → Int), (∀ k, f k = 0) → ∀ k, pm f k = 0 := by
      intro f hf k
      induction k with
      | zero => exact hf 0
      | succ k ih => unfold pm; rw [ih, hf]; simp
    have h1 := hz (runF ws xs (fun k => (T k : Int) - 30) 0) (fun _ => rfl)
    have h2 := hz (hF ws xs 0) (fun _ => rfl)
    refine ⟨fun k _ => by rw [h1, h2], fun e _ => by rw [h2, h2, h2]; omega, fun t => by rw [h2, h2]⟩
  | succ i ih =>
    intro hiN
    obtain ⟨hA, hB, hC⟩ := ih (by omega)
    obtain ⟨kx, hkx, hxi⟩ := hx i (by omega)
    have hwi := hw i
    -- the new row over all heights
    have hg : ∀ b, hF ws xs (i + 1) b = pm (hF ws xs i) b + ws i * absI (xs i) ((b : Int) - 30) := fun b => rfl
    have hs : ∀ k, k < n → runF ws xs (fun k => (T k : Int) - 30) (i + 1) k = hF ws xs (i + 1) (T k) := fun k hk => by
      rw [hg, ← hA k hk]; rfl
    have hbow : ∀ e, Off T n (e + 1) → hF ws xs (i + 1) e + hF ws xs (i + 1) (e + 2) ≤ 2 * hF ws xs (i + 1) (e + 1) := fun e he => by
      have h1 := hB e he
      have h2 := affine (xs i) e (ws i) (by rw [hxi]; have := he kx hkx; omega)
      rw [hg, hg, hg]
      omega
    have hend : ∀ t, hF ws xs (i + 1) (T (n - 1)) ≤ hF ws xs (i + 1) (T (n - 1) + t) := fun t => by
      rw [hg, hg, hC t]
      have h1 := hT kx (n - 1) (by omega) (by omega)
      have := far_le (xs i) (ws i) hwi (((T (n - 1) + t : Nat) : Int) - 30) ((T (n - 1) : Int) - 30) (.inr (by omega))
      omega
    have hfirst : ∀ b, b ≤ T 0 → hF ws xs (i + 1) (T 0) ≤ hF ws xs (i + 1) b := fun b hb => by
      rw [hg, hg]
      have h1 := hT 0 kx (by omega) hkx
      have h2 := pm_anti' (hF ws xs i) hb
      have h3 := far_le (xs i) (ws i) hwi ((b : Int) - 30) ((T 0 : Int) - 30) (.inl (by omega))
      omega
    -- over the heights of the numbers nothing is lost
    have hlow : ∀ k, k < n → ∀ b, b ≤ T k → pm (runF ws xs (fun k => (T k : Int) - 30) (i + 1)) k ≤ hF ws xs (i + 1) b := by
      intro k
      induction k with
      | zero =>
        intro hk b hb
        have h1 := hfirst b hb
        have h2 := pm_self (runF ws xs (fun k => (T k : Int) - 30) (i + 1)) 0
        rw [hs 0 hk] at h2
        omega
      | succ k ihk =>
        intro hk b hb
        have h0 := pm_step (runF ws xs (fun k => (T k : Int) - 30) (i + 1)) k
        by_cases h1 : b ≤ T k
        · have := ihk (by omega) b h1; omega
        · have h2 := pm_self (runF ws xs (fun k => (T k : Int) - 30) (i + 1)) (k + 1)
          have h3 := pm_self (runF ws xs (fun k => (T k : Int) - 30) (i + 1)) k
          rw [hs (k + 1) hk] at h2
          rw [hs k (by omega)] at h3
          have h4 := bowed (hF ws xs (i + 1)) (T k) b (T (k + 1)) (by omega) hb (fun e he1 he2 => hbow e (fun j hj e2 => by
            rcases Nat.lt_or_ge j (k + 1) with h5 | h5
            · have := hT j k (by omega) (by omega); omega
            · have := hT (k + 1) j h5 hj; omega))
          rcases h4 with h4 | h4 <;> omega
    refine ⟨fun k hk => ?_, fun e he => ?_, fun t => ?_⟩
    · apply Int.le_antisymm
      · exact pm_ge _ _ _ (fun b hb => hlow k hk b hb)
      · refine pm_ge _ _ _ (fun j hj => ?_)
        rw [hs j (by omega)]
        exact pm_le _ (hT j k hj hk)
    · have h1 := hbow e he
      have h2 := pm_self (hF ws xs (i + 1)) e
      have h3 := pm_self (hF ws xs (i + 1)) (e + 2)
      have h4 := pm_step (hF ws xs (i + 1)) (e + 1)
      rcases pm_or (hF ws xs (i + 1)) e with h5 | h5
      · have e1 : e + 1 + 1 = e + 2 := by omega
        rw [e1] at h4
        omega
      · omega
    · induction t with
      | zero => rfl
      | succ t iht =>
        rcases pm_or (hF ws xs (i + 1)) (T (n - 1) + t) with h5 | h5
        · rw [show T (n - 1) + (t + 1) = T (n - 1) + t + 1 from rfl, h5, iht]
        · have h6 := hend (t + 1)
          have h7 := pm_self (hF ws xs (i + 1)) (T (n - 1))
          have h8 := pm_step (hF ws xs (i + 1)) (T (n - 1) + t)
          rw [show T (n - 1) + (t + 1) = T (n - 1) + t + 1 from rfl] at h6 ⊢
          omega

/-- The law. -/
theorem rise_law (ws xs : Nat → Int) (T : Nat → Nat) (n : Nat) (hn : 0 < n) (hT : ∀ i j, i ≤ j → j < n → T i ≤ T j) (hw : ∀ i, 0 ≤ ws i) (N : Nat) (hx : ∀ i, i < N → ∃ k, k < n ∧ xs i = (T k : Int) - 30) (hl : T (n - 1) ≤ 60) (i : Nat) (hi : i ≤ N) :
    pm (runF ws xs (fun k => (T k : Int) - 30) i) (n - 1) = pm (hF ws xs i) 60 := by
  obtain ⟨hA, _, hC⟩ := rise_all ws xs T n hn hT hw N hx i hi
  rw [hA (n - 1) (by omega), ← hC (60 - T (n - 1)), show T (n - 1) + (60 - T (n - 1)) = 60 from by omega]
end Go.Proofs.Ytcfeeobjllnofaa
