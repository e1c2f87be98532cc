/-
  The walk of laws.FnFourWays.
-/
import Derived.Test.YtcfeeobjllnofaaFnFourD
namespace Go.Proofs.Ytcfeeobjllnofaa
open Go.RowKit
set_option linter.unusedVariables false

theorem bin_fact (a b : Nat) : bin (a + b) a * (fact a * fact b) = fact (a + b) := by
  induction a with
  | zero => rw [Nat.zero_add, bin_zero]; simp [fact]
  | succ a ih =>
    have h := bin_mul (a + b) a
    have e : a + 1 + b = a + b + 1 := by omega
    rw [e, show fact (a + 1) = (a + 1) * fact a from rfl, show fact (a + b + 1) = (a + b + 1) * fact (a + b) from rfl, ← ih, ← Nat.mul_assoc (a + b + 1), ← h]
    simp only [Nat.mul_assoc, Nat.mul_left_comm, Nat.mul_comm]
theorem bin_grow (m n j : Nat) : bin n j ≤ bin (m + n) j := by
  induction m with
  | zero => rw [Nat.zero_add]; exact Nat.le_refl _
  | succ m ih =>
    have e : m + 1 + n = m + n + 1 := by omega
    rw [e]
    cases j with
    | zero => rw [bin_zero, bin_zero]; exact Nat.le_refl _
    | succ j => rw [bin_succ]; omega
theorem bin_two (m : Nat) : ∀ i n j, bin m i * bin n j ≤ bin (m + n) (i + j) := by
  induction m with
  | zero =>
    intro i n j
    cases i with
    | zero => rw [bin_zero, Nat.one_mul, Nat.zero_add, Nat.zero_add]; exact Nat.le_refl _
    | succ i => rw [bin_gt 0 (i + 1) (by omega), Nat.zero_mul]; exact Nat.zero_le _
  | succ m ih =>
    intro i n j
    cases i with
    | zero => rw [bin_zero, Nat.one_mul, Nat.zero_add]; exact bin_grow (m + 1) n j
    | succ i =>
      have h1 := ih i n j
      have h2 := ih (i + 1) n j
      have e1 : m + 1 + n = m + n + 1 := by omega
      have e2 : i + 1 + j = i + j + 1 := by omega
      rw [bin_succ, Nat.add_mul, e1, e2, bin_succ]
      rw [e2] at h2
      omega
/-- Rows and columns. -/
theorem four_turn (a b c d : Nat) : bin (a + b) a * bin (c + d) c * bin (a + b + c + d) (a + b) = bin (a + c) a * bin (b + d) b * bin (a + b + c + d) (a + c) := by
  have h1 := bin_fact a b
  have h2 := bin_fact c d
  have h3 := bin_fact (a + b) (c + d)
  have h4 := bin_fact a c
  have h5 := bin_fact b d
  have h6 := bin_fact (a + c) (b + d)
  have e1 : a + b + (c + d) = a + b + c + d := by omega
  have e2 : a + c + (b + d) = a + b + c + d := by omega
  rw [e1] at h3
  rw [e2] at h6
  have pa := fact_pos a
  have pb := fact_pos b
  have pc := fact_pos c
  have pd := fact_pos d
  have pp : 0 < fact a * fact b * (fact c * fact d) := Nat.mul_pos (Nat.mul_pos pa pb) (Nat.mul_pos pc pd)
  apply Nat.eq_of_mul_eq_mul_right pp
  generalize bin (a + b) a = x1 at *
  generalize bin (c + d) c = x2 at *
  generalize bin (a + b + c + d) (a + b) = x3 at *
  generalize bin (a + c) a = x4 at *
  generalize bin (b + d) b = x5 at *
  generalize bin (a + b + c + d) (a + c) = x6 at *
  have l : x1 * x2 * x3 * (fact a * fact b * (fact c * fact d)) = x3 * ((x1 * (fact a * fact b)) * (x2 * (fact c * fact d))) := by
    simp only [Nat.mul_assoc, Nat.mul_left_comm, Nat.mul_comm]
  have r : x4 * x5 * x6 * (fact a * fact b * (fact c * fact d)) = x6 * ((x4 * (fact a * fact c)) * (x5 * (fact b * fact d))) := by
    simp only [Nat.mul_assoc, Nat.mul_left_comm, Nat.mul_comm]
  rw [l, r, h1, h2, h3, h4, h5, h6]

/-- The law. -/
theorem four_law (a b c d : Int) (ha : 0 ≤ a ∧ a ≤ 5) (hb : 0 ≤ b ∧ b ≤ 5) (hc : 0 ≤ c ∧ c ≤ 5) (hd : 0 ≤ d ∧ d ≤ 8) :
    1 ≤ fourX a b c d ∧ fourX a b c d ≤ fourY a b c d ∧ fourX a b c d * fourY a c b d = fourX a c b d * fourY a b c d ∧ fourX a b c d ≤ 8388608 ∧ 0 ≤ fourX a c b d ∧ fourX a c b d ≤ 8388608 ∧ 0 ≤ fourY a c b d ∧ fourY a c b d ≤ 8388608 ∧ fourY a b c d ≤ 8388608 := by
  have f1 : fourB a b c d = true := fourB_iff.2 (by omega)
  have f2 : fourB a c b d = true := fourB_iff.2 (by omega)
  obtain ⟨a, rfl⟩ := Int.eq_ofNat_of_zero_le ha.1
  obtain ⟨b, rfl⟩ := Int.eq_ofNat_of_zero_le hb.1
  obtain ⟨c, rfl⟩ := Int.eq_ofNat_of_zero_le hc.1
  obtain ⟨d, rfl⟩ := Int.eq_ofNat_of_zero_le hd.1
  have x1 : fourX a b c d = ((bin (a + b) a * bin (c + d) c : Nat) : Int) := by
    unfold fourX ways4; rw [if_pos f1, ← Int.natCast_add, ← Int.natCast_add, binI_nat, binI_nat, Int.natCast_mul]
  have x2 : fourX a c b d = ((bin (a + c) a * bin (b + d) b : Nat) : Int) := by
    unfold fourX ways4; rw [if_pos f2, ← Int.natCast_add, ← Int.natCast_add, binI_nat, binI_nat, Int.natCast_mul]
  have y1 : fourY a b c d = ((bin (a + b + c + d) (a + c) : Nat) : Int) := by
    unfold fourY; rw [if_pos f1, ← Int.natCast_add, ← Int.natCast_add, ← Int.natCast_add, ← Int.natCast_add, binI_nat]
  have y2 : fourY a c b d = ((bin (a + b + c + d) (a + b) : Nat) : Int) := by
    unfold fourY; rw [if_pos f2, ← Int.natCast_add, ← Int.natCast_add, ← Int.natCast_add, ← Int.natCast_add, binI_nat, show a + c + b + d = a + b + c + d by omega]
  rw [x1, x2, y1, y2]
  have p1 := bin_pos (a + b) a (by omega)
  have p2 := bin_pos (c + d) c (by omega)
  have p3 := Nat.mul_le_mul p1 p2
  have t1 := bin_two (a + b) a (c + d) c
  have t2 := bin_two (a + c) a (b + d) b
  have e1 : a + b + (c + d) = a + b + c + d := by omega
  have e2 : a + c + (b + d) = a + b + c + d := by omega
  rw [e1] at t1
  rw [e2] at t2
  have hl : (2 : Nat) ^ (a + b + c + d) ≤ 2 ^ 23 := two_pow_le (by omega)
  have hl2 : (2 : Nat) ^ 23 = 8388608 := by decide
  have l1 := bin_le (a + b + c + d) (a + c)
  have l2 := bin_le (a + b + c + d) (a + b)
  have hq := four_turn a b c d
  refine ⟨by omega, by omega, ?_, by omega, by omega, by omega, by omega, by omega, by omega⟩
  rw [← Int.natCast_mul, ← Int.natCast_mul, hq]

set_option maxHeartbeats 1000000 in
theorem walk_FnFourWays (a0 : Option Addr) (len0 cap0 : Nat) (z0 : List Int) (w : World) (w0 : IsRow .u8 w a0 len0 cap0 z0) :
    Calls Try.prog 10 #[.slice a0 len0 cap0] w fun e w' => e = .returned (.bool true) ∧ Below w.heap.size w w' := by
  by_cases hbig : 1048576 < len0
  · have hbig' : decide ((1048576 : Int) < (len0 : Int)) = true := decide_eq_true (by omega)
    go_enter Try.func10, Try.ntmps10
    go_wp2_with fail
    go_ret
    exact ⟨rfl, Below.refl _ _⟩
  · have hbig' : decide ((1048576 : Int) < (len0 : Int)) = false := decide_eq_false (by omega)
    go_enter Try.func10, Try.ntmps10
    go_wp2_with fail
    refine (draw_FourWays a0 len0 cap0 z0 w w0).mono ?_
    clear hbig hbig' w0
    rintro e w1 ⟨a, b, c, d, rfl, ha, hb, hc, hd, hb1⟩
    have hbx := below_box w1 (.cells #[.int .i64 a, .int .i64 b, .int .i64 c, .int .i64 d] 26)
    have q1 := hb1.trans (hbx.mono hb1.size)
    go_wp2_with fail
    refine (impl_FourWays a b c d _ (by omega) (by omega) (by omega) (by omega)).mono ?_
    rintro e w2 ⟨rfl, hb2⟩
    obtain ⟨hcc, hfz⟩ := bcell hb2
    have c0 : w2.cell? ⟨w1.heap.size, 0, none⟩ = some (.int .i64 a) := by rw [hcc _ _ (by simp)]; simp
    have c1 : w2.cell? ⟨w1.heap.size, 1, none⟩ = some (.int .i64 b) := by rw [hcc _ _ (by simp)]; simp
    have c2 : w2.cell? ⟨w1.heap.size, 2, none⟩ = some (.int .i64 c) := by rw [hcc _ _ (by simp)]; simp
    have c3 : w2.cell? ⟨w1.heap.size, 3, none⟩ = some (.int .i64 d) := by rw [hcc _ _ (by simp)]; simp
    have q2 := q1.trans (hb2.mono q1.size)
    have s2 : w1.heap.size < w2.heap.size := by have := hb2.size; simp at this; omega
    clear hcc hfz hb2 q1 hbx hb1
    go_wp2_with fail
    refine (spec_FourWays a b c d _ (by omega) (by omega) (by omega) (by omega)).mono ?_
    rintro e w3 ⟨rfl, hb3⟩
    obtain ⟨hcc, hfz⟩ := bcell hb3
    have d0 := (hcc w1.heap.size 0 s2).trans c0
    have d1 := (hcc w1.heap.size 1 s2).trans c1
    have d2 := (hcc w1.heap.size 2 s2).trans c2
    have d3 := (hcc w1.heap.size 3 s2).trans c3
    have q3 := q2.trans (hb3.mono q2.size)
    clear hcc hfz hb3 q2 c0 c1 c2 c3
    by_cases hv : 0 ≤ b ∧ b ≤ 5
    · obtain ⟨l1, l2, l3, l4, l5, l6, l7, l8, l9⟩ := four_law a b c d ha hv hc hd
      have HB := Lib.hid (And.intro ha (And.intro hv (And.intro hc hd)))
      clear ha hb hc hd hv
      have m1 := mul_bd (fourX a b c d) (fourY a c b d) 8388608 8388608 (by omega) l4 l7 l8
      have m2 := mul_bd (fourX a c b d) (fourY a b c d) 8388608 8388608 l5 l6 (by omega) l9
      have H4 := Lib.hid (fun ww => impl_FourWays a c b d ww (by have := HB.out; omega) (by have := HB.out; omega) (by have := HB.out; omega) (by have := HB.out; omega))
      generalize fourX a b c d = X at *
      generalize fourY a b c d = Y at *
      generalize fourX a c b d = X2 at *
      generalize fourY a c b d = Y2 at *
      have v1 : decide (X < 0) = false := decide_eq_false (by omega)
      have v2 : decide (1 ≤ X) = true := decide_eq_true l1
      have v3 : decide (X ≤ Y) = true := decide_eq_true l2
      have v4 : (X * Y2 == X2 * Y) = true := by rw [l3]; simp
      have HL := Lib.hid l3
      clear l3
      go_wp2_with fail
      refine (H4.out _).mono ?_
      rintro e w4 ⟨rfl, hb4⟩
      have q4 := q3.trans (hb4.mono q3.size)
      clear hb4 q3
      go_wp2
      go_ret
      exact ⟨rfl, q4⟩
    · have hf : fourB a b c d = false := by
        cases h : fourB a b c d
        · rfl
        · have := fourB_iff.1 h; omega
      have hx : fourX a b c d = -1 := by unfold fourX; rw [hf]; rfl
      have hy : fourY a b c d = -1 := by unfold fourY; rw [hf]; rfl
      rw [hx, hy]
      clear hx hy hf hv ha hb hc hd
      go_wp2
      go_ret
      exact ⟨rfl, q3⟩
end Go.Proofs.Ytcfeeobjllnofaa
