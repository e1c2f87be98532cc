/-
  Contracts of chapter 4: the terms, the tails.
-/
import Derived.Test.YtfnkeopkealkoaaNum
import Derived.Test.YtfnkeopkealkoaaSum
import Derived.Handy
namespace Go.Proofs.Ytfnkeopkealkoaa
open Go.RowKit

/-- The ways with just h hits. -/
def termI (n h u v : Int) : Int := binI n h * u ^ h.toNat * (v - u) ^ (n - h).toNat

theorem binI_bd10 (n k : Int) (_h0 : 0 ≤ n) (h : n ≤ 10) : 0 ≤ binI n k ∧ binI n k ≤ 1024 := by
  refine ⟨binI_nonneg n k, ?_⟩
  unfold binI
  split
  · omega
  · have := bin_le n.toNat k.toNat
    have h2 : (2 : Nat) ^ n.toNat ≤ 2 ^ 10 := two_pow_le (by omega)
    have h3 : (2 : Nat) ^ 10 = 1024 := by decide
    omega
theorem pow_mono (x y : Int) (h0 : 0 ≤ x) (h1 : x ≤ y) (j : Nat) : x ^ j ≤ y ^ j := by
  induction j with
  | zero => simp
  | succ j ih =>
    rw [Int.pow_succ, Int.pow_succ]
    exact Int.mul_le_mul ih h1 h0 (Int.pow_nonneg (by omega))
theorem two_pows (u v : Int) (a b : Nat) (u0 : 0 ≤ u) (u1 : u ≤ v) (v1 : v ≤ 12) (hab : a + b ≤ 10) : 0 ≤ u ^ a * (v - u) ^ b ∧ u ^ a * (v - u) ^ b ≤ 61917364224 := by
  refine ⟨Int.mul_nonneg (Int.pow_nonneg u0) (Int.pow_nonneg (by omega)), ?_⟩
  have h1 := Int.mul_le_mul (pow_mono u v u0 u1 a) (pow_mono (v - u) v (by omega) (by omega) b) (Int.pow_nonneg (by omega)) (Int.pow_nonneg (by omega))
  rw [← Int.pow_add] at h1
  have := pow_bd v (by omega) v1 (a + b) hab
  omega
theorem termI_bd (n h u v : Int) (h0 : 0 ≤ n) (h1 : n ≤ 10) (k0 : 0 ≤ h) (k1 : h ≤ n) (u0 : 0 ≤ u) (u1 : u ≤ v) (v1 : v ≤ 12) : 0 ≤ termI n h u v ∧ termI n h u v ≤ 63403380965376 := by
  have b1 := binI_bd10 n h h0 h1
  have m1 := two_pows u v h.toNat (n - h).toNat u0 u1 v1 (by omega)
  have m2 := mul_bd (binI n h) (u ^ h.toNat * (v - u) ^ (n - h).toNat) 1024 61917364224 b1.1 b1.2 m1.1 m1.2
  rw [← Int.mul_assoc] at m2
  unfold termI
  omega

set_option maxHeartbeats 400000 in
theorem impl_exact (n h u v : Int) (w : World) (h0 : 0 ≤ n) (h1 : n ≤ 10) (k0 : 0 ≤ h) (k1 : h ≤ n) (u0 : 0 ≤ u) (u1 : u ≤ v) (v1 : v ≤ 12) :
    Calls Try.prog 78 #[.int .i64 n, .int .i64 h, .int .i64 u, .int .i64 v] w fun e w' => e = .returned (.int .i64 (termI n h u v)) ∧ w = w' := by
  have b1 := binI_bd10 n h h0 h1
  have b2 := pow_bd u u0 (by omega) h.toNat (by omega)
  have b3 := pow_bd (v - u) (by omega) (by omega) (n - h).toNat (by omega)
  have m1 := mul_bd (binI n h) (u ^ h.toNat) 1024 61917364224 b1.1 b1.2 b2.1 b2.2
  have m2 := termI_bd n h u v h0 h1 k0 k1 u0 u1 v1
  unfold termI at m2 ⊢
  go_enter Try.func78, Try.ntmps78
  go_wp2_with (first | (go_at_call 68; refine (impl_choose _ _ _ (by omega) (by omega)).mono ?_; rintro e w' ⟨rfl, rfl⟩) | (go_at_call 73; refine (impl_power _ _ _ (by omega) (by omega) (by omega) (by omega)).mono ?_; rintro e w' ⟨rfl, rfl⟩))
  go_ret
  exact ⟨rfl, rfl⟩

set_option maxHeartbeats 400000 in
theorem spec_term (n h u v : Int) (w : World) (h0 : 0 ≤ n) (h1 : n ≤ 10) (k0 : 0 ≤ h) (k1 : h ≤ n) (u0 : 0 ≤ u) (u1 : u ≤ v) (v1 : v ≤ 12) :
    Calls Try.prog 69 #[.int .i64 n, .int .i64 h, .int .i64 u, .int .i64 v] w fun e w' => e = .returned (.int .i64 (termI n h u v)) ∧ w = w' := by
  have b1 := binI_bd10 n h h0 h1
  have b2 := pow_bd u u0 (by omega) h.toNat (by omega)
  have b3 := pow_bd (v - u) (by omega) (by omega) (n - h).toNat (by omega)
  have m1 := mul_bd (binI n h) (u ^ h.toNat) 1024 61917364224 b1.1 b1.2 b2.1 b2.2
  have m2 := termI_bd n h u v h0 h1 k0 k1 u0 u1 v1
  unfold termI at m2 ⊢
  go_enter Try.func69, Try.ntmps69
  go_wp2_with (first | (go_at_call 67; refine (spec_choose _ _ _ (by omega) (by omega)).mono ?_; rintro e w' ⟨rfl, rfl⟩) | (go_at_call 59; refine (spec_raise _ _ _ (by omega) (by omega) (by omega) (by omega)).mono ?_; rintro e w' ⟨rfl, rfl⟩))
  go_ret
  exact ⟨rfl, rfl⟩

def tailF (n k u v : Int) (h : Nat) : Int := if k ≤ (h : Int) then termI n h u v else 0
theorem tailF_bd (n k u v : Int) (h : Nat) (h0 : 0 ≤ n) (h1 : n ≤ 10) (k1 : (h : Int) ≤ n) (u0 : 0 ≤ u) (u1 : u ≤ v) (v1 : v ≤ 12) : 0 ≤ tailF n k u v h ∧ tailF n k u v h ≤ 63403380965376 := by
  unfold tailF
  split
  · exact termI_bd n h u v h0 h1 (by omega) k1 u0 u1 v1
  · omega
theorem tail_sum_bd (n k u v : Int) (j : Nat) (h0 : 0 ≤ n) (h1 : n ≤ 10) (hj : (j : Int) ≤ n + 1) (u0 : 0 ≤ u) (u1 : u ≤ v) (v1 : v ≤ 12) : 0 ≤ sumTo (tailF n k u v) j ∧ sumTo (tailF n k u v) j ≤ 697437190619136 := by
  have := sumTo_bd (tailF n k u v) 63403380965376 j (fun h hh => tailF_bd n k u v h h0 h1 (by omega) u0 u1 v1)
  omega
theorem tail_none (n k u v : Int) (j : Nat) (h : (j : Int) ≤ k ∨ j = 0) : sumTo (tailF n k u v) j = 0 := by
  rcases h with h | rfl
  · refine sumTo_none _ _ (fun i hi => ?_)
    unfold tailF; rw [if_neg (by omega)]
  · rfl
theorem tail_next (n k u v : Int) (j : Nat) (h : k ≤ (j : Int)) : sumTo (tailF n k u v) (j + 1) = sumTo (tailF n k u v) j + termI n j u v := by
  rw [sumTo_succ]; unfold tailF; rw [if_pos h]
theorem tail_skip (n k u v : Int) (j : Nat) (h : ¬ k ≤ (j : Int)) : sumTo (tailF n k u v) (j + 1) = sumTo (tailF n k u v) j := by
  rw [sumTo_succ]; unfold tailF; rw [if_neg h, Int.add_zero]
theorem tail_end (n k u v : Int) (j : Nat) (h0 : 0 ≤ n) (h : (j : Int) = n + 1 ∨ (n + 1 ≤ (j : Int) ∧ (j : Int) ≤ k)) : sumTo (tailF n k u v) j = sumTo (tailF n k u v) (n + 1).toNat := by
  rcases h with h | h
  · congr 1; omega
  · rw [tail_none n k u v j (by omega), tail_none n k u v _ (by omega)]

set_option maxHeartbeats 400000 in
theorem spec_tail (n k u v : Int) (w : World) (h0 : 0 ≤ n) (h1 : n ≤ 10) (u0 : 0 ≤ u) (u1 : u ≤ v) (v1 : v ≤ 12) :
    Calls Try.prog 60 #[.int .i64 n, .int .i64 k, .int .i64 u, .int .i64 v] w fun e w' => e = .returned (.int .i64 (sumTo (tailF n k u v) (n + 1).toNat)) ∧ w = w' := by
  by_cases hk0 : k < 0
  all_goals
    go_enter Try.func60, Try.ntmps60
    go_wp2
    go_loop [9, 10] (fun o i => ∃ j : Nat, k ≤ (j : Int) ∧ ((j : Int) ≤ n + 1 ∨ (j : Int) ≤ k) ∧ i = .int .i64 j ∧ o = .int .i64 (sumTo (tailF n k u v) j)) (fun _ i => (n + 1).toNat - (intOf i).toNat)
    case atStart =>
      exact ⟨k.toNat, by omega, by omega, by go_num, by rw [tail_none n k u v _ (by omega)]⟩
    case round =>
      obtain ⟨j, hj, hj2, rfl, rfl⟩ := hrel
      by_cases hlt : (j : Int) ≤ n
      · have hb := tail_sum_bd n k u v j h0 h1 (by omega) u0 u1 v1
        have ht := termI_bd n j u v h0 h1 (by omega) hlt u0 u1 v1
        have hs := Lib.hid (tail_next n k u v j hj)
        go_wp2_with (go_at_call 69; refine (spec_term _ _ _ _ _ h0 h1 (by omega) hlt u0 u1 v1).mono ?_; rintro e w' ⟨rfl, rfl⟩)
        go_round
        case rel => exact ⟨j + 1, by omega, by omega, by go_num, by rw [hs.out]⟩
        case measure => simp [intOf]; omega
      · have hz := Lib.hid (tail_end n k u v j h0 (by omega))
        go_wp2
        go_ret
        exact ⟨ret_int hz.out, rfl⟩

theorem tail_may (h k : Int) (b : Nat) (w : World) (hk : w.cell? ⟨b, 0, none⟩ = some (.int .i64 k)) :
    Calls Try.prog 72 #[.int .i64 h, .pointer (some ⟨b, 0, none⟩)] w fun e w' => e = .returned (.bool (decide (k ≤ h))) ∧ w = w' := by
  go_enter Try.func72, Try.ntmps72
  go_wp2_with fail
  go_ret
  exact ⟨rfl, rfl⟩

set_option maxHeartbeats 400000 in
theorem impl_part_tail (n k u v : Int) (b : Nat) (w : World) (h0 : 0 ≤ n) (h1 : n ≤ 10) (u0 : 0 ≤ u) (u1 : u ≤ v) (v1 : v ≤ 12) (hk : w.cell? ⟨b, 0, none⟩ = some (.int .i64 k)) :
    Calls Try.prog 71 #[.int .i64 n, .int .i64 u, .int .i64 v, .func (Fn.func 72) #[] #[.pointer (some ⟨b, 0, none⟩)]] w fun e w' => e = .returned (.int .i64 (sumTo (tailF n k u v) (n + 1).toNat)) ∧ w = w' := by
  go_enter Try.func71, Try.ntmps71
  go_wp2
  go_loop [9, 10] (fun o i => ∃ j : Nat, (j : Int) ≤ n + 1 ∧ i = .int .i64 j ∧ o = .int .i64 (sumTo (tailF n k u v) j)) (fun _ i => (n + 1).toNat - (intOf i).toNat)
  case atStart => exact ⟨0, by omega, rfl, rfl⟩
  case round =>
    obtain ⟨j, hj, rfl, rfl⟩ := hrel
    by_cases hlt : (j : Int) ≤ n
    · have hb := tail_sum_bd n k u v j h0 h1 (by omega) u0 u1 v1
      have ht := termI_bd n j u v h0 h1 (by omega) hlt u0 u1 v1
      by_cases hx : k ≤ (j : Int)
      · have hs := Lib.hid (tail_next n k u v j hx)
        go_wp2_with (first | (go_at_call 72; refine (tail_may _ k b _ hk).mono ?_; rintro e w' ⟨rfl, rfl⟩) | (go_at_call 78; refine (impl_exact _ _ _ _ _ h0 h1 (by omega) hlt u0 u1 v1).mono ?_; rintro e w' ⟨rfl, rfl⟩))
        go_round
        case rel => exact ⟨j + 1, by omega, by go_num, by rw [hs.out]⟩
        case measure => simp [intOf]; omega
      · have hs := Lib.hid (tail_skip n k u v j hx)
        go_wp2_with (first | (go_at_call 72; refine (tail_may _ k b _ hk).mono ?_; rintro e w' ⟨rfl, rfl⟩))
        go_round
        case rel => exact ⟨j + 1, by omega, by go_num, by rw [hs.out]⟩
        case measure => simp [intOf]; omega
    · go_wp2
      go_ret
      exact ⟨ret_int (by congr 1; omega), rfl⟩

/-- Tries. -/
def triesB (n u v : Int) : Bool := inB n 0 10 && (inB v 1 12 && inB u 0 v)
theorem triesB_iff {n u v : Int} : triesB n u v = true ↔ inB n 0 10 = true ∧ inB v 1 12 = true ∧ inB u 0 v = true := by unfold triesB; simp

set_option maxHeartbeats 400000 in
theorem spec_tries (n u v : Int) (w : World) :
    Calls Try.prog 57 #[.int .i64 n, .int .i64 u, .int .i64 v] w fun e w' => e = .returned (.bool (triesB n u v)) ∧ w = w' := by
  have hz : Hid (triesB n u v = (inB n 0 10 && (inB v 1 12 && inB u 0 v))) := rfl
  cases h1 : inB n 0 10
  all_goals
    cases h2 : inB v 1 12
    all_goals
      go_enter Try.func57, Try.ntmps57
      go_wp2_with (go_at_call 37; refine (spec_inRange _ _ _ _).mono ?_; rintro e w' ⟨rfl, rfl⟩)
      go_ret
      exact ⟨ret_bool (by rw [hz.out, h1, h2]; rfl), rfl⟩

set_option maxHeartbeats 400000 in
theorem impl_tries (n u v : Int) (w : World) :
    Calls Try.prog 70 #[.int .i64 n, .int .i64 u, .int .i64 v] w fun e w' => e = .returned (.bool (triesB n u v)) ∧ w = w' := by
  have hz : Hid (triesB n u v = (inB n 0 10 && (inB v 1 12 && inB u 0 v))) := rfl
  cases h1 : inB n 0 10
  all_goals
    cases h2 : inB v 1 12
    all_goals
      go_enter Try.func70, Try.ntmps70
      go_wp2_with (go_at_call 43; refine (impl_in _ _ _ _).mono ?_; rintro e w' ⟨rfl, rfl⟩)
      go_ret
      exact ⟨ret_bool (by rw [hz.out, h1, h2]; rfl), rfl⟩

/-- TailChance. -/
def tailA (n k u v : Int) : Int := if triesB n u v = true then sumTo (tailF n k u v) (n + 1).toNat else -1
def tailB (n u v : Int) : Int := if triesB n u v = true then v ^ n.toNat else -1

set_option maxHeartbeats 400000 in
theorem impl_TailChance (n k u v : Int) (w : World) :
    Calls Try.prog 62 #[.int .i64 n, .int .i64 k, .int .i64 u, .int .i64 v] w fun e w' => e = .returned (.tuple #[.int .i64 (tailA n k u v), .int .i64 (tailB n u v)]) ∧ Below w.heap.size w w' := by
  have hb : Below w.heap.size w (w.alloc (.cells #[.int .i64 k] 3)) := (Below.refl _ _).alloc (Nat.le_refl _) _
  cases h : triesB n u v
  · have hz : Hid (tailA n k u v = -1 ∧ tailB n u v = -1) := ⟨if_neg (by rw [h]; simp), if_neg (by rw [h]; simp)⟩
    go_enter Try.func62, Try.ntmps62
    go_wp2_with (go_at_call 70; refine (impl_tries _ _ _ _).mono ?_; rintro e w' ⟨rfl, rfl⟩)
    go_ret2
    exact ⟨ret_int2 hz.out.1.symm hz.out.2.symm, hb⟩
  · have hz : Hid (tailA n k u v = sumTo (tailF n k u v) (n + 1).toNat ∧ tailB n u v = v ^ n.toNat) := ⟨if_pos h, if_pos h⟩
    have h' := triesB_iff.1 h
    have g1 := inB_iff.1 h'.1
    have g2 := inB_iff.1 h'.2.1
    have g3 := inB_iff.1 h'.2.2
    clear h'
    go_enter Try.func62, Try.ntmps62
    go_wp2_with (first | (go_at_call 70; refine (impl_tries _ _ _ _).mono ?_; rintro e w' ⟨rfl, rfl⟩) | (go_at_call 71; refine (impl_part_tail _ k _ _ _ _ g1.1 g1.2 g3.1 g3.2 g2.2 (by simp)).mono ?_; rintro e w' ⟨rfl, rfl⟩) | (go_at_call 73; refine (impl_power _ _ _ (by omega) (by omega) (by omega) (by omega)).mono ?_; rintro e w' ⟨rfl, rfl⟩))
    go_ret2
    exact ⟨ret_int2 hz.out.1.symm hz.out.2.symm, hb⟩
end Go.Proofs.Ytfnkeopkealkoaa
