/-
  Contracts of MiddlePlaces, both packages.
-/
import Derived.Test.YtcfeeobjllnofaaLow
import Derived.Deep.RegionHeld3
namespace Go.Proofs.Ytcfeeobjllnofaa
open Go.RowKit
set_option linter.unusedVariables false

/-- The sets with fewer than x of n things. -/
def lessF (n : Int) (x : Nat) : Int := sumTo (fun h => binI n h) x
def midP (n a b : Int) (x : Nat) : Prop := 2 * lessF n x * b ≤ a * 2 ^ n.toNat
instance (n a b : Int) (x : Nat) : Decidable (midP n a b x) := inferInstanceAs (Decidable (_ ≤ _))
/-- The greatest place up to m. -/
def midTo (n a b : Int) : Nat → Nat
  | 0 => 0
  | m + 1 => if midP n a b (m + 1) then m + 1 else midTo n a b m
def midOk (n a b : Int) : Bool := inB n 1 10 && levelB a b
def midX (n a b : Int) : Int := if midOk n a b = true then (midTo n a b (n.toNat / 2) : Nat) else -1
def midY (n a b : Int) : Int := if midOk n a b = true then 2 ^ n.toNat - 2 * lessF n (midTo n a b (n.toNat / 2)) else -1
theorem lessF_bd (n : Int) (x : Nat) (h0 : 0 ≤ n) (h1 : n ≤ 10) (hx : x ≤ 11) : 0 ≤ lessF n x ∧ lessF n x ≤ 11264 := by
  have := sumTo_bd (fun h => binI n h) 1024 x (fun k _ => binI_bd10 n k h0 h1)
  unfold lessF; omega
theorem midTo_le (n a b : Int) : ∀ m, midTo n a b m ≤ m := by
  intro m
  induction m with
  | zero => exact Nat.le_refl _
  | succ m ih => unfold midTo; split <;> omega
theorem mid_parts {n a b : Int} (h : midOk n a b = true) : (1 ≤ n ∧ n ≤ 10) ∧ (1 ≤ b ∧ b ≤ 100) ∧ (0 ≤ a ∧ a ≤ b) := by
  unfold midOk levelB at h
  simp only [Bool.and_eq_true, inB_iff] at h
  omega

set_option maxHeartbeats 1000000 in
theorem spec_MiddlePlaces (n a b : Int) (w : World) (hnw : -9223372036854775808 ≤ n ∧ n ≤ 9223372036854775807) :
    Calls Try.prog 16 #[.int .i64 n, .int .i64 a, .int .i64 b] w fun e w' => e = .returned (.tuple #[.int .i64 (midX n a b), .int .i64 (midY n a b)]) ∧ w = w' := by
  cases h1 : inB n 1 10
  · have hz : Hid (midX n a b = -1 ∧ midY n a b = -1) := by show _ ∧ _; unfold midX midY midOk; rw [h1]; exact ⟨rfl, rfl⟩
    go_enter Try.func16, Try.ntmps16
    go_wp2_with fail
    refine (spec_inRange _ _ _ _).mono ?_; rintro e w' ⟨rfl, rfl⟩
    go_wp2_with fail
    go_ret2
    exact ⟨ret_int2 hz.out.1.symm hz.out.2.symm, rfl⟩
  cases h2 : levelB a b
  · have hz : Hid (midX n a b = -1 ∧ midY n a b = -1) := by show _ ∧ _; unfold midX midY midOk; rw [h2, h1]; exact ⟨rfl, rfl⟩
    go_enter Try.func16, Try.ntmps16
    go_wp2_with fail
    refine (spec_inRange _ _ _ _).mono ?_; rintro e w' ⟨rfl, rfl⟩
    go_wp2_with fail
    refine (spec_level _ _ _).mono ?_; rintro e w' ⟨rfl, rfl⟩
    go_wp2_with fail
    go_ret2
    exact ⟨ret_int2 hz.out.1.symm hz.out.2.symm, rfl⟩
  · have hok : midOk n a b = true := by unfold midOk; rw [h1, h2]; rfl
    have hz : Hid (midX n a b = (midTo n a b (n.toNat / 2) : Nat) ∧ midY n a b = 2 ^ n.toNat - 2 * lessF n (midTo n a b (n.toNat / 2))) := ⟨if_pos hok, if_pos hok⟩
    obtain ⟨⟨n0, n1⟩, ⟨b0, b1⟩, a0, a1⟩ := mid_parts hok
    have hpw := two_bd n.toNat (by omega)
    have hpw2 : (2 : Int) ^ n.toNat ≤ 1024 := by
      have h3 : ∀ j : Fin 11, (2 : Int) ^ j.val ≤ 1024 := by decide
      exact h3 ⟨n.toNat, by omega⟩
    have hm2 := mul_bd a (2 ^ n.toNat) 100 1024 a0 (by omega) (by omega) hpw2
    go_enter Try.func16, Try.ntmps16
    go_wp2_with fail
    refine (spec_inRange _ _ _ _).mono ?_; rintro e w' ⟨rfl, rfl⟩
    go_wp2_with fail
    refine (spec_level _ _ _).mono ?_; rintro e w' ⟨rfl, rfl⟩
    go_wp2_with fail
    refine (spec_power n _ (by omega) (by omega)).mono ?_; rintro e w' ⟨rfl, rfl⟩
    go_wp2_with fail
    clear h1 h2 hok
    go_loop [8, 9, 10, 11] (fun j o l x => ∃ m : Nat, (m : Int) ≤ n.toNat / 2 ∧ x = .int .i64 ((m : Int) + 1) ∧ j = .int .i64 (midTo n a b m : Nat) ∧ o = .int .i64 (2 ^ n.toNat - 2 * lessF n (midTo n a b m)) ∧ l = .int .i64 (lessF n m)) (fun _ _ _ x => (n + 2 - intOf x).toNat)
    case atStart => exact ⟨0, by omega, rfl, rfl, by simp [midTo, lessF, sumTo], rfl⟩
    case round =>
      obtain ⟨m, hm, rfl, rfl, rfl, rfl⟩ := hrel
      by_cases hlt : 2 * ((m : Int) + 1) ≤ n
      · have hl := lessF_bd n m (by omega) n1 (by omega)
        have hl2 := lessF_bd n (m + 1) (by omega) n1 (by omega)
        have hm1 := mul_bd (2 * lessF n (m + 1)) b 22528 100 (by omega) (by omega) (by omega) b1
        have hch := binI_bd10 n m (by omega) n1
        have e1 : ((m : Int) + 1) - 1 = m := by omega
        have HN : Hid (lessF n (m + 1) = lessF n m + binI n m) := rfl
        by_cases hp : 2 * lessF n (m + 1) * b ≤ a * 2 ^ n.toNat
        · have HS : Hid (midTo n a b (m + 1) = m + 1) := if_pos hp
          rw [HN.out] at hp hm1 hl2
          have hp' : decide (2 * (lessF n m + binI n m) * b ≤ a * 2 ^ n.toNat) = true := decide_eq_true hp
          clear hp
          go_wp2_with fail
          refine (spec_choose n m _ (by omega) (by omega)).mono ?_; rintro e w' ⟨rfl, rfl⟩
          go_wp2_with fail
          refine (spec_power n _ (by omega) (by omega)).mono ?_; rintro e w' ⟨rfl, rfl⟩
          go_wp2_with fail
          refine (spec_power n _ (by omega) (by omega)).mono ?_; rintro e w' ⟨rfl, rfl⟩
          go_wp2_with fail
          go_round
          case rel => exact ⟨m + 1, by omega, by go_num, by rw [HS.out]; go_num, by rw [HS.out, HN.out], by rw [HN.out]⟩
          case measure => simp [intOf]; omega
        · have HS : Hid (midTo n a b (m + 1) = midTo n a b m) := if_neg hp
          rw [HN.out] at hp hm1 hl2
          have hp' : decide (2 * (lessF n m + binI n m) * b ≤ a * 2 ^ n.toNat) = false := decide_eq_false hp
          clear hp
          go_wp2_with fail
          refine (spec_choose n m _ (by omega) (by omega)).mono ?_; rintro e w' ⟨rfl, rfl⟩
          go_wp2_with fail
          refine (spec_power n _ (by omega) (by omega)).mono ?_; rintro e w' ⟨rfl, rfl⟩
          go_wp2_with fail
          go_round
          case rel => exact ⟨m + 1, by omega, by go_num, by rw [HS.out], by rw [HS.out], by rw [HN.out]⟩
          case measure => simp [intOf]; omega
      · have e : Hid (m = n.toNat / 2) := by show _ = _; omega
        go_wp2_with fail
        go_ret2
        exact ⟨ret_int2 (by rw [hz.out.1, e.out]) (by rw [hz.out.2, e.out]), rfl⟩
end Go.Proofs.Ytcfeeobjllnofaa
