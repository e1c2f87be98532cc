/-
  Contracts of HighBound, both packages.
-/
import Derived.Test.YtfnkeopkealkoaaLow
namespace Go.Proofs.Ytfnkeopkealkoaa
open Go.RowKit
set_option linter.unusedVariables false

def highP (n k v a b : Int) (u : Nat) : Prop := (v ^ n.toNat - tw n (k + 1) v u) * b ≤ a * v ^ n.toNat
instance (n k v a b : Int) (u : Nat) : Decidable (highP n k v a b u) := inferInstanceAs (Decidable (_ ≤ _))
def highF (n k v a b : Int) : Nat → Nat → Int
  | 0, u => u
  | f + 1, u => if highP n k v a b u then (u : Int) else highF n k v a b f (u + 1)
def highOk (n k v a b : Int) : Bool := triesB n 0 v && (inB k 0 (n - 1) && levelB a b)
def highV (n k v a b : Int) : Int := if highOk n k v a b = true then highF n k v a b v.toNat 0 else -1
theorem high_parts {n k v a b : Int} (h : highOk n k v a b = true) : (1 ≤ n ∧ n ≤ 10) ∧ (1 ≤ v ∧ v ≤ 12) ∧ (0 ≤ k ∧ k + 1 ≤ n) ∧ (1 ≤ b ∧ b ≤ 100) ∧ (0 ≤ a ∧ a ≤ b) := by
  unfold highOk levelB triesB at h
  simp only [Bool.and_eq_true, inB_iff] at h
  omega
theorem high_iff (n k v a b : Int) : highOk n k v a b = (inB n 1 10 && (inB k 0 (n - 1) && (inB v 1 12 && levelB a b))) := by
  rw [Bool.eq_iff_iff]
  unfold highOk levelB triesB
  simp only [Bool.and_eq_true, inB_iff]
  omega
theorem high_yes (n k v a b : Int) (f u : Nat) (h : highP n k v a b u) : highF n k v a b f u = u := by
  cases f with
  | zero => rfl
  | succ f => exact if_pos h
theorem high_no (n k v a b : Int) (f u : Nat) (h : ¬ highP n k v a b u) : highF n k v a b (f + 1) u = highF n k v a b f (u + 1) := if_neg h
theorem abs_mul_bdH (x y A B : Int) (h1 : -A ≤ x ∧ x ≤ A) (h2 : -B ≤ y ∧ y ≤ B) : -(A * B) ≤ x * y ∧ x * y ≤ A * B := by
  have h : (x * y).natAbs ≤ (A * B).natAbs := by
    rw [Int.natAbs_mul, Int.natAbs_mul]
    exact Nat.mul_le_mul (by omega) (by omega)
  have := Int.mul_nonneg (show 0 ≤ A by omega) (show 0 ≤ B by omega)
  omega
theorem tw_full (n k v : Int) (vv : Nat) (h : k ≤ n) (hn : 0 ≤ n) (hv : v = vv) : tw n k v vv = v ^ n.toNat := by
  subst hv
  obtain ⟨nn, rfl⟩ := Int.eq_ofNat_of_zero_le hn
  unfold tw
  have e : ((nn : Int) + 1).toNat = nn + 1 := by omega
  rw [e, sumTo_succ, sumTo_none, Int.zero_add]
  · unfold tailF
    rw [if_pos h]
    unfold termI
    rw [binI_nat, bin_self]
    simp
  · intro j hj
    unfold tailF
    split
    · unfold termI
      have e1 : ((nn : Int) - j).toNat = (nn - j - 1) + 1 := by omega
      rw [e1, Int.sub_self, Int.pow_succ]
      simp
    · rfl

set_option maxHeartbeats 1000000 in
theorem spec_HighBound (n k v a b : Int) (w : World) :
    Calls Try.prog 32 #[.int .i64 n, .int .i64 k, .int .i64 v, .int .i64 a, .int .i64 b] w fun e w' => e = .returned (.int .i64 (highV n k v a b)) ∧ w = w' := by
  cases h1 : triesB n 0 v
  · have hz : Hid (highV n k v a b = -1) := by show _ = _; unfold highV highOk; rw [h1]; rfl
    go_enter Try.func32, Try.ntmps32
    go_wp2_with fail
    refine (spec_tries _ _ _ _).mono ?_; rintro e w' ⟨rfl, rfl⟩
    go_wp2_with fail
    go_ret
    exact ⟨ret_int hz.out.symm, rfl⟩
  have hn01 := inB_iff.1 (triesB_iff.1 h1).1
  cases h2 : inB k 0 (n - 1)
  · have hz : Hid (highV n k v a b = -1) := by show _ = _; unfold highV highOk; rw [h2]; simp
    go_enter Try.func32, Try.ntmps32
    go_wp2_with fail
    refine (spec_tries _ _ _ _).mono ?_; rintro e w' ⟨rfl, rfl⟩
    go_wp2_with fail
    refine (spec_inRange _ _ _ _).mono ?_; rintro e w' ⟨rfl, rfl⟩
    go_wp2_with fail
    go_ret
    exact ⟨ret_int hz.out.symm, rfl⟩
  cases h3 : levelB a b
  · have hz : Hid (highV n k v a b = -1) := by show _ = _; unfold highV highOk; rw [h3]; simp
    go_enter Try.func32, Try.ntmps32
    go_wp2_with fail
    refine (spec_tries _ _ _ _).mono ?_; rintro e w' ⟨rfl, rfl⟩
    go_wp2_with fail
    refine (spec_inRange _ _ _ _).mono ?_; rintro e w' ⟨rfl, rfl⟩
    go_wp2_with fail
    refine (spec_level _ _ _).mono ?_; rintro e w' ⟨rfl, rfl⟩
    go_wp2_with fail
    go_ret
    exact ⟨ret_int hz.out.symm, rfl⟩
  · have hok : highOk n k v a b = true := by unfold highOk; rw [h1, h2, h3]; rfl
    have hz : Hid (highV n k v a b = highF n k v a b v.toNat 0) := if_pos hok
    obtain ⟨⟨n0, n1⟩, ⟨v0, v1⟩, ⟨k0, k1⟩, ⟨b0, b1⟩, a0, a1⟩ := high_parts hok
    have hpw := pow_bd v (by omega) v1 n.toNat (by omega)
    have hm2 := mul_bd a (v ^ n.toNat) 100 61917364224 a0 (by omega) hpw.1 hpw.2
    have hPv : Hid (highP n k v a b v.toNat) := by
      show _ ≤ _
      rw [tw_full n (k + 1) v v.toNat k1 (by omega) (by omega), Int.sub_self, Int.zero_mul]; exact hm2.1
    go_enter Try.func32, Try.ntmps32
    go_wp2_with fail
    refine (spec_tries _ _ _ _).mono ?_; rintro e w' ⟨rfl, rfl⟩
    go_wp2_with fail
    refine (spec_inRange _ _ _ _).mono ?_; rintro e w' ⟨rfl, rfl⟩
    go_wp2_with fail
    refine (spec_level _ _ _).mono ?_; rintro e w' ⟨rfl, rfl⟩
    go_wp2_with fail
    clear h1 h2 h3 hok
    go_loop [11] (fun i => ∃ m : Nat, (m : Int) ≤ v ∧ i = .int .i64 m ∧ Hid (highF n k v a b (v.toNat - m) m = highF n k v a b v.toNat 0)) (fun i => (v + 1 - intOf i).toNat)
    case atStart => exact ⟨0, by omega, rfl, rfl⟩
    case round =>
      obtain ⟨m, hlt, rfl, hinv⟩ := hrel
      have htw := tw_bd n (k + 1) v m (by omega) n1 hlt v1
      have hm1 := abs_mul_bdH (v ^ n.toNat - tw n (k + 1) v m) b 697437190619136 100 (by omega) (by omega)
      have htl := fun wx => spec_tail n (k + 1) m v wx (by omega) n1 (by omega) hlt v1
      change ∀ wx, Calls Try.prog _ _ wx (fun e w' => e = .returned (.int .i64 (tw n (k + 1) v m)) ∧ wx = w') at htl
      have HTL := Lib.hid htl
      clear htl
      by_cases hp : (v ^ n.toNat - tw n (k + 1) v m) * b ≤ a * v ^ n.toNat
      · have hp' : decide ((v ^ n.toNat - tw n (k + 1) v m) * b ≤ a * v ^ n.toNat) = true := decide_eq_true hp
        have HS : Hid (highF n k v a b v.toNat 0 = m) := by show _ = _; rw [← hinv.out]; exact high_yes n k v a b _ m hp
        go_wp2_with fail
        refine (spec_raise v n _ (by omega) v1 (by omega) n1).mono ?_; rintro e w' ⟨rfl, rfl⟩
        go_wp2_with fail
        refine (HTL.out _).mono ?_; rintro e w' ⟨rfl, rfl⟩
        go_wp2_with fail
        go_ret
        exact ⟨ret_int (by rw [hz.out, HS.out]), rfl⟩
      · have hp' : decide ((v ^ n.toNat - tw n (k + 1) v m) * b ≤ a * v ^ n.toNat) = false := decide_eq_false hp
        have hmv : (m : Int) < v := by
          by_cases e : m = v.toNat
          · exfalso; apply hp; rw [e]; exact hPv.out
          · omega
        have HS : Hid (highF n k v a b (v.toNat - (m + 1)) (m + 1) = highF n k v a b v.toNat 0) := by
          show _ = _
          rw [← hinv.out, show v.toNat - m = (v.toNat - (m + 1)) + 1 by omega]
          exact (high_no n k v a b _ m hp).symm
        go_wp2_with fail
        refine (spec_raise v n _ (by omega) v1 (by omega) n1).mono ?_; rintro e w' ⟨rfl, rfl⟩
        go_wp2_with fail
        refine (HTL.out _).mono ?_; rintro e w' ⟨rfl, rfl⟩
        go_wp2_with fail
        go_round
        case rel => exact ⟨m + 1, by omega, by go_num, HS⟩
        case measure => simp [intOf]; omega

set_option maxHeartbeats 1000000 in
theorem impl_HighBound (n k v a b : Int) (w : World) :
    Calls Try.prog 33 #[.int .i64 n, .int .i64 k, .int .i64 v, .int .i64 a, .int .i64 b] w fun e w' => e = .returned (.int .i64 (highV n k v a b)) ∧ Below w.heap.size w w' := by
  have hiff := high_iff n k v a b
  cases h1 : inB n 1 10
  · have hz : Hid (highV n k v a b = -1) := by show _ = _; unfold highV; rw [hiff, h1]; rfl
    clear hiff
    go_enter Try.func33, Try.ntmps33
    go_wp2_with fail
    refine (impl_in _ _ _ _).mono ?_; rintro e w' ⟨rfl, rfl⟩
    go_wp2_with fail
    go_ret
    exact ⟨ret_int hz.out.symm, Below.refl _ _⟩
  have hn01 := inB_iff.1 h1
  cases h2 : inB k 0 (n - 1)
  · have hz : Hid (highV n k v a b = -1) := by show _ = _; unfold highV; rw [hiff, h2]; simp
    clear hiff
    go_enter Try.func33, Try.ntmps33
    go_wp2_with fail
    refine (impl_in _ _ _ _).mono ?_; rintro e w' ⟨rfl, rfl⟩
    go_wp2_with fail
    refine (impl_in _ _ _ _).mono ?_; rintro e w' ⟨rfl, rfl⟩
    go_wp2_with fail
    go_ret
    exact ⟨ret_int hz.out.symm, Below.refl _ _⟩
  cases h3 : inB v 1 12
  · have hz : Hid (highV n k v a b = -1) := by show _ = _; unfold highV; rw [hiff, h3]; simp
    clear hiff
    go_enter Try.func33, Try.ntmps33
    go_wp2_with fail
    refine (impl_in _ _ _ _).mono ?_; rintro e w' ⟨rfl, rfl⟩
    go_wp2_with fail
    refine (impl_in _ _ _ _).mono ?_; rintro e w' ⟨rfl, rfl⟩
    go_wp2_with fail
    refine (impl_in _ _ _ _).mono ?_; rintro e w' ⟨rfl, rfl⟩
    go_wp2_with fail
    go_ret
    exact ⟨ret_int hz.out.symm, Below.refl _ _⟩
  cases h4 : levelB a b
  · have hz : Hid (highV n k v a b = -1) := by show _ = _; unfold highV; rw [hiff, h4]; simp
    clear hiff
    go_enter Try.func33, Try.ntmps33
    go_wp2_with fail
    refine (impl_in _ _ _ _).mono ?_; rintro e w' ⟨rfl, rfl⟩
    go_wp2_with fail
    refine (impl_in _ _ _ _).mono ?_; rintro e w' ⟨rfl, rfl⟩
    go_wp2_with fail
    refine (impl_in _ _ _ _).mono ?_; rintro e w' ⟨rfl, rfl⟩
    go_wp2_with fail
    refine (impl_level _ _ _).mono ?_; rintro e w' ⟨rfl, rfl⟩
    go_wp2_with fail
    go_ret
    exact ⟨ret_int hz.out.symm, Below.refl _ _⟩
  · have hok : highOk n k v a b = true := by rw [hiff, h1, h2, h3, h4]; rfl
    clear hiff
    have hz : Hid (highV n k v a b = highF n k v a b v.toNat 0) := if_pos hok
    obtain ⟨⟨n0, n1⟩, ⟨v0, v1⟩, ⟨k0, k1⟩, ⟨b0, b1⟩, a0, a1⟩ := high_parts hok
    have hpw := pow_bd v (by omega) v1 n.toNat (by omega)
    have hm2 := mul_bd a (v ^ n.toNat) 100 61917364224 a0 (by omega) hpw.1 hpw.2
    have hPv : Hid (highP n k v a b v.toNat) := by
      show _ ≤ _
      rw [tw_full n (k + 1) v v.toNat k1 (by omega) (by omega), Int.sub_self, Int.zero_mul]; exact hm2.1
    go_enter Try.func33, Try.ntmps33
    go_wp2_with fail
    refine (impl_in _ _ _ _).mono ?_; rintro e w' ⟨rfl, rfl⟩
    go_wp2_with fail
    refine (impl_in _ _ _ _).mono ?_; rintro e w' ⟨rfl, rfl⟩
    go_wp2_with fail
    refine (impl_in _ _ _ _).mono ?_; rintro e w' ⟨rfl, rfl⟩
    go_wp2_with fail
    refine (impl_level _ _ _).mono ?_; rintro e w' ⟨rfl, rfl⟩
    go_wp2_with fail
    clear h1 h2 h3 h4 hok
    go_loopw [11] (fun i wr => ∃ m : Nat, (m : Int) ≤ v ∧ i = .int .i64 m ∧ Hid (highF n k v a b (v.toNat - m) m = highF n k v a b v.toNat 0) ∧ Below w.heap.size w wr) (fun i _ => (v + 1 - intOf i).toNat)
    case atStart => exact ⟨0, by omega, rfl, rfl, Below.refl _ _⟩
    case round =>
      obtain ⟨m, hlt, rfl, hinv, hbel⟩ := hrel
      have htw := tw_bd n (k + 1) v m (by omega) n1 hlt v1
      have hm1 := abs_mul_bdH (v ^ n.toNat - tw n (k + 1) v m) b 697437190619136 100 (by omega) (by omega)
      have hT : triesB n m v = true := triesB_iff.2 ⟨inB_true ⟨by omega, n1⟩, inB_true ⟨v0, v1⟩, inB_true ⟨by omega, hlt⟩⟩
      have htl := fun wx => impl_TailChance n (k + 1) m v wx
      have e1 : tailA n (k + 1) m v = tw n (k + 1) v m := if_pos hT
      have e2 : tailB n m v = v ^ n.toNat := if_pos hT
      rw [e1, e2] at htl
      have HTL := Lib.hid htl
      clear htl e1 e2 hT
      by_cases hp : (v ^ n.toNat - tw n (k + 1) v m) * b ≤ a * v ^ n.toNat
      · have hp' : decide ((v ^ n.toNat - tw n (k + 1) v m) * b ≤ a * v ^ n.toNat) = true := decide_eq_true hp
        have HS : Hid (highF n k v a b v.toNat 0 = m) := by show _ = _; rw [← hinv.out]; exact high_yes n k v a b _ m hp
        go_wp2_with fail
        refine (HTL.out _).mono ?_; rintro e w' ⟨rfl, hb⟩
        go_wp2_with fail
        go_ret
        exact ⟨ret_int (by rw [hz.out, HS.out]), hbel.trans (hb.mono hbel.size)⟩
      · have hp' : decide ((v ^ n.toNat - tw n (k + 1) v m) * b ≤ a * v ^ n.toNat) = false := decide_eq_false hp
        have hmv : (m : Int) < v := by
          by_cases e : m = v.toNat
          · exfalso; apply hp; rw [e]; exact hPv.out
          · omega
        have HS : Hid (highF n k v a b (v.toNat - (m + 1)) (m + 1) = highF n k v a b v.toNat 0) := by
          show _ = _
          rw [← hinv.out, show v.toNat - m = (v.toNat - (m + 1)) + 1 by omega]
          exact (high_no n k v a b _ m hp).symm
        go_wp2_with fail
        refine (HTL.out _).mono ?_; rintro e w' ⟨rfl, hb⟩
        go_wp2_with fail
        go_roundw
        case rel => exact ⟨m + 1, by omega, by go_num, HS, hbel.trans (hb.mono hbel.size)⟩
        case measure => simp [intOf]; omega
end Go.Proofs.Ytfnkeopkealkoaa
