/-
  Contracts of LowBound, both packages.
-/
import Derived.Test.YtfnkeopkealkoaaTail
namespace Go.Proofs.Ytfnkeopkealkoaa
open Go.RowKit
set_option linter.unusedVariables false

def levelB (a b : Int) : Bool := inB b 1 100 && inB a 0 b

theorem spec_level (a b : Int) (w : World) :
    Calls Try.prog 58 #[.int .i64 a, .int .i64 b] w fun e w' => e = .returned (.bool (levelB a b)) ∧ w = w' := by
  cases h : inB b 1 100
  · have hz : Hid (levelB a b = false) := by show _ = _; unfold levelB; rw [h]; rfl
    go_enter Try.func58, Try.ntmps58
    go_wp2_with fail
    refine (spec_inRange _ _ _ _).mono ?_; rintro e w' ⟨rfl, rfl⟩
    go_wp2_with fail
    go_ret
    exact ⟨ret_bool hz.out.symm, rfl⟩
  · have hz : Hid (inB a 0 b = levelB a b) := by show _ = _; unfold levelB; rw [h]; rfl
    go_enter Try.func58, Try.ntmps58
    go_wp2_with fail
    refine (spec_inRange _ _ _ _).mono ?_; rintro e w' ⟨rfl, rfl⟩
    go_wp2_with fail
    refine (spec_inRange _ _ _ _).mono ?_; rintro e w' ⟨rfl, rfl⟩
    go_wp2_with fail
    go_ret
    exact ⟨ret_bool hz.out, rfl⟩

theorem impl_level (a b : Int) (w : World) :
    Calls Try.prog 61 #[.int .i64 a, .int .i64 b] w fun e w' => e = .returned (.bool (levelB a b)) ∧ w = w' := by
  cases h : inB b 1 100
  · have hz : Hid (levelB a b = false) := by show _ = _; unfold levelB; rw [h]; rfl
    go_enter Try.func61, Try.ntmps61
    go_wp2_with fail
    refine (impl_in _ _ _ _).mono ?_; rintro e w' ⟨rfl, rfl⟩
    go_wp2_with fail
    go_ret
    exact ⟨ret_bool hz.out.symm, rfl⟩
  · have hz : Hid (inB a 0 b = levelB a b) := by show _ = _; unfold levelB; rw [h]; rfl
    go_enter Try.func61, Try.ntmps61
    go_wp2_with fail
    refine (impl_in _ _ _ _).mono ?_; rintro e w' ⟨rfl, rfl⟩
    go_wp2_with fail
    refine (impl_in _ _ _ _).mono ?_; rintro e w' ⟨rfl, rfl⟩
    go_wp2_with fail
    go_ret
    exact ⟨ret_bool hz.out, rfl⟩

/-- The ways of a tail; whether they are few enough; the greatest number below m for which they are. -/
def tw (n k v : Int) (u : Nat) : Int := sumTo (tailF n k u v) (n + 1).toNat
def lowP (n k v a b : Int) (u : Nat) : Prop := tw n k v u * b ≤ a * v ^ n.toNat
instance (n k v a b : Int) (u : Nat) : Decidable (lowP n k v a b u) := inferInstanceAs (Decidable (_ ≤ _))
def lowTo (n k v a b : Int) : Nat → Int
  | 0 => 0
  | m + 1 => if lowP n k v a b m then (m : Int) else lowTo n k v a b m
def lowOk (n k v a b : Int) : Bool := triesB n 0 v && (inB k 1 n && levelB a b)
def lowV (n k v a b : Int) : Int := if lowOk n k v a b = true then lowTo n k v a b (v.toNat + 1) else -1
theorem tw_bd (n k v : Int) (u : Nat) (h0 : 0 ≤ n) (h1 : n ≤ 10) (hu : (u : Int) ≤ v) (hv : v ≤ 12) : 0 ≤ tw n k v u ∧ tw n k v u ≤ 697437190619136 := by
  have := sumTo_bd (tailF n k u v) 63403380965376 (n + 1).toNat (fun h hh => tailF_bd n k u v h h0 h1 (by omega) (by omega) hu hv)
  unfold tw; omega
theorem tw_zero (n k v : Int) (hk : 1 ≤ k) : tw n k v 0 = 0 := by
  refine sumTo_none _ _ (fun h hh => ?_)
  unfold tailF
  by_cases hkh : k ≤ (h : Int)
  · rw [if_pos hkh]
    unfold termI
    have : ((0 : Nat) : Int) ^ ((h : Int)).toNat = 0 := by
      obtain ⟨m, hm⟩ : ∃ m, h = m + 1 := ⟨h - 1, by omega⟩
      subst hm
      simp [Int.pow_succ]
    rw [this]; simp
  · rw [if_neg hkh]
theorem low_parts {n k v a b : Int} (h : lowOk n k v a b = true) : (1 ≤ n ∧ n ≤ 10) ∧ (1 ≤ v ∧ v ≤ 12) ∧ (1 ≤ k ∧ k ≤ n) ∧ (1 ≤ b ∧ b ≤ 100) ∧ (0 ≤ a ∧ a ≤ b) := by
  unfold lowOk levelB triesB at h
  simp only [Bool.and_eq_true, inB_iff] at h
  omega

set_option maxHeartbeats 1000000 in
theorem spec_LowBound (n k v a b : Int) (w : World) :
    Calls Try.prog 34 #[.int .i64 n, .int .i64 k, .int .i64 v, .int .i64 a, .int .i64 b] w fun e w' => e = .returned (.int .i64 (lowV n k v a b)) ∧ w = w' := by
  cases h1 : triesB n 0 v
  · have hz : Hid (lowV n k v a b = -1) := by show _ = _; unfold lowV lowOk; rw [h1]; rfl
    go_enter Try.func34, Try.ntmps34
    go_wp2_with fail
    refine (spec_tries _ _ _ _).mono ?_; rintro e w' ⟨rfl, rfl⟩
    go_wp2_with fail
    go_ret
    exact ⟨ret_int hz.out.symm, rfl⟩
  cases h2 : inB k 1 n
  · have hz : Hid (lowV n k v a b = -1) := by show _ = _; unfold lowV lowOk; rw [h2]; simp
    go_enter Try.func34, Try.ntmps34
    go_wp2_with fail
    refine (spec_tries _ _ _ _).mono ?_; rintro e w' ⟨rfl, rfl⟩
    go_wp2_with fail
    refine (spec_inRange _ _ _ _).mono ?_; rintro e w' ⟨rfl, rfl⟩
    go_wp2_with fail
    go_ret
    exact ⟨ret_int hz.out.symm, rfl⟩
  cases h3 : levelB a b
  · have hz : Hid (lowV n k v a b = -1) := by show _ = _; unfold lowV lowOk; rw [h3]; simp
    go_enter Try.func34, Try.ntmps34
    go_wp2_with fail
    refine (spec_tries _ _ _ _).mono ?_; rintro e w' ⟨rfl, rfl⟩
    go_wp2_with fail
    refine (spec_inRange _ _ _ _).mono ?_; rintro e w' ⟨rfl, rfl⟩
    go_wp2_with fail
    refine (spec_level _ _ _).mono ?_; rintro e w' ⟨rfl, rfl⟩
    go_wp2_with fail
    go_ret
    exact ⟨ret_int hz.out.symm, rfl⟩
  · have hok : lowOk n k v a b = true := by unfold lowOk; rw [h1, h2, h3]; rfl
    have hz : Hid (lowV n k v a b = lowTo n k v a b (v.toNat + 1)) := if_pos hok
    obtain ⟨⟨n0, n1⟩, ⟨v0, v1⟩, ⟨k0, k1⟩, ⟨b0, b1⟩, a0, a1⟩ := low_parts hok
    have hpw := pow_bd v (by omega) v1 n.toNat (by omega)
    have hm2 := mul_bd a (v ^ n.toNat) 100 61917364224 a0 (by omega) hpw.1 hpw.2
    go_enter Try.func34, Try.ntmps34
    go_wp2_with fail
    refine (spec_tries _ _ _ _).mono ?_; rintro e w' ⟨rfl, rfl⟩
    go_wp2_with fail
    refine (spec_inRange _ _ _ _).mono ?_; rintro e w' ⟨rfl, rfl⟩
    go_wp2_with fail
    refine (spec_level _ _ _).mono ?_; rintro e w' ⟨rfl, rfl⟩
    go_wp2_with fail
    clear h1 h2 h3 hok
    go_loop [11, 12] (fun o i => ∃ m : Nat, (m : Int) ≤ v + 1 ∧ i = .int .i64 m ∧ o = .int .i64 (lowTo n k v a b m)) (fun _ i => (v + 1 - intOf i).toNat)
    case atStart => exact ⟨0, by omega, rfl, rfl⟩
    case round =>
      obtain ⟨m, hm, rfl, rfl⟩ := hrel
      by_cases hlt : (m : Int) ≤ v
      · have htw := tw_bd n k v m (by omega) n1 hlt v1
        have hm1 := mul_bd (tw n k v m) b 697437190619136 100 htw.1 htw.2 (by omega) b1
        have htl := fun wx => spec_tail n k m v wx (by omega) n1 (by omega) hlt v1
        change ∀ wx, Calls Try.prog _ _ wx (fun e w' => e = .returned (.int .i64 (tw n k v m)) ∧ wx = w') at htl
        have HTL := Lib.hid htl
        clear htl
        by_cases hp : tw n k v m * b ≤ a * v ^ n.toNat
        · have hp' : decide (tw n k v m * b ≤ a * v ^ n.toNat) = true := decide_eq_true hp
          have HS : Hid (lowTo n k v a b (m + 1) = m) := if_pos hp
          go_wp2_with fail
          refine (HTL.out _).mono ?_; rintro e w' ⟨rfl, rfl⟩
          go_wp2_with fail
          refine (spec_raise v n _ (by omega) v1 (by omega) n1).mono ?_; rintro e w' ⟨rfl, rfl⟩
          go_wp2_with fail
          go_round
          case rel => exact ⟨m + 1, by omega, by go_num, by rw [HS.out]⟩
          case measure => simp [intOf]; omega
        · have hp' : decide (tw n k v m * b ≤ a * v ^ n.toNat) = false := decide_eq_false hp
          have HS : Hid (lowTo n k v a b (m + 1) = lowTo n k v a b m) := if_neg hp
          go_wp2_with fail
          refine (HTL.out _).mono ?_; rintro e w' ⟨rfl, rfl⟩
          go_wp2_with fail
          refine (spec_raise v n _ (by omega) v1 (by omega) n1).mono ?_; rintro e w' ⟨rfl, rfl⟩
          go_wp2_with fail
          go_round
          case rel => exact ⟨m + 1, by omega, by go_num, by rw [HS.out]⟩
          case measure => simp [intOf]; omega
      · have e : Hid (m = v.toNat + 1) := by show _ = _; omega
        go_wp2_with fail
        go_ret
        exact ⟨ret_int (by rw [hz.out, e.out]), rfl⟩

theorem low_iff (n k v a b : Int) : lowOk n k v a b = (inB n 1 10 && (inB k 1 n && (inB v 1 12 && levelB a b))) := by
  rw [Bool.eq_iff_iff]
  unfold lowOk levelB triesB
  simp only [Bool.and_eq_true, inB_iff]
  omega

set_option maxHeartbeats 1000000 in
theorem impl_LowBound (n k v a b : Int) (w : World) :
    Calls Try.prog 35 #[.int .i64 n, .int .i64 k, .int .i64 v, .int .i64 a, .int .i64 b] w fun e w' => e = .returned (.int .i64 (lowV n k v a b)) ∧ Below w.heap.size w w' := by
  have hiff := low_iff n k v a b
  cases h1 : inB n 1 10
  · have hz : Hid (lowV n k v a b = -1) := by show _ = _; unfold lowV; rw [hiff, h1]; rfl
    clear hiff
    go_enter Try.func35, Try.ntmps35
    go_wp2_with fail
    refine (impl_in _ _ _ _).mono ?_; rintro e w' ⟨rfl, rfl⟩
    go_wp2_with fail
    go_ret
    exact ⟨ret_int hz.out.symm, Below.refl _ _⟩
  cases h2 : inB k 1 n
  · have hz : Hid (lowV n k v a b = -1) := by show _ = _; unfold lowV; rw [hiff, h2]; simp
    clear hiff
    go_enter Try.func35, Try.ntmps35
    go_wp2_with fail
    refine (impl_in _ _ _ _).mono ?_; rintro e w' ⟨rfl, rfl⟩
    go_wp2_with fail
    refine (impl_in _ _ _ _).mono ?_; rintro e w' ⟨rfl, rfl⟩
    go_wp2_with fail
    go_ret
    exact ⟨ret_int hz.out.symm, Below.refl _ _⟩
  cases h3 : inB v 1 12
  · have hz : Hid (lowV n k v a b = -1) := by show _ = _; unfold lowV; rw [hiff, h3]; simp
    clear hiff
    go_enter Try.func35, Try.ntmps35
    go_wp2_with fail
    refine (impl_in _ _ _ _).mono ?_; rintro e w' ⟨rfl, rfl⟩
    go_wp2_with fail
    refine (impl_in _ _ _ _).mono ?_; rintro e w' ⟨rfl, rfl⟩
    go_wp2_with fail
    refine (impl_in _ _ _ _).mono ?_; rintro e w' ⟨rfl, rfl⟩
    go_wp2_with fail
    go_ret
    exact ⟨ret_int hz.out.symm, Below.refl _ _⟩
  cases h4 : levelB a b
  · have hz : Hid (lowV n k v a b = -1) := by show _ = _; unfold lowV; rw [hiff, h4]; simp
    clear hiff
    go_enter Try.func35, Try.ntmps35
    go_wp2_with fail
    refine (impl_in _ _ _ _).mono ?_; rintro e w' ⟨rfl, rfl⟩
    go_wp2_with fail
    refine (impl_in _ _ _ _).mono ?_; rintro e w' ⟨rfl, rfl⟩
    go_wp2_with fail
    refine (impl_in _ _ _ _).mono ?_; rintro e w' ⟨rfl, rfl⟩
    go_wp2_with fail
    refine (impl_level _ _ _).mono ?_; rintro e w' ⟨rfl, rfl⟩
    go_wp2_with fail
    go_ret
    exact ⟨ret_int hz.out.symm, Below.refl _ _⟩
  · have hok : lowOk n k v a b = true := by rw [hiff, h1, h2, h3, h4]; rfl
    clear hiff
    have hz : Hid (lowV n k v a b = lowTo n k v a b (v.toNat + 1)) := if_pos hok
    obtain ⟨⟨n0, n1⟩, ⟨v0, v1⟩, ⟨k0, k1⟩, ⟨b0, b1⟩, a0, a1⟩ := low_parts hok
    have hpw := pow_bd v (by omega) v1 n.toNat (by omega)
    have hm2 := mul_bd a (v ^ n.toNat) 100 61917364224 a0 (by omega) hpw.1 hpw.2
    have hP0 : Hid (tw n k v 0 * b ≤ a * v ^ n.toNat) := by
      show _ ≤ _
      rw [tw_zero n k v k0]; omega
    go_enter Try.func35, Try.ntmps35
    go_wp2_with fail
    refine (impl_in _ _ _ _).mono ?_; rintro e w' ⟨rfl, rfl⟩
    go_wp2_with fail
    refine (impl_in _ _ _ _).mono ?_; rintro e w' ⟨rfl, rfl⟩
    go_wp2_with fail
    refine (impl_in _ _ _ _).mono ?_; rintro e w' ⟨rfl, rfl⟩
    go_wp2_with fail
    refine (impl_level _ _ _).mono ?_; rintro e w' ⟨rfl, rfl⟩
    go_wp2_with fail
    clear h1 h2 h3 h4 hok
    go_loopw [11] (fun i wr => ∃ m : Nat, (m : Int) ≤ v ∧ i = .int .i64 m ∧ Hid (lowTo n k v a b (m + 1) = lowTo n k v a b (v.toNat + 1)) ∧ Below w.heap.size w wr) (fun i _ => (intOf i + 1).toNat)
    case atStart => exact ⟨v.toNat, by omega, by go_num, rfl, Below.refl _ _⟩
    case round =>
      obtain ⟨m, hlt, rfl, hrel2, hbel⟩ := hrel
      have htw := tw_bd n k v m (by omega) n1 hlt v1
      have hm1 := mul_bd (tw n k v m) b 697437190619136 100 htw.1 htw.2 (by omega) b1
      have hT : triesB n m v = true := triesB_iff.2 ⟨inB_true ⟨by omega, n1⟩, inB_true ⟨v0, v1⟩, inB_true ⟨by omega, hlt⟩⟩
      have htl := fun wx => impl_TailChance n k m v wx
      have e1 : tailA n k m v = tw n k v m := if_pos hT
      have e2 : tailB n m v = v ^ n.toNat := if_pos hT
      rw [e1, e2] at htl
      have HTL := Lib.hid htl
      clear htl e1 e2 hT
      by_cases hp : tw n k v m * b ≤ a * v ^ n.toNat
      · have hp' : decide (tw n k v m * b ≤ a * v ^ n.toNat) = true := decide_eq_true hp
        have HS : Hid (lowTo n k v a b (m + 1) = m) := if_pos hp
        go_wp2_with fail
        refine (HTL.out _).mono ?_; rintro e w' ⟨rfl, hb⟩
        go_wp2_with fail
        go_ret
        exact ⟨ret_int (by rw [hz.out, ← hrel2.out, HS.out]), hbel.trans (hb.mono hbel.size)⟩
      · have hp' : decide (tw n k v m * b ≤ a * v ^ n.toNat) = false := decide_eq_false hp
        obtain ⟨q, hq⟩ : ∃ q, m = q + 1 := by
          refine ⟨m - 1, ?_⟩
          by_cases h0 : m = 0
          · subst h0; exact absurd hP0.out hp
          · omega
        have HS : Hid (lowTo n k v a b (q + 1) = lowTo n k v a b (v.toNat + 1)) := by
          show _ = _
          have h5 : lowTo n k v a b (m + 1) = lowTo n k v a b m := if_neg hp
          rw [← hrel2.out, h5, hq]
        have HQ := Lib.hid hq
        clear hq
        go_wp2_with fail
        refine (HTL.out _).mono ?_; rintro e w' ⟨rfl, hb⟩
        go_wp2_with fail
        go_roundw
        case rel => exact ⟨q, by have := HQ.out; omega, by have := HQ.out; go_num, HS, hbel.trans (hb.mono hbel.size)⟩
        case measure => simp [intOf]; try omega
end Go.Proofs.Ytfnkeopkealkoaa
