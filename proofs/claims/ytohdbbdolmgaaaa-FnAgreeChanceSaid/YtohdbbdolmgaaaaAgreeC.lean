/-
  Contracts of both AgreeChance.
-/
import Derived.Test.YtohdbbdolmgaaaaFalls
namespace Go.Proofs.Ytohdbbdolmgaaaa
open Go.RowKit

def agF (n s : Int) (i : Nat) : Int := if s ≤ n * (n - 1) / 2 - 2 * i then nth (fallsL n.toNat) i else 0
theorem agF_bd (n s : Int) (i : Nat) (h1 : 1 ≤ n) (h : n ≤ 10) : 0 ≤ agF n s i ∧ agF n s i ≤ 3628800 := by
  unfold agF
  split
  · exact falls_nth_bd _ _ (by omega)
  · omega
theorem ag_sum_bd (n s : Int) (i : Nat) (h1 : 1 ≤ n) (h : n ≤ 10) (hi : i ≤ 46) : 0 ≤ sumTo (agF n s) i ∧ sumTo (agF n s) i ≤ 166924800 := by
  have := sumTo_bd (agF n s) 3628800 i (fun k _ => agF_bd n s k h1 h)
  omega
theorem ag_yes (n s : Int) (i : Nat) (h : s ≤ n * (n - 1) / 2 - 2 * i) : sumTo (agF n s) (i + 1) = sumTo (agF n s) i + nth (fallsL n.toNat) i := by
  rw [sumTo_succ]; unfold agF; rw [if_pos h]
theorem ag_no (n s : Int) (i : Nat) (h : ¬ s ≤ n * (n - 1) / 2 - 2 * i) : sumTo (agF n s) (i + 1) = sumTo (agF n s) i := by
  rw [sumTo_succ]; unfold agF; rw [if_neg h, Int.add_zero]
theorem part_sum_bd (n : Nat) (i : Nat) (h : n ≤ 10) : 0 ≤ sumL ((fallsL n).take i) ∧ sumL ((fallsL n).take i) ≤ 3628800 := by
  have hN := fallsL_nonNeg n
  have e := sumL_append ((fallsL n).take i) ((fallsL n).drop i)
  rw [List.take_append_drop, fallsL_sum] at e
  have h1 : NonNeg ((fallsL n).take i) := fun a ha => hN a (List.mem_of_mem_take ha)
  have h2 : NonNeg ((fallsL n).drop i) := fun a ha => hN a (List.mem_of_mem_drop ha)
  have h3 := (nth_le_sumL _ h1 0).2
  have h4 := (nth_le_sumL _ h2 0).2
  have h5 := fact_le n h
  omega

/-- AgreeChance. -/
def agreeA (n s : Int) : Int := if inB n 1 10 = true then sumTo (agF n s) (fallsL n.toNat).length else -1
def agreeB (n : Int) : Int := if inB n 1 10 = true then (fact n.toNat : Nat) else -1

theorem impl_factorial (k : Nat) : ∀ (n : Int) (w : World), 0 ≤ n → n ≤ k → n ≤ 10 →
    Calls Try.prog 73 #[.int .i64 n] w fun e w' => e = .returned (.int .i64 (fact n.toNat : Nat)) ∧ w = w' := by
  induction k with
  | zero =>
    intro n w h0 h1 h2
    have e : Hid ((fact n.toNat : Nat) = (1 : Nat)) := by
      have : n.toNat = 0 := by omega
      show _ = _; rw [this]; rfl
    go_enter Try.func73, Try.ntmps73
    go_wp2_with fail
    go_ret
    exact ⟨ret_int (by rw [e.out]; rfl), rfl⟩
  | succ k ih =>
    intro n w h0 h1 h2
    by_cases hn : n < 2
    · have e : Hid ((fact n.toNat : Nat) = (1 : Nat)) := by
        have : n.toNat = 0 ∨ n.toNat = 1 := by omega
        show _ = _
        rcases this with h | h <;> rw [h] <;> rfl
      go_enter Try.func73, Try.ntmps73
      go_wp2_with fail
      go_ret
      exact ⟨ret_int (by rw [e.out]; rfl), rfl⟩
    · have e : Hid (n * ((fact (n.toNat - 1) : Nat) : Int) = (fact n.toNat : Nat)) := by
        obtain ⟨m, hm⟩ : ∃ m : Nat, n = (m : Int) + 1 := ⟨(n - 1).toNat, by omega⟩
        show _ = _
        rw [hm, show ((m : Int) + 1).toNat = m + 1 from by omega, Nat.add_sub_cancel]
        show _ = (((m + 1) * fact m : Nat) : Int)
        rw [Int.natCast_mul]; rfl
      have hb := fact_le (n.toNat - 1) (by omega)
      have hm := mul_bd n ((fact (n.toNat - 1) : Nat) : Int) 10 3628800 (by omega) (by omega) (by omega) (by omega)
      go_enter Try.func73, Try.ntmps73
      go_wp2_with (go_at_call 73; refine (ih (n - 1) _ (by omega) (by omega) (by omega)).mono ?_; rintro e w' ⟨rfl, rfl⟩)
      go_ret
      exact ⟨ret_int e.out, rfl⟩

set_option maxHeartbeats 1000000 in
theorem spec_AgreeChance (n s : Int) (w : World) :
    Calls Try.prog 46 #[.int .i64 n, .int .i64 s] w fun e w' => e = .returned (.tuple #[.int .i64 (agreeA n s), .int .i64 (agreeB n)]) ∧ Below w.heap.size w w' := by
  cases h : inB n 1 10
  · have hz : Hid (agreeA n s = -1 ∧ agreeB n = -1) := ⟨if_neg (by rw [h]; simp), if_neg (by rw [h]; simp)⟩
    go_enter Try.func46, Try.ntmps46
    go_wp2_with (go_at_call 55; refine (spec_inRange _ _ _ _).mono ?_; rintro e w' ⟨rfl, rfl⟩)
    go_ret2
    exact ⟨ret_int2 hz.out.1.symm hz.out.2.symm, Below.refl _ _⟩
  · have hz : Hid (agreeA n s = sumTo (agF n s) (fallsL n.toNat).length ∧ agreeB n = (fact n.toNat : Nat)) := ⟨if_pos h, if_pos h⟩
    have g := inB_iff.1 h
    have hm := mul_bd n (n - 1) 10 9 (by omega) (by omega) (by omega) (by omega)
    have hll := fallsL_len_le n.toNat (by omega)
    have hpos : 0 < (fallsL n.toNat).length := by
      obtain ⟨m, hm⟩ : ∃ m : Nat, n.toNat = m + 1 := ⟨n.toNat - 1, by omega⟩
      rw [hm]; have := fallsL_length m; omega
    go_enter Try.func46, Try.ntmps46
    go_wp2_with (go_at_call 55; refine (spec_inRange _ _ _ _).mono ?_; rintro e w' ⟨rfl, rfl⟩)
    refine (spec_falls n _ g.1 g.2).mono ?_
    rintro e w1 ⟨v, rfl, ho, hb⟩
    obtain ⟨gg, cap, rfl, hg1, hg2, hg3, hg4⟩ := ho.len hpos
    go_wp2_with fail
    go_loop [7, 8, 9] (fun a b i => ∃ k : Nat, k ≤ (fallsL n.toNat).length ∧ i = .int .i64 k ∧ a = .int .i64 (sumTo (agF n s) k) ∧ b = .int .i64 (sumL ((fallsL n.toNat).take k))) (fun _ _ i => (fallsL n.toNat).length - (intOf i).toNat)
    case atStart => exact ⟨0, Nat.zero_le _, rfl, rfl, rfl⟩
    case round =>
      obtain ⟨k, hk, rfl, rfl, rfl⟩ := hrel
      have hb1 := ag_sum_bd n s k g.1 g.2 (by omega)
      have hb2 := part_sum_bd n.toNat k (by omega)
      have hb3 := falls_nth_bd n.toNat k (by omega)
      by_cases hlt : k < (fallsL n.toNat).length
      · have hsrc := ho.cell k hlt
        have HA := Lib.hid (sumL_take_succ (fallsL n.toNat) k hlt)
        by_cases hx : s ≤ n * (n - 1) / 2 - 2 * k
        · have HS := Lib.hid (ag_yes n s k hx)
          go_wp2
          go_round
          case rel => exact ⟨k + 1, by omega, by go_num, by rw [HS.out], by rw [HA.out]⟩
          case measure => simp [intOf]; omega
        · have HS := Lib.hid (ag_no n s k hx)
          go_wp2
          go_round
          case rel => exact ⟨k + 1, by omega, by go_num, by rw [HS.out], by rw [HA.out]⟩
          case measure => simp [intOf]; omega
      · have HK : Hid (k = (fallsL n.toNat).length) := by show _ = _; omega
        go_wp2
        go_ret2
        refine ⟨?_, hb⟩
        rw [hz.out.1, hz.out.2, ← fallsL_sum]
        exact ret_int2 (by rw [HK.out]) (by rw [HK.out, List.take_of_length_le (Nat.le_refl _)])

set_option maxHeartbeats 1000000 in
theorem impl_AgreeChance (n s : Int) (w : World) :
    Calls Try.prog 45 #[.int .i64 n, .int .i64 s] w fun e w' => e = .returned (.tuple #[.int .i64 (agreeA n s), .int .i64 (agreeB n)]) ∧ Below w.heap.size w w' := by
  cases h : inB n 1 10
  · have hz : Hid (agreeA n s = -1 ∧ agreeB n = -1) := ⟨if_neg (by rw [h]; simp), if_neg (by rw [h]; simp)⟩
    go_enter Try.func45, Try.ntmps45
    go_wp2_with (go_at_call 52; refine (impl_in _ _ _ _).mono ?_; rintro e w' ⟨rfl, rfl⟩)
    go_ret2
    exact ⟨ret_int2 hz.out.1.symm hz.out.2.symm, Below.refl _ _⟩
  · have hz : Hid (agreeA n s = sumTo (agF n s) (fallsL n.toNat).length ∧ agreeB n = (fact n.toNat : Nat)) := ⟨if_pos h, if_pos h⟩
    have g := inB_iff.1 h
    have hm := mul_bd n (n - 1) 10 9 (by omega) (by omega) (by omega) (by omega)
    have hll := fallsL_len_le n.toNat (by omega)
    have hpos : 0 < (fallsL n.toNat).length := by
      obtain ⟨m, hm⟩ : ∃ m : Nat, n.toNat = m + 1 := ⟨n.toNat - 1, by omega⟩
      rw [hm]; have := fallsL_length m; omega
    go_enter Try.func45, Try.ntmps45
    go_wp2_with (go_at_call 52; refine (impl_in _ _ _ _).mono ?_; rintro e w' ⟨rfl, rfl⟩)
    have hfc := impl_FallCounts n w
    rw [show fallsV n = fallsL n.toNat from if_pos h] at hfc
    refine hfc.mono ?_
    clear hfc
    rintro e w1 ⟨v, rfl, ho, hb⟩
    obtain ⟨gg, cap, rfl, hg1, hg2, hg3, hg4⟩ := ho.len hpos
    go_wp2_with fail
    go_loop [6, 15] (fun a i => ∃ k : Nat, k ≤ (fallsL n.toNat).length ∧ i = .int .i64 k ∧ a = .int .i64 (sumTo (agF n s) k)) (fun _ i => (fallsL n.toNat).length - (intOf i).toNat)
    case atStart => exact ⟨0, Nat.zero_le _, rfl, rfl⟩
    case round =>
      obtain ⟨k, hk, rfl, rfl⟩ := hrel
      have hb1 := ag_sum_bd n s k g.1 g.2 (by omega)
      have hb3 := falls_nth_bd n.toNat k (by omega)
      by_cases hlt : k < (fallsL n.toNat).length
      · have hsrc := ho.cell k hlt
        by_cases hx : s ≤ n * (n - 1) / 2 - 2 * k
        · have HS := Lib.hid (ag_yes n s k hx)
          go_wp2
          go_round
          case rel => exact ⟨k + 1, by omega, by go_num, by rw [HS.out]⟩
          case measure => simp [intOf]; omega
        · have HS := Lib.hid (ag_no n s k hx)
          go_wp2
          go_round
          case rel => exact ⟨k + 1, by omega, by go_num, by rw [HS.out]⟩
          case measure => simp [intOf]; omega
      · have HK : Hid (k = (fallsL n.toNat).length) := by show _ = _; omega
        go_wp2_with (go_at_call 73; refine (impl_factorial 10 n _ (by omega) (by omega) (by omega)).mono ?_; rintro e w' ⟨rfl, rfl⟩)
        go_ret2
        refine ⟨?_, hb⟩
        rw [hz.out.1, hz.out.2]
        exact ret_int2 (by rw [HK.out]) rfl
end Go.Proofs.Ytohdbbdolmgaaaa
