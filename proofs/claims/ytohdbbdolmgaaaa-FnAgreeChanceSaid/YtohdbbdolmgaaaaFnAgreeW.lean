/-
  The walk of laws.FnAgreeChance.
-/
import Derived.Test.YtohdbbdolmgaaaaLawsN
import Derived.Test.YtohdbbdolmgaaaaLawsH
import Derived.Test.YtohdbbdolmgaaaaAgreeC
namespace Go.Proofs.Ytohdbbdolmgaaaa
open Go.RowKit
set_option linter.unusedVariables false

theorem draw_AgreeChance (a : Option Addr) (len cap : Nat) (z : List Int) (w : World) (h : IsRow .u8 w a len cap z) :
    Calls Try.prog 44 #[.slice a len cap] w (RetD2 w (fun n s => n ∈ ([4, 5, 6, 3, 2, 1, 8, 10, 0, 11] : List Int) ∧ -30 ≤ s ∧ s ≤ 29)) := by
  go_enter Try.func44, Try.ntmps44
  go_wp2_with fail
  refine (rdr_new a len cap z w h).mono ?_
  rintro e w0 ⟨v, rfl, hR0, hb0⟩
  clear h
  go_wp2_with fail
  refine (rdr_lit w w0 v 0 [4, 5, 6, 3, 2, 1, 8, 10, 0, 11] 10 rfl (by omega) (by omega) hR0 hb0 (by omega)).mono ?_
  rintro e w1 ⟨r1, rfl, f1, hR1, hb1, hg1⟩
  have F1 := Lib.hid f1
  simp only [List.mem_cons, List.not_mem_nil, or_false] at f1
  have g1 : -10000000 ≤ r1 ∧ r1 ≤ 10000000 := by omega
  clear hg1 f1 hR0 hb0
  go_wp2_with fail
  refine (rdr_pick w w1 v 1 (60) hR1 hb1 (by omega) (by omega)).mono ?_
  rintro e w2 ⟨r2, rfl, ⟨f2a, f2b, f2c⟩, hR2, hb2, hg2⟩
  have f2 := f2b (by omega)
  clear hg2 f2b f2c hR1 hb1
  have HP : Hid (RetD2 w (fun n s => n ∈ ([4, 5, 6, 3, 2, 1, 8, 10, 0, 11] : List Int) ∧ -30 ≤ s ∧ s ≤ 29) (.returned (.tuple #[.int .i64 (r1), .int .i64 (r2 - 30)])) w2) := by
    refine ⟨r1, r2 - 30, rfl, ?_, hb2⟩
    have F1 := F1.out
    exact ⟨F1, by omega, by omega⟩
  clear hR2 hb2
  go_wp2_with fail
  go_ret2
  exact HP.out

theorem falls_sym : ∀ n ∈ ([4, 5, 6, 3, 2, 1, 8, 10] : List Int), (fallsL n.toNat).reverse = fallsL n.toNat ∧ ((fallsL n.toNat).length : Int) = n * (n - 1) / 2 + 1 := by decide +kernel
theorem sumTo_list (l : List Int) : ∀ k, k ≤ l.length → sumTo (fun i => nth l i) k = sumL (l.take k) := by
  intro k
  induction k with
  | zero => intro _; rfl
  | succ k ih => intro h; rw [sumTo_succ, ih (by omega), sumL_take_succ l k (by omega)]
theorem nth_reverse (l : List Int) (i : Nat) (h : i < l.length) : nth l.reverse i = nth l (l.length - 1 - i) := by
  have h2 : l.length - 1 - i < l.length := by omega
  simp [nth, List.getD, h, h2]
/-- The law: both ends are all. -/
theorem agree_both (n s : Int) (hn : n ∈ ([4, 5, 6, 3, 2, 1, 8, 10] : List Int)) :
    sumTo (agF n s) (fallsL n.toNat).length + sumTo (agF n (1 - s)) (fallsL n.toNat).length = (fact n.toNat : Nat) := by
  obtain ⟨hr, hl⟩ := falls_sym n hn
  rw [sumTo_rev (agF n (1 - s)), ← sumTo_add]
  have e : sumTo (fun k => agF n s k + agF n (1 - s) ((fallsL n.toNat).length - 1 - k)) (fallsL n.toNat).length = sumTo (fun i => nth (fallsL n.toNat) i) (fallsL n.toNat).length := by
    refine sumTo_congr _ _ _ (fun k hk => ?_)
    have h1 := nth_reverse (fallsL n.toNat) k hk
    rw [hr] at h1
    unfold agF
    rw [← h1]
    have h2 : (((fallsL n.toNat).length - 1 - k : Nat) : Int) = n * (n - 1) / 2 - k := by omega
    rw [h2]
    generalize n * (n - 1) / 2 = T at *
    by_cases hs : s ≤ T - 2 * (k : Int)
    · rw [if_pos hs, if_neg (by omega), Int.add_zero]
    · rw [if_neg hs, if_pos (by omega), Int.zero_add]
  rw [e, sumTo_list _ _ (Nat.le_refl _), List.take_of_length_le (Nat.le_refl _), fallsL_sum]

set_option maxHeartbeats 1000000 in
theorem walk_FnAgreeChance (a0 : Option Addr) (len0 cap0 : Nat) (z0 : List Int) (w : World) (w0 : IsRow .u8 w a0 len0 cap0 z0) :
    Calls Try.prog 11 #[.slice a0 len0 cap0] w fun e w' => e = .returned (.bool true) ∧ Below w.heap.size w w' := by
  by_cases hbig : 1048576 < len0
  · have hbig' : decide ((1048576 : Int) < (len0 : Int)) = true := decide_eq_true (by omega)
    go_enter Try.func11, Try.ntmps11
    go_wp2_with fail
    go_ret
    exact ⟨rfl, Below.refl _ _⟩
  · have hbig' : decide ((1048576 : Int) < (len0 : Int)) = false := decide_eq_false (by omega)
    go_enter Try.func11, Try.ntmps11
    go_wp2_with fail
    refine (draw_AgreeChance a0 len0 cap0 z0 w w0).mono ?_
    clear hbig hbig' w0
    rintro e w1 ⟨n, s, rfl, ⟨hn, hs1, hs2⟩, hb1⟩
    have gn : -100 ≤ n ∧ n ≤ 100 := by simp at hn; omega
    have hcase : (inB n 1 10 = false) ∨ (inB n 1 10 = true ∧ n ∈ ([4, 5, 6, 3, 2, 1, 8, 10] : List Int)) := by
      simp only [List.mem_cons, List.not_mem_nil, or_false] at hn ⊢
      rcases hn with rfl | rfl | rfl | rfl | rfl | rfl | rfl | rfl | rfl | rfl <;> decide
    clear hn
    go_wp2_with fail
    refine (impl_AgreeChance n s w1).mono ?_
    rintro e w2 ⟨rfl, hb2⟩
    go_wp2_with fail
    refine (spec_AgreeChance n s w2).mono ?_
    rintro e w3 ⟨rfl, hb3⟩
    have q3 := hb1.trans ((hb2.trans (hb3.mono hb2.size)).mono hb1.size)
    clear hb1 hb2 hb3
    have hq1 : (agreeA n s != agreeA n s) = false := by simp
    have hq2 : (agreeB n != agreeB n) = false := by simp
    rcases hcase with hE | ⟨hI, hm⟩
    · have hlt : decide (agreeA n s < 0) = true := by unfold agreeA; rw [if_neg (by rw [hE]; simp)]; rfl
      have hq3 : (agreeA n s == agreeA n s) = true := by simp
      have hq4 : (agreeB n == agreeB n) = true := by simp
      clear hE
      go_wp2_with fail
      go_ret
      exact ⟨by simp, q3⟩
    · have e1 : agreeA n s = sumTo (agF n s) (fallsL n.toNat).length := if_pos hI
      have e2 : agreeA n (1 - s) = sumTo (agF n (1 - s)) (fallsL n.toNat).length := if_pos hI
      have e3 : agreeB n = (fact n.toNat : Nat) := if_pos hI
      have hb := agree_both n s hm
      have hr := inB_iff.1 hI
      have p1 := (sumTo_bd (agF n s) 3628800 (fallsL n.toNat).length (fun i _ => agF_bd n s i hr.1 hr.2)).1
      have p2 := (sumTo_bd (agF n (1 - s)) 3628800 (fallsL n.toNat).length (fun i _ => agF_bd n (1 - s) i hr.1 hr.2)).1
      have hf := fact_le n.toNat (by omega)
      rw [← e1, ← e2] at hb
      rw [← e1] at p1
      rw [← e2] at p2
      have E3 := Lib.hid e3
      have HB := Lib.hid hb
      have b1 : 0 ≤ agreeA n s ∧ agreeA n s ≤ 3628800 := by omega
      have b2 : 0 ≤ agreeA n (1 - s) ∧ agreeA n (1 - s) ≤ 3628800 := by omega
      have hlt : decide (agreeA n s < 0) = false := decide_eq_false (by omega)
      clear e1 e2 e3 hb hm hI p1 p2
      go_wp2_with fail
      refine (impl_AgreeChance n (1 - s) w3).mono ?_
      rintro e w4 ⟨rfl, hb4⟩
      go_wp2_with fail
      refine (laws_product n _ hr.1 hr.2).mono ?_
      rintro e w5 ⟨rfl, rfl⟩
      have ht1 : (agreeB n == ((fact n.toNat : Nat) : Int)) = true := by rw [E3.out]; simp
      have ht2 : (agreeA n s + agreeA n (1 - s) == agreeB n) = true := by rw [E3.out, HB.out]; simp
      go_wp2_with fail
      go_ret
      exact ⟨rfl, q3.trans (hb4.mono q3.size)⟩
end Go.Proofs.Ytohdbbdolmgaaaa
