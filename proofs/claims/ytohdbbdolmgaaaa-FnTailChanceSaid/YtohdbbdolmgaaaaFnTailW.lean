/-
  The walk of laws.FnTailChance.
-/
import Derived.Test.YtohdbbdolmgaaaaLawsN
import Derived.Test.YtohdbbdolmgaaaaLawsH
import Derived.Test.YtohdbbdolmgaaaaTail
namespace Go.Proofs.Ytohdbbdolmgaaaa
open Go.RowKit
set_option linter.unusedVariables false

theorem results_tmp4' {fn : Func} {t u v x : Tmp} (h : fn.results = #[.tmp t, .tmp u, .tmp v, .tmp x]) (tmps : Array Value) (P : Program) (w : World) :
    (results fn tmps).run P w = .ok (.tuple #[tmps.getD t undef, tmps.getD u undef, tmps.getD v undef, tmps.getD x undef]) w := by
  simp [results, h]
macro "go_ret4" : tactic => `(tactic|
  ((try simp only [Exit.inBlock, Exit.then]); refine bodyPost_ret (results_tmp4' rfl _ _ _) rfl ?_))

theorem draw_TailChance (a : Option Addr) (len cap : Nat) (z : List Int) (w : World) (h : IsRow .u8 w a len cap z) :
    Calls Try.prog 47 #[.slice a len cap] w (RetD4 w (fun n k u v => (0 ≤ n ∧ n ≤ 11) ∧ (-1 ≤ k ∧ k ≤ 10) ∧ (0 ≤ v ∧ v ≤ 13) ∧ 0 ≤ u ∧ u ≤ 14)) := by
  go_enter Try.func47, Try.ntmps47
  go_wp2_with fail
  refine (rdr_new a len cap z w h).mono ?_
  rintro e w0 ⟨v, rfl, hR0, hb0⟩
  clear h
  go_wp2_with fail
  refine (rdr_lit w w0 v 0 [6, 2, 10, 12, 3, 1, 0, 13] 8 rfl (by omega) (by omega) hR0 hb0 (by omega)).mono ?_
  rintro e w1 ⟨r1, rfl, f1, hR1, hb1, hg1⟩
  have F1 := Lib.hid f1
  simp only [List.mem_cons, List.not_mem_nil, or_false] at f1
  have g1 : 0 ≤ r1 ∧ r1 ≤ 13 := by omega
  have g1' : decide (r1 < 0) = false := decide_eq_false (by omega)
  clear hg1 f1 hR0 hb0
  go_wp2_with fail
  refine (rdr_lit w w1 v 1 [5, 4, 6, 10, 2, 1, 0, 11] 8 rfl (by omega) (by omega) hR1 hb1 (by omega)).mono ?_
  rintro e w2 ⟨r2, rfl, f2, hR2, hb2, hg2⟩
  have F2 := Lib.hid f2
  simp only [List.mem_cons, List.not_mem_nil, or_false] at f2
  have g2 : -10000000 ≤ r2 ∧ r2 ≤ 10000000 := by omega
  clear hg2 f2 hR1 hb1
  go_wp2_with fail
  refine (rdr_pick w w2 v 2 (12) hR2 hb2 (by omega) (by omega)).mono ?_
  rintro e w3 ⟨r3, rfl, ⟨f3a, f3b, f3c⟩, hR3, hb3, hg3⟩
  have f3 := f3b (by omega)
  clear hg3 f3b f3c hR2 hb2
  go_wp2_with fail
  refine (rdr_pick w w3 v 3 (r1 + 1) hR3 hb3 (by omega) (by omega)).mono ?_
  rintro e w4 ⟨r4, rfl, ⟨f4a, f4b, f4c⟩, hR4, hb4, hg4⟩
  have f4 := f4b (by omega)
  clear hg4 f4b f4c hR3 hb3
  go_wp2_with fail
  refine (rdr_lit w w4 v 4 [r4, 1, 0, r1, r1 + 1] 5 rfl (by omega) (by omega) hR4 hb4 (by omega)).mono ?_
  rintro e w5 ⟨r5, rfl, f5, hR5, hb5, hg5⟩
  have F5 := Lib.hid f5
  simp only [List.mem_cons, List.not_mem_nil, or_false] at f5
  have g5 : -10000000 ≤ r5 ∧ r5 ≤ 10000000 := by omega
  clear hg5 f5 hR4 hb4
  have HP : Hid (RetD4 w (fun n k u v => (0 ≤ n ∧ n ≤ 11) ∧ (-1 ≤ k ∧ k ≤ 10) ∧ (0 ≤ v ∧ v ≤ 13) ∧ 0 ≤ u ∧ u ≤ 14) (.returned (.tuple #[.int .i64 (r2), .int .i64 (r3 - 1), .int .i64 (r5), .int .i64 (r1)])) w5) := by
    refine ⟨r2, r3 - 1, r5, r1, rfl, ?_, hb5⟩
    have F1 := F1.out 
    have F2 := F2.out 
    have F5 := F5.out
    simp only [List.mem_cons, List.not_mem_nil, or_false] at F1 F2 F5
    omega
  clear hR5 hb5
  go_wp2_with fail
  go_ret4
  exact HP.out


theorem term_all : ∀ n : Fin 11, ∀ v : Fin 13, ∀ u : Fin 13, u.val ≤ v.val → sumTo (fun h => termI n.val h u.val v.val) (n.val + 1) = (v.val : Int) ^ n.val := by decide +kernel
theorem term_sym (n h : Nat) (u v : Int) (hh : h ≤ n) : termI n ((n - h : Nat) : Int) (v - u) v = termI n h u v := by
  unfold termI
  have e1 : (n : Int) - ((n - h : Nat) : Int) = (h : Int) := by omega
  have e2 : (n : Int) - (h : Int) = ((n - h : Nat) : Int) := by omega
  have e3 : v - (v - u) = u := by omega
  rw [e1, e2, e3, binI_nat, binI_nat]
  have hb : bin n (n - h) = bin n h := by
    have := bin_comm (n - h) h
    rwa [show n - h + h = n by omega] at this
  rw [hb]
  simp only [Int.toNat_natCast]
  rw [Int.mul_assoc, Int.mul_comm ((v - u) ^ (n - h)), ← Int.mul_assoc]
/-- Both ends are all. -/
theorem tail_both (n : Nat) (k u v : Int) (hn : n ≤ 10) (hu : 0 ≤ u) (huv : u ≤ v) (hv : v ≤ 12) :
    sumTo (tailF n k u v) (n + 1) + sumTo (tailF n (n - k + 1) (v - u) v) (n + 1) = v ^ n ∧ (k ≤ 0 → sumTo (tailF n k u v) (n + 1) = v ^ n) := by
  obtain ⟨u, rfl⟩ := Int.eq_ofNat_of_zero_le hu
  obtain ⟨v, rfl⟩ := Int.eq_ofNat_of_zero_le (Int.le_trans hu huv)
  have hall := term_all ⟨n, by omega⟩ ⟨v, by omega⟩ ⟨u, by omega⟩ (by show u ≤ v; omega)
  simp only [] at hall
  constructor
  · rw [sumTo_rev (tailF n (n - k + 1) ((v : Int) - u) v), ← sumTo_add, ← hall]
    refine sumTo_congr _ _ _ (fun h hh => ?_)
    have e : n + 1 - 1 - h = n - h := by omega
    rw [e]
    unfold tailF
    rw [term_sym n h u v (by omega)]
    by_cases hk : k ≤ (h : Int)
    · rw [if_pos hk, if_neg (by omega), Int.add_zero]
    · rw [if_neg hk, if_pos (by omega), Int.zero_add]
  · intro hk
    rw [← hall]
    refine sumTo_congr _ _ _ (fun h hh => ?_)
    unfold tailF
    rw [if_pos (by omega)]

set_option maxHeartbeats 1000000 in
theorem walk_FnTailChance (a0 : Option Addr) (len0 cap0 : Nat) (z0 : List Int) (w : World) (w0 : IsRow .u8 w a0 len0 cap0 z0) :
    Calls Try.prog 12 #[.slice a0 len0 cap0] w fun e w' => e = .returned (.bool true) ∧ Below w.heap.size w w' := by
  by_cases hbig : 1048576 < len0
  · have hbig' : decide ((1048576 : Int) < (len0 : Int)) = true := decide_eq_true (by omega)
    go_enter Try.func12, Try.ntmps12
    go_wp2_with fail
    go_ret
    exact ⟨rfl, Below.refl _ _⟩
  · have hbig' : decide ((1048576 : Int) < (len0 : Int)) = false := decide_eq_false (by omega)
    go_enter Try.func12, Try.ntmps12
    go_wp2_with fail
    refine (draw_TailChance a0 len0 cap0 z0 w w0).mono ?_
    clear hbig hbig' w0
    rintro e w1 ⟨n, k, u, v, rfl, ⟨⟨hn0, hn1⟩, ⟨hk0, hk1⟩, ⟨hv0, hv1⟩, hu0, hu1⟩, hb1⟩
    go_wp2_with fail
    refine (impl_TailChance n k u v w1).mono ?_
    rintro e w2 ⟨rfl, hb2⟩
    go_wp2_with fail
    refine (spec_TailChance n k u v w2).mono ?_
    rintro e w3 ⟨rfl, rfl⟩
    have q3 := hb1.trans (hb2.mono hb1.size)
    clear hb1 hb2
    have hq1 : (tailA n k u v != tailA n k u v) = false := by simp
    have hq2 : (tailB n u v != tailB n u v) = false := by simp
    cases hT : triesB n u v
    · have hlt : decide (tailA n k u v < 0) = true := by unfold tailA; rw [if_neg (by rw [hT]; simp)]; rfl
      have hq3 : (tailA n k u v == tailA n k u v) = true := by simp
      have hq4 : (tailB n u v == tailB n u v) = true := by simp
      clear hT
      go_wp2_with fail
      go_ret
      exact ⟨by simp, q3⟩
    · obtain ⟨t1, t2, t3⟩ := triesB_iff.1 hT
      have i1 := inB_iff.1 t1
      have i2 := inB_iff.1 t2
      have i3 := inB_iff.1 t3
      have hT2 : triesB n (v - u) v = true := triesB_iff.2 ⟨t1, t2, inB_true ⟨by omega, by omega⟩⟩
      obtain ⟨nn, rfl⟩ := Int.eq_ofNat_of_zero_le hn0
      have en : ((nn : Int) + 1).toNat = nn + 1 := by omega
      have e1 : tailA nn k u v = sumTo (tailF nn k u v) (nn + 1) := by unfold tailA; rw [if_pos hT, en]
      have e2 : tailA nn (nn - k + 1) (v - u) v = sumTo (tailF nn (nn - k + 1) (v - u) v) (nn + 1) := by unfold tailA; rw [if_pos hT2, en]
      have e3 : tailB nn u v = v ^ nn := by unfold tailB; rw [if_pos hT]; simp
      have hb := tail_both nn k u v (by omega) hu0 i3.2 (by omega)
      have p1 := (sumTo_bd (tailF nn k u v) 100000000000000 (nn + 1) (fun h hh => by have := tailF_bd nn k u v h (by omega) (by omega) (by omega) i3.1 i3.2 (by omega); omega)).1
      have p2 := (sumTo_bd (tailF nn (nn - k + 1) (v - u) v) 100000000000000 (nn + 1) (fun h hh => by have := tailF_bd nn (nn - k + 1) (v - u) v h (by omega) (by omega) (by omega) (by omega) (by omega) (by omega); omega)).1
      rw [← e1, ← e2] at hb
      rw [← e1] at p1
      rw [← e2] at p2
      have hpw := pow_bd v hv0 (by omega) nn (by omega)
      have E3 := Lib.hid e3
      have HB := Lib.hid hb
      have hsum := hb.1
      have b1 : 0 ≤ tailA nn k u v ∧ tailA nn k u v ≤ 61917364224 := by omega
      have b2 : 0 ≤ tailA nn (nn - k + 1) (v - u) v ∧ tailA nn (nn - k + 1) (v - u) v ≤ 61917364224 := by omega
      have hlt : decide (tailA nn k u v < 0) = false := decide_eq_false (by omega)
      have ht1 : (tailB nn u v == v ^ nn) = true := by rw [E3.out]; simp
      have ht2 : (tailA nn k u v + tailA nn (nn - k + 1) (v - u) v == tailB nn u v) = true := by rw [E3.out, HB.out.1]; simp
      have hra := fun wx => laws_raised v nn wx hv0 (by omega) (by omega) (.inl (by omega))
      simp only [Int.toNat_natCast] at hra
      have HRA := Lib.hid hra
      clear e1 e2 e3 hb p1 p2 hT hT2 t1 t2 t3 hsum en hra
      by_cases hk : 0 < k
      · have hk' : decide (0 < k) = true := decide_eq_true hk
        go_wp2_with fail
        refine (impl_TailChance nn (nn - k + 1) (v - u) v w2).mono ?_
        rintro e w4 ⟨rfl, hb4⟩
        go_wp2_with fail
        refine (HRA.out _).mono ?_
        rintro e w5 ⟨rfl, rfl⟩
        go_wp2_with fail
        go_ret
        exact ⟨rfl, q3.trans (hb4.mono q3.size)⟩
      · have hk' : decide (0 < k) = false := decide_eq_false hk
        have ht3 : (tailA nn k u v == tailB nn u v) = true := by rw [E3.out, HB.out.2 (by omega)]; simp
        go_wp2_with fail
        refine (impl_TailChance nn (nn - k + 1) (v - u) v w2).mono ?_
        rintro e w4 ⟨rfl, hb4⟩
        go_wp2_with fail
        refine (HRA.out _).mono ?_
        rintro e w5 ⟨rfl, rfl⟩
        go_wp2_with fail
        go_ret
        exact ⟨rfl, q3.trans (hb4.mono q3.size)⟩
end Go.Proofs.Ytohdbbdolmgaaaa
