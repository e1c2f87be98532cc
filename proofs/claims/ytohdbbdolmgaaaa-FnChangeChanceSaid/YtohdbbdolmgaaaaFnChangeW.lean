/-
  The walk of laws.FnChangeChance.
-/
import Derived.Test.YtohdbbdolmgaaaaLawsN
import Derived.Test.YtohdbbdolmgaaaaLawsH
import Derived.Test.YtohdbbdolmgaaaaChange
namespace Go.Proofs.Ytohdbbdolmgaaaa
open Go.RowKit
set_option linter.unusedVariables false

theorem draw_ChangeChance (a : Option Addr) (len cap : Nat) (z : List Int) (w : World) (h : IsRow .u8 w a len cap z) :
    Calls Try.prog 27 #[.slice a len cap] w (RetD2 w (fun b c => -1 ≤ b ∧ b ≤ 9 ∧ 0 ≤ c ∧ c ≤ 8)) := by
  go_enter Try.func27, Try.ntmps27
  go_wp2_with fail
  refine (rdr_new a len cap z w h).mono ?_
  rintro e w0 ⟨v, rfl, hR0, hb0⟩
  clear h
  go_wp2_with fail
  refine (rdr_pick w w0 v 0 (9) hR0 hb0 (by omega) (by omega)).mono ?_
  rintro e w1 ⟨r1, rfl, ⟨f1a, f1b, f1c⟩, hR1, hb1, hg1⟩
  have f1 := f1b (by omega)
  clear hg1 f1b f1c hR0 hb0
  go_wp2_with fail
  refine (rdr_pick w w1 v 1 (4) hR1 hb1 (by omega) (by omega)).mono ?_
  rintro e w2 ⟨r2, rfl, ⟨f2a, f2b, f2c⟩, hR2, hb2, hg2⟩
  have f2 := f2b (by omega)
  clear hg2 f2b f2c hR1 hb1
  go_wp2_with fail
  refine (rdr_lit w w2 v 2 [r1, r2, 0, 8, 9, -1] 6 rfl (by omega) (by omega) hR2 hb2 (by omega)).mono ?_
  rintro e w3 ⟨r3, rfl, f3, hR3, hb3, hg3⟩
  have F3 := Lib.hid f3
  simp only [List.mem_cons, List.not_mem_nil, or_false] at f3
  have g3 : -10000000 ≤ r3 ∧ r3 ≤ 10000000 := by omega
  clear hg3 f3 hR2 hb2
  go_wp2_with fail
  refine (rdr_pick w w3 v 3 (9) hR3 hb3 (by omega) (by omega)).mono ?_
  rintro e w4 ⟨r4, rfl, ⟨f4a, f4b, f4c⟩, hR4, hb4, hg4⟩
  have f4 := f4b (by omega)
  clear hg4 f4b f4c hR3 hb3
  go_wp2_with fail
  refine (rdr_pick w w4 v 4 (4) hR4 hb4 (by omega) (by omega)).mono ?_
  rintro e w5 ⟨r5, rfl, ⟨f5a, f5b, f5c⟩, hR5, hb5, hg5⟩
  have f5 := f5b (by omega)
  clear hg5 f5b f5c hR4 hb4
  go_wp2_with fail
  refine (rdr_lit w w5 v 5 [r4, r5, 0] 3 rfl (by omega) (by omega) hR5 hb5 (by omega)).mono ?_
  rintro e w6 ⟨r6, rfl, f6, hR6, hb6, hg6⟩
  have F6 := Lib.hid f6
  simp only [List.mem_cons, List.not_mem_nil, or_false] at f6
  have g6 : -10000000 ≤ r6 ∧ r6 ≤ 10000000 := by omega
  clear hg6 f6 hR5 hb5
  have HP : Hid (RetD2 w (fun b c => -1 ≤ b ∧ b ≤ 9 ∧ 0 ≤ c ∧ c ≤ 8) (.returned (.tuple #[.int .i64 (r3), .int .i64 (r6)])) w6) := by
    refine ⟨r3, r6, rfl, ?_, hb6⟩
    have F3 := F3.out 
    have F6 := F6.out
    simp only [List.mem_cons, List.not_mem_nil, or_false] at F3 F6
    omega
  clear hR6 hb6
  go_wp2_with fail
  go_ret2
  exact HP.out

/-- What the law asks. -/
theorem change_law : ∀ b : Fin 11, ∀ c : Fin 9, (changeA ((b.val : Int) - 1) c.val < 0) ∨ (0 ≤ (b.val : Int) - 1 ∧ (b.val : Int) - 1 ≤ 8 ∧ 0 ≤ changeA ((b.val : Int) - 1) c.val ∧ 1 ≤ changeB ((b.val : Int) - 1) c.val ∧ changeB ((b.val : Int) - 1) c.val ≤ 65536 ∧ changeA c.val ((b.val : Int) - 1) = changeA ((b.val : Int) - 1) c.val ∧ changeB c.val ((b.val : Int) - 1) = changeB ((b.val : Int) - 1) c.val ∧ 2 - changeB ((b.val : Int) - 1) c.val % 2 ≤ changeA ((b.val : Int) - 1) c.val ∧ changeA ((b.val : Int) - 1) c.val ≤ changeB ((b.val : Int) - 1) c.val ∧ (((b.val : Int) - 1 - c.val ≤ 1 ∧ (c.val : Int) - ((b.val : Int) - 1) ≤ 1) → changeA ((b.val : Int) - 1) c.val = changeB ((b.val : Int) - 1) c.val) ∧ changeB ((b.val : Int) - 1) c.val = 2 ^ ((b.val : Int) - 1 + c.val).toNat) := by decide +kernel

set_option maxHeartbeats 1000000 in
theorem walk_FnChangeChance (a0 : Option Addr) (len0 cap0 : Nat) (z0 : List Int) (w : World) (w0 : IsRow .u8 w a0 len0 cap0 z0) :
    Calls Try.prog 6 #[.slice a0 len0 cap0] w fun e w' => e = .returned (.bool true) ∧ Below w.heap.size w w' := by
  by_cases hbig : 1048576 < len0
  · have hbig' : decide ((1048576 : Int) < (len0 : Int)) = true := decide_eq_true (by omega)
    go_enter Try.func6, Try.ntmps6
    go_wp2_with fail
    go_ret
    exact ⟨rfl, Below.refl _ _⟩
  · have hbig' : decide ((1048576 : Int) < (len0 : Int)) = false := decide_eq_false (by omega)
    go_enter Try.func6, Try.ntmps6
    go_wp2_with fail
    refine (draw_ChangeChance a0 len0 cap0 z0 w w0).mono ?_
    clear hbig hbig' w0
    rintro e w1 ⟨b, c, rfl, ⟨hb0, hb9, hc0, hc8⟩, hb1⟩
    have hlaw := change_law ⟨(b + 1).toNat, by omega⟩ ⟨c.toNat, by omega⟩
    simp only [] at hlaw
    have eb : ((b + 1).toNat : Int) - 1 = b := by omega
    have ec : (c.toNat : Int) = c := by omega
    rw [eb, ec] at hlaw
    clear eb ec
    go_wp2_with fail
    refine (impl_ChangeChance b c w1).mono ?_
    rintro e w2 ⟨rfl, hb2⟩
    go_wp2_with fail
    refine (spec_ChangeChance b c w2).mono ?_
    rintro e w3 ⟨rfl, rfl⟩
    have q3 := hb1.trans (hb2.mono hb1.size)
    clear hb1 hb2
    have hq1 : (changeA b c != changeA b c) = false := by simp
    have hq2 : (changeB b c != changeB b c) = false := by simp
    rcases hlaw with hE | ⟨h1, h2, h3, h4, h5, h6, h7, h8, h9, h10, h11⟩
    · have hlt : decide (changeA b c < 0) = true := decide_eq_true hE
      have hq3 : (changeA b c == changeA b c) = true := by simp
      have hq4 : (changeB b c == changeB b c) = true := by simp
      go_wp2_with fail
      go_ret
      exact ⟨by simp, q3⟩
    · have hlt : decide (changeA b c < 0) = false := decide_eq_false (by omega)
      have ht1 : (changeA c b == changeA b c) = true := by rw [h6]; simp
      have ht2 : (changeB c b == changeB b c) = true := by rw [h7]; simp
      have H10 := Lib.hid h10
      have H11 := Lib.hid h11
      have H8 := Lib.hid h8
      clear h6 h7 h10 h11 h8
      generalize hA : changeA b c = A at *
      generalize hB : changeB b c = B at *
      generalize hC : changeA c b = C at *
      generalize hD : changeB c b = D at *
      have HABCD : Hid (changeA c b = C ∧ changeB c b = D) := ⟨hC, hD⟩
      clear hA hB hC hD
      have hcl := impl_ChangeChance c b w2
      rw [HABCD.out.1, HABCD.out.2] at hcl
      have HCL := Lib.hid hcl
      clear hcl
      have hmod : 0 ≤ B % 2 ∧ B % 2 ≤ 1 := by omega
      have ht3 : decide (2 - B % 2 ≤ A) = true := decide_eq_true H8.out
      have ht4 : decide (A ≤ B) = true := decide_eq_true h9
      have hpw := two_bd (b + c).toNat (by omega)
      have ht5 : (B == (2 : Int) ^ (b + c).toNat) = true := by rw [H11.out]; simp
      by_cases hd1 : b - c < c - b
      · have hd1' : decide (b - c < c - b) = true := decide_eq_true hd1
        by_cases hd2 : 1 < c - b
        · have hd2' : decide (1 < c - b) = true := decide_eq_true hd2
          go_wp2_with fail
          refine HCL.out.mono ?_
          rintro e w4 ⟨rfl, hb4⟩
          go_wp2_with fail
          refine (laws_raised 2 (b + c) _ (by omega) (by omega) (by omega) (.inr ⟨by omega, by omega⟩)).mono ?_
          rintro e w5 ⟨rfl, rfl⟩
          go_wp2_with fail
          go_ret
          exact ⟨rfl, q3.trans (hb4.mono q3.size)⟩
        · have hd2' : decide (1 < c - b) = false := decide_eq_false hd2
          have ht6 : (A == B) = true := by rw [H10.out ⟨by omega, by omega⟩]; simp
          go_wp2_with fail
          refine HCL.out.mono ?_
          rintro e w4 ⟨rfl, hb4⟩
          go_wp2_with fail
          refine (laws_raised 2 (b + c) _ (by omega) (by omega) (by omega) (.inr ⟨by omega, by omega⟩)).mono ?_
          rintro e w5 ⟨rfl, rfl⟩
          go_wp2_with fail
          go_ret
          exact ⟨rfl, q3.trans (hb4.mono q3.size)⟩
      · have hd1' : decide (b - c < c - b) = false := decide_eq_false hd1
        by_cases hd2 : 1 < b - c
        · have hd2' : decide (1 < b - c) = true := decide_eq_true hd2
          go_wp2_with fail
          refine HCL.out.mono ?_
          rintro e w4 ⟨rfl, hb4⟩
          go_wp2_with fail
          refine (laws_raised 2 (b + c) _ (by omega) (by omega) (by omega) (.inr ⟨by omega, by omega⟩)).mono ?_
          rintro e w5 ⟨rfl, rfl⟩
          go_wp2_with fail
          go_ret
          exact ⟨rfl, q3.trans (hb4.mono q3.size)⟩
        · have hd2' : decide (1 < b - c) = false := decide_eq_false hd2
          have ht6 : (A == B) = true := by rw [H10.out ⟨by omega, by omega⟩]; simp
          go_wp2_with fail
          refine HCL.out.mono ?_
          rintro e w4 ⟨rfl, hb4⟩
          go_wp2_with fail
          refine (laws_raised 2 (b + c) _ (by omega) (by omega) (by omega) (.inr ⟨by omega, by omega⟩)).mono ?_
          rintro e w5 ⟨rfl, rfl⟩
          go_wp2_with fail
          go_ret
          exact ⟨rfl, q3.trans (hb4.mono q3.size)⟩
end Go.Proofs.Ytohdbbdolmgaaaa
