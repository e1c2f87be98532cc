/-
  The walk of laws.FnWinCounts.
-/
import Derived.Test.YtohdbbdolmgaaaaLawsN
import Derived.Test.YtohdbbdolmgaaaaLawsH
import Derived.Test.YtohdbbdolmgaaaaWinC
namespace Go.Proofs.Ytohdbbdolmgaaaa
open Go.RowKit
set_option linter.unusedVariables false

theorem draw_WinCounts (a : Option Addr) (len cap : Nat) (z : List Int) (w : World) (h : IsRow .u8 w a len cap z) :
    Calls Try.prog 13 #[.slice a len cap] w (RetD2 w (fun m n => m ∈ ([3, 2, 4, 1, 0, 6, 7] : List Int) ∧ n ∈ ([3, 4, 2, 1, 5, 0, -1] : List Int))) := by
  go_enter Try.func13, Try.ntmps13
  go_wp2_with fail
  refine (rdr_new a len cap z w h).mono ?_
  rintro e w0 ⟨v, rfl, hR0, hb0⟩
  clear h
  go_wp2_with fail
  refine (rdr_lit w w0 v 0 [3, 2, 4, 1, 0, 6, 7] 7 rfl (by omega) (by omega) hR0 hb0 (by omega)).mono ?_
  rintro e w1 ⟨r1, rfl, f1, hR1, hb1, hg1⟩
  have F1 := Lib.hid f1
  simp only [List.mem_cons, List.not_mem_nil, or_false] at f1
  have g1 : -10000000 ≤ r1 ∧ r1 ≤ 10000000 := by omega
  clear hg1 f1 hR0 hb0
  go_wp2_with fail
  refine (rdr_lit w w1 v 1 [3, 4, 2, 1, 5, 0, -1] 7 rfl (by omega) (by omega) hR1 hb1 (by omega)).mono ?_
  rintro e w2 ⟨r2, rfl, f2, hR2, hb2, hg2⟩
  have F2 := Lib.hid f2
  simp only [List.mem_cons, List.not_mem_nil, or_false] at f2
  have g2 : -10000000 ≤ r2 ∧ r2 ≤ 10000000 := by omega
  clear hg2 f2 hR1 hb1
  have HP : Hid (RetD2 w (fun m n => m ∈ ([3, 2, 4, 1, 0, 6, 7] : List Int) ∧ n ∈ ([3, 4, 2, 1, 5, 0, -1] : List Int)) (.returned (.tuple #[.int .i64 (r1), .int .i64 (r2)])) w2) := by
    refine ⟨r1, r2, rfl, ?_, hb2⟩
    have F1 := F1.out 
    have F2 := F2.out
    exact ⟨F1, F2⟩
  clear hR2 hb2
  go_wp2_with fail
  go_ret2
  exact HP.out

/-- What the law asks of the counts. -/
theorem win_law : ∀ m ∈ ([3, 2, 4, 1, 0, 6, 7] : List Int), ∀ n ∈ ([3, 4, 2, 1, 5, 0, -1] : List Int), winV m n = [] ∨ (0 ≤ m ∧ m ≤ 6 ∧ 0 ≤ n ∧ n ≤ 6 ∧ winV n m = winV m n ∧ (winV m n).reverse = winV m n ∧ sumL (winV m n) = (bin (m.toNat + n.toNat) m.toNat : Nat) ∧ ((winV m n).length : Int) = m * n + 1 ∧ 0 < (winV m n).length) := by decide +kernel
theorem winV_nonNeg (m n : Int) : NonNeg (winV m n) := by
  unfold winV
  split
  · intro a ha
    simp only [winL, List.mem_map] at ha
    obtain ⟨t, _, rfl⟩ := ha
    omega
  · intro a ha; simp at ha

set_option maxHeartbeats 1000000 in
theorem walk_FnWinCounts (a0 : Option Addr) (len0 cap0 : Nat) (z0 : List Int) (w : World) (w0 : IsRow .u8 w a0 len0 cap0 z0) :
    Calls Try.prog 3 #[.slice a0 len0 cap0] w fun e w' => e = .returned (.bool true) ∧ Below w.heap.size w w' := by
  by_cases hbig : 1048576 < len0
  · have hbig' : decide ((1048576 : Int) < (len0 : Int)) = true := decide_eq_true (by omega)
    go_enter Try.func3, Try.ntmps3
    go_wp2_with fail
    go_ret
    exact ⟨rfl, Below.refl _ _⟩
  · have hbig' : decide ((1048576 : Int) < (len0 : Int)) = false := decide_eq_false (by omega)
    go_enter Try.func3, Try.ntmps3
    go_wp2_with fail
    refine (draw_WinCounts a0 len0 cap0 z0 w w0).mono ?_
    rintro e w1 ⟨m, n, rfl, ⟨hm, hn⟩, hb1⟩
    have hlaw := win_law m hm n hn
    have hlen := winV_len m n
    have hnn := winV_nonNeg m n
    go_wp2_with fail
    refine (impl_WinCounts m n w1).mono ?_
    rintro e w2 ⟨v2, rfl, o2, hb2⟩
    go_wp2_with fail
    refine (spec_WinCounts m n w2).mono ?_
    rintro e w3 ⟨v3, rfl, o3, hb3⟩
    have o2b := o2.keep hb3
    go_wp2_with fail
    refine (laws_equalInts _ _ _ _ _ o2b.reads o3.reads).mono ?_
    rintro e w4 ⟨rfl, hb4⟩
    have q4 : Below w.heap.size w w4 := hb1.trans (((hb2.trans (hb3.mono hb2.size)).trans (hb4.mono (Nat.le_trans hb2.size hb3.size))).mono hb1.size)
    have o2c := o2b.keep hb4
    have ht : decide (winV m n = winV m n) = true := by simp
    clear hb1 hb2 hb3 hb4 o2 o2b o3 w0 hbig hbig' hm hn
    rcases hlaw with hE | ⟨h1, h2, h3, h4, hsw, hrev, hsum, hcnt, hpos⟩
    · have HE := Lib.hid hE
      obtain ⟨ao, cap, hv, hl, hc, _⟩ := o2c.reads
      subst hv
      have hq : (((winV m n).length : Int) == 0) = true := by rw [hE]; rfl
      clear hE
      have rd := o2c.reads
      go_wp2_with fail
      refine (spec_WinCounts m n w4).mono ?_
      rintro e w5 ⟨v5, rfl, o5, hb5⟩
      go_wp2_with fail
      refine (laws_equalInts _ _ _ _ _ (rd.keep hb5) o5.reads).mono ?_
      rintro e w6 ⟨rfl, hb6⟩
      go_wp2_with fail
      go_ret
      exact ⟨rfl, q4.trans ((hb5.trans (hb6.mono hb5.size)).mono q4.size)⟩
    · have rd := o2c.reads
      obtain ⟨g, cap, hv, hg1, hg2, hg3, hg4⟩ := o2c.len hpos
      subst hv
      have hne : (((winV m n).length : Int) == 0) = false := by simp; intro h; rw [h] at hpos; simp at hpos
      have HREV := Lib.hid hrev
      have HSUM := Lib.hid hsum
      have HCNT := Lib.hid hcnt
      have HSW := Lib.hid hsw
      obtain ⟨mm, rfl⟩ := Int.eq_ofNat_of_zero_le h1
      obtain ⟨nn, rfl⟩ := Int.eq_ofNat_of_zero_le h3
      have hbin := bin_le32 (mm + nn) mm (by omega)
      have hmul := mul_bd (mm : Int) (nn : Int) 6 6 (by omega) (by omega) (by omega) (by omega)
      simp only [Int.toNat_natCast] at hsum
      have HSUM2 := Lib.hid hsum
      have hsb : sumL (winV mm nn) ≤ 1000000000000 := by rw [hsum]; omega
      clear hrev hsum hcnt hsw
      go_wp2_with fail
      refine (laws_turned _ _ w4 rd (by omega)).mono ?_
      rintro e w5 ⟨v5, rfl, o5, hb5⟩
      rw [HREV.out] at o5
      have rd5 := rd.keep hb5
      go_wp2_with fail
      refine (laws_equalInts _ _ _ _ _ o5.reads rd5).mono ?_
      rintro e w6 ⟨rfl, hb6⟩
      have rd6 := rd5.keep hb6
      have q6 := q4.trans ((hb5.trans (hb6.mono hb5.size)).mono q4.size)
      clear hb5 hb6 o5 rd5
      go_wp2_with fail
      refine (impl_WinCounts nn mm w6).mono ?_
      rintro e w7 ⟨v7, rfl, o7, hb7⟩
      rw [HSW.out] at o7
      have rd7 := rd6.keep hb7
      go_wp2_with fail
      refine (laws_equalInts _ _ _ _ _ o7.reads rd7).mono ?_
      rintro e w8 ⟨rfl, hb8⟩
      have rd8 := rd7.keep hb8
      have q8 := q6.trans ((hb7.trans (hb8.mono hb7.size)).mono q6.size)
      clear hb7 hb8 o7 rd7
      go_wp2_with fail
      refine (laws_total _ _ w8 rd8 hnn hsb).mono ?_
      rintro e w9 ⟨rfl, rfl⟩
      go_wp2_with fail
      have hc := laws_choose (mm + nn) mm w8 (by omega) (by omega)
      rw [Int.natCast_add] at hc
      refine hc.mono ?_
      rintro e w9 ⟨rfl, rfl⟩
      have ht2 : (sumL (winV mm nn) == ((bin (mm + nn) mm : Nat) : Int)) = true := by rw [HSUM2.out]; simp
      have ht3 : (((winV mm nn).length : Int) == (mm : Int) * nn + 1) = true := by rw [HCNT.out]; simp
      go_wp2_with fail
      go_ret
      exact ⟨rfl, q8⟩
end Go.Proofs.Ytohdbbdolmgaaaa
