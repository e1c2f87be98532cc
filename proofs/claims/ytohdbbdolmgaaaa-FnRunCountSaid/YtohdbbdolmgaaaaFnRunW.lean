/-
  The walk of laws.FnRunCount.
-/
import Derived.Test.YtohdbbdolmgaaaaLawsN
import Derived.Test.YtohdbbdolmgaaaaLawsH
import Derived.Test.YtohdbbdolmgaaaaRunC
namespace Go.Proofs.Ytohdbbdolmgaaaa
open Go.RowKit
set_option linter.unusedVariables false

theorem draw_RunCount (a : Option Addr) (len cap : Nat) (z : List Int) (w : World) (h : IsRow .u8 w a len cap z) :
    Calls Try.prog 34 #[.slice a len cap] w (RetD3 w (fun m n r => m ∈ ([3, 2, 4, 1, 6, 0, 7] : List Int) ∧ n ∈ ([3, 4, 2, 1, 5] : List Int) ∧ r ∈ ([2, 3, 4, 5, 6, 1, 0, 12, 13] : List Int))) := by
  go_enter Try.func34, Try.ntmps34
  go_wp2_with fail
  refine (rdr_new a len cap z w h).mono ?_
  rintro e w0 ⟨v, rfl, hR0, hb0⟩
  clear h
  go_wp2_with fail
  refine (rdr_lit w w0 v 0 [3, 2, 4, 1, 6, 0, 7] 7 rfl (by omega) (by omega) hR0 hb0 (by omega)).mono ?_
  rintro e w1 ⟨r1, rfl, f1, hR1, hb1, hg1⟩
  have F1 := Lib.hid f1
  simp only [List.mem_cons, List.not_mem_nil, or_false] at f1
  have g1 : -10000000 ≤ r1 ∧ r1 ≤ 10000000 := by omega
  clear hg1 f1 hR0 hb0
  go_wp2_with fail
  refine (rdr_lit w w1 v 1 [3, 4, 2, 1, 5] 5 rfl (by omega) (by omega) hR1 hb1 (by omega)).mono ?_
  rintro e w2 ⟨r2, rfl, f2, hR2, hb2, hg2⟩
  have F2 := Lib.hid f2
  simp only [List.mem_cons, List.not_mem_nil, or_false] at f2
  have g2 : -10000000 ≤ r2 ∧ r2 ≤ 10000000 := by omega
  clear hg2 f2 hR1 hb1
  go_wp2_with fail
  refine (rdr_lit w w2 v 2 [2, 3, 4, 5, 6, 1, 0, 12, 13] 9 rfl (by omega) (by omega) hR2 hb2 (by omega)).mono ?_
  rintro e w3 ⟨r3, rfl, f3, hR3, hb3, hg3⟩
  have F3 := Lib.hid f3
  simp only [List.mem_cons, List.not_mem_nil, or_false] at f3
  have g3 : -10000000 ≤ r3 ∧ r3 ≤ 10000000 := by omega
  clear hg3 f3 hR2 hb2
  have HP : Hid (RetD3 w (fun m n r => m ∈ ([3, 2, 4, 1, 6, 0, 7] : List Int) ∧ n ∈ ([3, 4, 2, 1, 5] : List Int) ∧ r ∈ ([2, 3, 4, 5, 6, 1, 0, 12, 13] : List Int)) (.returned (.tuple #[.int .i64 (r1), .int .i64 (r2), .int .i64 (r3)])) w3) := by
    refine ⟨r1, r2, r3, rfl, ?_, hb3⟩
    have F1 := F1.out 
    have F2 := F2.out 
    have F3 := F3.out
    exact ⟨F1, F2, F3⟩
  clear hR3 hb3
  go_wp2_with fail
  go_ret3
  exact HP.out

/-- What the law asks. -/
theorem run_law : ∀ m ∈ ([3, 2, 4, 1, 6, 0, 7] : List Int), ∀ n ∈ ([3, 4, 2, 1, 5] : List Int), ∀ r ∈ ([2, 3, 4, 5, 6, 1, 0, 12, 13] : List Int), runV m n r = -1 ∨ (1 ≤ m ∧ m ≤ 6 ∧ 1 ≤ n ∧ n ≤ 6 ∧ 1 ≤ r ∧ r ≤ 13 ∧ 0 ≤ runV m n r ∧ runV n m r = runV m n r ∧ (r ≤ 1 → runV m n r = 0) ∧ sumTo (fun k => runV m n ((k : Int) + 1)) (m.toNat + n.toNat) = (bin (m.toNat + n.toNat) m.toNat : Nat) ∧ ∀ k : Fin 13, 0 ≤ runV m n ((k.val : Int) + 1) ∧ runV m n ((k.val : Int) + 1) ≤ 1000) := by decide +kernel

set_option maxHeartbeats 1000000 in
theorem walk_FnRunCount (a0 : Option Addr) (len0 cap0 : Nat) (z0 : List Int) (w : World) (w0 : IsRow .u8 w a0 len0 cap0 z0) :
    Calls Try.prog 8 #[.slice a0 len0 cap0] w fun e w' => e = .returned (.bool true) ∧ Below w.heap.size w w' := by
  by_cases hbig : 1048576 < len0
  · have hbig' : decide ((1048576 : Int) < (len0 : Int)) = true := decide_eq_true (by omega)
    go_enter Try.func8, Try.ntmps8
    go_wp2_with fail
    go_ret
    exact ⟨rfl, Below.refl _ _⟩
  · have hbig' : decide ((1048576 : Int) < (len0 : Int)) = false := decide_eq_false (by omega)
    go_enter Try.func8, Try.ntmps8
    go_wp2_with fail
    refine (draw_RunCount a0 len0 cap0 z0 w w0).mono ?_
    clear hbig hbig' w0
    rintro e w1 ⟨m, n, r, rfl, ⟨hm, hn, hr⟩, hb1⟩
    have hlaw := run_law m hm n hn r hr
    have gm : -100 ≤ m ∧ m ≤ 100 := by simp at hm; omega
    have gn : -100 ≤ n ∧ n ≤ 100 := by simp at hn; omega
    have gr : -100 ≤ r ∧ r ≤ 100 := by simp at hr; omega
    clear hm hn hr
    go_wp2_with fail
    refine (impl_RunCount m n r w1).mono ?_
    rintro e w2 ⟨rfl, hb2⟩
    go_wp2_with fail
    refine (spec_RunCount m n r w2).mono ?_
    rintro e w3 ⟨rfl, rfl⟩
    have q2 := hb1.trans (hb2.mono hb1.size)
    have hq : (runV m n r != runV m n r) = false := by simp
    clear hb1 hb2
    rcases hlaw with hE | ⟨h1, h2, h3, h4, h5, h6, h7, hsw, h8, hsum, hbd⟩
    · have hlt : decide (runV m n r < 0) = true := by rw [hE]; rfl
      clear hE
      go_wp2_with fail
      refine (spec_RunCount m n r w2).mono ?_
      rintro e w4 ⟨rfl, rfl⟩
      go_wp2_with fail
      go_ret
      exact ⟨by simp, q2⟩
    · have hlt : decide (runV m n r < 0) = false := decide_eq_false (by omega)
      have HSW := Lib.hid hsw
      have H8 := Lib.hid h8
      have HSUM := Lib.hid hsum
      have HBD := Lib.hid hbd
      clear hsw h8 hsum hbd
      have sb : ∀ j, j ≤ 13 → 0 ≤ sumTo (fun k => runV m n ((k : Int) + 1)) j ∧ sumTo (fun k => runV m n ((k : Int) + 1)) j ≤ j * 1000 :=
        fun j hj => sumTo_bd _ 1000 j (fun k hk => HBD.out ⟨k, by omega⟩)
      have SB := Lib.hid sb
      clear sb
      go_wp2
      go_loopw [7, 8] (fun s i wr => ∃ j : Nat, (j : Int) ≤ m + n ∧ i = .int .i64 ((j : Int) + 1) ∧ s = .int .i64 (sumTo (fun k => runV m n ((k : Int) + 1)) j) ∧ Below w.heap.size w wr) (fun _ i _ => (m + n + 1 - intOf i).toNat)
      case atStart => exact ⟨0, by omega, rfl, rfl, q2⟩
      case round =>
        obtain ⟨j, hj, rfl, rfl, hbel⟩ := hrel
        have b1 := SB.out j (by omega)
        by_cases hlt2 : (j : Int) + 1 ≤ m + n
        · have b2 := HBD.out ⟨j, by omega⟩
          simp only [] at b2
          have HS : Hid (sumTo (fun k => runV m n ((k : Int) + 1)) (j + 1) = sumTo (fun k => runV m n ((k : Int) + 1)) j + runV m n ((j : Int) + 1)) := rfl
          generalize sumTo (fun k => runV m n ((k : Int) + 1)) j = S at *
          go_wp2_with fail
          refine (impl_RunCount m n _ _).mono ?_
          rintro e w4 ⟨rfl, hb4⟩
          go_wp2_with fail
          go_roundw
          case rel => exact ⟨j + 1, by omega, by go_num, by rw [HS.out], hbel.trans (hb4.mono hbel.size)⟩
          case measure => simp [intOf]; omega
        · obtain ⟨mm, rfl⟩ := Int.eq_ofNat_of_zero_le (show 0 ≤ m by omega)
          obtain ⟨nn, rfl⟩ := Int.eq_ofNat_of_zero_le (show 0 ≤ n by omega)
          have hj2 : j = mm + nn := by omega
          have HE : Hid (sumTo (fun k => runV mm nn ((k : Int) + 1)) j = (bin (mm + nn) mm : Nat)) := by
            have := HSUM.out
            simp only [Int.toNat_natCast] at this
            rw [hj2]; exact this
          clear hj2
          have hbin := bin_le32 (mm + nn) mm (by omega)
          generalize sumTo (fun k => runV mm nn ((k : Int) + 1)) j = S at *
          have hc := fun wx => laws_choose (mm + nn) mm wx (by omega) (by omega)
          rw [Int.natCast_add] at hc
          have HC := Lib.hid hc
          clear hc
          have ht : (S == ((bin (mm + nn) mm : Nat) : Int)) = true := by rw [HE.out]; simp
          go_wp2_with fail
          refine (HC.out _).mono ?_
          rintro e w5 ⟨rfl, rfl⟩
          go_wp2_with fail
          refine (impl_RunCount nn mm r _).mono ?_
          rintro e w5 ⟨rfl, hb5⟩
          have ht2 : (runV nn mm r == runV mm nn r) = true := by rw [HSW.out]; simp
          by_cases hr1 : 1 < r
          · have hr1' : decide (1 < r) = true := decide_eq_true hr1
            go_wp2_with fail
            go_ret
            exact ⟨rfl, hbel.trans (hb5.mono hbel.size)⟩
          · have hr1' : decide (1 < r) = false := decide_eq_false hr1
            have ht3 : (runV mm nn r == 0) = true := by rw [H8.out (by omega)]; rfl
            go_wp2_with fail
            go_ret
            exact ⟨rfl, hbel.trans (hb5.mono hbel.size)⟩
end Go.Proofs.Ytohdbbdolmgaaaa
