/-
  The walk of laws.FnFracOf.
-/
import Derived.Test.YtohdbbdolmgaaaaLawsN
import Derived.Test.YtohdbbdolmgaaaaLawsH
import Derived.Test.YtohdbbdolmgaaaaFrac
namespace Go.Proofs.Ytohdbbdolmgaaaa
open Go.RowKit
set_option linter.unusedVariables false

theorem draw_FracOf (a : Option Addr) (len cap : Nat) (z : List Int) (w : World) (h : IsRow .u8 w a len cap z) :
    Calls Try.prog 20 #[.slice a len cap] w (RetD2 w (fun a b => (-1000001 ≤ a ∧ a ≤ 1000001) ∧ -1000001 ≤ b ∧ b ≤ 1000001)) := by
  go_enter Try.func20, Try.ntmps20
  go_wp2_with fail
  refine (rdr_new a len cap z w h).mono ?_
  rintro e w0 ⟨v, rfl, hR0, hb0⟩
  clear h
  go_wp2_with fail
  refine (rdr_pick w w0 v 0 (256) hR0 hb0 (by omega) (by omega)).mono ?_
  rintro e w1 ⟨r1, rfl, ⟨f1a, f1b, f1c⟩, hR1, hb1, hg1⟩
  have f1 := f1b (by omega)
  clear hg1 f1b f1c hR0 hb0
  go_wp2_with fail
  refine (rdr_pick w w1 v 1 (256) hR1 hb1 (by omega) (by omega)).mono ?_
  rintro e w2 ⟨r2, rfl, ⟨f2a, f2b, f2c⟩, hR2, hb2, hg2⟩
  have f2 := f2b (by omega)
  clear hg2 f2b f2c hR1 hb1
  go_wp2_with fail
  refine (rdr_pick w w2 v 2 (256) hR2 hb2 (by omega) (by omega)).mono ?_
  rintro e w3 ⟨r3, rfl, ⟨f3a, f3b, f3c⟩, hR3, hb3, hg3⟩
  have f3 := f3b (by omega)
  clear hg3 f3b f3c hR2 hb2
  go_wp2_with fail
  refine (rdr_lit w w3 v 3 [r1 * 6, -r2 * 10, r3, 0, 1000000, 1000001] 6 rfl (by omega) (by omega) hR3 hb3 (by omega)).mono ?_
  rintro e w4 ⟨r4, rfl, f4, hR4, hb4, hg4⟩
  have F4 := Lib.hid f4
  simp only [List.mem_cons, List.not_mem_nil, or_false] at f4
  have g4 : -10000000 ≤ r4 ∧ r4 ≤ 10000000 := by omega
  clear hg4 f4 hR3 hb3
  go_wp2_with fail
  refine (rdr_pick w w4 v 4 (60) hR4 hb4 (by omega) (by omega)).mono ?_
  rintro e w5 ⟨r5, rfl, ⟨f5a, f5b, f5c⟩, hR5, hb5, hg5⟩
  have f5 := f5b (by omega)
  clear hg5 f5b f5c hR4 hb4
  go_wp2_with fail
  refine (rdr_pick w w5 v 5 (60) hR5 hb5 (by omega) (by omega)).mono ?_
  rintro e w6 ⟨r6, rfl, ⟨f6a, f6b, f6c⟩, hR6, hb6, hg6⟩
  have f6 := f6b (by omega)
  clear hg6 f6b f6c hR5 hb5
  go_wp2_with fail
  refine (rdr_lit w w6 v 6 [1 + r5, -1 - r6, 1, 0, 1000000, -1000001] 6 rfl (by omega) (by omega) hR6 hb6 (by omega)).mono ?_
  rintro e w7 ⟨r7, rfl, f7, hR7, hb7, hg7⟩
  have F7 := Lib.hid f7
  simp only [List.mem_cons, List.not_mem_nil, or_false] at f7
  have g7 : -10000000 ≤ r7 ∧ r7 ≤ 10000000 := by omega
  clear hg7 f7 hR6 hb6
  have HP : Hid (RetD2 w (fun a b => (-1000001 ≤ a ∧ a ≤ 1000001) ∧ -1000001 ≤ b ∧ b ≤ 1000001) (.returned (.tuple #[.int .i64 (r4), .int .i64 (r7)])) w7) := by
    refine ⟨r4, r7, rfl, ?_, hb7⟩
    have F4 := F4.out 
    have F7 := F7.out
    simp only [List.mem_cons, List.not_mem_nil, or_false] at F4 F7
    omega
  clear hR7 hb7
  go_wp2_with fail
  go_ret2
  exact HP.out


set_option maxHeartbeats 400000 in
theorem laws_divisor (a b : Int) (w : World) (ha : -1000000 ≤ a ∧ a ≤ 1000000) (hb : -1000000 ≤ b ∧ b ≤ 1000000) :
    Calls Try.prog 23 #[.int .i64 a, .int .i64 b] w fun e w' => e = .returned (.int .i64 (Int.gcd a b : Nat)) ∧ Below w.heap.size w w' := by
  go_enter Try.func23, Try.ntmps23
  go_wp2
  go_loopw [0, 1] (fun u v wr => ∃ x y : Int, u = .int .i64 x ∧ v = .int .i64 y ∧ Hid (Int.gcd x y = Int.gcd a b) ∧ -1000000 ≤ x ∧ x ≤ 1000000 ∧ -1000000 ≤ y ∧ y ≤ 1000000 ∧ Below w.heap.size w wr) (fun _ v _ => (intOf v).natAbs)
  case atStart => exact ⟨a, b, rfl, rfl, rfl, ha.1, ha.2, hb.1, hb.2, Below.refl _ _⟩
  case round =>
    obtain ⟨x, y, rfl, rfl, hg, hx0, hx1, hy0, hy1, hbel⟩ := hrel
    by_cases hy : y = 0
    · subst hy
      have hz := gcd_zero x 0 rfl
      rw [hg.out] at hz
      have Hz := Lib.hid hz
      clear hz
      go_wp2
      all_goals
        go_ret
        exact ⟨ret_int (by have := Hz.out; omega), hbel⟩
    · have h1 := Lib.hid (tmod_lt x y hy)
      have h3 := tmod_bd x y hy hy0 hy1
      have h2 := Lib.hid (gcd_step x y)
      go_wp2
      go_roundw
      case rel => exact ⟨y, x.tmod y, rfl, rfl, h2.out.trans hg.out, hy0, hy1, h3.1, h3.2, hbel⟩
      case measure => exact h1.out

/-- What the law asks. -/
theorem frac_law (up down : Int) (h : fracOk up down = true) : Int.gcd (fracUp up down) (fracDown up down) = 1 ∧ 1 ≤ fracDown up down ∧ fracDown up down ≤ 1000000 ∧ -1000000 ≤ fracUp up down ∧ fracUp up down ≤ 1000000 ∧ fracUp up down * down = up * fracDown up down := by
  obtain ⟨h1, h2, h3⟩ := fracOk_iff.1 h
  have b1 := inB_iff.1 h1
  have b2 := inB_iff.1 h2
  have hd : down ≠ 0 := by simpa using h3
  have hg := gcd_bd up down hd b2.1 b2.2
  obtain ⟨a, ha⟩ : ((Int.gcd up down : Nat) : Int) ∣ up := Int.gcd_dvd_left ..
  obtain ⟨b, hb⟩ : ((Int.gcd up down : Nat) : Int) ∣ down := Int.gcd_dvd_right ..
  have hgab : Int.gcd a b = 1 := by
    have e : Int.gcd up down = Int.gcd (((Int.gcd up down : Nat) : Int) * a) (((Int.gcd up down : Nat) : Int) * b) := by rw [← ha, ← hb]
    rw [Int.gcd_mul_left] at e
    have hgn : Int.gcd up down ≠ 0 := by omega
    have e2 : Int.gcd up down * 1 = Int.gcd up down * Int.gcd a b := by simpa using e
    exact (Nat.eq_of_mul_eq_mul_left (by omega) e2).symm
  have hu : up.tdiv ((Int.gcd up down : Nat) : Int) = a := by
    conv => lhs; arg 1; rw [ha]
    exact Int.mul_tdiv_cancel_left a (by omega)
  have hv : down.tdiv ((Int.gcd up down : Nat) : Int) = b := by
    conv => lhs; arg 1; rw [hb]
    exact Int.mul_tdiv_cancel_left b (by omega)
  have bu := tdiv_bd up ((Int.gcd up down : Nat) : Int) b1.1 b1.2
  have bv := tdiv_bd down ((Int.gcd up down : Nat) : Int) b2.1 b2.2
  rw [hu] at bu
  rw [hv] at bv
  have hx : a * down = up * b := by
    generalize ((Int.gcd up down : Nat) : Int) = g at *
    rw [ha, hb, Int.mul_comm g a, Int.mul_assoc]
  unfold fracUp fracDown
  rw [Int.neg_tdiv, Int.neg_tdiv, hu, hv]
  generalize ((Int.gcd up down : Nat) : Int) = g at *
  by_cases hn : down < 0
  · have hbn : b < 0 := by
      by_cases hb0 : b < 0
      · exact hb0
      · have := Int.mul_nonneg (show 0 ≤ g by omega) (show 0 ≤ b by omega); omega
    rw [if_pos hn, if_pos hn]
    refine ⟨by rw [Int.neg_gcd, Int.gcd_neg]; exact hgab, by omega, by omega, by omega, by omega, ?_⟩
    rw [Int.neg_mul, Int.mul_neg, hx]
  · have hbp : 0 < b := by
      by_cases hb0 : 0 < b
      · exact hb0
      · have := Int.mul_nonneg (show 0 ≤ g by omega) (show 0 ≤ -b by omega)
        rw [Int.mul_neg] at this; omega
    rw [if_neg hn, if_neg hn]
    exact ⟨hgab, by omega, by omega, by omega, by omega, hx⟩
theorem abs_mul_bd (x y A B : Int) (h1 : -A ≤ x ∧ x ≤ A) (h2 : -B ≤ y ∧ y ≤ B) : -(A * B) ≤ x * y ∧ x * y ≤ A * B := by
  have h : (x * y).natAbs ≤ (A * B).natAbs := by
    rw [Int.natAbs_mul, Int.natAbs_mul]
    exact Nat.mul_le_mul (by omega) (by omega)
  have := Int.mul_nonneg (show 0 ≤ A by omega) (show 0 ≤ B by omega)
  omega

set_option maxHeartbeats 1000000 in
theorem walk_FnFracOf (a0 : Option Addr) (len0 cap0 : Nat) (z0 : List Int) (w : World) (w0 : IsRow .u8 w a0 len0 cap0 z0) :
    Calls Try.prog 4 #[.slice a0 len0 cap0] w fun e w' => e = .returned (.bool true) ∧ Below w.heap.size w w' := by
  by_cases hbig : 1048576 < len0
  · have hbig' : decide ((1048576 : Int) < (len0 : Int)) = true := decide_eq_true (by omega)
    go_enter Try.func4, Try.ntmps4
    go_wp2_with fail
    go_ret
    exact ⟨rfl, Below.refl _ _⟩
  · have hbig' : decide ((1048576 : Int) < (len0 : Int)) = false := decide_eq_false (by omega)
    go_enter Try.func4, Try.ntmps4
    go_wp2_with fail
    refine (draw_FracOf a0 len0 cap0 z0 w w0).mono ?_
    clear hbig hbig' w0
    rintro e w1 ⟨a, b, rfl, ⟨⟨ha0, ha1⟩, hb0, hb1'⟩, hb1⟩
    cases hok : fracOk a b
    · have e1 : fracA a b = 0 := by unfold fracA; rw [if_neg (by rw [hok]; simp)]
      have e2 : fracB a b = 0 := by unfold fracB; rw [if_neg (by rw [hok]; simp)]
      have hs := spec_FracOf a b
      have hi := impl_FracOf a b
      unfold fracV at hs hi
      rw [hok, e1, e2] at hs hi
      have HS := Lib.hid hs
      have HI := Lib.hid hi
      clear hs hi e1 e2 hok
      go_wp2_with fail
      refine (HI.out _).mono ?_; rintro e w2 ⟨rfl, hb2⟩
      go_wp2_with fail
      refine (HS.out _).mono ?_; rintro e w3 ⟨rfl, hb3⟩
      obtain ⟨hc, hf⟩ := bcell hb3
      have hsz : w2.heap.size < w3.heap.size := by have := hb3.size; simp at this; omega
      have p0 : w3.cell? ⟨w2.heap.size, 0, none⟩ = some (.int .i64 0) := by rw [hc _ _ (by simp)]; simp
      have p1 : w3.cell? ⟨w2.heap.size, 1, none⟩ = some (.int .i64 0) := by rw [hc _ _ (by simp)]; simp
      clear hc hf
      go_wp2
      go_ret
      refine ⟨rfl, ?_⟩
      exact hb1.trans ((hb2.trans ((((Below.refl _ _).alloc (Nat.le_refl _) _).trans (hb3.mono (by simp))).mono hb2.size)).mono hb1.size |>.trans (((Below.refl _ _).alloc (Nat.le_refl _) _).mono (by have := hb1.size; have := hb2.size; omega)))
    · obtain ⟨hg, hd1, hd2, hu1, hu2, hx⟩ := frac_law a b hok
      have e1 : fracA a b = fracUp a b := if_pos hok
      have e2 : fracB a b = fracDown a b := if_pos hok
      have hs := spec_FracOf a b
      have hi := impl_FracOf a b
      unfold fracV at hs hi
      rw [hok, e1, e2] at hs hi
      have HS := Lib.hid hs
      have HI := Lib.hid hi
      have HG := Lib.hid hg
      have HX := Lib.hid hx
      clear hs hi e1 e2 hok hg hx
      generalize fracUp a b = U at *
      generalize fracDown a b = D at *
      have hdv := fun wx => laws_divisor U D wx ⟨hu1, hu2⟩ ⟨by omega, hd2⟩
      rw [HG.out] at hdv
      have HD := Lib.hid hdv
      clear hdv
      have m1 := abs_mul_bd U b 1000000 1000001 ⟨hu1, hu2⟩ ⟨by omega, by omega⟩
      have m2 := abs_mul_bd a D 1000001 1000000 ⟨by omega, by omega⟩ ⟨by omega, hd2⟩
      have ht : (U * b == a * D) = true := by rw [HX.out]; simp
      have hd1' : decide (1 ≤ D) = true := decide_eq_true hd1
      go_wp2_with fail
      refine (HI.out _).mono ?_; rintro e w2 ⟨rfl, hb2⟩
      go_wp2_with fail
      refine (HS.out _).mono ?_; rintro e w3 ⟨rfl, hb3⟩
      obtain ⟨hc, hf⟩ := bcell hb3
      have hsz : w2.heap.size < w3.heap.size := by have := hb3.size; simp at this; omega
      have p0 : w3.cell? ⟨w2.heap.size, 0, none⟩ = some (.int .i64 U) := by rw [hc _ _ (by simp)]; simp
      have p1 : w3.cell? ⟨w2.heap.size, 1, none⟩ = some (.int .i64 D) := by rw [hc _ _ (by simp)]; simp
      have q3 := hb1.trans ((hb2.trans ((((Below.refl _ _).alloc (Nat.le_refl _) _).trans (hb3.mono (by simp))).mono hb2.size)).mono hb1.size)
      clear hc hf hb1 hb2 hb3
      go_wp2_with fail
      refine (HD.out _).mono ?_; rintro e w4 ⟨rfl, hb4⟩
      obtain ⟨hc, hf⟩ := bcell hb4
      have p0' : w4.cell? ⟨w2.heap.size, 0, none⟩ = some (.int .i64 U) := by rw [hc _ _ (by simp; omega)]; exact (((Below.refl w3.heap.size w3).alloc (Nat.le_refl _) _).cell (p := ⟨w2.heap.size, 0, none⟩) hsz).trans p0
      have p1' : w4.cell? ⟨w2.heap.size, 1, none⟩ = some (.int .i64 D) := by rw [hc _ _ (by simp; omega)]; exact (((Below.refl w3.heap.size w3).alloc (Nat.le_refl _) _).cell (p := ⟨w2.heap.size, 1, none⟩) hsz).trans p1
      clear hc hf
      go_wp2
      go_ret
      refine ⟨rfl, ?_⟩
      exact q3.trans ((((Below.refl _ _).alloc (Nat.le_refl _) _).trans (hb4.mono (by simp))).mono q3.size)
end Go.Proofs.Ytohdbbdolmgaaaa
