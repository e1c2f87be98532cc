/-
  The walk of laws.FnFallCounts.
-/
import Derived.Test.YtohdbbdolmgaaaaRdr
import Derived.Test.YtohdbbdolmgaaaaLawsH
namespace Go.Proofs.Ytohdbbdolmgaaaa
open Go.RowKit
set_option linter.unusedVariables false

/-- A number of a list is returned. -/
def RetMem (w : World) (zs : List Int) (e : Ending) (w' : World) : Prop := ∃ r : Int, e = .returned (.int .i64 r) ∧ r ∈ zs ∧ Below w.heap.size w w'

theorem draw_FallCounts (a : Option Addr) (len cap : Nat) (z : List Int) (w : World) (h : IsRow .u8 w a len cap z) :
    Calls Try.prog 40 #[.slice a len cap] w (RetMem w [4, 5, 6, 3, 2, 1, 8, 10, 0, 11]) := by
  go_enter Try.func40, Try.ntmps40
  go_wp2_with fail
  refine (rdr_new a len cap z w h).mono ?_
  rintro e w1 ⟨v, rfl, hR, hb⟩
  go_wp2_with fail
  refine (rdr_lit w w1 v 0 [4, 5, 6, 3, 2, 1, 8, 10, 0, 11] 10 rfl (by omega) (by omega) hR hb (by omega)).mono ?_
  rintro e w2 ⟨r, rfl, hr, hR2, hb2, hg⟩
  have HP : Hid (RetMem w [4, 5, 6, 3, 2, 1, 8, 10, 0, 11] (.returned (.int .i64 r)) w2) := ⟨r, rfl, hr, hb2⟩
  clear hr hR hR2 hb hb2 hg
  go_wp2_with fail
  go_ret
  exact HP.out

/-- What the law asks of the counts. -/
theorem falls_law : ∀ n ∈ ([4, 5, 6, 3, 2, 1, 8, 10, 0, 11] : List Int), fallsV n = [] ∨ (1 ≤ n ∧ n ≤ 10 ∧ (fallsV n).reverse = fallsV n ∧ sumL (fallsV n) = (fact n.toNat : Nat) ∧ nth (fallsV n) 0 = 1 ∧ ((fallsV n).length : Int) = n * (n - 1) / 2 + 1 ∧ 0 < (fallsV n).length) := by decide +kernel
theorem fallsV_nonNeg (n : Int) : NonNeg (fallsV n) := by
  unfold fallsV
  split
  · exact fallsL_nonNeg _
  · intro a ha; simp at ha

set_option maxHeartbeats 1000000 in
theorem walk_FnFallCounts (a0 : Option Addr) (len0 cap0 : Nat) (z0 : List Int) (w : World) (w0 : IsRow .u8 w a0 len0 cap0 z0) :
    Calls Try.prog 10 #[.slice a0 len0 cap0] w fun e w' => e = .returned (.bool true) ∧ Below w.heap.size w w' := by
  by_cases hbig : 1048576 < len0
  · have hbig' : decide ((1048576 : Int) < (len0 : Int)) = true := decide_eq_true (by omega)
    go_enter Try.func10, Try.ntmps10
    go_wp2_with fail
    go_ret
    exact ⟨rfl, Below.refl _ _⟩
  · have hbig' : decide ((1048576 : Int) < (len0 : Int)) = false := decide_eq_false (by omega)
    go_enter Try.func10, Try.ntmps10
    go_wp2_with fail
    refine (draw_FallCounts a0 len0 cap0 z0 w w0).mono ?_
    rintro e w1 ⟨n, rfl, hn, hb1⟩
    have hlaw := falls_law n hn
    have hlen := fallsV_len n
    have hnn := fallsV_nonNeg n
    go_wp2_with fail
    refine (impl_FallCounts n w1).mono ?_
    rintro e w2 ⟨v2, rfl, o2, hb2⟩
    go_wp2_with fail
    refine (spec_FallCounts n w2).mono ?_
    rintro e w3 ⟨v3, rfl, o3, hb3⟩
    have o2b := o2.keep hb3
    go_wp2_with fail
    refine (laws_equalInts _ _ _ _ _ o2b.reads o3.reads).mono ?_
    rintro e w4 ⟨rfl, hb4⟩
    have q4 : Below w.heap.size w w4 := hb1.trans (((hb2.trans (hb3.mono hb2.size)).trans (hb4.mono (Nat.le_trans hb2.size hb3.size))).mono hb1.size)
    have o2c := o2b.keep hb4
    have ht : decide (fallsV n = fallsV n) = true := by simp
    clear hb1 hb2 hb3 hb4 o2 o2b o3 w0 hbig hbig' hn
    rcases hlaw with hE | ⟨h1, h2, hrev, hsum, hfst, hcnt, hpos⟩
    · have HE := Lib.hid hE
      obtain ⟨ao, cap, hv, hl, hc, _⟩ := o2c.reads
      subst hv
      have hq : (((fallsV n).length : Int) == 0) = true := by rw [hE]; rfl
      clear hE
      have rd := o2c.reads
      go_wp2_with fail
      refine (spec_FallCounts n w4).mono ?_
      rintro e w5 ⟨v5, rfl, o5, hb5⟩
      go_wp2_with fail
      refine (laws_equalInts _ _ _ _ _ (rd.keep hb5) o5.reads).mono ?_
      rintro e w6 ⟨rfl, hb6⟩
      go_wp2_with fail
      go_ret
      exact ⟨rfl, q4.trans ((hb5.trans (hb6.mono hb5.size)).mono q4.size)⟩
    · have rd := o2c.reads
      obtain ⟨g, cap, hv, hg1, hg2, hg3, hg4⟩ := o2c.len hpos
      subst hv
      have hc0 := o2c.cell 0 hpos
      rw [hfst] at hc0
      have hne : (((fallsV n).length : Int) == 0) = false := by simp; intro h; rw [h] at hpos; simp at hpos
      have HREV := Lib.hid hrev
      have HSUM := Lib.hid hsum
      have HCNT := Lib.hid hcnt
      have HFST := Lib.hid hfst
      have hf := fact_le n.toNat (by omega)
      have hmul := mul_bd n (n - 1) 10 9 (by omega) (by omega) (by omega) (by omega)
      have hsb : sumL (fallsV n) ≤ 1000000000 := by rw [hsum]; omega
      have hti : (0 : Int) < ((fallsV n).length : Int) := by omega
      clear hrev hsum hcnt hfst
      go_wp2_with fail
      refine (laws_turned _ _ w4 rd (by omega)).mono ?_
      rintro e w5 ⟨v5, rfl, o5, hb5⟩
      rw [HREV.out] at o5
      have rd5 := rd.keep hb5
      go_wp2_with fail
      refine (laws_equalInts _ _ _ _ _ o5.reads rd5).mono ?_
      rintro e w6 ⟨rfl, hb6⟩
      have rd6 := rd5.keep hb6
      have hc6 := (bcell hb6).1 _ _ (Nat.lt_of_lt_of_le hg2 hb5.size) |>.trans (((bcell hb5).1 _ _ hg2).trans hc0)
      have q6 := q4.trans ((hb5.trans (hb6.mono hb5.size)).mono q4.size)
      clear hb5 hb6 o5 rd5
      go_wp2_with fail
      refine (laws_total _ _ w6 rd6 hnn hsb).mono ?_
      rintro e w7 ⟨rfl, rfl⟩
      go_wp2_with fail
      refine (laws_product n _ h1 h2).mono ?_
      rintro e w8 ⟨rfl, rfl⟩
      have ht2 : (sumL (fallsV n) == ((fact n.toNat : Nat) : Int)) = true := by rw [HSUM.out]; simp
      have ht3 : (((fallsV n).length : Int) == n * (n - 1) / 2 + 1) = true := by rw [HCNT.out]; simp
      go_wp2_with fail
      go_ret
      exact ⟨rfl, q6⟩
end Go.Proofs.Ytohdbbdolmgaaaa
