/-
  The walk of laws.FnRankSums.
-/
import Derived.Test.YtohdbbdolmgaaaaLawsN
import Derived.Test.YtohdbbdolmgaaaaLawsH
import Derived.Test.YtohdbbdolmgaaaaRankS
namespace Go.Proofs.Ytohdbbdolmgaaaa
open Go.RowKit
set_option linter.unusedVariables false

theorem draw_RankSums (a : Option Addr) (len cap : Nat) (z : List Int) (w : World) (h : IsRow .u8 w a len cap z) :
    Calls Try.prog 37 #[.slice a len cap] w (RetD1 w (fun n => n ∈ ([4, 5, 6, 3, 2, 1, 0, 10, 11, -1] : List Int))) := by
  go_enter Try.func37, Try.ntmps37
  go_wp2_with fail
  refine (rdr_new a len cap z w h).mono ?_
  rintro e w0 ⟨v, rfl, hR0, hb0⟩
  clear h
  go_wp2_with fail
  refine (rdr_lit w w0 v 0 [4, 5, 6, 3, 2, 1, 0, 10, 11, -1] 10 rfl (by omega) (by omega) hR0 hb0 (by omega)).mono ?_
  rintro e w1 ⟨r1, rfl, f1, hR1, hb1, hg1⟩
  have F1 := Lib.hid f1
  simp only [List.mem_cons, List.not_mem_nil, or_false] at f1
  have g1 : -10000000 ≤ r1 ∧ r1 ≤ 10000000 := by omega
  clear hg1 f1 hR0 hb0
  have HP : Hid (RetD1 w (fun n => n ∈ ([4, 5, 6, 3, 2, 1, 0, 10, 11, -1] : List Int)) (.returned (.int .i64 (r1))) w1) := by
    refine ⟨r1, rfl, ?_, hb1⟩
    have F1 := F1.out
    exact F1
  clear hR1 hb1
  go_wp2_with fail
  go_ret
  exact HP.out

/-- What the law asks of the sums. -/
theorem rank_law : ∀ n ∈ ([4, 5, 6, 3, 2, 1, 0, 10, 11, -1] : List Int), rankV n = [] ∨ (0 ≤ n ∧ n ≤ 10 ∧ (rankV n).reverse = rankV n ∧ sumL (rankV n) = 2 ^ n.toNat ∧ ((rankV n).length : Int) = n * (n + 1) / 2 + 1 ∧ 0 < (rankV n).length) := by decide +kernel
theorem rankV_nonNeg (n : Int) : NonNeg (rankV n) := by
  unfold rankV
  split
  · rename_i h
    have hb := inB_iff.1 h
    intro a ha
    obtain ⟨j, hj, rfl⟩ := List.getElem_of_mem ha
    have := rank_nth_bd n.toNat j (by omega)
    have e : nth (rankL n.toNat) j = (rankL n.toNat)[j] := by simp [nth, List.getD, hj]
    omega
  · intro a ha; simp at ha

set_option maxHeartbeats 1000000 in
theorem walk_FnRankSums (a0 : Option Addr) (len0 cap0 : Nat) (z0 : List Int) (w : World) (w0 : IsRow .u8 w a0 len0 cap0 z0) :
    Calls Try.prog 9 #[.slice a0 len0 cap0] w fun e w' => e = .returned (.bool true) ∧ Below w.heap.size w w' := by
  by_cases hbig : 1048576 < len0
  · have hbig' : decide ((1048576 : Int) < (len0 : Int)) = true := decide_eq_true (by omega)
    go_enter Try.func9, Try.ntmps9
    go_wp2_with fail
    go_ret
    exact ⟨rfl, Below.refl _ _⟩
  · have hbig' : decide ((1048576 : Int) < (len0 : Int)) = false := decide_eq_false (by omega)
    go_enter Try.func9, Try.ntmps9
    go_wp2_with fail
    refine (draw_RankSums a0 len0 cap0 z0 w w0).mono ?_
    rintro e w1 ⟨n, rfl, hn, hb1⟩
    have hlaw := rank_law n hn
    have hlen := rankV_len n
    have hnn := rankV_nonNeg n
    go_wp2_with fail
    refine (impl_RankSums n w1).mono ?_
    rintro e w2 ⟨v2, rfl, o2, hb2⟩
    go_wp2_with fail
    refine (spec_RankSums n w2).mono ?_
    rintro e w3 ⟨v3, rfl, o3, hb3⟩
    have o2b := o2.keep hb3
    go_wp2_with fail
    refine (laws_equalInts _ _ _ _ _ o2b.reads o3.reads).mono ?_
    rintro e w4 ⟨rfl, hb4⟩
    have q4 : Below w.heap.size w w4 := hb1.trans (((hb2.trans (hb3.mono hb2.size)).trans (hb4.mono (Nat.le_trans hb2.size hb3.size))).mono hb1.size)
    have o2c := o2b.keep hb4
    have ht : decide (rankV n = rankV n) = true := by simp
    clear hb1 hb2 hb3 hb4 o2 o2b o3 w0 hbig hbig' hn
    rcases hlaw with hE | ⟨h1, h2, hrev, hsum, hcnt, hpos⟩
    · have HE := Lib.hid hE
      obtain ⟨ao, cap, hv, hl, hc, _⟩ := o2c.reads
      subst hv
      have hq : (((rankV n).length : Int) == 0) = true := by rw [hE]; rfl
      clear hE
      have rd := o2c.reads
      go_wp2_with fail
      refine (spec_RankSums n w4).mono ?_
      rintro e w5 ⟨v5, rfl, o5, hb5⟩
      go_wp2_with fail
      refine (laws_equalInts _ _ _ _ _ (rd.keep hb5) o5.reads).mono ?_
      rintro e w6 ⟨rfl, hb6⟩
      go_wp2_with fail
      go_ret
      exact ⟨rfl, q4.trans ((hb5.trans (hb6.mono hb5.size)).mono q4.size)⟩
    · have rd := o2c.reads
      obtain ⟨g, cap, hv, hg1, hg2, hg3, hg4⟩ := o2c.len hpos
      subst hv
      have hc0 := o2c.cell 0 hpos
      have hne : (((rankV n).length : Int) == 0) = false := by simp; intro h; rw [h] at hpos; simp at hpos
      have HREV := Lib.hid hrev
      have HSUM := Lib.hid hsum
      have HCNT := Lib.hid hcnt
      have hf := two_bd n.toNat (by omega)
      have hmul := mul_bd n (n + 1) 10 11 (by omega) (by omega) (by omega) (by omega)
      have hsb : sumL (rankV n) ≤ 1000000000000 := by rw [hsum]; omega
      have hti : (0 : Int) < ((rankV n).length : Int) := by omega
      clear hrev hsum hcnt
      go_wp2_with fail
      refine (laws_turned _ _ w4 rd (by omega)).mono ?_
      rintro e w5 ⟨v5, rfl, o5, hb5⟩
      rw [HREV.out] at o5
      have rd5 := rd.keep hb5
      go_wp2_with fail
      refine (laws_equalInts _ _ _ _ _ o5.reads rd5).mono ?_
      rintro e w6 ⟨rfl, hb6⟩
      have rd6 := rd5.keep hb6
      have hc6 := (bcell hb6).1 _ _ (Nat.lt_of_lt_of_le hg2 hb5.size) |>.trans (((bcell hb5).1 _ _ hg2).trans hc0)
      have q6 := q4.trans ((hb5.trans (hb6.mono hb5.size)).mono q4.size)
      clear hb5 hb6 o5 rd5
      go_wp2_with fail
      refine (laws_total _ _ w6 rd6 hnn hsb).mono ?_
      rintro e w7 ⟨rfl, rfl⟩
      go_wp2_with fail
      refine (laws_raised 2 n _ (by omega) (by omega) h1 (.inl h2)).mono ?_
      rintro e w8 ⟨rfl, rfl⟩
      have ht2 : (sumL (rankV n) == (2 : Int) ^ n.toNat) = true := by rw [HSUM.out]; simp
      have ht3 : (((rankV n).length : Int) == n * (n + 1) / 2 + 1) = true := by rw [HCNT.out]; simp
      go_wp2_with fail
      go_ret
      exact ⟨rfl, q6⟩
end Go.Proofs.Ytohdbbdolmgaaaa
