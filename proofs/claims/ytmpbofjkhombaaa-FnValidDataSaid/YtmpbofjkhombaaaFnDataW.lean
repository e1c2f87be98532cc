/-
  The walk of laws.FnValidData.
-/
import Derived.Test.YtmpbofjkhombaaaDrawD
import Derived.Test.YtmpbofjkhombaaaAll
namespace Go.Proofs.Ytmpbofjkhombaaa
open Go.RowKit
set_option linter.unusedVariables false

theorem allB_take {zs : List Int} {lo hi : Int} (h : allB zs lo hi = true) (k : Nat) : allB (zs.take k) lo hi = true := by
  unfold allB at *
  rw [List.all_eq_true] at *
  exact fun z hz => h z (List.mem_of_mem_take hz)
theorem Owns.len' {w : World} {B : Nat} {v : Value} {zs : List Int} (h : Owns w B v zs) (h0 : 0 < zs.length) : ∃ g cap, v = .slice (some ⟨g, 0, none⟩) zs.length cap ∧ B ≤ g ∧ g < w.heap.size ∧ zs.length ≤ cap ∧ cap ≤ 9223372036854775807 := by
  rcases h.shape with ⟨_, rfl⟩ | h
  · simp at h0
  · exact h

set_option maxHeartbeats 1000000 in
theorem walk_FnValidData (a0 : Option Addr) (len0 cap0 : Nat) (z0 : List Int) (w : World) (w0 : IsRow .u8 w a0 len0 cap0 z0) :
    Calls Try.prog 5 #[.slice a0 len0 cap0] w fun e w' => e = .returned (.bool true) ∧ Below w.heap.size w w' := by
  by_cases hbig : 1048576 < len0
  · have hbig' : decide ((1048576 : Int) < (len0 : Int)) = true := decide_eq_true (by omega)
    go_enter Try.func5, Try.ntmps5
    go_wp2_with fail
    go_ret
    exact ⟨rfl, Below.refl _ _⟩
  · have hbig' : decide ((1048576 : Int) < (len0 : Int)) = false := decide_eq_false (by omega)
    go_enter Try.func5, Try.ntmps5
    go_wp2_with fail
    refine (draw_ValidData a0 len0 cap0 z0 w w0).mono ?_
    clear hbig hbig' w0
    rintro e w1 ⟨v, zs, rfl, ho, hlz, hb1⟩
    go_wp2_with fail
    refine (impl_ValidData v zs w1 ho.weak.reads).mono ?_
    rintro e w2 ⟨rfl, hb2⟩
    have o2 := ho.weak.keep hb2
    go_wp2_with fail
    refine (spec_ValidData v zs w2 o2.reads).mono ?_
    rintro e w3 ⟨rfl, rfl⟩
    have q2 := hb1.trans (hb2.mono hb1.size)
    clear hb1 hb2 ho
    cases ht : dataB zs
    · go_wp2_with fail
      refine (spec_ValidData v zs w2 o2.reads).mono ?_
      rintro e w3 ⟨rfl, rfl⟩
      go_wp2_with fail
      go_ret
      exact ⟨rfl, q2⟩
    · by_cases hz : zs.length = 0
      · have hz' : ((zs.length : Int) == 0) = true := by rw [hz]; rfl
        obtain ⟨ao, cap, hv, hl, hc, hcell⟩ := o2.reads
        subst hv
        clear hcell o2 hz
        go_wp2_with fail
        go_ret
        exact ⟨rfl, q2⟩
      · have hz' : ((zs.length : Int) == 0) = false := beq_eq_false_iff_ne.2 (by omega)
        have hpos : 0 < zs.length := by omega
        have hlaw : dataB (zs.take (zs.length - 1)) = true := by
          have ht2 := ht
          unfold dataB at ht2 ⊢
          rw [Bool.and_eq_true] at ht2 ⊢
          have hle : zs.length ≤ 10 := of_decide_eq_true ht2.1
          exact ⟨decide_eq_true (by rw [List.length_take]; omega), allB_take ht2.2 _⟩
        obtain ⟨g, cap, hv, hg1, hg2, hg3, hg4⟩ := o2.len' hpos
        subst hv
        have hR : Reads w2 (.slice (some ⟨g, 0, none⟩) (zs.length - 1) cap) (zs.take (zs.length - 1)) :=
          (o2.reslice (zs.length - 1) cap (by omega) (by omega) (Nat.le_refl _)).reads
        have hsub : ((zs.length : Int) - 1).toNat = zs.length - 1 := by omega
        have i1 : (zs.length : Int) - 1 ≤ (cap : Int) := by omega
        clear o2 hz
        go_wp2_with fail
        refine (impl_ValidData _ (zs.take (zs.length - 1)) w2 hR).mono ?_
        rintro e w4 ⟨rfl, hb4⟩
        go_wp2_with fail
        go_ret
        exact ⟨rfl, q2.trans (hb4.mono q2.size)⟩
end Go.Proofs.Ytmpbofjkhombaaa
