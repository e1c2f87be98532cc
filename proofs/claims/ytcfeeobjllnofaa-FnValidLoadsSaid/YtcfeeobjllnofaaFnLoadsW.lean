/-
  The walk of laws.FnValidLoads.
-/
import Derived.Test.YtcfeeobjllnofaaDrawW
import Derived.Test.YtcfeeobjllnofaaLoads
namespace Go.Proofs.Ytcfeeobjllnofaa
open Go.RowKit
set_option linter.unusedVariables false

theorem loads_ones {xs ws : List Int} (h : loadsB xs ws = true) : loadsB xs (List.replicate xs.length 1) = true := by
  unfold loadsB at *
  simp only [Bool.and_eq_true] at *
  refine ⟨h.1, by simp, h.2.2.1, allB_yes (fun j hj => ?_)⟩
  have hj2 : j < xs.length := by simpa using hj
  have e : nth (List.replicate xs.length (1 : Int)) j = 1 := by simp [nth, List.getD, hj2]
  rw [e]
  exact inB_true (by omega)

set_option maxHeartbeats 1000000 in
theorem walk_FnValidLoads (a0 : Option Addr) (len0 cap0 : Nat) (z0 : List Int) (w : World) (w0 : IsRow .u8 w a0 len0 cap0 z0) :
    Calls Try.prog 11 #[.slice a0 len0 cap0] w fun e w' => e = .returned (.bool true) ∧ Below w.heap.size w w' := by
  obtain ⟨ti, hi, hz0, hz1, hz2⟩ := info_parts infoInt
  by_cases hbig : 1048576 < len0
  · have hbig' : decide ((1048576 : Int) < (len0 : Int)) = true := decide_eq_true (by omega)
    go_enter Try.func11, Try.ntmps11
    go_wp2_with fail
    go_ret
    exact ⟨rfl, Below.refl _ _⟩
  · have hbig' : decide ((1048576 : Int) < (len0 : Int)) = false := decide_eq_false (by omega)
    go_enter Try.func11, Try.ntmps11
    go_wp2_with fail
    refine (draw_ValidLoads a0 len0 cap0 z0 w w0).mono ?_
    clear hbig hbig' w0
    rintro e w1 ⟨v, u, zs, ms, rfl, ho, hm, hlz, hlm, hb1⟩
    go_wp2_with fail
    refine (impl_ValidLoads v zs u ms w1 ho.reads hm.reads).mono ?_
    rintro e w2 ⟨rfl, hb2⟩
    have r2 := ho.reads.keep hb2
    have m2 := hm.reads.keep hb2
    go_wp2_with fail
    refine (spec_ValidLoads v zs u ms w2 r2 m2).mono ?_
    rintro e w3 ⟨rfl, rfl⟩
    have q2 := hb1.trans (hb2.mono hb1.size)
    clear hb1 hb2 ho hm
    cases ht : loadsB zs ms
    · go_wp2_with fail
      refine (spec_ValidLoads v zs u ms w2 r2 m2).mono ?_
      rintro e w3 ⟨rfl, rfl⟩
      go_wp2_with fail
      go_ret
      exact ⟨rfl, q2⟩
    · have hlaw := loads_ones ht
      have HL := Lib.hid hlaw
      clear hlaw
      have hown : OwnsA (w2.alloc (.cells #[] 3)) w2.heap.size (.slice (some ⟨w2.heap.size, 0, none⟩) 0 0) [] := World.ownsRow_lit (size := 1) w2 #[] 0 (Nat.le_refl _) (by unfold maxLen; omega) rfl
      have hal : Below w2.heap.size w2 (w2.alloc (.cells #[] 3)) := (Below.refl _ _).alloc (Nat.le_refl _) _
      have r2' := r2
      obtain ⟨ao, cap, hv, hl2, hc2, hcell⟩ := r2'
      subst hv
      clear hcell m2
      go_wp2_with fail
      go_loopw [6, 7] (fun o i wr => ∃ k : Nat, k ≤ zs.length ∧ i = .int .i64 k ∧ OwnsA wr w2.heap.size o (List.replicate k 1) ∧ Below w2.heap.size w2 wr) (fun _ i _ => zs.length - (intOf i).toNat)
      case atStart => exact ⟨0, Nat.zero_le _, rfl, hown, hal⟩
      case round =>
        clear hown hal
        obtain ⟨k, hk, rfl, hown, hbel⟩ := hrel
        have hlk : (List.replicate k (1 : Int)).length ≤ 31 := by rw [List.length_replicate]; omega
        by_cases hlt : k < zs.length
        · have HT : Hid (List.replicate (k + 1) (1 : Int) = List.replicate k 1 ++ [1]) := by
            show _ = _; rw [List.replicate_succ']
          have hsz := hbel.size
          have i1 : (k : Int) < (zs.length : Int) := by omega
          generalize List.replicate k (1 : Int) = P at *
          go_wp2_with (at_builtin; refine wpList_append_own _ rfl _ _ 36 rfl w2.heap.size 3 ti (.int .i64 0) 1 8 Try.underlying36 hi hz0 hz1 hz2 rfl (by decide) _ _ _ rfl (hown.alloc _) ⟨wr.heap.size, 0, none⟩ 1 1 [.int .i64 (1)] rfl rfl (new_cellsL _ _) (new_oneL _) (by unfold maxLen; omega) (by omega) (by simp; omega) ?_)
          intro v' w9 hown' hgrow _
          have ho2 := OwnsA.appended hown'
          rw [← HT.out] at ho2
          have hb2 : Below w2.heap.size w2 w9 := OwnsA.grownBelow (World.ownsRow.alloc hown _) hgrow (hbel.alloc hsz _) (Nat.le_refl _) (by simp; omega)
          clear hown' hgrow hown hbel
          go_wp2
          go_roundw
          case rel => exact ⟨k + 1, by omega, by go_num, ho2, hb2⟩
          case measure => simp [intOf]; omega
        · have e : k = zs.length := by omega
          subst e
          have q5 := q2.trans (hbel.mono q2.size)
          have r5 := r2.keep hbel
          go_wp2_with fail
          refine (impl_ValidLoads _ zs _ (List.replicate zs.length 1) _ r5 hown.weak.reads).mono ?_
          rintro e w6 ⟨rfl, hb6⟩
          go_wp2_with fail
          go_ret
          exact ⟨ret_bool HL.out, q5.trans (hb6.mono q5.size)⟩
end Go.Proofs.Ytcfeeobjllnofaa
