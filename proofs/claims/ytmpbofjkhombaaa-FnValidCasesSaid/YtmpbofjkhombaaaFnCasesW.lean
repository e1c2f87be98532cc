/-
  The walk of laws.FnValidCases.
-/
import Derived.Test.YtmpbofjkhombaaaDrawD
import Derived.Test.YtmpbofjkhombaaaLoads
namespace Go.Proofs.Ytmpbofjkhombaaa
open Go.RowKit
set_option linter.unusedVariables false

theorem list_past {w w' : World} {B C : Nat} {v rv : Value} {zs : List Int} (h : Owns w B v zs) (hg : w.grownBy w' (rdrBlock rv)) (hgB : ∀ g, rdrBlock rv = some g → g < C) (hvb : ∀ g, v.ownBlock = some g → C ≤ g) : Owns w' B v zs := by
  refine h.other hg ?_
  cases ho : v.ownBlock with
  | none => exact .inl rfl
  | some k =>
    right
    intro e
    have h1 := hvb k ho
    have h2 := hgB k e.symm
    omega
theorem list_app {w w' : World} {B C D : Nat} {v u : Value} {zs : List Int} {ob : Obj} (h : Owns w B v zs) (hvb : ∀ g, v.ownBlock = some g → D ≤ g ∧ g < C) (hu : ∀ g, u.ownBlock = some g → C ≤ g ∧ g < w.heap.size) (hg : (w.alloc ob).grownBy w' u.ownBlock) : Owns w' B v zs := by
  have hal : Below w.heap.size w (w.alloc ob) := (Below.refl _ _).alloc (Nat.le_refl _) _
  refine (h.keep hal).other hg ?_
  cases ho : v.ownBlock with
  | none => exact .inl rfl
  | some k =>
    right
    intro e
    have h1 := hvb k ho
    have h2 := hu k e.symm
    omega
theorem Owns.lenC {w : World} {B : Nat} {v : Value} {zs : List Int} (h : Owns w B v zs) (h0 : 0 < zs.length) : ∃ g cap, v = .slice (some ⟨g, 0, none⟩) zs.length cap ∧ B ≤ g ∧ g < w.heap.size ∧ zs.length ≤ cap ∧ cap ≤ 9223372036854775807 := by
  rcases h.shape with ⟨_, rfl⟩ | h
  · simp at h0
  · exact h

/-- Two drawn lists. -/
def RetTwo (W : World) (e : Ending) (w' : World) : Prop := ∃ v u zs ms, e = .returned (.tuple #[v, u]) ∧ Owns w' W.heap.size v zs ∧ Owns w' W.heap.size u ms ∧ zs.length ≤ 30 ∧ ms.length ≤ 31 ∧ Below W.heap.size W w'

set_option maxHeartbeats 1000000 in
theorem draw_someCases (W w : World) (rv : Value) (hR : Rdr W w rv 0) (hb : Below W.heap.size W w) :
    Calls Try.prog 43 #[rv] w (RetTwo W) := by
  obtain ⟨ti, hi, hz0, hz1, hz2⟩ := info_parts infoInt
  go_enter Try.func43, Try.ntmps43
  go_wp2_with fail
  refine (rdr_lit W w rv 0 [5, 6, 4, 8, 3, 2, 10, 1, 0] 9 rfl (by omega) (by omega) hR hb (by omega)).mono ?_
  rintro e w1 ⟨n, rfl, hn, hR1, hb1, hg1⟩
  have hnb : 0 ≤ n ∧ n ≤ 10 := by simp at hn; omega
  have hgB1 := hR1.blk
  clear hn hg1 hR hb
  go_wp2_with fail
  refine (draw_dataOf W w1 rv 1 n hR1 hb1 (by omega) hnb).mono ?_
  rintro e w2 ⟨v, zs, p, rfl, ho, hlz, hR, hp, hb⟩
  have hvb := World.ownsRow.lt ho
  have hl := ho.weak
  have hgB := hR.blk
  have hBW := hb.size
  have hW1 := hb1.size
  have hown : OwnsA (w2.alloc (.cells #[] 3)) w2.heap.size (.slice (some ⟨w2.heap.size, 0, none⟩) 0 0) [] := World.ownsRow_lit (size := 1) w2 #[] 0 (Nat.le_refl _) (by unfold maxLen; omega) rfl
  have hal : Below w2.heap.size w2 (w2.alloc (.cells #[] 3)) := (Below.refl _ _).alloc (Nat.le_refl _) _
  have hRa := hR.keep hal
  have hba := hb.trans (hal.mono hb.size)
  have hla := hl.keep hal
  have hsa : w2.heap.size ≤ (w2.alloc (.cells #[] 3)).heap.size := hal.size
  obtain ⟨ao, cap, hv, hl2, hc2, _⟩ := hl.reads
  subst hv
  clear hR hb hl hal ho hR1 hb1
  go_wp2_with fail
  go_loopw [5, 6] (fun u i wr => ∃ k ms, k ≤ zs.length ∧ i = .int .i64 (k : Nat) ∧ List.length ms = k ∧ OwnsA wr w2.heap.size u ms ∧ Owns wr w1.heap.size (.slice ao zs.length cap) zs ∧ Rdr W wr rv (p + 2 * k) ∧ Below W.heap.size W wr ∧ w2.heap.size ≤ wr.heap.size) (fun _ i _ => zs.length - (intOf i).toNat)
  case atStart => exact ⟨0, [], Nat.zero_le _, rfl, rfl, hown, hla, hRa, hba, hsa⟩
  case round =>
    clear hown hla hRa hba hsa
    obtain ⟨k, ms, hk, rfl, hms, hown, hl, hR, hb, hsz⟩ := hrel
    have hml : ms.length ≤ 30 := by omega
    have HMS := Lib.hid hms
    clear hms
    by_cases hlt : k < zs.length
    · obtain ⟨g, cap', hv', hg1, hg2, hg3, hg4⟩ := hl.lenC (by omega)
      injection hv' with e1 e2 e3
      subst e1 e3
      have i1 : (k : Int) < (zs.length : Int) := by omega
      go_wp2_with fail
      refine (rdr_pick W _ rv _ _ hR hb (by omega) (by omega)).mono ?_
      rintro e w3 ⟨r2, rfl, ⟨f2, f2b, _⟩, hR2, hb2, hg2⟩
      have s3 := Nat.le_trans hsz hg2.size
      have o3 := hown.past hg2 hgB
      have l3 := list_past hl hg2 hgB1 (fun g h => (hvb g h).1)
      have f2c := f2b (by omega)
      clear hown hl hR hb hg2 f2b
      go_wp2_with fail
      refine (rdr_pick W _ rv _ _ hR2 hb2 (by omega) (by omega)).mono ?_
      rintro e w5 ⟨r3, rfl, ⟨f3, f3b, _⟩, hR, hb, hg3⟩
      have s5 := Nat.le_trans s3 hg3.size
      have hown := o3.past hg3 hgB
      have hl := list_past l3 hg3 hgB1 (fun g h => (hvb g h).1)
      have hck := hl.cell k hlt
      clear o3 l3 hR2 hb2 hg3 f3b
      by_cases hr : r3 = 0
      · have hr' : (r3 == 0) = true := by simp [hr]
        clear hr
        by_cases hx : 0 < nth zs k
        · have hx' : decide (0 < nth zs k) = true := decide_eq_true hx
          go_wp2_with (at_builtin; refine wpList_append_own _ rfl _ _ 23 rfl w2.heap.size 3 ti (.int .i64 0) 1 8 Try.underlying23 hi hz0 hz1 hz2 rfl (by decide) _ _ _ rfl (hown.alloc _) ⟨w5.heap.size, 0, none⟩ 1 1 [.int .i64 (1)] rfl rfl (new_cellsL _ _) (new_oneL _) (by unfold maxLen; omega) (by omega) (by simp; omega) ?_)
          intro v' w9 hown' hgrow _
          have hl9 := list_app hl hvb (World.ownsRow.lt hown) hgrow
          obtain ⟨ho9, hR9, hb9⟩ := appended_all hown hR hb hBW hgB hown' hgrow
          have hs9 : w2.heap.size ≤ w9.heap.size := by have := hgrow.size; simp at this; omega
          clear hown' hgrow hown hR hb hl
          go_wp2
          go_roundw
          case rel => exact ⟨k + 1, ms ++ [1], by omega, by go_num, by have := HMS.out; simp; omega, ho9, hl9, by simpa [Nat.mul_add, Nat.add_assoc] using hR9, hb9, hs9⟩
          case measure => simp [intOf]; omega
        · have hx' : decide (0 < nth zs k) = false := decide_eq_false hx
          go_wp2_with (at_builtin; refine wpList_append_own _ rfl _ _ 23 rfl w2.heap.size 3 ti (.int .i64 0) 1 8 Try.underlying23 hi hz0 hz1 hz2 rfl (by decide) _ _ _ rfl (hown.alloc _) ⟨w5.heap.size, 0, none⟩ 1 1 [.int .i64 (r2)] rfl rfl (new_cellsL _ _) (new_oneL _) (by unfold maxLen; omega) (by omega) (by simp; omega) ?_)
          intro v' w9 hown' hgrow _
          have hl9 := list_app hl hvb (World.ownsRow.lt hown) hgrow
          obtain ⟨ho9, hR9, hb9⟩ := appended_all hown hR hb hBW hgB hown' hgrow
          have hs9 : w2.heap.size ≤ w9.heap.size := by have := hgrow.size; simp at this; omega
          clear hown' hgrow hown hR hb hl
          go_wp2
          go_roundw
          case rel => exact ⟨k + 1, ms ++ [r2], by omega, by go_num, by have := HMS.out; simp; omega, ho9, hl9, by simpa [Nat.mul_add, Nat.add_assoc] using hR9, hb9, hs9⟩
          case measure => simp [intOf]; omega
      · have hr' : (r3 == 0) = false := by simp [hr]
        clear hr
        go_wp2_with (at_builtin; refine wpList_append_own _ rfl _ _ 23 rfl w2.heap.size 3 ti (.int .i64 0) 1 8 Try.underlying23 hi hz0 hz1 hz2 rfl (by decide) _ _ _ rfl (hown.alloc _) ⟨w5.heap.size, 0, none⟩ 1 1 [.int .i64 (r2)] rfl rfl (new_cellsL _ _) (new_oneL _) (by unfold maxLen; omega) (by omega) (by simp; omega) ?_)
        intro v' w9 hown' hgrow _
        have hl9 := list_app hl hvb (World.ownsRow.lt hown) hgrow
        obtain ⟨ho9, hR9, hb9⟩ := appended_all hown hR hb hBW hgB hown' hgrow
        have hs9 : w2.heap.size ≤ w9.heap.size := by have := hgrow.size; simp at this; omega
        clear hown' hgrow hown hR hb hl
        go_wp2
        go_roundw
        case rel => exact ⟨k + 1, ms ++ [r2], by omega, by go_num, by have := HMS.out; simp; omega, ho9, hl9, by simpa [Nat.mul_add, Nat.add_assoc] using hR9, hb9, hs9⟩
        case measure => simp [intOf]; omega
    · go_wp2_with fail
      refine (rdr_pick W _ rv _ _ hR hb (by omega) (by omega)).mono ?_
      rintro e w5 ⟨r2, rfl, ⟨f2, f2b, _⟩, hR2, hb2, hg2⟩
      have s5 := Nat.le_trans hsz hg2.size
      have o3 := hown.past hg2 hgB
      have l3 := list_past hl hg2 hgB1 (fun g h => (hvb g h).1)
      clear hown hl hR hb hg2 f2b
      by_cases hr : r2 = 0
      · have hr' : (r2 == 0) = true := by simp [hr]
        clear hr
        have hown := o3
        have hl := l3
        have hR := hR2
        have hb := hb2
        go_wp2_with (at_builtin; refine wpList_append_own _ rfl _ _ 23 rfl w2.heap.size 3 ti (.int .i64 0) 1 8 Try.underlying23 hi hz0 hz1 hz2 rfl (by decide) _ _ _ rfl (hown.alloc _) ⟨w5.heap.size, 0, none⟩ 1 1 [.int .i64 (0)] rfl rfl (new_cellsL _ _) (new_oneL _) (by unfold maxLen; omega) (by omega) (by simp; omega) ?_)
        intro v' w9 hown' hgrow _
        have hl9 := list_app hl hvb (World.ownsRow.lt hown) hgrow
        obtain ⟨ho9, hR9, hb9⟩ := appended_all hown hR hb hBW hgB hown' hgrow
        have hs9 : w2.heap.size ≤ w9.heap.size := by have := hgrow.size; simp at this; omega
        clear hown' hgrow hown hR hb hl
        go_wp2
        go_ret2
        exact ⟨_, _, zs, ms ++ [0], rfl, hl9.mono hW1, ho9.weak.mono hBW, by omega, by simp; omega, hb9⟩
      · have hr' : (r2 == 0) = false := by simp [hr]
        clear hr
        by_cases hr1 : r2 = 1
        · have hr1' : (r2 == 1) = true := by simp [hr1]
          clear hr1
          by_cases hm0 : 0 < ms.length
          · obtain ⟨g, cap', hv', hg1, hg2, hg3, hg4⟩ := o3.weak.lenC hm0
            subst hv'
            have hm0' : decide ((0 : Int) < (ms.length : Int)) = true := decide_eq_true (by omega)
            have hst := o3.weak.store 0 2
            have hdst := o3.weak.cell 0 hm0
            have hfree := o3.weak.free 0
            have hgr := o3.weak.stored 0 2
            have hbl := Owns.store_below hb2 o3.weak hBW 0 (.int .i64 2)
            have hl9 : Owns _ w1.heap.size (.slice ao zs.length cap) zs := l3.other hgr (by
              cases ho : (Value.slice ao zs.length cap).ownBlock with
              | none => exact .inl rfl
              | some q => right; intro e; injection e with e; have := hvb q ho; omega)
            have HP : Hid (RetTwo W (.returned (.tuple #[.slice ao zs.length cap, .slice (some ⟨g, 0, none⟩) ms.length cap'])) (w5.setCell ⟨g, 0, none⟩ (.int .i64 2))) :=
              ⟨_, _, zs, ms.set 0 2, rfl, hl9.mono hW1, hst.mono hBW, by omega, by simp; omega, hbl⟩
            clear hst hgr hbl hl9 o3 l3 hR2 hb2
            go_wp2
            go_ret2
            exact HP.out
          · have hm0' : decide ((0 : Int) < (ms.length : Int)) = false := decide_eq_false (by omega)
            obtain ⟨ao3, cap3, hv3, _⟩ := o3.weak.reads
            subst hv3
            go_wp2_with fail
            go_ret2
            exact ⟨_, _, zs, ms, rfl, l3.mono hW1, o3.weak.mono hBW, by omega, by omega, hb2⟩
        · have hr1' : (r2 == 1) = false := by simp [hr1]
          clear hr1
          go_wp2_with fail
          go_ret2
          exact ⟨_, _, zs, ms, rfl, l3.mono hW1, o3.weak.mono hBW, by omega, by omega, hb2⟩

theorem draw_ValidCases (a : Option Addr) (len cap : Nat) (z : List Int) (w : World) (h : IsRow .u8 w a len cap z) :
    Calls Try.prog 24 #[.slice a len cap] w (RetTwo w) := by
  go_enter Try.func24, Try.ntmps24
  go_wp2_with fail
  refine (rdr_new a len cap z w h).mono ?_
  rintro e w0 ⟨v, rfl, hR0, hb0⟩
  clear h
  go_wp2_with fail
  refine (draw_someCases w w0 v hR0 hb0).mono ?_
  rintro e w1 ⟨x, u, zs, ms, rfl, ho, hm, hl1, hl2, hb⟩
  go_wp2_with fail
  go_ret2
  exact ⟨x, u, zs, ms, rfl, ho, hm, hl1, hl2, hb⟩

/-- The other marks. -/
def othL (ms : List Int) : List Int := ms.map (fun m => 1 - m)
theorem othL_length (ms : List Int) : (othL ms).length = ms.length := by simp [othL]
theorem nth_othL (ms : List Int) (k : Nat) (h : k < ms.length) : nth (othL ms) k = 1 - nth ms k := by simp [nth, othL, List.getD, h]
theorem take_snocC {zs : List Int} {k : Nat} (h : k < zs.length) : zs.take (k + 1) = zs.take k ++ [nth zs k] := by
  rw [List.take_add_one, List.getElem?_eq_getElem h]; simp [nth, List.getD, h]
theorem cases_oth {zs ms : List Int} (h : casesB zs ms = true) : casesB zs (othL ms) = true := by
  unfold casesB at *
  simp only [Bool.and_eq_true] at *
  refine ⟨h.1, h.2.1, by rw [othL_length]; exact h.2.2.1, allB_yes (fun j hj => ?_)⟩
  rw [othL_length] at hj
  rw [nth_othL ms j hj]
  have := allB_nth h.2.2.2 j hj
  exact inB_true (by omega)

set_option maxHeartbeats 1000000 in
theorem walk_FnValidCases (a0 : Option Addr) (len0 cap0 : Nat) (z0 : List Int) (w : World) (w0 : IsRow .u8 w a0 len0 cap0 z0) :
    Calls Try.prog 7 #[.slice a0 len0 cap0] w fun e w' => e = .returned (.bool true) ∧ Below w.heap.size w w' := by
  obtain ⟨ti, hi, hz0, hz1, hz2⟩ := info_parts infoInt
  by_cases hbig : 1048576 < len0
  · have hbig' : decide ((1048576 : Int) < (len0 : Int)) = true := decide_eq_true (by omega)
    go_enter Try.func7, Try.ntmps7
    go_wp2_with fail
    go_ret
    exact ⟨rfl, Below.refl _ _⟩
  · have hbig' : decide ((1048576 : Int) < (len0 : Int)) = false := decide_eq_false (by omega)
    go_enter Try.func7, Try.ntmps7
    go_wp2_with fail
    refine (draw_ValidCases a0 len0 cap0 z0 w w0).mono ?_
    clear hbig hbig' w0
    rintro e w1 ⟨v, u, zs, ms, rfl, ho, hm, hlz, hlm, hb1⟩
    go_wp2_with fail
    refine (impl_ValidCases v zs u ms w1 ho.reads hm.reads).mono ?_
    rintro e w2 ⟨rfl, hb2⟩
    have r2 := ho.reads.keep hb2
    have m2 := hm.reads.keep hb2
    go_wp2_with fail
    refine (spec_ValidCases v zs u ms w2 r2 m2).mono ?_
    rintro e w3 ⟨rfl, rfl⟩
    have q2 := hb1.trans (hb2.mono hb1.size)
    clear hb1 hb2 ho hm
    cases ht : casesB zs ms
    · go_wp2_with fail
      refine (spec_ValidCases v zs u ms w2 r2 m2).mono ?_
      rintro e w3 ⟨rfl, rfl⟩
      go_wp2_with fail
      go_ret
      exact ⟨rfl, q2⟩
    · have hlaw := cases_oth ht
      have HL := Lib.hid hlaw
      clear hlaw
      have hown : OwnsA (w2.alloc (.cells #[] 3)) w2.heap.size (.slice (some ⟨w2.heap.size, 0, none⟩) 0 0) [] := World.ownsRow_lit (size := 1) w2 #[] 0 (Nat.le_refl _) (by unfold maxLen; omega) rfl
      have hal : Below w2.heap.size w2 (w2.alloc (.cells #[] 3)) := (Below.refl _ _).alloc (Nat.le_refl _) _
      have hbnd := Lib.hid (fun j (hj : j < ms.length) => (by
        have h2 := ht
        unfold casesB at h2
        simp only [Bool.and_eq_true] at h2
        exact allB_nth h2.2.2.2 j hj : 0 ≤ nth ms j ∧ nth ms j ≤ 1))
      have m2' := m2
      obtain ⟨ao, cap, hv, hl2, hc2, hcell⟩ := m2'
      subst hv
      have hlt0 : (othL ms).length ≤ ms.length := by rw [othL_length]; exact Nat.le_refl _
      have hlt1 : ms.length ≤ (othL ms).length := by rw [othL_length]; exact Nat.le_refl _
      go_wp2_with fail
      go_loopw [6, 7] (fun o i wr => ∃ k : Nat, k ≤ ms.length ∧ i = .int .i64 k ∧ OwnsA wr w2.heap.size o ((othL ms).take k) ∧ Below w2.heap.size w2 wr) (fun _ i _ => ms.length - (intOf i).toNat)
      case atStart => exact ⟨0, Nat.zero_le _, rfl, hown, hal⟩
      case round =>
        clear hown hal
        obtain ⟨k, hk, rfl, hown, hbel⟩ := hrel
        have hlk : ((othL ms).take k).length ≤ 31 := by rw [List.length_take]; omega
        by_cases hlt : k < ms.length
        · rcases hcell with h0 | ⟨b, o, rfl, hcell⟩
          · exfalso; rw [h0] at hlt; simp at hlt
          · have h1 := hcell k hlt
            have ca : _ = _ := (hbel.cell (p := ⟨b, o + k, none⟩) (World.block_lt_of_cell? _ _ h1)).trans h1
            have hx := hbnd.out k hlt
            have HT : Hid ((othL ms).take (k + 1) = (othL ms).take k ++ [1 - nth ms k]) := by
              show _ = _; rw [take_snocC (by omega), nth_othL ms k hlt]
            have hsz := hbel.size
            have i1 : (k : Int) < (ms.length : Int) := by omega
            clear h1 hcell
            generalize (othL ms).take k = P at *
            go_wp2_with (at_builtin; refine wpList_append_own _ rfl _ _ 23 rfl w2.heap.size 3 ti (.int .i64 0) 1 8 Try.underlying23 hi hz0 hz1 hz2 rfl (by decide) _ _ _ rfl (hown.alloc _) ⟨wr.heap.size, 0, none⟩ 1 1 [.int .i64 (1 - nth ms k)] rfl rfl (new_cellsL _ _) (new_oneL _) (by unfold maxLen; omega) (by omega) (by simp; omega) ?_)
            intro v' w9 hown' hgrow _
            have ho2 := OwnsA.appended hown'
            rw [← HT.out] at ho2
            have hb2 : Below w2.heap.size w2 w9 := OwnsA.grownBelow (World.ownsRow.alloc hown _) hgrow (hbel.alloc hsz _) (Nat.le_refl _) (by simp; omega)
            clear hown' hgrow hown hbel ca
            go_wp2
            go_roundw
            case rel => exact ⟨k + 1, by omega, by go_num, ho2, hb2⟩
            case measure => simp [intOf]; omega
        · have e : (othL ms).take k = othL ms := List.take_of_length_le (by omega)
          rw [e] at hown
          clear e hcell
          have q5 := q2.trans (hbel.mono q2.size)
          have r5 := r2.keep hbel
          go_wp2_with fail
          refine (impl_ValidCases _ zs _ (othL ms) _ r5 hown.weak.reads).mono ?_
          rintro e w6 ⟨rfl, hb6⟩
          go_wp2_with fail
          go_ret
          exact ⟨ret_bool HL.out, q5.trans (hb6.mono q5.size)⟩
end Go.Proofs.Ytmpbofjkhombaaa
