/-
  The lists that spec.someLoads draws.
-/
import Derived.Test.YtcfeeobjllnofaaDrawL
import Derived.Test.YtcfeeobjllnofaaFresh
namespace Go.Proofs.Ytcfeeobjllnofaa
open Go.RowKit
set_option linter.unusedVariables false

/-- The rows lie apart (or the first is nil). -/
def Apart (v u : Value) : Prop := ∀ g, v.ownBlock = some g → u.ownBlock ≠ some g
/-- Behind an append to v: u is kept, and the rows still lie apart. -/
theorem other_kept {w w' : World} {B C : Nat} {v v' u : Value} {zs us : List Int} {ob : Obj} (hv : OwnsA w B v zs) (hu : OwnsA w C u us) (hne : Apart v u)
    (hgrow : (w.alloc ob).grownBy w' v.ownBlock) (hblk : v'.ownBlock = v.ownBlock ∨ v'.ownBlock = some (w.heap.size + 1)) : OwnsA w' C u us ∧ Apart v' u := by
  have hul := World.ownsRow.lt hu
  refine ⟨World.ownsRow.kept (World.ownsRow.alloc hu ob) hgrow ?_, ?_⟩
  · cases ho : u.ownBlock with
    | none => exact .inl rfl
    | some k => right; intro e; exact hne k e.symm ho
  · intro g hg e
    rcases hblk with h | h
    · exact hne g (by rw [← h]; exact hg) e
    · rw [h] at hg
      injection hg with hg
      have := (hul g e).2
      skip
      omega
theorem Apart.turn {v u : Value} (h : Apart v u) : Apart u v := fun g hg e => h g e hg
/-- Two drawn lists of numbers and weights. -/
def RetLoads (W : World) (e : Ending) (w' : World) : Prop := ∃ v u zs us, e = .returned (.tuple #[v, u]) ∧ Owns w' W.heap.size v zs ∧ Owns w' W.heap.size u us ∧ zs.length ≤ 30 ∧ us.length ≤ 30 ∧ Below W.heap.size W w'

set_option maxHeartbeats 2000000 in
theorem draw_someLoads (W w : World) (rv : Value) (hR : Rdr W w rv 0) (hb : Below W.heap.size W w) :
    Calls Try.prog 68 #[rv] w (RetLoads W) := by
  obtain ⟨ti, hi, hz0, hz1, hz2⟩ := info_parts infoInt
  have hgB := hR.blk
  have hBW := hb.size
  have e1 : (w.alloc (.cells #[] 3)).heap.size = w.heap.size + 1 := by simp
  have e2 : ((w.alloc (.cells #[] 3)).alloc (.cells #[] 3)).heap.size = w.heap.size + 2 := by simp
  have ol0 : OwnsA (w.alloc (.cells #[] 3)) w.heap.size (.slice (some ⟨w.heap.size, 0, none⟩) 0 0) [] := World.ownsRow_lit (size := 1) w #[] 0 (Nat.le_refl _) (by unfold maxLen; omega) rfl
  have ow0 : OwnsA ((w.alloc (.cells #[] 3)).alloc (.cells #[] 3)) w.heap.size (.slice (some ⟨w.heap.size + 1, 0, none⟩) 0 0) [] := by
    have h : OwnsA ((w.alloc (.cells #[] 3)).alloc (.cells #[] 3)) w.heap.size (.slice (some ⟨(w.alloc (.cells #[] 3)).heap.size, 0, none⟩) 0 0) [] := World.ownsRow_lit (size := 1) (w.alloc (.cells #[] 3)) #[] 0 (by rw [e1]; omega) (by unfold maxLen; omega) rfl
    rw [e1] at h
    exact h
  have ol1 := World.ownsRow.alloc ol0 (.cells #[] 3)
  have hal1 : Below w.heap.size w (w.alloc (.cells #[] 3)) := (Below.refl _ _).alloc (Nat.le_refl _) _
  have hal : Below w.heap.size w ((w.alloc (.cells #[] 3)).alloc (.cells #[] 3)) := hal1.alloc (by rw [e1]; omega) _
  have hR0 := hR.keep hal
  have hb0 := hb.trans (hal.mono hb.size)
  have hne0 : Apart (.slice (some ⟨w.heap.size, 0, none⟩) 0 0) (.slice (some ⟨w.heap.size + 1, 0, none⟩) 0 0) := by
    intro g hg e
    simp [Value.ownBlock] at hg e
    omega
  clear hal hal1 ol0
  have ol2 : OwnsA ((w.alloc (.cells #[] 3)).alloc (.cells #[] 3)) w.heap.size (.slice (some ⟨w.heap.size, 0, none⟩) 0 0) [] := ol1
  clear ol1
  go_enter Try.func68, Try.ntmps68
  go_wp2_with fail
  refine (rdr_lit2 W ((w.alloc (.cells #[] 3)).alloc (.cells #[] 3)) rv 0 [4, 5, 6, 3, 8, 2, 1, 0] 8 (w.heap.size + 2) (by simp) rfl (by omega) (by omega) hR0 hb0 (by omega)).mono ?_
  rintro e w1 ⟨n, rfl, hn, hR1, hb1, hg1⟩
  have ol3 := ol2.past hg1 hgB
  have ow3 := ow0.past hg1 hgB
  have hs1 : w.heap.size ≤ w1.heap.size := by have := hg1.size; omega
  have hnb : 0 ≤ n ∧ n ≤ 8 := by simp at hn; omega
  clear hn hR hb hR0 hb0 ol2 ow0 hg1 e1 e2
  go_wp2_with fail
  go_loopw [4, 5] (fun lo wt wr => ∃ zs us p, OwnsA wr w.heap.size lo zs ∧ OwnsA wr w.heap.size wt us ∧ Apart lo wt ∧ List.length zs ≤ 8 ∧ List.length us ≤ List.length zs ∧ Rdr W wr rv p ∧ p ≤ 1 + 5 * List.length zs ∧ Below W.heap.size W wr ∧ w.heap.size ≤ wr.heap.size) (fun lo _ _ => 9 - lenV lo)
  case atStart => exact ⟨[], [], 1, ol3, ow3, hne0, by simp, by simp, hR1, by simp, hb1, hs1⟩
  case round =>
    clear ol3 ow3 hne0 hR1 hb1 hs1
    obtain ⟨zs, us, p, ol, ow, hne, hl, hul, hR, hp, hb, hsz⟩ := hrel
    have hp100 : p ≤ 41 := by omega
    obtain ⟨ao, cap, hv, hl2, hc2, _⟩ := ol.weak.reads
    subst hv
    by_cases hlt : (zs.length : Int) < n
    · skip
      go_wp2_with fail
      refine (rdr_pick W _ rv _ _ hR hb (by omega) (by omega)).mono ?_
      rintro e w2 ⟨r2, rfl, ⟨fr2, fr2b, _⟩, hR_, hb_, hg_⟩
      have hsz := Nat.le_trans hsz hg_.size
      have ol := ol.past hg_ hgB
      have ow := ow.past hg_ hgB
      have fr2c := fr2b (by omega)
      clear hR hb
      have hR := hR_
      have hb := hb_
      clear hR_ hb_ hg_ fr2b
      go_wp2_with fail
      refine (rdr_pick W _ rv _ _ hR hb (by omega) (by omega)).mono ?_
      rintro e w3 ⟨r3, rfl, ⟨fr3, fr3b, _⟩, hR_, hb_, hg_⟩
      have hsz := Nat.le_trans hsz hg_.size
      have ol := ol.past hg_ hgB
      have ow := ow.past hg_ hgB
      have fr3c := fr3b (by omega)
      clear hR hb
      have hR := hR_
      have hb := hb_
      clear hR_ hb_ hg_ fr3b
      by_cases hr : r3 = 0
      · have hr' : (r3 == 0) = true := by simp [hr]
        clear hr
        go_wp2_with fail
        refine (rdr_pick W _ rv _ _ hR hb (by omega) (by omega)).mono ?_
        rintro e w4 ⟨r4, rfl, ⟨fr4, fr4b, _⟩, hR_, hb_, hg_⟩
        have hsz := Nat.le_trans hsz hg_.size
        have ol := ol.past hg_ hgB
        have ow := ow.past hg_ hgB
        have fr4c := fr4b (by omega)
        clear hR hb
        have hR := hR_
        have hb := hb_
        clear hR_ hb_ hg_ fr4b
        go_wp2_with (at_builtin; refine wpList_append_fresh rfl _ _ 36 rfl w.heap.size 3 ti (.int .i64 0) 1 8 Try.underlying36 hi hz0 hz1 hz2 rfl (by decide) _ _ _ rfl (ol.alloc _) ⟨w4.heap.size, 0, none⟩ 1 1 [.int .i64 (r4 - 30)] rfl rfl (new_cellsL _ _) (new_oneL _) (by omega) (by unfold maxLen; omega) (by omega) (by simp; omega) ?_)
        intro lst w4a hown' hgrow hblk
        obtain ⟨hU9, hne9⟩ := other_kept ol ow hne hgrow hblk
        obtain ⟨ho9, hR9, hb9⟩ := appended_all ol hR hb hBW hgB hown' hgrow
        have hs9 : w.heap.size ≤ w4a.heap.size := by have := hgrow.size; simp at this; omega
        clear hsz hown' hgrow ol ow hR hb hne hblk
        have ol := ho9
        have ow := hU9
        have hne := hne9
        have hR := hR9
        have hb := hb9
        clear ho9 hU9 hne9 hR9 hb9
        have hsz := hs9
        clear hs9
        have hne := hne.turn
        go_wp2_with fail
        refine (rdr_pick W _ rv _ _ hR hb (by omega) (by omega)).mono ?_
        rintro e w5 ⟨r5, rfl, ⟨fr5, fr5b, _⟩, hR_, hb_, hg_⟩
        have hsz := Nat.le_trans hsz hg_.size
        have ol := ol.past hg_ hgB
        have ow := ow.past hg_ hgB
        have fr5c := fr5b (by omega)
        clear hR hb
        have hR := hR_
        have hb := hb_
        clear hR_ hb_ hg_ fr5b
        go_wp2_with fail
        refine (rdr_lit W _ rv _ [1, 1, 2, 1 + r5] 4 rfl (by omega) (by omega) hR hb (by omega)).mono ?_
        rintro e w6 ⟨r6, rfl, hr6, hR_, hb_, hg_⟩
        have hsz := Nat.le_trans hsz hg_.size
        have ol := ol.past hg_ hgB
        have ow := ow.past hg_ hgB
        clear hR hb
        have hR := hR_
        have hb := hb_
        clear hR_ hb_ hg_ hr6
        go_wp2_with (at_builtin; refine wpList_append_fresh rfl _ _ 36 rfl w.heap.size 3 ti (.int .i64 0) 1 8 Try.underlying36 hi hz0 hz1 hz2 rfl (by decide) _ _ _ rfl (ow.alloc _) ⟨w6.heap.size, 0, none⟩ 1 1 [.int .i64 (r6)] rfl rfl (new_cellsL _ _) (new_oneL _) (by omega) (by unfold maxLen; omega) (by omega) (by simp; omega) ?_)
        intro v' w9 hown' hgrow hblk
        obtain ⟨hU9, hne9⟩ := other_kept ow ol hne hgrow hblk
        obtain ⟨ho9, hR9, hb9⟩ := appended_all ow hR hb hBW hgB hown' hgrow
        have hs9 : w.heap.size ≤ w9.heap.size := by have := hgrow.size; simp at this; omega
        clear hsz hown' hgrow ow ol hR hb hne hblk
        have ow := ho9
        have ol := hU9
        have hne := hne9
        have hR := hR9
        have hb := hb9
        clear ho9 hU9 hne9 hR9 hb9
        have hsz := hs9
        clear hs9
        have hne := hne.turn
        go_wp2
        go_roundw
        case rel => exact ⟨zs ++ [r4 - 30], us ++ [r6], _, ol, ow, hne, by simp; omega, by simp; omega, hR, by simp; omega, hb, hsz⟩
        case measure =>
          obtain ⟨ao', cap', hv', _⟩ := ol.weak.reads
          rw [hv']
          simp [lenV]
          omega
      · have hr' : (r3 == 0) = false := by simp [hr]
        clear hr
        go_wp2_with (at_builtin; refine wpList_append_fresh rfl _ _ 36 rfl w.heap.size 3 ti (.int .i64 0) 1 8 Try.underlying36 hi hz0 hz1 hz2 rfl (by decide) _ _ _ rfl (ol.alloc _) ⟨w3.heap.size, 0, none⟩ 1 1 [.int .i64 (r2 - 6)] rfl rfl (new_cellsL _ _) (new_oneL _) (by omega) (by unfold maxLen; omega) (by omega) (by simp; omega) ?_)
        intro lst w4a hown' hgrow hblk
        obtain ⟨hU9, hne9⟩ := other_kept ol ow hne hgrow hblk
        obtain ⟨ho9, hR9, hb9⟩ := appended_all ol hR hb hBW hgB hown' hgrow
        have hs9 : w.heap.size ≤ w4a.heap.size := by have := hgrow.size; simp at this; omega
        clear hsz hown' hgrow ol ow hR hb hne hblk
        have ol := ho9
        have ow := hU9
        have hne := hne9
        have hR := hR9
        have hb := hb9
        clear ho9 hU9 hne9 hR9 hb9
        have hsz := hs9
        clear hs9
        have hne := hne.turn
        go_wp2_with fail
        refine (rdr_pick W _ rv _ _ hR hb (by omega) (by omega)).mono ?_
        rintro e w5 ⟨r5, rfl, ⟨fr5, fr5b, _⟩, hR_, hb_, hg_⟩
        have hsz := Nat.le_trans hsz hg_.size
        have ol := ol.past hg_ hgB
        have ow := ow.past hg_ hgB
        have fr5c := fr5b (by omega)
        clear hR hb
        have hR := hR_
        have hb := hb_
        clear hR_ hb_ hg_ fr5b
        go_wp2_with fail
        refine (rdr_lit W _ rv _ [1, 1, 2, 1 + r5] 4 rfl (by omega) (by omega) hR hb (by omega)).mono ?_
        rintro e w6 ⟨r6, rfl, hr6, hR_, hb_, hg_⟩
        have hsz := Nat.le_trans hsz hg_.size
        have ol := ol.past hg_ hgB
        have ow := ow.past hg_ hgB
        clear hR hb
        have hR := hR_
        have hb := hb_
        clear hR_ hb_ hg_ hr6
        go_wp2_with (at_builtin; refine wpList_append_fresh rfl _ _ 36 rfl w.heap.size 3 ti (.int .i64 0) 1 8 Try.underlying36 hi hz0 hz1 hz2 rfl (by decide) _ _ _ rfl (ow.alloc _) ⟨w6.heap.size, 0, none⟩ 1 1 [.int .i64 (r6)] rfl rfl (new_cellsL _ _) (new_oneL _) (by omega) (by unfold maxLen; omega) (by omega) (by simp; omega) ?_)
        intro v' w9 hown' hgrow hblk
        obtain ⟨hU9, hne9⟩ := other_kept ow ol hne hgrow hblk
        obtain ⟨ho9, hR9, hb9⟩ := appended_all ow hR hb hBW hgB hown' hgrow
        have hs9 : w.heap.size ≤ w9.heap.size := by have := hgrow.size; simp at this; omega
        clear hsz hown' hgrow ow ol hR hb hne hblk
        have ow := ho9
        have ol := hU9
        have hne := hne9
        have hR := hR9
        have hb := hb9
        clear ho9 hU9 hne9 hR9 hb9
        have hsz := hs9
        clear hs9
        have hne := hne.turn
        go_wp2
        go_roundw
        case rel => exact ⟨zs ++ [r2 - 6], us ++ [r6], _, ol, ow, hne, by simp; omega, by simp; omega, hR, by simp; omega, hb, hsz⟩
        case measure =>
          obtain ⟨ao', cap', hv', _⟩ := ol.weak.reads
          rw [hv']
          simp [lenV]
          omega
    · skip
      go_wp2_with fail
      refine (rdr_pick W _ rv _ _ hR hb (by omega) (by omega)).mono ?_
      rintro e w2 ⟨r2, rfl, ⟨fr2, fr2b, _⟩, hR_, hb_, hg_⟩
      have hsz := Nat.le_trans hsz hg_.size
      have ol := ol.past hg_ hgB
      have ow := ow.past hg_ hgB
      have fr2c := fr2b (by omega)
      clear hR hb
      have hR := hR_
      have hb := hb_
      clear hR_ hb_ hg_ fr2b
      by_cases hr : r2 = 0
      · have hr' : (r2 == 0) = true := by simp [hr]
        clear hr
        have hne := hne.turn
        go_wp2_with (at_builtin; refine wpList_append_fresh rfl _ _ 36 rfl w.heap.size 3 ti (.int .i64 0) 1 8 Try.underlying36 hi hz0 hz1 hz2 rfl (by decide) _ _ _ rfl (ow.alloc _) ⟨w2.heap.size, 0, none⟩ 1 1 [.int .i64 (1)] rfl rfl (new_cellsL _ _) (new_oneL _) (by omega) (by unfold maxLen; omega) (by omega) (by simp; omega) ?_)
        intro v' w9 hown' hgrow hblk
        obtain ⟨hU9, hne9⟩ := other_kept ow ol hne hgrow hblk
        obtain ⟨ho9, hR9, hb9⟩ := appended_all ow hR hb hBW hgB hown' hgrow
        have hs9 : w.heap.size ≤ w9.heap.size := by have := hgrow.size; simp at this; omega
        clear hsz hown' hgrow ow ol hR hb hne hblk
        have ow := ho9
        have ol := hU9
        have hne := hne9
        have hR := hR9
        have hb := hb9
        clear ho9 hU9 hne9 hR9 hb9
        have hsz := hs9
        clear hs9
        go_wp2
        go_ret2
        exact ⟨_, _, zs, us ++ [1], rfl, ol.weak.mono hBW, ow.weak.mono hBW, by first | omega | (simp; omega), by first | omega | (simp; omega), hb⟩
      · have hr' : (r2 == 0) = false := by simp [hr]
        clear hr
        by_cases hr1 : r2 = 1
        · have hr1' : (r2 == 1) = true := by simp [hr1]
          clear hr1
          go_wp2_with (at_builtin; refine wpList_append_fresh rfl _ _ 36 rfl w.heap.size 3 ti (.int .i64 0) 1 8 Try.underlying36 hi hz0 hz1 hz2 rfl (by decide) _ _ _ rfl (ol.alloc _) ⟨w2.heap.size, 0, none⟩ 1 1 [.int .i64 (31)] rfl rfl (new_cellsL _ _) (new_oneL _) (by omega) (by unfold maxLen; omega) (by omega) (by simp; omega) ?_)
          intro lst w3 hown' hgrow hblk
          obtain ⟨hU9, hne9⟩ := other_kept ol ow hne hgrow hblk
          obtain ⟨ho9, hR9, hb9⟩ := appended_all ol hR hb hBW hgB hown' hgrow
          have hs9 : w.heap.size ≤ w3.heap.size := by have := hgrow.size; simp at this; omega
          clear hsz hown' hgrow ol ow hR hb hne hblk
          have ol := ho9
          have ow := hU9
          have hne := hne9
          have hR := hR9
          have hb := hb9
          clear ho9 hU9 hne9 hR9 hb9
          have hsz := hs9
          clear hs9
          have hne := hne.turn
          go_wp2_with (at_builtin; refine wpList_append_fresh rfl _ _ 36 rfl w.heap.size 3 ti (.int .i64 0) 1 8 Try.underlying36 hi hz0 hz1 hz2 rfl (by decide) _ _ _ rfl (ow.alloc _) ⟨w3.heap.size, 0, none⟩ 1 1 [.int .i64 (1)] rfl rfl (new_cellsL _ _) (new_oneL _) (by omega) (by unfold maxLen; omega) (by omega) (by simp; omega) ?_)
          intro v' w9 hown' hgrow hblk
          obtain ⟨hU9, hne9⟩ := other_kept ow ol hne hgrow hblk
          obtain ⟨ho9, hR9, hb9⟩ := appended_all ow hR hb hBW hgB hown' hgrow
          have hs9 : w.heap.size ≤ w9.heap.size := by have := hgrow.size; simp at this; omega
          clear hsz hown' hgrow ow ol hR hb hne hblk
          have ow := ho9
          have ol := hU9
          have hne := hne9
          have hR := hR9
          have hb := hb9
          clear ho9 hU9 hne9 hR9 hb9
          have hsz := hs9
          clear hs9
          go_wp2
          go_ret2
          exact ⟨_, _, zs ++ [31], us ++ [1], rfl, ol.weak.mono hBW, ow.weak.mono hBW, by first | omega | (simp; omega), by first | omega | (simp; omega), hb⟩
        · have hr1' : (r2 == 1) = false := by simp [hr1]
          clear hr1
          by_cases hr2 : r2 = 2
          · have hr2' : (r2 == 2) = true := by simp [hr2]
            clear hr2
            go_wp2_with (at_builtin; refine wpList_append_fresh rfl _ _ 36 rfl w.heap.size 3 ti (.int .i64 0) 1 8 Try.underlying36 hi hz0 hz1 hz2 rfl (by decide) _ _ _ rfl (ol.alloc _) ⟨w2.heap.size, 0, none⟩ 1 1 [.int .i64 (1)] rfl rfl (new_cellsL _ _) (new_oneL _) (by omega) (by unfold maxLen; omega) (by omega) (by simp; omega) ?_)
            intro lst w3 hown' hgrow hblk
            obtain ⟨hU9, hne9⟩ := other_kept ol ow hne hgrow hblk
            obtain ⟨ho9, hR9, hb9⟩ := appended_all ol hR hb hBW hgB hown' hgrow
            have hs9 : w.heap.size ≤ w3.heap.size := by have := hgrow.size; simp at this; omega
            clear hsz hown' hgrow ol ow hR hb hne hblk
            have ol := ho9
            have ow := hU9
            have hne := hne9
            have hR := hR9
            have hb := hb9
            clear ho9 hU9 hne9 hR9 hb9
            have hsz := hs9
            clear hs9
            have hne := hne.turn
            go_wp2_with fail
            refine (rdr_lit W _ rv _ [0, 6] 2 rfl (by omega) (by omega) hR hb (by omega)).mono ?_
            rintro e w5 ⟨r5, rfl, hr5, hR_, hb_, hg_⟩
            have hsz := Nat.le_trans hsz hg_.size
            have ol := ol.past hg_ hgB
            have ow := ow.past hg_ hgB
            clear hR hb
            have hR := hR_
            have hb := hb_
            clear hR_ hb_ hg_ hr5
            go_wp2_with (at_builtin; refine wpList_append_fresh rfl _ _ 36 rfl w.heap.size 3 ti (.int .i64 0) 1 8 Try.underlying36 hi hz0 hz1 hz2 rfl (by decide) _ _ _ rfl (ow.alloc _) ⟨w5.heap.size, 0, none⟩ 1 1 [.int .i64 (r5)] rfl rfl (new_cellsL _ _) (new_oneL _) (by omega) (by unfold maxLen; omega) (by omega) (by simp; omega) ?_)
            intro v' w9 hown' hgrow hblk
            obtain ⟨hU9, hne9⟩ := other_kept ow ol hne hgrow hblk
            obtain ⟨ho9, hR9, hb9⟩ := appended_all ow hR hb hBW hgB hown' hgrow
            have hs9 : w.heap.size ≤ w9.heap.size := by have := hgrow.size; simp at this; omega
            clear hsz hown' hgrow ow ol hR hb hne hblk
            have ow := ho9
            have ol := hU9
            have hne := hne9
            have hR := hR9
            have hb := hb9
            clear ho9 hU9 hne9 hR9 hb9
            have hsz := hs9
            clear hs9
            go_wp2
            go_ret2
            exact ⟨_, _, zs ++ [1], us ++ [r5], rfl, ol.weak.mono hBW, ow.weak.mono hBW, by first | omega | (simp; omega), by first | omega | (simp; omega), hb⟩
          · have hr2' : (r2 == 2) = false := by simp [hr2]
            clear hr2
            go_wp2
            go_ret2
            exact ⟨_, _, zs, us, rfl, ol.weak.mono hBW, ow.weak.mono hBW, by omega, by omega, hb⟩

theorem draw_ValidLoads (a : Option Addr) (len cap : Nat) (z : List Int) (w : World) (h : IsRow .u8 w a len cap z) :
    Calls Try.prog 36 #[.slice a len cap] w (RetLoads w) := by
  go_enter Try.func36, Try.ntmps36
  go_wp2_with fail
  refine (rdr_new a len cap z w h).mono ?_
  rintro e w0 ⟨v, rfl, hR0, hb0⟩
  clear h
  go_wp2_with fail
  refine (draw_someLoads w w0 v hR0 hb0).mono ?_
  rintro e w1 ⟨x, u, zs, us, rfl, ho, hm, hl1, hl2, hb⟩
  go_wp2_with fail
  go_ret2
  exact ⟨x, u, zs, us, rfl, ho, hm, hl1, hl2, hb⟩
end Go.Proofs.Ytcfeeobjllnofaa
