/-
  Contracts of spec.falls and of both FallCounts.
-/
import Derived.Test.YtohdbbdolmgaaaaAcc
import Derived.Test.YtohdbbdolmgaaaaList
namespace Go.Proofs.Ytohdbbdolmgaaaa
open Go.RowKit

theorem owns_lit (w : World) (B : Nat) (x : Int) (hB : B ≤ w.heap.size) : Owns (w.alloc (.cells #[.int .i64 x] 3)) B (.slice (some ⟨w.heap.size, 0, none⟩) 1 1) [x] :=
  OwnsA.weak (World.ownsRow_lit (size := 1) w #[.int .i64 x] 1 hB (by unfold maxLen; omega) rfl)

theorem Owns.len {w : World} {B : Nat} {v : Value} {zs : List Int} (h : Owns w B v zs) (h0 : 0 < zs.length) : ∃ g cap, v = .slice (some ⟨g, 0, none⟩) zs.length cap ∧ B ≤ g ∧ g < w.heap.size ∧ zs.length ≤ cap ∧ cap ≤ 9223372036854775807 := by
  rcases h.shape with ⟨_, rfl⟩ | h
  · simp at h0
  · exact h

set_option maxHeartbeats 1000000 in
theorem spec_falls (n : Int) (w : World) (h1 : 1 ≤ n) (h2 : n ≤ 10) :
    Calls Try.prog 72 #[.int .i64 n] w (RetOwns w (fallsL n.toNat)) := by
  obtain ⟨ti, hi, hz0, hz1, hz2⟩ := info_parts infoInt
  have hlit := owns_lit w w.heap.size 1 (Nat.le_refl _)
  have hbl : Below w.heap.size w (w.alloc (.cells #[.int .i64 1] 3)) := (Below.refl _ _).alloc (Nat.le_refl _) _
  go_enter Try.func72, Try.ntmps72
  go_wp2_with fail
  go_loopw [3, 4] (fun v i wr => ∃ k : Nat, (k : Int) + 1 ≤ n ∧ i = .int .i64 ((k : Int) + 2) ∧ Owns wr w.heap.size v (fallsL (k + 1)) ∧ Below w.heap.size w wr) (fun _ i _ => (n + 2).toNat - (intOf i).toNat)
  case atStart => exact ⟨0, by omega, rfl, hlit, hbl⟩
  case round =>
    obtain ⟨k, hk, rfl, hown, hbel⟩ := hrel
    have hlen := fallsL_len_le (k + 1) (by omega)
    have hpos : 0 < (fallsL (k + 1)).length := by have := fallsL_length k; omega
    have hrest := trivial
    obtain ⟨g, cap, hv, hg1, hg2, hg3, hg4⟩ := hown.len hpos
    subst hv
    by_cases hlt : (k : Int) + 2 ≤ n
    · have hbd := fall_bd k
      have hxb := fun p => falls_nth_bd (k + 1) p (by omega)
      have hnext : fallsL (k + 2) = fallTo (fallsL (k + 1)) (k + 2) (fallsL (k + 1)).length := rfl
      have HN := Lib.hid hnext
      clear hnext
      have HBD := Lib.hid hbd
      have HXB := Lib.hid hxb
      clear hbd hxb
      generalize fallsL (k + 1) = L at *
      have HF : Hid (∀ i, (fallTo L (k + 2) i).length = L.length + (k + 1)) := fun i => fallTo_length _ _ _
      obtain ⟨wo, rfl⟩ : ∃ wo : World, wo = wr := ⟨_, rfl⟩
      go_wp2_with (at_make; refine wpList_make_full _ rfl _ _ 25 rfl wo.heap.size 3 ti (.int .i64 0) 1 Try.underlying25 hi hz0 hz1 .i64 .i64 _ _ (L.length + (k + 1)) rfl rfl (by omega) (by omega) (by rw [hz2]; omega) (by unfold maxLen; omega) (Nat.le_refl _) ?_)
      intro w1 hown0 hgrow0
      have hnew := Owns.made (zs := List.replicate (L.length + (k + 1)) 0) (by simpa using hown0) rfl rfl
      have hbel1 : Below wo.heap.size wo w1 := (Below.refl _ _).grown hgrow0 (Nat.le_refl _) (by simp)
      have hsz1 := hbel1.size
      have hszo := hbel.size
      have hownL := hown.keep hbel1
      have hbelw := hbel.trans (hbel1.mono hszo)
      clear hown0 hgrow0 hown hbel hbel1 hrest
      go_wp2_with fail
      go_loopw [6] (fun i wr => ∃ p : Nat, p ≤ L.length ∧ i = .int .i64 p ∧ Owns wr wo.heap.size (.slice (some ⟨wo.heap.size, 0, none⟩) (L.length + (k + 1)) (L.length + (k + 1))) (fallTo L (k + 2) p) ∧ Owns wr w.heap.size (.slice (some ⟨g, 0, none⟩) L.length cap) L ∧ Below w.heap.size w wr) (fun i _ => L.length - (intOf i).toNat)
      case atStart => exact ⟨0, Nat.zero_le _, rfl, by simpa [fallTo] using hnew, hownL, hbelw⟩
      case round =>
        obtain ⟨p, hp, rfl, hnew, hownL, hbelw⟩ := hrel
        by_cases hpl : p < L.length
        · have hx := HXB.out p
          have hsrc0 := hownL.cell p hpl
          obtain ⟨w5, rfl⟩ : ∃ w5 : World, w5 = wr := ⟨_, rfl⟩
          go_wp2_with fail
          go_loopw [7] (fun j wr => ∃ q : Nat, q ≤ k + 2 ∧ j = .int .i64 q ∧ Owns wr wo.heap.size (.slice (some ⟨wo.heap.size, 0, none⟩) (L.length + (k + 1)) (L.length + (k + 1))) (rowAdd (fallTo L (k + 2) p) p (nth L p) q) ∧ Owns wr w.heap.size (.slice (some ⟨g, 0, none⟩) L.length cap) L ∧ Below w.heap.size w wr) (fun j _ => k + 2 - (intOf j).toNat)
          case atStart => exact ⟨0, by omega, rfl, hnew, hownL, hbelw⟩
          case round =>
            obtain ⟨q, hq, rfl, hnew, hownL, hbelw⟩ := hrel
            by_cases hql : q < k + 2
            · have hlr : (rowAdd (fallTo L (k + 2) p) p (nth L p) q).length = L.length + (k + 1) := by rw [rowAdd_length]; exact HF.out p
              have hlr2 : L.length + (k + 1) ≤ (rowAdd (fallTo L (k + 2) p) p (nth L p) q).length := by omega
              clear hlr
              have hb1 := HBD.out p q (by omega) hpl (by omega) (p + q)
              have hdst := hnew.cell (p + q) (by omega)
              have hfree := hnew.free (p + q)
              have hsrc := hownL.cell p hpl
              have hst := hnew.store (p + q) (nth (rowAdd (fallTo L (k + 2) p) p (nth L p) q) (p + q) + nth L p)
              have hgr := hnew.stored (p + q) (nth (rowAdd (fallTo L (k + 2) p) p (nth L p) q) (p + q) + nth L p)
              have hol := hownL.other hgr (by right; simp [Value.ownBlock]; omega)
              have hbl := Owns.store_below hbelw hnew hszo (p + q) (.int .i64 (nth (rowAdd (fallTo L (k + 2) p) p (nth L p) q) (p + q) + nth L p))
              have hi1 : (p : Int) + q < (L.length : Int) + (k + 1) := by omega
              clear hgr hownL hbelw hnew hsrc0
              go_wp2
              go_region
              go_wp2
              go_roundw
              case rel => exact ⟨q + 1, by omega, by go_num, hst, hol, hbl.drew⟩
              case measure => simp [intOf]; omega
            · have hq2 : q = k + 2 := by omega
              rw [hq2] at hnew
              clear hq2
              go_wp2
              go_roundw
              case rel => exact ⟨p + 1, by omega, by go_num, hnew, hownL, hbelw⟩
              case measure => simp [intOf]; omega
        · have hp2 : p = L.length := by omega
          rw [hp2, ← HN.out] at hnew
          clear hp2
          go_wp2
          go_roundw
          case rel => exact ⟨k + 1, by omega, by go_num, hnew.mono hszo, hbelw⟩
          case measure => simp [intOf]; omega
    · have HK : Hid (k + 1 = n.toNat) := by show _ = _; omega
      go_wp2
      go_ret
      exact ⟨_, rfl, by rw [← HK.out]; exact hown, hbel⟩
set_option maxHeartbeats 1000000 in
theorem impl_falls (n : Int) (w : World) (h1 : 1 ≤ n) (h2 : n ≤ 10) :
    Calls Try.prog 41 #[.int .i64 n] w (RetOwns w (fallsL n.toNat)) := by
  obtain ⟨ti, hi, hz0, hz1, hz2⟩ := info_parts infoInt
  have hlit := owns_lit w w.heap.size 1 (Nat.le_refl _)
  have hbl : Below w.heap.size w (w.alloc (.cells #[.int .i64 1] 3)) := (Below.refl _ _).alloc (Nat.le_refl _) _
  have hin : inB n 1 10 = true := inB_true ⟨h1, h2⟩
  go_enter Try.func41, Try.ntmps41
  go_wp2_with (go_at_call 52; refine (impl_in _ _ _ _).mono ?_; rintro e w' ⟨rfl, rfl⟩)
  go_loopw [3, 4] (fun v i wr => ∃ k : Nat, (k : Int) + 1 ≤ n ∧ i = .int .i64 ((k : Int) + 2) ∧ Owns wr w.heap.size v (fallsL (k + 1)) ∧ Below w.heap.size w wr) (fun _ i _ => (n + 2).toNat - (intOf i).toNat)
  case atStart => exact ⟨0, by omega, rfl, hlit, hbl⟩
  case round =>
    obtain ⟨k, hk, rfl, hown, hbel⟩ := hrel
    have hlen := fallsL_len_le (k + 1) (by omega)
    have hpos : 0 < (fallsL (k + 1)).length := by have := fallsL_length k; omega
    have hrest := trivial
    obtain ⟨g, cap, hv, hg1, hg2, hg3, hg4⟩ := hown.len hpos
    subst hv
    by_cases hlt : (k : Int) + 2 ≤ n
    · have hbd := fall_bd k
      have hxb := fun p => falls_nth_bd (k + 1) p (by omega)
      have hnext : fallsL (k + 2) = fallTo (fallsL (k + 1)) (k + 2) (fallsL (k + 1)).length := rfl
      have HN := Lib.hid hnext
      clear hnext
      have HBD := Lib.hid hbd
      have HXB := Lib.hid hxb
      clear hbd hxb
      generalize fallsL (k + 1) = L at *
      have HF : Hid (∀ i, (fallTo L (k + 2) i).length = L.length + (k + 1)) := fun i => fallTo_length _ _ _
      obtain ⟨wo, rfl⟩ : ∃ wo : World, wo = wr := ⟨_, rfl⟩
      go_wp2_with (at_make; refine wpList_make_full _ rfl _ _ 25 rfl wo.heap.size 3 ti (.int .i64 0) 1 Try.underlying25 hi hz0 hz1 .i64 .i64 _ _ (L.length + (k + 1)) rfl rfl (by omega) (by omega) (by rw [hz2]; omega) (by unfold maxLen; omega) (Nat.le_refl _) ?_)
      intro w1 hown0 hgrow0
      have hnew := Owns.made (zs := List.replicate (L.length + (k + 1)) 0) (by simpa using hown0) rfl rfl
      have hbel1 : Below wo.heap.size wo w1 := (Below.refl _ _).grown hgrow0 (Nat.le_refl _) (by simp)
      have hsz1 := hbel1.size
      have hszo := hbel.size
      have hownL := hown.keep hbel1
      have hbelw := hbel.trans (hbel1.mono hszo)
      clear hown0 hgrow0 hown hbel hbel1 hrest
      go_wp2_with fail
      go_loopw [26] (fun i wr => ∃ p : Nat, p ≤ L.length ∧ i = .int .i64 p ∧ Owns wr wo.heap.size (.slice (some ⟨wo.heap.size, 0, none⟩) (L.length + (k + 1)) (L.length + (k + 1))) (fallTo L (k + 2) p) ∧ Owns wr w.heap.size (.slice (some ⟨g, 0, none⟩) L.length cap) L ∧ Below w.heap.size w wr) (fun i _ => L.length - (intOf i).toNat)
      case atStart => exact ⟨0, Nat.zero_le _, rfl, by simpa [fallTo] using hnew, hownL, hbelw⟩
      case round =>
        obtain ⟨p, hp, rfl, hnew, hownL, hbelw⟩ := hrel
        by_cases hpl : p < L.length
        · have hx := HXB.out p
          have hsrc0 := hownL.cell p hpl
          obtain ⟨w5, rfl⟩ : ∃ w5 : World, w5 = wr := ⟨_, rfl⟩
          go_wp2_with fail
          go_loopw [32] (fun j wr => ∃ q : Nat, q ≤ k + 2 ∧ j = .int .i64 q ∧ Owns wr wo.heap.size (.slice (some ⟨wo.heap.size, 0, none⟩) (L.length + (k + 1)) (L.length + (k + 1))) (rowAdd (fallTo L (k + 2) p) p (nth L p) q) ∧ Owns wr w.heap.size (.slice (some ⟨g, 0, none⟩) L.length cap) L ∧ Below w.heap.size w wr) (fun j _ => k + 2 - (intOf j).toNat)
          case atStart => exact ⟨0, by omega, rfl, hnew, hownL, hbelw⟩
          case round =>
            obtain ⟨q, hq, rfl, hnew, hownL, hbelw⟩ := hrel
            by_cases hql : q < k + 2
            · have hlr : (rowAdd (fallTo L (k + 2) p) p (nth L p) q).length = L.length + (k + 1) := by rw [rowAdd_length]; exact HF.out p
              have hlr2 : L.length + (k + 1) ≤ (rowAdd (fallTo L (k + 2) p) p (nth L p) q).length := by omega
              clear hlr
              have hb1 := HBD.out p q (by omega) hpl (by omega) (p + q)
              have hdst := hnew.cell (p + q) (by omega)
              have hfree := hnew.free (p + q)
              have hsrc := hownL.cell p hpl
              have hst := hnew.store (p + q) (nth (rowAdd (fallTo L (k + 2) p) p (nth L p) q) (p + q) + nth L p)
              have hgr := hnew.stored (p + q) (nth (rowAdd (fallTo L (k + 2) p) p (nth L p) q) (p + q) + nth L p)
              have hol := hownL.other hgr (by right; simp [Value.ownBlock]; omega)
              have hbl := Owns.store_below hbelw hnew hszo (p + q) (.int .i64 (nth (rowAdd (fallTo L (k + 2) p) p (nth L p) q) (p + q) + nth L p))
              have hi1 : (p : Int) + q < (L.length : Int) + (k + 1) := by omega
              clear hgr hownL hbelw hnew hsrc0
              go_wp2
              go_roundw
              case rel => exact ⟨q + 1, by omega, by go_num, hst, hol, hbl⟩
              case measure => simp [intOf]; omega
            · have hq2 : q = k + 2 := by omega
              rw [hq2] at hnew
              clear hq2
              go_wp2
              go_roundw
              case rel => exact ⟨p + 1, by omega, by go_num, hnew, hownL, hbelw⟩
              case measure => simp [intOf]; omega
        · have hp2 : p = L.length := by omega
          rw [hp2, ← HN.out] at hnew
          clear hp2
          go_wp2
          go_roundw
          case rel => exact ⟨k + 1, by omega, by go_num, hnew.mono hszo, hbelw⟩
          case measure => simp [intOf]; omega
    · have HK : Hid (k + 1 = n.toNat) := by show _ = _; omega
      go_wp2
      go_ret
      exact ⟨_, rfl, by rw [← HK.out]; exact hown, hbel⟩

/-- FallCounts. -/
def fallsV (n : Int) : List Int := if inB n 1 10 = true then fallsL n.toNat else []
theorem fallsV_len (n : Int) : (fallsV n).length ≤ 46 := by
  unfold fallsV
  split
  · rename_i h; have := inB_iff.1 h; exact fallsL_len_le _ (by omega)
  · simp

set_option maxHeartbeats 400000 in
theorem impl_FallCounts (n : Int) (w : World) : Calls Try.prog 41 #[.int .i64 n] w (RetOwns w (fallsV n)) := by
  cases h : inB n 1 10
  · have hz : Hid (fallsV n = []) := if_neg (by rw [h]; simp)
    go_enter Try.func41, Try.ntmps41
    go_wp2_with (go_at_call 52; refine (impl_in _ _ _ _).mono ?_; rintro e w' ⟨rfl, rfl⟩)
    go_ret
    exact ⟨_, rfl, by rw [hz.out]; exact Owns.nil _ _, Below.refl _ _⟩
  · have g := inB_iff.1 h
    rw [show fallsV n = fallsL n.toNat from if_pos h]
    exact impl_falls n w g.1 g.2

set_option maxHeartbeats 400000 in
theorem spec_FallCounts (n : Int) (w : World) : Calls Try.prog 42 #[.int .i64 n] w (RetOwns w (fallsV n)) := by
  cases h : inB n 1 10
  · have hz : Hid (fallsV n = []) := if_neg (by rw [h]; simp)
    go_enter Try.func42, Try.ntmps42
    go_wp2_with (go_at_call 55; refine (spec_inRange _ _ _ _).mono ?_; rintro e w' ⟨rfl, rfl⟩)
    go_ret
    exact ⟨_, rfl, by rw [hz.out]; exact Owns.nil _ _, Below.refl _ _⟩
  · have hz : Hid (fallsV n = fallsL n.toNat) := if_pos h
    have g := inB_iff.1 h
    go_enter Try.func42, Try.ntmps42
    go_wp2_with (go_at_call 55; refine (spec_inRange _ _ _ _).mono ?_; rintro e w' ⟨rfl, rfl⟩)
    refine (spec_falls n _ g.1 g.2).mono ?_
    rintro e w1 ⟨v, rfl, ho, hb⟩
    go_wp2_with fail
    go_ret
    exact ⟨_, rfl, by rw [hz.out]; exact ho, hb⟩
end Go.Proofs.Ytohdbbdolmgaaaa
