/-
  Contracts of both RankSums.
-/
import Derived.Test.YtohdbbdolmgaaaaBits
import Derived.Test.YtohdbbdolmgaaaaFalls
import Derived.Test.YtohdbbdolmgaaaaNum
namespace Go.Proofs.Ytohdbbdolmgaaaa
open Go.RowKit

/-- RankSums. -/
def rankV (n : Int) : List Int := if inB n 0 10 = true then rankL n.toNat else []
theorem rankL_len_le (n : Nat) (h : n ≤ 10) : 1 ≤ (rankL n).length ∧ (rankL n).length ≤ 56 := by
  have := rankL_length n
  have h3 : n * (n + 1) ≤ 10 * 11 := Nat.mul_le_mul (by omega) (by omega)
  omega
theorem rankV_len (n : Int) : (rankV n).length ≤ 56 := by
  unfold rankV
  split
  · rename_i h; have := inB_iff.1 h; exact (rankL_len_le _ (by omega)).2
  · simp
theorem rankL_len_int (n : Int) (h : 0 ≤ n) : n * (n + 1) / 2 + 1 = ((rankL n.toNat).length : Int) := by
  obtain ⟨m, rfl⟩ := Int.eq_ofNat_of_zero_le h
  rw [Int.toNat_natCast]
  have h1 := rankL_length m
  have h2 : ((m * (m + 1) : Nat) : Int) = (m : Int) * ((m : Int) + 1) := by rw [Int.natCast_mul]; rfl
  rw [← h2]; omega

set_option maxHeartbeats 1000000 in
theorem impl_RankSums (n : Int) (w : World) :
    Calls Try.prog 38 #[.int .i64 n] w (RetOwns w (rankV n)) := by
  cases hin : inB n 0 10
  · have hz : Hid (rankV n = []) := if_neg (by rw [hin]; simp)
    go_enter Try.func38, Try.ntmps38
    go_wp2_with (go_at_call 52; refine (impl_in _ _ _ _).mono ?_; rintro e w' ⟨rfl, rfl⟩)
    go_ret
    exact ⟨_, rfl, by rw [hz.out]; exact Owns.nil _ _, Below.refl _ _⟩
  · have hz : Hid (rankV n = rankL n.toNat) := if_pos hin
    have g := inB_iff.1 hin
    obtain ⟨ti, hi, hz0, hz1, hz2⟩ := info_parts infoInt
    have h2b := two_bd n.toNat (by omega)
    have h2c : ((2 ^ n.toNat : Nat) : Int) ≤ (2 : Int) ^ n.toNat ∧ (2 : Int) ^ n.toNat ≤ ((2 ^ n.toNat : Nat) : Int) := by
      have e : ((2 : Int) ^ n.toNat) = ((2 ^ n.toNat : Nat) : Int) := by simp
      omega
    have hp10 : 2 ^ n.toNat ≤ 1024 := by
      have h2 : 2 ^ n.toNat ≤ 2 ^ 10 := Nat.pow_le_pow_right (by omega) (by omega)
      have h3 : 2 ^ 10 = 1024 := by decide
      omega
    have hm := mul_bd n (n + 1) 10 11 (by omega) (by omega) (by omega) (by omega)
    have hli := rankL_len_int n g.1
    have hll := rankL_len_le n.toNat (by omega)
    have hl1 : n * (n + 1) / 2 + 1 ≤ ((rankL n.toNat).length : Int) := by omega
    have hl2 : ((rankL n.toNat).length : Int) ≤ n * (n + 1) / 2 + 1 := by omega
    have HL2 := Lib.hid (rankL_length n.toNat)
    clear hli
    have HEND : Hid (accBy (rankL n.toNat).length (fun s => some (rsum n.toNat s)) (2 ^ n.toNat) = rankL n.toNat) := rank_acc n.toNat _ rfl
    have HF : Hid (∀ s p, some (rsum n.toNat s) = some p → p < (rankL n.toNat).length) := by
      intro s p h; have := rsum_le n.toNat s; have := HL2.out; injection h with h; omega
    generalize hlen : (rankL n.toNat).length = len at *
    have HLEN := Lib.hid hlen
    clear hlen
    go_enter Try.func38, Try.ntmps38
    go_wp2_with fail
    refine (impl_in _ _ _ _).mono ?_; rintro e w' ⟨rfl, rfl⟩
    go_wp2_with (at_make; refine wpList_make_full _ rfl _ _ 25 rfl w.heap.size 3 ti (.int .i64 0) 1 Try.underlying25 hi hz0 hz1 .i64 .i64 _ _ len rfl rfl (by omega) (by omega) (by rw [hz2]; omega) (by unfold maxLen; omega) (Nat.le_refl _) ?_)
    intro w1 hown0 hgrow0
    have hown := Owns.made (zs := List.replicate len 0) (by simpa using hown0) rfl rfl
    have hbel : Below w.heap.size w w1 := (Below.refl _ _).grown hgrow0 (Nat.le_refl _) (by simp)
    clear hown0 hgrow0
    go_wp2
    go_loopw [19] (fun i wr => ∃ k : Nat, k ≤ 2 ^ n.toNat ∧ i = .int .i64 k ∧ Owns wr w.heap.size (.slice (some ⟨w.heap.size, 0, none⟩) len len) (accBy len (fun s => some (rsum n.toNat s)) k) ∧ Below w.heap.size w wr) (fun i _ => 2 ^ n.toNat - (intOf i).toNat)
    case atStart => exact ⟨0, Nat.zero_le _, rfl, hown, hbel⟩
    case round =>
      obtain ⟨k, hk, rfl, hown, hbel⟩ := hrel
      by_cases hlt : k < 2 ^ n.toNat
      · have hlt' : (k : Int) < 2 ^ n.toNat := by omega
        obtain ⟨w5, rfl⟩ : ∃ w5 : World, w5 = wr := ⟨_, rfl⟩
        go_wp2_with fail
        go_loop [5, 23] (fun s i => ∃ p : Nat, p ≤ n.toNat ∧ i = .int .i64 p ∧ s = .int .i64 (rsum p k)) (fun _ i => n.toNat - (intOf i).toNat)
        case atStart => exact ⟨0, Nat.zero_le _, rfl, rfl⟩
        case round =>
          obtain ⟨p, hp, rfl, rfl⟩ := hrel
          have hrs := rsum_le p k
          have hpp : p * (p + 1) ≤ 10 * 11 := Nat.mul_le_mul (by omega) (by omega)
          have hrs2 : rsum p k ≤ 55 := by omega
          clear hrs hpp
          by_cases hpl : p < n.toNat
          · have hbit := and_bit k p
            have hb2 := bitN_lt k p
            have hmb := mul_bd (bitN k p : Nat) ((p : Int) + 1) 1 10 (by omega) (by omega) (by omega) (by omega)
            have HR : Hid (((rsum p k : Nat) : Int) + (bitN k p : Nat) * ((p : Int) + 1) = (rsum (p + 1) k : Nat)) := by show _ = _; rw [rsum]; simp
            go_wp2
            go_round
            case rel => exact ⟨p + 1, by omega, by go_num, by rw [HR.out]⟩
            case measure => simp [intOf]; omega
          · have hpn : p = n.toNat := by omega
            subst hpn
            have hps : rsum n.toNat k < len := HF.out k _ rfl
            have hal : (accBy len (fun s => some (rsum n.toNat s)) k).length = len := accBy_length _ _ _
            have hdst := hown.cell (rsum n.toNat k) (by omega)
            have hfree := hown.free (rsum n.toNat k)
            have hab := accBy_bd len (fun s => some (rsum n.toNat s)) k (fun s p _ h => HF.out s p h) (rsum n.toNat k)
            have hst := hown.store (rsum n.toNat k) (nth (accBy len (fun s => some (rsum n.toNat s)) k) (rsum n.toNat k) + 1)
            have hst2 : Owns (w5.setCell ⟨w.heap.size, rsum n.toNat k, none⟩ (.int .i64 (nth (accBy len (fun s => some (rsum n.toNat s)) k) (rsum n.toNat k) + 1))) w.heap.size (.slice (some ⟨w.heap.size, 0, none⟩) len len) (accBy len (fun s => some (rsum n.toNat s)) (k + 1)) := hst
            have hbl := Owns.store_below hbel hown (Nat.le_refl _) (rsum n.toNat k) (.int .i64 (nth (accBy len (fun s => some (rsum n.toNat s)) k) (rsum n.toNat k) + 1))
            have hpi : ((rsum n.toNat k : Nat) : Int) < (len : Int) := by omega
            clear hst hown hbel hal
            generalize nth (accBy len (fun s => some (rsum n.toNat s)) k) (rsum n.toNat k) = x at *
            generalize rsum n.toNat k = q at *
            go_wp2
            go_roundw
            case rel => exact ⟨k + 1, by omega, by go_num, hst2, hbl⟩
            case measure => simp [intOf]; omega
      · have hk2 : k = 2 ^ n.toNat := by omega
        rw [hk2, HEND.out] at hown
        clear hk2
        have hge : ¬ (k : Int) < 2 ^ n.toNat := by omega
        go_wp2
        go_ret
        exact ⟨_, rfl, by rw [hz.out]; exact hown, hbel⟩

theorem rankTo_step (L : List Int) (k p : Nat) (hp : p < L.length) :
    ((rankTo L (k + 1) p).set p (nth (rankTo L (k + 1) p) p + nth L p)).set (p + (k + 1)) (nth (rankTo L (k + 1) p) (p + (k + 1)) + nth L p) = rankTo L (k + 1) (p + 1) := by
  rw [rankTo]
  have hl := rankTo_length L (k + 1) p
  show _ = ((addAt (rankTo L (k + 1) p) p (nth L p)).set (p + (k + 1)) (nth (addAt (rankTo L (k + 1) p) p (nth L p)) (p + (k + 1)) + nth L p))
  rw [nth_addAt _ _ _ _ (by omega), if_neg (by omega), Int.add_zero]
  rfl

set_option maxHeartbeats 1000000 in
theorem spec_rankSums (n : Int) (w : World) (h1 : 0 ≤ n) (h2 : n ≤ 10) :
    Calls Try.prog 71 #[.int .i64 n] w (RetOwns w (rankL n.toNat)) := by
  obtain ⟨ti, hi, hz0, hz1, hz2⟩ := info_parts infoInt
  have hlit := owns_lit w w.heap.size 1 (Nat.le_refl _)
  have hbl : Below w.heap.size w (w.alloc (.cells #[.int .i64 1] 3)) := (Below.refl _ _).alloc (Nat.le_refl _) _
  go_enter Try.func71, Try.ntmps71
  go_wp2_with fail
  go_loopw [3, 4] (fun v i wr => ∃ k : Nat, (k : Int) ≤ n ∧ i = .int .i64 ((k : Int) + 1) ∧ Owns wr w.heap.size v (rankL k) ∧ Below w.heap.size w wr) (fun _ i _ => (n + 2).toNat - (intOf i).toNat)
  case atStart => exact ⟨0, by omega, rfl, hlit, hbl⟩
  case round =>
    obtain ⟨k, hk, rfl, hown, hbel⟩ := hrel
    have hll := rankL_len_le k (by omega)
    obtain ⟨g, cap, hv, hg1, hg2, hg3, hg4⟩ := hown.len (by omega)
    subst hv
    by_cases hlt : (k : Int) + 1 ≤ n
    · have HBD : Hid (∀ i, i ≤ (rankL k).length → ∀ p, 0 ≤ nth (rankTo (rankL k) (k + 1) i) p ∧ nth (rankTo (rankL k) (k + 1) i) p ≤ 1024) := fun i hi p => rankTo_bd k i (by omega) hi p
      have HXB : Hid (∀ p, 0 ≤ nth (rankL k) p ∧ nth (rankL k) p ≤ 1024) := fun p => rank_nth_bd k p (by omega)
      have HN : Hid (rankL (k + 1) = rankTo (rankL k) (k + 1) (rankL k).length) := rfl
      generalize rankL k = L at *
      have HF : Hid (∀ i, (rankTo L (k + 1) i).length = L.length + (k + 1)) := fun i => rankTo_length _ _ _
      have HS : Hid (∀ p, p < L.length → ((rankTo L (k + 1) p).set p (nth (rankTo L (k + 1) p) p + nth L p)).set (p + (k + 1)) (nth (rankTo L (k + 1) p) (p + (k + 1)) + nth L p) = rankTo L (k + 1) (p + 1)) := fun p hp => rankTo_step L k p hp
      obtain ⟨wo, rfl⟩ : ∃ wo : World, wo = wr := ⟨_, rfl⟩
      go_wp2_with (at_make; refine wpList_make_full _ rfl _ _ 25 rfl wo.heap.size 3 ti (.int .i64 0) 1 Try.underlying25 hi hz0 hz1 .i64 .i64 _ _ (L.length + (k + 1)) rfl rfl (by omega) (by omega) (by rw [hz2]; omega) (by unfold maxLen; omega) (Nat.le_refl _) ?_)
      intro w1 hown0 hgrow0
      have hnew := Owns.made (zs := List.replicate (L.length + (k + 1)) 0) (by simpa using hown0) rfl rfl
      have hbel1 : Below wo.heap.size wo w1 := (Below.refl _ _).grown hgrow0 (Nat.le_refl _) (by simp)
      have hsz1 := hbel1.size
      have hszo := hbel.size
      have hownL := hown.keep hbel1
      have hbelw := hbel.trans (hbel1.mono hszo)
      clear hown0 hgrow0 hown hbel hbel1
      go_wp2_with fail
      go_loopw [6] (fun i wr => ∃ p : Nat, p ≤ L.length ∧ i = .int .i64 p ∧ Owns wr wo.heap.size (.slice (some ⟨wo.heap.size, 0, none⟩) (L.length + (k + 1)) (L.length + (k + 1))) (rankTo L (k + 1) p) ∧ Owns wr w.heap.size (.slice (some ⟨g, 0, none⟩) L.length cap) L ∧ Below w.heap.size w wr) (fun i _ => L.length - (intOf i).toNat)
      case atStart => exact ⟨0, Nat.zero_le _, rfl, by simpa [rankTo] using hnew, hownL, hbelw⟩
      case round =>
        obtain ⟨p, hp, rfl, hnew, hownL, hbelw⟩ := hrel
        by_cases hpl : p < L.length
        · have hx := HXB.out p
          have hsrc := hownL.cell p hpl
          have hlr2 : L.length + (k + 1) ≤ (rankTo L (k + 1) p).length := by have := HF.out p; omega
          have hb1 := HBD.out p (by omega) p
          have hb2 := HBD.out p (by omega) (p + (k + 1))
          have hdst := hnew.cell p (by omega)
          have hdst2 := hnew.cell (p + (k + 1)) (by omega)
          have hfree := hnew.free p
          have hfree2 := hnew.free (p + (k + 1))
          have hst1 := hnew.store p (nth (rankTo L (k + 1) p) p + nth L p)
          have hst2 := hst1.store (p + (k + 1)) (nth (rankTo L (k + 1) p) (p + (k + 1)) + nth L p)
          rw [HS.out p hpl] at hst2
          have hgr1 := hnew.stored p (nth (rankTo L (k + 1) p) p + nth L p)
          have hgr2 := hst1.stored (p + (k + 1)) (nth (rankTo L (k + 1) p) (p + (k + 1)) + nth L p)
          have hol := (hownL.other hgr1 (by right; simp [Value.ownBlock]; omega)).other hgr2 (by right; simp [Value.ownBlock]; omega)
          have hbl := Owns.store_below (Owns.store_below hbelw hnew hszo p (.int .i64 (nth (rankTo L (k + 1) p) p + nth L p))) hst1 hszo (p + (k + 1)) (.int .i64 (nth (rankTo L (k + 1) p) (p + (k + 1)) + nth L p))
          have hi1 : (p : Int) + ((k : Int) + 1) < (L.length : Int) + (k + 1) := by omega
          have hi2 : (p : Int) < (L.length : Int) + (k + 1) := by omega
          have hi3 : (p : Int) < (L.length : Int) := by omega
          clear hgr1 hgr2 hownL hbelw hnew hst1
          generalize nth (rankTo L (k + 1) p) p = x1 at *
          generalize nth (rankTo L (k + 1) p) (p + (k + 1)) = x2 at *
          go_wp2
          go_region
          go_wp2
          go_region
          go_wp2
          go_roundw
          case rel => exact ⟨p + 1, by omega, by go_num, hst2, hol, hbl.drew.drew⟩
          case measure => simp [intOf]; omega
        · have hp2 : p = L.length := by omega
          rw [hp2, ← HN.out] at hnew
          clear hp2
          go_wp2
          go_roundw
          case rel => exact ⟨k + 1, by omega, by go_num, hnew.mono hszo, hbelw⟩
          case measure => simp [intOf]; omega
    · have HK : Hid (k = n.toNat) := by show _ = _; omega
      go_wp2
      go_ret
      exact ⟨_, rfl, by rw [← HK.out]; exact hown, hbel⟩

set_option maxHeartbeats 400000 in
theorem spec_RankSums (n : Int) (w : World) : Calls Try.prog 39 #[.int .i64 n] w (RetOwns w (rankV n)) := by
  cases h : inB n 0 10
  · have hz : Hid (rankV n = []) := if_neg (by rw [h]; simp)
    go_enter Try.func39, Try.ntmps39
    go_wp2_with (go_at_call 55; refine (spec_inRange _ _ _ _).mono ?_; rintro e w' ⟨rfl, rfl⟩)
    go_ret
    exact ⟨_, rfl, by rw [hz.out]; exact Owns.nil _ _, Below.refl _ _⟩
  · have hz : Hid (rankV n = rankL n.toNat) := if_pos h
    have g := inB_iff.1 h
    go_enter Try.func39, Try.ntmps39
    go_wp2_with (go_at_call 55; refine (spec_inRange _ _ _ _).mono ?_; rintro e w' ⟨rfl, rfl⟩)
    refine (spec_rankSums n _ g.1 g.2).mono ?_
    rintro e w1 ⟨v, rfl, ho, hb⟩
    go_wp2_with fail
    go_ret
    exact ⟨_, rfl, by rw [hz.out]; exact ho, hb⟩
end Go.Proofs.Ytohdbbdolmgaaaa
