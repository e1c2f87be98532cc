/-
  Contracts of both WinCounts.
-/
import Derived.Test.YtohdbbdolmgaaaaWins
import Derived.Test.YtohdbbdolmgaaaaFalls
namespace Go.Proofs.Ytohdbbdolmgaaaa
open Go.RowKit

set_option maxHeartbeats 1000000 in
theorem win_clos (g N c0 go B cap : Nat) (s : Nat) (L : List Int) (w : World) (hrow : BoolRow w g N (bitB s)) (hN2 : N ≤ 12)
    (hc : w.cell? ⟨c0, 0, none⟩ = some (.slice (some ⟨go, 0, none⟩) L.length cap)) (ho : Owns w B (.slice (some ⟨go, 0, none⟩) L.length cap) L) (hq : wn N s < L.length) (hb0 : 0 ≤ nth L (wn N s)) (hb1 : nth L (wn N s) ≤ 100000) :
    Calls Try.prog 54 #[.slice (some ⟨g, 0, none⟩) N N, .pointer (some ⟨c0, 0, none⟩)] w fun e w' =>
      e = .returned (.tuple #[]) ∧ (Owns w' B (.slice (some ⟨go, 0, none⟩) L.length cap) (addAt L (wn N s) 1) ∧ w.grownBy w' (some go)) := by
  go_enter Try.func54, Try.ntmps54
  go_wp2
  go_loop [3, 4, 9] (fun a o i => ∃ k : Nat, k ≤ N ∧ i = .int .i64 k ∧ a = .int .i64 (k - popc k s : Nat) ∧ o = .int .i64 (wn k s)) (fun _ _ i => N - (intOf i).toNat)
  case atStart => exact ⟨0, Nat.zero_le _, rfl, rfl, rfl⟩
  case round =>
    obtain ⟨k, hk, rfl, rfl, rfl⟩ := hrel
    have hpc := popc_le k s
    have hw := wn_le k s
    have hw2 : popc k s * (k - popc k s) ≤ 12 * 12 := Nat.mul_le_mul (by omega) (by omega)
    have hw3 : wn k s ≤ 144 := by omega
    clear hw hw2
    by_cases hlt : k < N
    · have h1 := hrow.1 k hlt
      have i1 : (k : Int) < (N : Int) := by omega
      have hb2 := bitN_lt s k
      by_cases hb : bitN s k = 1
      · have hbb : bitB s k = true := by simp [bitB, hb]
        have HA : Hid (((k - popc k s : Nat) : Int) = (k + 1 - popc (k + 1) s : Nat)) := by show _ = _; rw [popc, hb]; omega
        have HW : Hid (((wn k s : Nat) : Int) + (k - popc k s : Nat) = (wn (k + 1) s : Nat)) := by show _ = _; rw [wn, hbb]; simp
        rw [hbb] at h1
        clear hb hbb hb2
        go_wp2
        go_round
        case rel => exact ⟨k + 1, by omega, by go_num, by rw [HA.out], by rw [HW.out]⟩
        case measure => simp [intOf]; omega
      · have hb0' : bitN s k = 0 := by omega
        have hbb : bitB s k = false := by simp [bitB, hb0']
        have HA : Hid (((k - popc k s : Nat) : Int) + 1 = (k + 1 - popc (k + 1) s : Nat)) := by show _ = _; rw [popc, hb0']; omega
        have HW : Hid (((wn k s : Nat) : Int) = (wn (k + 1) s : Nat)) := by show _ = _; rw [wn, hbb]; simp
        rw [hbb] at h1
        clear hb hbb hb2 hb0'
        go_wp2
        go_round
        case rel => exact ⟨k + 1, by omega, by go_num, by rw [HA.out], by rw [HW.out]⟩
        case measure => simp [intOf]; omega
    · have hkN : k = N := by omega
      subst hkN
      have hsrc := ho.cell (wn k s) hq
      have hfree := ho.free (wn k s)
      have hst := ho.store (wn k s) (nth L (wn k s) + 1)
      have hgr := ho.stored (wn k s) (nth L (wn k s) + 1)
      have hst2 : Owns (w.setCell ⟨go, wn k s, none⟩ (.int .i64 (nth L (wn k s) + 1))) B (.slice (some ⟨go, 0, none⟩) L.length cap) (addAt L (wn k s) 1) := hst
      have hqi : ((wn k s : Nat) : Int) < (L.length : Int) := by omega
      clear hst ho hrow
      generalize nth L (wn k s) = x at *
      go_wp2
      go_end0
      exact ⟨rfl, hst2, hgr⟩

/-- WinCounts. -/
def winV (m n : Int) : List Int := if inB m 0 6 = true ∧ inB n 0 6 = true then winL m.toNat n.toNat else []
theorem winV_len (m n : Int) : (winV m n).length ≤ 37 := by
  unfold winV
  split
  · rename_i h
    have g1 := inB_iff.1 h.1
    have g2 := inB_iff.1 h.2
    have h3 : m.toNat * n.toNat ≤ 6 * 6 := Nat.mul_le_mul (by omega) (by omega)
    rw [winL_length]; omega
  · simp

/-- What holds behind k sets. -/
def WinInv (w : World) (c0 go N len : Nat) (m : Int) (B : Nat) (k : Nat) (wr : World) : Prop :=
  wr.cell? ⟨c0, 0, none⟩ = some (.slice (some ⟨go, 0, none⟩) len len) ∧ Owns wr B (.slice (some ⟨go, 0, none⟩) len len) (accBy len (winF N m) k) ∧ w.grownBy wr (some go)

set_option maxHeartbeats 1000000 in
theorem impl_WinCounts (m n : Int) (w : World) :
    Calls Try.prog 14 #[.int .i64 m, .int .i64 n] w (RetOwns w (winV m n)) := by
  by_cases h : inB m 0 6 = true ∧ inB n 0 6 = true
  · have hz : Hid (winV m n = winL m.toNat n.toNat) := if_pos h
    obtain ⟨h1, h2⟩ := h
    have g1 := inB_iff.1 h1
    have g2 := inB_iff.1 h2
    obtain ⟨ti, hi, hz0, hz1, hz2⟩ := info_parts infoInt
    have hm := mul_bd m n 6 6 (by omega) (by omega) (by omega) (by omega)
    have hN : (m + n).toNat = m.toNat + n.toNat := by omega
    have hmi : ((m.toNat : Nat) : Int) = m := by omega
    have hlen0 : ((m.toNat * n.toNat + 1 : Nat) : Int) = m * n + 1 := by
      rw [Int.natCast_add, Int.natCast_mul, hmi, show ((n.toNat : Nat) : Int) = n from by omega]; rfl
    have HACC : Hid (accBy (m.toNat * n.toNat + 1) (winF (m + n).toNat m) (2 ^ (m + n).toNat) = winL m.toNat n.toNat) := by
      have := win_acc m.toNat n.toNat
      rw [hmi] at this
      show _ = _; rw [hN]; exact this
    have HF : Hid (∀ s p, winF (m + n).toNat m s = some p → p < m.toNat * n.toNat + 1) := by
      intro s p h
      refine winF_lt m.toNat n.toNat s p ?_
      rw [hmi, ← hN]; exact h
    have hN12 : (m + n).toNat ≤ 12 := by omega
    clear hN hmi
    generalize hlen : m.toNat * n.toNat + 1 = len at *
    have hl1 : (len : Int) ≤ m * n + 1 := by omega
    have hl2 : m * n + 1 ≤ (len : Int) := by omega
    clear hlen0
    have HLEN := Lib.hid hlen
    clear hlen
    go_enter Try.func14, Try.ntmps14
    go_wp2_with fail
    refine (impl_in _ _ _ _).mono ?_; rintro e w' ⟨rfl, rfl⟩
    go_wp2_with fail
    refine (impl_in _ _ _ _).mono ?_; rintro e w' ⟨rfl, rfl⟩
    go_wp2_with (at_make; refine wpList_make_full _ rfl _ _ 25 rfl w.heap.size 3 ti (.int .i64 0) 1 Try.underlying25 hi hz0 hz1 .i64 .i64 _ _ len rfl rfl (by omega) (by omega) (by rw [hz2]; omega) (by unfold maxLen; omega) (Nat.le_refl _) ?_)
    intro w1 hown0 hgrow0
    have hown := Owns.made (zs := List.replicate len 0) (by simpa using hown0) rfl rfl
    have hbel : Below w.heap.size w w1 := (Below.refl _ _).grown hgrow0 (Nat.le_refl _) (by simp)
    clear hown0 hgrow0
    go_wp2_with fail
    have hsz := hbel.size
    obtain ⟨wA, hwA⟩ : ∃ wA, wA = w1.alloc (.cells #[.slice (some ⟨w.heap.size, 0, none⟩) len len] 25) := ⟨_, rfl⟩
    have hbA : Below w1.heap.size w1 wA := by subst hwA; exact (Below.refl _ _).alloc (Nat.le_refl _) _
    have hownA := hown.keep hbA
    have hlt := hown.base.2.1
    have k0 : WinInv wA w1.heap.size w.heap.size (m + n).toNat len m w.heap.size 0 wA := by
      refine ⟨by subst hwA; simp, hownA, World.grownBy.refl _ _⟩
    have hszA : w1.heap.size < wA.heap.size := by subst hwA; simp
    rw [← hwA]
    clear hwA
    refine (letters_win m n w1.heap.size (WinInv wA w1.heap.size w.heap.size (m + n).toNat len m w.heap.size) wA g1 g2 ?hstab ?hno ?hyes k0).mono ?_
    case hstab =>
      intro k w1' w2 hI hb
      obtain ⟨i1, i2, i3⟩ := hI
      have l1 := World.block_lt_of_cell? _ _ i1
      exact ⟨(hb.cell (p := ⟨w1.heap.size, 0, none⟩) l1).trans i1, i2.keep hb, grownBy_trans i3 (grownBy_of_below hb _)⟩
    case hno =>
      intro k w1' hk hI hp
      obtain ⟨i1, i2, i3⟩ := hI
      exact ⟨i1, by rw [accBy_none _ _ _ (if_neg hp)]; exact i2, i3⟩
    case hyes =>
      intro k w1' gg hk hI hrow hp
      obtain ⟨i1, i2, i3⟩ := hI
      have hf : winF (m + n).toNat m k = some (wn (m + n).toNat k) := if_pos hp
      have hl : (accBy len (winF (m + n).toNat m) k).length = len := accBy_length _ _ _
      have hbd := accBy_bd len (winF (m + n).toNat m) k (fun s p _ h => HF.out s p h) (wn (m + n).toNat k)
      have hk2 : 2 ^ (m + n).toNat ≤ 2 ^ 12 := Nat.pow_le_pow_right (by omega) hN12
      have hk3 : 2 ^ 12 = 4096 := by decide
      have hq := HF.out k _ hf
      have hclos := win_clos gg (m + n).toNat w1.heap.size w.heap.size w.heap.size len k (accBy len (winF (m + n).toNat m) k) w1' hrow hN12 (by rw [hl]; exact i1) (by rw [hl]; exact i2) (by rw [hl]; exact hq) hbd.1 (by omega)
      rw [hl] at hclos
      refine hclos.mono ?_
      rintro e w2 ⟨rfl, j1, j2⟩
      exact ⟨rfl, ⟨grownBy_cell j2 i1 (by simp; omega), by rw [accBy_some _ _ _ _ hf]; exact j1, grownBy_trans i3 j2⟩, j2.size⟩
    rintro e w3 ⟨rfl, hI⟩
    obtain ⟨i1, i2, i3⟩ := hI
    rw [HACC.out] at i2
    have hb3 : Below w.heap.size w w3 := (hbel.trans (hbA.mono hsz)).grown i3 (by omega) (fun j hj => by injection hj; omega)
    clear i3
    go_wp2
    go_ret
    exact ⟨_, rfl, by rw [hz.out]; exact i2, hb3⟩
  · have hz : Hid (winV m n = []) := if_neg h
    have hnil : ∀ (w1 : World), Owns w1 w.heap.size (.slice none 0 0) (winV m n) := fun w1 => by rw [hz.out]; exact Owns.nil _ _
    have HNil := Lib.hid hnil
    clear hnil
    cases h1 : inB m 0 6
    all_goals
      cases h2 : inB n 0 6
      all_goals first
        | (exfalso; exact h ⟨h1, h2⟩)
        | (clear h
           go_enter Try.func14, Try.ntmps14
           go_wp2_with (go_at_call 52; refine (impl_in _ _ _ _).mono ?_; rintro e w' ⟨rfl, rfl⟩)
           go_ret
           exact ⟨_, rfl, HNil.out _, Below.refl _ _⟩)

theorem winL_edge (m n : Nat) (h : m = 0 ∨ n = 0) : winL m n = [1] := by
  have e : m * n = 0 := by rcases h with h | h <;> subst h <;> simp
  refine list_ext (by rw [winL_length, e]; rfl) (fun p hp => ?_)
  rw [winL_length, e] at hp
  have : p = 0 := by omega
  subst this
  rw [nth_winL]
  rcases h with h | h
  · subst h; rfl
  · subst h; rw [wI_zero0]; rfl

set_option maxHeartbeats 2000000 in
theorem spec_winCounts (k : Nat) : ∀ (m n : Int) (w : World), 0 ≤ m → m ≤ 6 → 0 ≤ n → n ≤ 6 → m + n ≤ k →
    Calls Try.prog 56 #[.int .i64 m, .int .i64 n] w (RetOwns w (winL m.toNat n.toNat)) := by
  induction k with
  | zero =>
    intro m n w hm0 hm1 hn0 hn1 hk
    obtain ⟨ti, hi, hz0, hz1, hz2⟩ := info_parts infoInt
    have hm := mul_bd m n 6 6 (by omega) (by omega) (by omega) (by omega)
    have hE := Lib.hid (winL_edge m.toNat n.toNat (by omega))
    have em : (m == 0) = true := by simp; omega
    have hmn : m * n + 1 = 1 := by have : m = 0 := by omega
                                   rw [this]; omega
    have hl1 : m * n + 1 ≤ 1 := by omega
    have hl2 : 1 ≤ m * n + 1 := by omega
    clear hmn
    go_enter Try.func56, Try.ntmps56
    go_wp2_with (at_make; refine wpList_make_full _ rfl _ _ 25 rfl w.heap.size 3 ti (.int .i64 0) 1 Try.underlying25 hi hz0 hz1 .i64 .i64 _ _ 1 rfl rfl (by omega) (by omega) (by rw [hz2]; omega) (by unfold maxLen; omega) (Nat.le_refl _) ?_)
    intro w1 hown0 hgrow0
    have hown := Owns.made (zs := [0]) (by simpa using hown0) rfl rfl
    have hbel : Below w.heap.size w w1 := (Below.refl _ _).grown hgrow0 (Nat.le_refl _) (by simp)
    clear hown0 hgrow0
    have hsrc := hown.cell 0 (by simp)
    have hfree := hown.free 0
    have hst := hown.store 0 1
    have hb2 := Owns.store_below hbel hown (Nat.le_refl _) 0 (.int .i64 1)
    clear hown hbel
    go_wp2_with fail
    go_ret
    exact ⟨_, rfl, by rw [hE.out]; exact hst, hb2⟩
  | succ k ih =>
    intro m n w hm0 hm1 hn0 hn1 hk
    obtain ⟨ti, hi, hz0, hz1, hz2⟩ := info_parts infoInt
    have hm := mul_bd m n 6 6 (by omega) (by omega) (by omega) (by omega)
    by_cases hedge : m = 0 ∨ n = 0
    · have hE := Lib.hid (winL_edge m.toNat n.toNat (by omega))
      have hmn : m * n + 1 = 1 := by
        rcases hedge with h | h <;> rw [h] <;> simp
      have hl1 : m * n + 1 ≤ 1 := by omega
      have hl2 : 1 ≤ m * n + 1 := by omega
      clear hmn
      cases em : m == 0
      all_goals
        cases en : n == 0
        all_goals first
          | (exfalso; rw [beq_eq_false_iff_ne] at em en; omega)
          | (clear hedge
             go_enter Try.func56, Try.ntmps56
             go_wp2_with (at_make; refine wpList_make_full _ rfl _ _ 25 rfl w.heap.size 3 ti (.int .i64 0) 1 Try.underlying25 hi hz0 hz1 .i64 .i64 _ _ 1 rfl rfl (by omega) (by omega) (by rw [hz2]; omega) (by unfold maxLen; omega) (Nat.le_refl _) ?_)
             intro w1 hown0 hgrow0
             have hown := Owns.made (zs := [0]) (by simpa using hown0) rfl rfl
             have hbel : Below w.heap.size w w1 := (Below.refl _ _).grown hgrow0 (Nat.le_refl _) (by simp)
             clear hown0 hgrow0
             have hsrc := hown.cell 0 (by simp)
             have hfree := hown.free 0
             have hst := hown.store 0 1
             have hb2 := Owns.store_below hbel hown (Nat.le_refl _) 0 (.int .i64 1)
             clear hown hbel
             go_wp2_with fail
             go_ret
             exact ⟨_, rfl, by rw [hE.out]; exact hst, hb2⟩)
    · have em : (m == 0) = false := by simp; omega
      have en : (n == 0) = false := by simp; omega
      have hm1' : 1 ≤ m := by omega
      have hn1' : 1 ≤ n := by omega
      have hJ := Lib.hid (win_join m.toNat n.toNat (by omega) (by omega))
      have hLX := winL_length (m.toNat - 1) n.toNat
      have hLY := winL_length m.toNat (n.toNat - 1)
      have e1 : m.toNat * n.toNat = (m.toNat - 1) * n.toNat + n.toNat := by
        obtain ⟨a, ha⟩ : ∃ a, m.toNat = a + 1 := ⟨m.toNat - 1, by omega⟩
        rw [ha, Nat.add_sub_cancel, Nat.add_mul, Nat.one_mul]
      have e2 : m.toNat * n.toNat = m.toNat * (n.toNat - 1) + m.toNat := by
        obtain ⟨a, ha⟩ : ∃ a, n.toNat = a + 1 := ⟨n.toNat - 1, by omega⟩
        rw [ha, Nat.add_sub_cancel, Nat.mul_add, Nat.mul_one]
      have hlen0 : ((m.toNat * n.toNat + 1 : Nat) : Int) = m * n + 1 := by
        rw [Int.natCast_add, Int.natCast_mul, show ((m.toNat : Nat) : Int) = m from by omega, show ((n.toNat : Nat) : Int) = n from by omega]; rfl
      have hXB : Hid (∀ p, 0 ≤ nth (winL (m.toNat - 1) n.toNat) p ∧ nth (winL (m.toNat - 1) n.toNat) p ≤ 4096) := fun p => by rw [nth_winL]; exact wI_bd _ _ _ (by omega)
      have hYB : Hid (∀ p, 0 ≤ nth (winL m.toNat (n.toNat - 1)) p ∧ nth (winL m.toNat (n.toNat - 1)) p ≤ 4096) := fun p => by rw [nth_winL]; exact wI_bd _ _ _ (by omega)
      have hX1 : (winL (m.toNat - 1) n.toNat).length + n.toNat ≤ m.toNat * n.toNat + 1 := by omega
      have hX2 : m.toNat * n.toNat + 1 ≤ (winL (m.toNat - 1) n.toNat).length + n.toNat := by omega
      have hX3 : 0 < (winL (m.toNat - 1) n.toNat).length := by omega
      have hY1 : (winL m.toNat (n.toNat - 1)).length ≤ m.toNat * n.toNat + 1 := by omega
      have hY3 : 0 < (winL m.toNat (n.toNat - 1)).length := by omega
      rw [← hLX, ← hLY] at hJ
      clear hLX hLY e1 e2 hedge
      have ihx := Lib.hid (fun w1 => ih (m - 1) n w1 (by omega) (by omega) hn0 hn1 (by omega))
      have ihy := Lib.hid (fun w1 => ih m (n - 1) w1 hm0 hm1 (by omega) (by omega) (by omega))
      rw [show (m - 1).toNat = m.toNat - 1 from by omega] at ihx
      rw [show (n - 1).toNat = n.toNat - 1 from by omega] at ihy
      clear ih
      generalize winL (m.toNat - 1) n.toNat = X at *
      generalize winL m.toNat (n.toNat - 1) = Y at *
      generalize hlen : m.toNat * n.toNat + 1 = len at *
      have hl1 : (len : Int) ≤ m * n + 1 := by omega
      have hl2 : m * n + 1 ≤ (len : Int) := by omega
      have HLEN := Lib.hid hlen
      clear hlen hlen0
      have HA : Hid (∀ i, (winA len X n.toNat i).length = len) := fun i => winA_length _ _ _ _
      have HAB : Hid (∀ i, i ≤ X.length → ∀ p, 0 ≤ nth (winA len X n.toNat i) p ∧ nth (winA len X n.toNat i) p ≤ 4096) := by
        intro i hi p
        rw [nth_winA _ _ _ _ (by omega)]
        split
        · exact hXB.out _
        · omega
      have HBB : Hid (∀ i, i ≤ Y.length → ∀ p, 0 ≤ nth (winB (winA len X n.toNat X.length) Y i) p ∧ nth (winB (winA len X n.toNat X.length) Y i) p ≤ 8192) := by
        intro i hi p
        rw [nth_winB _ _ _ (by rw [winA_length]; omega)]
        have := HAB.out X.length (Nat.le_refl _) p
        have := hYB.out p
        split <;> omega
      go_enter Try.func56, Try.ntmps56
      go_wp2_with (at_make; refine wpList_make_full _ rfl _ _ 25 rfl w.heap.size 3 ti (.int .i64 0) 1 Try.underlying25 hi hz0 hz1 .i64 .i64 _ _ len rfl rfl (by omega) (by omega) (by rw [hz2]; omega) (by unfold maxLen; omega) (Nat.le_refl _) ?_)
      intro w1 hown0 hgrow0
      have hown := Owns.made (zs := List.replicate len 0) (by simpa using hown0) rfl rfl
      have hbel : Below w.heap.size w w1 := (Below.refl _ _).grown hgrow0 (Nat.le_refl _) (by simp)
      clear hown0 hgrow0
      go_wp2_with fail
      refine (ihx.out _).mono ?_
      rintro e w2 ⟨vx, rfl, hox, hbx⟩
      go_wp2_with fail
      refine (ihy.out _).mono ?_
      rintro e w3 ⟨vy, rfl, hoy, hby⟩
      have s1 := hbel.size
      have s2 := hbx.size
      have s3 := hby.size
      obtain ⟨gx, cx, rfl, gx1, gx2, gx3, gx4⟩ := hox.len hX3
      obtain ⟨gy, cy, rfl, gy1, gy2, gy3, gy4⟩ := hoy.len hY3
      have hown3 := (hown.keep hbx).keep hby
      have hox3 := hox.keep hby
      have hbel3 := hbel.trans ((hbx.mono s1).trans (hby.mono (by omega)))
      have hgo := hown.base.2.1
      clear hown hox hbel hbx hby ihx ihy
      go_wp2_with fail
      go_loopw [8] (fun i wr => ∃ p : Nat, p ≤ X.length ∧ i = .int .i64 p ∧ Owns wr w.heap.size (.slice (some ⟨w.heap.size, 0, none⟩) len len) (winA len X n.toNat p) ∧ Owns wr w1.heap.size (.slice (some ⟨gx, 0, none⟩) X.length cx) X ∧ Owns wr w2.heap.size (.slice (some ⟨gy, 0, none⟩) Y.length cy) Y ∧ Below w.heap.size w wr) (fun i _ => X.length - (intOf i).toNat)
      case atStart => exact ⟨0, Nat.zero_le _, rfl, hown3, hox3, hoy, hbel3⟩
      case round =>
        obtain ⟨p, hp, rfl, hown, hox, hoy, hbel⟩ := hrel
        by_cases hpl : p < X.length
        · have hAl := HA.out p
          have hAl2 : len ≤ (winA len X n.toNat p).length := by omega
          clear hAl
          have hb1 := HAB.out p (by omega) (p + n.toNat)
          have hb2 := hXB.out p
          have hsrc := hox.cell p hpl
          have hdst := hown.cell (p + n.toNat) (by omega)
          have hfree := hown.free (p + n.toNat)
          have hst := hown.store (p + n.toNat) (nth (winA len X n.toNat p) (p + n.toNat) + nth X p)
          have hst2 : Owns (wr.setCell ⟨w.heap.size, p + n.toNat, none⟩ (.int .i64 (nth (winA len X n.toNat p) (p + n.toNat) + nth X p))) w.heap.size (.slice (some ⟨w.heap.size, 0, none⟩) len len) (winA len X n.toNat (p + 1)) := hst
          have hgr := hown.stored (p + n.toNat) (nth (winA len X n.toNat p) (p + n.toNat) + nth X p)
          have hox2 := hox.other hgr (by right; simp [Value.ownBlock]; omega)
          have hoy2 := hoy.other hgr (by right; simp [Value.ownBlock]; omega)
          have hbl := Owns.store_below hbel hown (Nat.le_refl _) (p + n.toNat) (.int .i64 (nth (winA len X n.toNat p) (p + n.toNat) + nth X p))
          have hi1 : (p : Int) + n < (len : Int) := by omega
          have hi2 : (p : Int) < (X.length : Int) := by omega
          clear hst hown hox hoy hbel hgr
          have hP : p + n.toNat = ((p : Int) + n).toNat := by omega
          generalize nth (winA len X n.toNat p) (p + n.toNat) = x1 at *
          generalize nth X p = x2 at *
          rw [hP] at hdst hfree hst2 hox2 hoy2 hbl
          clear hP
          go_wp2
          go_region
          go_wp2
          go_roundw
          case rel => exact ⟨p + 1, by omega, by go_num, hst2, hox2, hoy2, hbl.drew⟩
          case measure => simp [intOf]; omega
        · have hpX : p = X.length := by omega
          rw [hpX] at hown
          clear hpX
          go_wp2_with fail
          go_loopw [9] (fun i wr => ∃ p : Nat, p ≤ Y.length ∧ i = .int .i64 p ∧ Owns wr w.heap.size (.slice (some ⟨w.heap.size, 0, none⟩) len len) (winB (winA len X n.toNat X.length) Y p) ∧ Owns wr w2.heap.size (.slice (some ⟨gy, 0, none⟩) Y.length cy) Y ∧ Below w.heap.size w wr) (fun i _ => Y.length - (intOf i).toNat)
          case atStart => exact ⟨0, Nat.zero_le _, rfl, hown, hoy, hbel⟩
          case round =>
            obtain ⟨q, hq, rfl, hown, hoy, hbel⟩ := hrel
            by_cases hql : q < Y.length
            · have hAl : (winB (winA len X n.toNat X.length) Y q).length = len := by rw [winB_length]; exact HA.out _
              have hAl2 : len ≤ (winB (winA len X n.toNat X.length) Y q).length := by omega
              clear hAl
              have hb1 := HBB.out q (by omega) q
              have hb2 := hYB.out q
              have hsrc := hoy.cell q hql
              have hdst := hown.cell q (by omega)
              have hfree := hown.free q
              have hst := hown.store q (nth (winB (winA len X n.toNat X.length) Y q) q + nth Y q)
              have hst2 : Owns (wr.setCell ⟨w.heap.size, q, none⟩ (.int .i64 (nth (winB (winA len X n.toNat X.length) Y q) q + nth Y q))) w.heap.size (.slice (some ⟨w.heap.size, 0, none⟩) len len) (winB (winA len X n.toNat X.length) Y (q + 1)) := hst
              have hgr := hown.stored q (nth (winB (winA len X n.toNat X.length) Y q) q + nth Y q)
              have hoy2 := hoy.other hgr (by right; simp [Value.ownBlock]; omega)
              have hbl := Owns.store_below hbel hown (Nat.le_refl _) q (.int .i64 (nth (winB (winA len X n.toNat X.length) Y q) q + nth Y q))
              have hi1 : (q : Int) < (len : Int) := by omega
              have hi2 : (q : Int) < (Y.length : Int) := by omega
              clear hst hown hoy hbel hgr
              generalize nth (winB (winA len X n.toNat X.length) Y q) q = x1 at *
              generalize nth Y q = x2 at *
              go_wp2
              go_region
              go_wp2
              go_roundw
              case rel => exact ⟨q + 1, by omega, by go_num, hst2, hoy2, hbl.drew⟩
              case measure => simp [intOf]; omega
            · have hqY : q = Y.length := by omega
              rw [hqY, hJ.out] at hown
              clear hqY
              go_wp2
              go_ret
              exact ⟨_, rfl, hown, hbel⟩

set_option maxHeartbeats 400000 in
theorem spec_WinCounts (m n : Int) (w : World) : Calls Try.prog 16 #[.int .i64 m, .int .i64 n] w (RetOwns w (winV m n)) := by
  by_cases h : inB m 0 6 = true ∧ inB n 0 6 = true
  · have hz : Hid (winV m n = winL m.toNat n.toNat) := if_pos h
    obtain ⟨h1, h2⟩ := h
    have g1 := inB_iff.1 h1
    have g2 := inB_iff.1 h2
    go_enter Try.func16, Try.ntmps16
    go_wp2_with (go_at_call 55; refine (spec_inRange _ _ _ _).mono ?_; rintro e w' ⟨rfl, rfl⟩)
    refine (spec_winCounts 12 m n _ g1.1 g1.2 g2.1 g2.2 (by omega)).mono ?_
    rintro e w1 ⟨v, rfl, ho, hb⟩
    go_wp2_with fail
    go_ret
    exact ⟨_, rfl, by rw [hz.out]; exact ho, hb⟩
  · have hz : Hid (winV m n = []) := if_neg h
    have hnil : ∀ (w1 : World), Owns w1 w.heap.size (.slice none 0 0) (winV m n) := fun w1 => by rw [hz.out]; exact Owns.nil _ _
    have HNil := Lib.hid hnil
    clear hnil
    cases h1 : inB m 0 6
    all_goals
      cases h2 : inB n 0 6
      all_goals first
        | (exfalso; exact h ⟨h1, h2⟩)
        | (clear h
           go_enter Try.func16, Try.ntmps16
           go_wp2_with (go_at_call 55; refine (spec_inRange _ _ _ _).mono ?_; rintro e w' ⟨rfl, rfl⟩)
           go_ret
           exact ⟨_, rfl, HNil.out _, Below.refl _ _⟩)
end Go.Proofs.Ytohdbbdolmgaaaa
