/-
  Contracts of both RunCount.
-/
import Derived.Test.YtohdbbdolmgaaaaRuns
namespace Go.Proofs.Ytohdbbdolmgaaaa
open Go.RowKit

theorem binI_bd5 (n k : Int) (_h0 : 0 ≤ n) (h : n ≤ 5) : 0 ≤ binI n k ∧ binI n k ≤ 32 := by
  refine ⟨binI_nonneg n k, ?_⟩
  unfold binI
  split
  · omega
  · have := bin_le n.toNat k.toNat
    have h2 : (2 : Nat) ^ n.toNat ≤ 2 ^ 5 := two_pow_le (by omega)
    have h3 : (2 : Nat) ^ 5 = 32 := by decide
    omega
/-- One more, or not. -/
def addI (x : Int) (b : Bool) : Int := if b = true then x + 1 else x
theorem addI_le (x : Int) (b : Bool) : x ≤ addI x b ∧ addI x b ≤ x + 1 := by unfold addI; split <;> omega

set_option maxHeartbeats 1000000 in
theorem run_clos (g N c0 c1 : Nat) (f : Nat → Bool) (r x : Int) (w : World) (hrow : BoolRow w g N f) (hN1 : 1 ≤ N) (hN2 : N ≤ 12)
    (hr : w.cell? ⟨c0, 0, none⟩ = some (.int .i64 r)) (hx : w.cell? ⟨c1, 0, none⟩ = some (.int .i64 x)) (hfree : w.frozen? ⟨c1, 0, none⟩ = false) (hx0 : 0 ≤ x) (hx1 : x ≤ 100000) :
    Calls Try.prog 70 #[.slice (some ⟨g, 0, none⟩) N N, .pointer (some ⟨c0, 0, none⟩), .pointer (some ⟨c1, 0, none⟩)] w fun e w' =>
      e = .returned (.tuple #[]) ∧ (w'.cell? ⟨c1, 0, none⟩ = some (.int .i64 (addI x (((rn f N : Nat) : Int) == r))) ∧ w'.frozen? ⟨c1, 0, none⟩ = false ∧ w.grownBy w' (some c1)) := by
  go_enter Try.func70, Try.ntmps70
  go_wp2
  go_loopw [4, 5] (fun o i wr => ∃ k : Nat, 1 ≤ k ∧ k ≤ N ∧ i = .int .i64 k ∧ o = .int .i64 (rn f k) ∧ Below w.heap.size w wr) (fun _ i _ => N - (intOf i).toNat)
  case atStart => exact ⟨1, by omega, hN1, rfl, rfl, Below.refl _ _⟩
  case round =>
    obtain ⟨k, hk1, hk2, rfl, rfl, hbel⟩ := hrel
    obtain ⟨j, hj⟩ : ∃ j, k = j + 1 := ⟨k - 1, by omega⟩
    have hrl := (rn_le f j).2
    rw [← hj] at hrl
    clear hj
    by_cases hlt : k < N
    · have h1 := hrow.1 k hlt
      have h2 := hrow.1 (k - 1) (by omega)
      have g1 := World.block_lt_of_cell? _ _ h1
      have g2 := World.block_lt_of_cell? _ _ h2
      have ca : wr.cell? ⟨g, k, none⟩ = some (.bool (f k)) := (hbel.cell (p := ⟨g, k, none⟩) g1).trans h1
      have cb : wr.cell? ⟨g, k - 1, none⟩ = some (.bool (f (k - 1))) := (hbel.cell (p := ⟨g, k - 1, none⟩) g2).trans h2
      have hs := rn_succ f k hk1
      have i1 : (k : Int) < (N : Int) := by omega
      have i2 : (k : Int) - 1 < (N : Int) := by omega
      clear h1 h2 g1 g2
      cases fa : f k
      all_goals
        cases fb : f (k - 1)
        all_goals
          rw [fa] at ca
          rw [fb] at cb
          rw [fa, fb] at hs
          have HS := Lib.hid hs
          have FA := Lib.hid fa
          have FB := Lib.hid fb
          clear hs fa fb
          go_wp2
          go_quiet (fail)
          go_wp2
          go_roundw
          case rel => exact ⟨k + 1, by omega, by omega, by go_num, by rw [HS.out]; rfl, below_dn hbel _⟩
          case measure => simp [intOf]; omega
    · have hkN : k = N := by omega
      subst hkN
      have g1 := World.block_lt_of_cell? _ _ hr
      have g2 := World.block_lt_of_cell? _ _ hx
      have cr : wr.cell? ⟨c0, 0, none⟩ = some (.int .i64 r) := (hbel.cell (p := ⟨c0, 0, none⟩) g1).trans hr
      have cx : wr.cell? ⟨c1, 0, none⟩ = some (.int .i64 x) := (hbel.cell (p := ⟨c1, 0, none⟩) g2).trans hx
      have cf : wr.frozen? ⟨c1, 0, none⟩ = false := (hbel.frozen (p := ⟨c1, 0, none⟩) g2).trans hfree
      have hgr := grownBy_of_below hbel (some c1)
      by_cases he : ((rn f k : Nat) : Int) = r
      · have he' : (((rn f k : Nat) : Int) == r) = true := by simp [he]
        have hset := World.cell?_setCell_same wr ⟨c1, 0, none⟩ (.int .i64 (x + 1)) cx
        have hfr : (wr.setCell ⟨c1, 0, none⟩ (.int .i64 (x + 1))).frozen? ⟨c1, 0, none⟩ = false := by rw [World.frozen?_setCell]; exact cf
        have hg2 := grownBy_set hgr 0 (.int .i64 (x + 1))
        clear he hrow hr hx hfree hgr hbel g1 g2
        go_wp2
        go_end0
        exact ⟨rfl, by rw [he']; exact hset, hfr, hg2⟩
      · have he' : (((rn f k : Nat) : Int) == r) = false := by simp [he]
        clear he hrow hr hx hfree hbel g1 g2
        go_wp2
        go_end0
        exact ⟨rfl, by rw [he']; exact cx, cf, hgr⟩

/-- What holds behind k sets. -/
def RunInv (w : World) (c0 c1 N : Nat) (m r : Int) (k : Nat) (wr : World) : Prop :=
  wr.cell? ⟨c1, 0, none⟩ = some (.int .i64 (sumTo (runI N m r) k)) ∧ wr.frozen? ⟨c1, 0, none⟩ = false ∧ wr.cell? ⟨c0, 0, none⟩ = some (.int .i64 r) ∧ w.grownBy wr (some c1)
theorem runI_bd (N : Nat) (m r : Int) (k : Nat) : 0 ≤ sumTo (runI N m r) k ∧ sumTo (runI N m r) k ≤ k := by
  have := sumTo_bd (runI N m r) 1 k (fun j _ => by unfold runI; split <;> omega)
  omega
theorem runI_next (N : Nat) (m r : Int) (k : Nat) (h : ((popc N k : Nat) : Int) = m) : sumTo (runI N m r) (k + 1) = addI (sumTo (runI N m r) k) (((rn (bitB k) N : Nat) : Int) == r) := by
  rw [sumTo_succ]; unfold runI addI
  by_cases e : ((rn (bitB k) N : Nat) : Int) = r
  · rw [if_pos ⟨h, e⟩, if_pos (by simpa using e)]
  · rw [if_neg (fun x => e x.2), if_neg (by simpa using e), Int.add_zero]
theorem runI_skip (N : Nat) (m r : Int) (k : Nat) (h : ¬ ((popc N k : Nat) : Int) = m) : sumTo (runI N m r) (k + 1) = sumTo (runI N m r) k := by
  rw [sumTo_succ]; unfold runI
  rw [if_neg (fun x => h x.1), Int.add_zero]

theorem runF_bd (m n r : Int) (hm : 1 ≤ m ∧ m ≤ 6) (hn : 1 ≤ n ∧ n ≤ 6) (hr : 1 ≤ r) : 0 ≤ runF m n r ∧ runF m n r ≤ 4096 := by
  have h := runI_bd (m + n).toNat m r (2 ^ (m + n).toNat)
  rw [run_total m n r hm hn hr] at h
  have h2 : 2 ^ (m + n).toNat ≤ 2 ^ 12 := Nat.pow_le_pow_right (by omega) (by omega)
  have h3 : 2 ^ 12 = 4096 := by decide
  omega

set_option maxHeartbeats 1000000 in
theorem impl_RunCount (m n r : Int) (w : World) :
    Calls Try.prog 35 #[.int .i64 m, .int .i64 n, .int .i64 r] w fun e w' => e = .returned (.int .i64 (runV m n r)) ∧ Below w.heap.size w w' := by
  have hb1 : Below w.heap.size w (w.alloc (.cells #[.int .i64 r] 3)) := (Below.refl _ _).alloc (Nat.le_refl _) _
  by_cases h : inB m 1 6 = true ∧ inB n 1 6 = true ∧ 1 ≤ r
  · have hz : Hid (runV m n r = runF m n r) := if_pos h
    obtain ⟨h1, h2, h3⟩ := h
    have g1 := inB_iff.1 h1
    have g2 := inB_iff.1 h2
    have h4 : ¬ r < 1 := by omega
    have HT := Lib.hid (run_total m n r g1 g2 h3)
    have hN : (m + n).toNat ≤ 12 := by omega
    go_enter Try.func35, Try.ntmps35
    go_wp2_with (go_at_call 52; refine (impl_in _ _ _ _).mono ?_; rintro e w' ⟨rfl, rfl⟩)
    have hb2 : Below w.heap.size w ((w.alloc (.cells #[.int .i64 r] 3)).alloc (.cells #[.int .i64 0] 3)) := hb1.alloc (by simp) _
    obtain ⟨wA, hwA⟩ : ∃ wA, wA = (w.alloc (.cells #[.int .i64 r] 3)).alloc (.cells #[.int .i64 0] 3) := ⟨_, rfl⟩
    have k0 : RunInv wA w.heap.size (w.heap.size + 1) (m + n).toNat m r 0 wA := by
      subst hwA
      refine ⟨by simp [go_sem, sumTo], by simp [go_sem], by simp [go_sem], World.grownBy.refl _ _⟩
    have hsz : w.heap.size + 2 ≤ wA.heap.size := by subst hwA; simp
    rw [← hwA] at hb2
    rw [← hwA]
    clear hwA
    refine (letters_run m n w.heap.size (w.heap.size + 1) (RunInv wA w.heap.size (w.heap.size + 1) (m + n).toNat m r) wA ⟨by omega, by omega⟩ ⟨by omega, by omega⟩ ?hstab ?hno ?hyes k0).mono ?_
    case hstab =>
      intro k w1 w2 hI hb
      obtain ⟨i1, i2, i3, i4⟩ := hI
      have l1 := World.block_lt_of_cell? _ _ i1
      have l3 := World.block_lt_of_cell? _ _ i3
      exact ⟨(hb.cell (p := ⟨w.heap.size + 1, 0, none⟩) l1).trans i1, (hb.frozen (p := ⟨w.heap.size + 1, 0, none⟩) l1).trans i2, (hb.cell (p := ⟨w.heap.size, 0, none⟩) l3).trans i3, grownBy_trans i4 (grownBy_of_below hb _)⟩
    case hno =>
      intro k w1 hk hI hp
      obtain ⟨i1, i2, i3, i4⟩ := hI
      exact ⟨by rw [runI_skip _ _ _ _ hp]; exact i1, i2, i3, i4⟩
    case hyes =>
      intro k w1 g hk hI hrow hp
      obtain ⟨i1, i2, i3, i4⟩ := hI
      have bd := runI_bd (m + n).toNat m r k
      have hk2 : 2 ^ (m + n).toNat ≤ 2 ^ 12 := Nat.pow_le_pow_right (by omega) hN
      have hk3 : 2 ^ 12 = 4096 := by decide
      refine (run_clos g (m + n).toNat w.heap.size (w.heap.size + 1) (bitB k) r _ w1 hrow (by omega) hN i3 i1 i2 bd.1 (by omega)).mono ?_
      rintro e w2 ⟨rfl, j1, j2, j3⟩
      exact ⟨rfl, ⟨by rw [runI_next _ _ _ _ hp]; exact j1, j2, grownBy_cell j3 i3 (by simp), grownBy_trans i4 j3⟩, j3.size⟩
    rintro e w3 ⟨rfl, hI⟩
    obtain ⟨i1, i2, i3, i4⟩ := hI
    rw [HT.out] at i1
    have hb3 : Below w.heap.size w w3 := hb2.grown i4 (by omega) (fun j hj => by injection hj; omega)
    clear i2 i3 i4
    go_wp2
    go_ret
    exact ⟨ret_int hz.out.symm, hb3⟩
  · have hz : Hid (runV m n r = -1) := if_neg h
    cases h1 : inB m 1 6
    all_goals
      cases h2 : inB n 1 6
      all_goals
        by_cases h3 : r < 1
        all_goals first
          | (exfalso; exact h ⟨h1, h2, by omega⟩)
          | (clear h
             go_enter Try.func35, Try.ntmps35
             go_wp2_with (go_at_call 52; refine (impl_in _ _ _ _).mono ?_; rintro e w' ⟨rfl, rfl⟩)
             go_ret
             exact ⟨ret_int hz.out.symm, hb1⟩)

set_option maxHeartbeats 1000000 in
theorem spec_RunCount (m n r : Int) (w : World) :
    Calls Try.prog 36 #[.int .i64 m, .int .i64 n, .int .i64 r] w fun e w' => e = .returned (.int .i64 (runV m n r)) ∧ w = w' := by
  by_cases h : inB m 1 6 = true ∧ inB n 1 6 = true ∧ 1 ≤ r
  · have hz : Hid (runV m n r = runF m n r) := if_pos h
    obtain ⟨h1, h2, h3⟩ := h
    have g1 := inB_iff.1 h1
    have g2 := inB_iff.1 h2
    have h4 : ¬ r < 1 := by omega
    have bd := runF_bd m n r g1 g2 h3
    have c1 := binI_bd5 (m - 1) (r / 2) (by omega) (by omega)
    have c2 := binI_bd5 (m - 1) (r / 2 - 1) (by omega) (by omega)
    have c3 := binI_bd5 (n - 1) (r / 2) (by omega) (by omega)
    have c4 := binI_bd5 (n - 1) (r / 2 - 1) (by omega) (by omega)
    have p1 := mul_bd (2 * binI (m - 1) (r / 2 - 1)) (binI (n - 1) (r / 2 - 1)) 64 32 (by omega) (by omega) (by omega) (by omega)
    have p2 := mul_bd (binI (m - 1) (r / 2)) (binI (n - 1) (r / 2 - 1)) 32 32 (by omega) (by omega) (by omega) (by omega)
    have p3 := mul_bd (binI (m - 1) (r / 2 - 1)) (binI (n - 1) (r / 2)) 32 32 (by omega) (by omega) (by omega) (by omega)
    by_cases hbig : m + n < r
    · have hv : Hid (runF m n r = 0) := if_pos hbig
      clear bd p1 p2 p3 c1 c2 c3 c4
      go_enter Try.func36, Try.ntmps36
      go_wp2_with (go_at_call 55; refine (spec_inRange _ _ _ _).mono ?_; rintro e w' ⟨rfl, rfl⟩)
      go_ret
      exact ⟨ret_int (by rw [hz.out, hv.out]), rfl⟩
    · by_cases heven : r % 2 = 0
      · have hv : Hid (runF m n r = 2 * binI (m - 1) (r / 2 - 1) * binI (n - 1) (r / 2 - 1)) := by show _ = _; unfold runF; rw [if_neg hbig, if_pos heven]
        have hev : (r % 2 == 0) = true := by simp [heven]
        clear heven bd
        go_enter Try.func36, Try.ntmps36
        go_wp2_with (first | (go_at_call 55; refine (spec_inRange _ _ _ _).mono ?_; rintro e w' ⟨rfl, rfl⟩) | (go_at_call 63; refine (spec_choose _ _ _ (by omega) (by omega)).mono ?_; rintro e w' ⟨rfl, rfl⟩))
        go_ret
        exact ⟨ret_int (by rw [hz.out, hv.out]), rfl⟩
      · have hv : Hid (runF m n r = binI (m - 1) (r / 2) * binI (n - 1) (r / 2 - 1) + binI (m - 1) (r / 2 - 1) * binI (n - 1) (r / 2)) := by show _ = _; unfold runF; rw [if_neg hbig, if_neg heven]
        have hev : (r % 2 == 0) = false := by simp [heven]
        clear heven bd
        go_enter Try.func36, Try.ntmps36
        go_wp2_with (first | (go_at_call 55; refine (spec_inRange _ _ _ _).mono ?_; rintro e w' ⟨rfl, rfl⟩) | (go_at_call 63; refine (spec_choose _ _ _ (by omega) (by omega)).mono ?_; rintro e w' ⟨rfl, rfl⟩))
        go_ret
        exact ⟨ret_int (by rw [hz.out, hv.out]), rfl⟩
  · have hz : Hid (runV m n r = -1) := if_neg h
    cases h1 : inB m 1 6
    all_goals
      cases h2 : inB n 1 6
      all_goals
        by_cases h3 : r < 1
        all_goals first
          | (exfalso; exact h ⟨h1, h2, by omega⟩)
          | (clear h
             go_enter Try.func36, Try.ntmps36
             go_wp2_with (go_at_call 55; refine (spec_inRange _ _ _ _).mono ?_; rintro e w' ⟨rfl, rfl⟩)
             go_ret
             exact ⟨ret_int hz.out.symm, rfl⟩)
end Go.Proofs.Ytohdbbdolmgaaaa
