/-
  Contracts of mean, both packages.
-/
import Derived.Test.YtfnkeopkealkoaaLoads
import Derived.Test.YtfnkeopkealkoaaSum
import Derived.Test.YtfnkeopkealkoaaFrac
namespace Go.Proofs.Ytfnkeopkealkoaa
open Go.RowKit
set_option linter.unusedVariables false

def wUp (xs ws : List Int) (i q : Nat) : Int := sumTo (fun t => nth xs (i + t) * nth ws (i + t)) q
def wDn (ws : List Int) (i q : Nat) : Int := sumTo (fun t => nth ws (i + t)) q
def meanA (xs ws : List Int) (i k : Int) : Int := fracUp (wUp xs ws i.toNat (k + 1 - i).toNat) (wDn ws i.toNat (k + 1 - i).toNat)
def meanB (xs ws : List Int) (i k : Int) : Int := fracDown (wUp xs ws i.toNat (k + 1 - i).toNat) (wDn ws i.toNat (k + 1 - i).toNat)
theorem loads_of {xs ws : List Int} (h : loadsB xs ws = true) : 0 < xs.length ∧ xs.length = ws.length ∧ xs.length ≤ 8 ∧ (∀ j, j < xs.length → -30 ≤ nth xs j ∧ nth xs j ≤ 30) ∧ (∀ j, j < ws.length → 1 ≤ nth ws j ∧ nth ws j ≤ 5) := by
  unfold loadsB at h
  simp only [Bool.and_eq_true, decide_eq_true_eq] at h
  have h1 := inB_iff.1 h.1
  exact ⟨by omega, h.2.1, by omega, fun j hj => allB_nth h.2.2.1 j hj, fun j hj => allB_nth h.2.2.2 j hj⟩
theorem xw_bd (x y : Int) (h1 : -30 ≤ x ∧ x ≤ 30) (h2 : 1 ≤ y ∧ y ≤ 5) : -150 ≤ x * y ∧ x * y ≤ 150 := by
  have : y = 1 ∨ y = 2 ∨ y = 3 ∨ y = 4 ∨ y = 5 := by omega
  rcases this with h | h | h | h | h <;> subst h <;> omega
theorem wUp_bd (xs ws : List Int) (i q : Nat) (hx : ∀ j, j < q → -30 ≤ nth xs (i + j) ∧ nth xs (i + j) ≤ 30) (hw : ∀ j, j < q → 1 ≤ nth ws (i + j) ∧ nth ws (i + j) ≤ 5) : -(q * 150 : Int) ≤ wUp xs ws i q ∧ wUp xs ws i q ≤ q * 150 := by
  induction q with
  | zero => simp [wUp, sumTo]
  | succ q ih =>
    have h := ih (fun j hj => hx j (by omega)) (fun j hj => hw j (by omega))
    have h2 := xw_bd _ _ (hx q (by omega)) (hw q (by omega))
    have e : wUp xs ws i (q + 1) = wUp xs ws i q + nth xs (i + q) * nth ws (i + q) := rfl
    omega
theorem wDn_bd (ws : List Int) (i q : Nat) (hw : ∀ j, j < q → 1 ≤ nth ws (i + j) ∧ nth ws (i + j) ≤ 5) : (q : Int) ≤ wDn ws i q ∧ wDn ws i q ≤ q * 5 := by
  induction q with
  | zero => simp [wDn, sumTo]
  | succ q ih =>
    have h := ih (fun j hj => hw j (by omega))
    have h2 := hw q (by omega)
    have e : wDn ws i (q + 1) = wDn ws i q + nth ws (i + q) := rfl
    omega

set_option maxHeartbeats 1000000 in
theorem spec_mean (v : Value) (xs : List Int) (u : Value) (ws : List Int) (i k : Int) (w : World) (hr : Reads w v xs) (ks : Reads w u ws) (hv : loadsB xs ws = true) (h0 : 0 ≤ i) (h1 : i ≤ k) (h2 : k < xs.length) :
    Calls Try.prog 38 #[v, u, .int .i64 i, .int .i64 k] w fun e w' => e = .returned (.agg #[.int .i64 (meanA xs ws i k), .int .i64 (meanB xs ws i k)]) ∧ Below w.heap.size w w' := by
  obtain ⟨l1, l2, l3, bx, bw⟩ := loads_of hv
  have BX := Lib.hid bx
  have BW := Lib.hid bw
  have L2 := Lib.hid l2
  clear bx bw hv l2
  obtain ⟨ii, rfl⟩ := Int.eq_ofNat_of_zero_le h0
  obtain ⟨ao, cap, rfl, hl, hc, hcell⟩ := hr
  obtain ⟨bo, dap, rfl, kl, kc, kcell⟩ := ks
  rcases hcell with hE | ⟨b, o, rfl, hcell⟩
  · exfalso; rw [hE] at l1; simp at l1
  rcases kcell with hE | ⟨b2, o2, rfl, kcell⟩
  · exfalso; have := L2.out; rw [hE] at this; simp at this; rw [this] at l1; simp at l1
  have hb0 : Below w.heap.size w (w.alloc (.cells #[.int .i64 0, .int .i64 0] 24)) := (Below.refl _ _).alloc (Nat.le_refl _) _
  have c0 : (w.alloc (.cells #[.int .i64 0, .int .i64 0] 24)).cell? ⟨w.heap.size, 0, none⟩ = some (.int .i64 0) := by simp
  have c1 : (w.alloc (.cells #[.int .i64 0, .int .i64 0] 24)).cell? ⟨w.heap.size, 1, none⟩ = some (.int .i64 0) := by simp
  have sz : w.heap.size < (w.alloc (.cells #[.int .i64 0, .int .i64 0] 24)).heap.size := by simp
  have z0 : (w.alloc (.cells #[.int .i64 0, .int .i64 0] 24)).frozen? ⟨w.heap.size, 0, none⟩ = false := by simp
  have z1 : (w.alloc (.cells #[.int .i64 0, .int .i64 0] 24)).frozen? ⟨w.heap.size, 1, none⟩ = false := by simp
  go_enter Try.func38, Try.ntmps38
  go_wp2_with fail
  go_loopw [9, 10, 11] (fun x y j wr => ∃ q : Nat, (ii : Int) + q ≤ k + 1 ∧ j = .int .i64 ((ii : Int) + q) ∧ x = .int .i64 (wUp xs ws ii q) ∧ y = .int .i64 (wDn ws ii q) ∧ Below w.heap.size w wr ∧ wr.cell? ⟨w.heap.size, 0, none⟩ = some (.int .i64 0) ∧ wr.cell? ⟨w.heap.size, 1, none⟩ = some (.int .i64 0) ∧ w.heap.size < wr.heap.size ∧ wr.frozen? ⟨w.heap.size, 0, none⟩ = false ∧ wr.frozen? ⟨w.heap.size, 1, none⟩ = false) (fun _ _ j _ => (k + 1 - intOf j).toNat)
  case atStart => exact ⟨0, by omega, by simp, rfl, rfl, hb0, c0, c1, sz, z0, z1⟩
  case round =>
    clear hb0 c0 c1 sz z0 z1
    obtain ⟨q, hq, rfl, rfl, rfl, hbel, c0, c1, sz, z0, z1⟩ := hrel
    have B1 := wUp_bd xs ws ii q (fun j hj => BX.out (ii + j) (by omega)) (fun j hj => BW.out (ii + j) (by have := L2.out; omega))
    have B2 := wDn_bd ws ii q (fun j hj => BW.out (ii + j) (by have := L2.out; omega))
    by_cases hlt : (ii : Int) + q ≤ k
    · have hp : ii + q < xs.length := by omega
      have hp2 : ii + q < ws.length := by have := L2.out; omega
      have e1 := hcell (ii + q) hp
      have e2 := kcell (ii + q) hp2
      have ca : _ = _ := (hbel.cell (p := ⟨b, o + (ii + q), none⟩) (World.block_lt_of_cell? _ _ e1)).trans e1
      have cb : _ = _ := (hbel.cell (p := ⟨b2, o2 + (ii + q), none⟩) (World.block_lt_of_cell? _ _ e2)).trans e2
      have x1 := BX.out (ii + q) hp
      have x2 := BW.out (ii + q) hp2
      have xm := xw_bd (nth xs (ii + q)) (nth ws (ii + q)) x1 x2
      have S1 : Hid (wUp xs ws ii (q + 1) = wUp xs ws ii q + nth xs (ii + q) * nth ws (ii + q)) := rfl
      have S2 : Hid (wDn ws ii (q + 1) = wDn ws ii q + nth ws (ii + q)) := rfl
      have i1 : (ii : Int) + q < (xs.length : Int) := by omega
      have i2 : (ii : Int) + q < (ws.length : Int) := by omega
      have i3 : ((ii : Int) + q).toNat = ii + q := by omega
      clear e1 e2 hcell kcell
      go_wp2
      go_quiet (fail)
      go_wp2
      go_roundw
      case rel => exact ⟨q + 1, by omega, by go_num, by rw [S1.out] <;> (congr 1; omega), by rw [S2.out] <;> (congr 1; omega), below_dn hbel _, c0, c1, sz, z0, z1⟩
      case measure => simp [intOf]; omega
    · have hN : Hid (q = (k + 1 - ii).toNat) := by show _ = _; omega
      have hq1 : 1 ≤ q := by omega
      have g3 : ¬ wDn ws ii q = 0 := by omega
      have HA : Hid (meanA xs ws ii k = fracUp (wUp xs ws ii q) (wDn ws ii q)) := by show _ = _; unfold meanA; rw [← hN.out]; rfl
      have HB : Hid (meanB xs ws ii k = fracDown (wUp xs ws ii q) (wDn ws ii q)) := by show _ = _; unfold meanB; rw [← hN.out]; rfl
      clear hcell kcell
      go_wp2_with fail
      refine (spec_frac _ _ _ (by omega) (by omega) g3).mono ?_
      rintro e w1 ⟨rfl, hb1⟩
      obtain ⟨hc', hf⟩ := bcell hb1
      have q0 : w1.cell? ⟨w.heap.size, 0, none⟩ = some (.int .i64 0) := by rw [hc' _ _ sz]; exact c0
      have q1 : w1.cell? ⟨w.heap.size, 1, none⟩ = some (.int .i64 0) := by rw [hc' _ _ sz]; exact c1
      have y0 : w1.frozen? ⟨w.heap.size, 0, none⟩ = false := by rw [hf _ _ sz]; exact z0
      have y1 : w1.frozen? ⟨w.heap.size, 1, none⟩ = false := by rw [hf _ _ sz]; exact z1
      have hsz : w.heap.size < w1.heap.size := Nat.lt_of_lt_of_le sz hb1.size
      have hbw := hbel.trans (hb1.mono hbel.size)
      clear hc' hf c0 c1
      go_wp2_with fail
      have hp := pair_set (.int .i64 (fracUp (wUp xs ws ii q) (wDn ws ii q))) (.int .i64 (fracDown (wUp xs ws ii q) (wDn ws ii q))) q0 q1
      (try simp only [Exit.inBlock, Exit.then])
      refine bodyPost_ret (v := .agg #[.int .i64 (fracUp (wUp xs ws ii q) (wDn ws ii q)), .int .i64 (fracDown (wUp xs ws ii q) (wDn ws ii q))]) (by simp [results, Try.results38, go_sem, hp.1, hp.2]) rfl ⟨by rw [HA.out, HB.out], ?_⟩
      exact (hbw.setCell (p := ⟨w.heap.size, 0, none⟩) (Nat.le_refl _) _).setCell (p := ⟨w.heap.size, 1, none⟩) (Nat.le_refl _) _

set_option maxHeartbeats 1000000 in
theorem impl_mean (v : Value) (xs : List Int) (u : Value) (ws : List Int) (i k : Int) (w : World) (hr : Reads w v xs) (ks : Reads w u ws) (hv : loadsB xs ws = true) (h0 : 0 ≤ i) (h1 : i ≤ k) (h2 : k < xs.length) :
    Calls Try.prog 40 #[v, u, .int .i64 i, .int .i64 k] w fun e w' => e = .returned (.agg #[.int .i64 (meanA xs ws i k), .int .i64 (meanB xs ws i k)]) ∧ Below w.heap.size w w' := by
  obtain ⟨l1, l2, l3, bx, bw⟩ := loads_of hv
  have BX := Lib.hid bx
  have BW := Lib.hid bw
  have L2 := Lib.hid l2
  clear bx bw hv l2
  obtain ⟨ii, rfl⟩ := Int.eq_ofNat_of_zero_le h0
  obtain ⟨ao, cap, rfl, hl, hc, hcell⟩ := hr
  obtain ⟨bo, dap, rfl, kl, kc, kcell⟩ := ks
  rcases hcell with hE | ⟨b, o, rfl, hcell⟩
  · exfalso; rw [hE] at l1; simp at l1
  rcases kcell with hE | ⟨b2, o2, rfl, kcell⟩
  · exfalso; have := L2.out; rw [hE] at this; simp at this; rw [this] at l1; simp at l1
  have hb0 : Below w.heap.size w (w.alloc (.cells #[.int .i64 0, .int .i64 0] 24)) := (Below.refl _ _).alloc (Nat.le_refl _) _
  have c0 : (w.alloc (.cells #[.int .i64 0, .int .i64 0] 24)).cell? ⟨w.heap.size, 0, none⟩ = some (.int .i64 0) := by simp
  have c1 : (w.alloc (.cells #[.int .i64 0, .int .i64 0] 24)).cell? ⟨w.heap.size, 1, none⟩ = some (.int .i64 0) := by simp
  have sz : w.heap.size < (w.alloc (.cells #[.int .i64 0, .int .i64 0] 24)).heap.size := by simp
  have z0 : (w.alloc (.cells #[.int .i64 0, .int .i64 0] 24)).frozen? ⟨w.heap.size, 0, none⟩ = false := by simp
  have z1 : (w.alloc (.cells #[.int .i64 0, .int .i64 0] 24)).frozen? ⟨w.heap.size, 1, none⟩ = false := by simp
  go_enter Try.func40, Try.ntmps40
  go_wp2_with fail
  go_loopw [9, 10, 11] (fun x y j wr => ∃ q : Nat, (ii : Int) + q ≤ k + 1 ∧ j = .int .i64 ((ii : Int) + q) ∧ x = .int .i64 (wUp xs ws ii q) ∧ y = .int .i64 (wDn ws ii q) ∧ Below w.heap.size w wr ∧ wr.cell? ⟨w.heap.size, 0, none⟩ = some (.int .i64 0) ∧ wr.cell? ⟨w.heap.size, 1, none⟩ = some (.int .i64 0) ∧ w.heap.size < wr.heap.size ∧ wr.frozen? ⟨w.heap.size, 0, none⟩ = false ∧ wr.frozen? ⟨w.heap.size, 1, none⟩ = false) (fun _ _ j _ => (k + 1 - intOf j).toNat)
  case atStart => exact ⟨0, by omega, by simp, rfl, rfl, hb0, c0, c1, sz, z0, z1⟩
  case round =>
    clear hb0 c0 c1 sz z0 z1
    obtain ⟨q, hq, rfl, rfl, rfl, hbel, c0, c1, sz, z0, z1⟩ := hrel
    have B1 := wUp_bd xs ws ii q (fun j hj => BX.out (ii + j) (by omega)) (fun j hj => BW.out (ii + j) (by have := L2.out; omega))
    have B2 := wDn_bd ws ii q (fun j hj => BW.out (ii + j) (by have := L2.out; omega))
    by_cases hlt : (ii : Int) + q ≤ k
    · have hp : ii + q < xs.length := by omega
      have hp2 : ii + q < ws.length := by have := L2.out; omega
      have e1 := hcell (ii + q) hp
      have e2 := kcell (ii + q) hp2
      have ca : _ = _ := (hbel.cell (p := ⟨b, o + (ii + q), none⟩) (World.block_lt_of_cell? _ _ e1)).trans e1
      have cb : _ = _ := (hbel.cell (p := ⟨b2, o2 + (ii + q), none⟩) (World.block_lt_of_cell? _ _ e2)).trans e2
      have x1 := BX.out (ii + q) hp
      have x2 := BW.out (ii + q) hp2
      have xm := xw_bd (nth xs (ii + q)) (nth ws (ii + q)) x1 x2
      have S1 : Hid (wUp xs ws ii (q + 1) = wUp xs ws ii q + nth xs (ii + q) * nth ws (ii + q)) := rfl
      have S2 : Hid (wDn ws ii (q + 1) = wDn ws ii q + nth ws (ii + q)) := rfl
      have i1 : (ii : Int) + q < (xs.length : Int) := by omega
      have i2 : (ii : Int) + q < (ws.length : Int) := by omega
      have i3 : ((ii : Int) + q).toNat = ii + q := by omega
      clear e1 e2 hcell kcell
      go_wp2
      go_quiet (fail)
      go_wp2
      go_roundw
      case rel => exact ⟨q + 1, by omega, by go_num, by rw [S1.out] <;> (congr 1; omega), by rw [S2.out] <;> (congr 1; omega), below_dn hbel _, c0, c1, sz, z0, z1⟩
      case measure => simp [intOf]; omega
    · have hN : Hid (q = (k + 1 - ii).toNat) := by show _ = _; omega
      have hq1 : 1 ≤ q := by omega
      have g3 : ¬ wDn ws ii q = 0 := by omega
      have HA : Hid (meanA xs ws ii k = fracUp (wUp xs ws ii q) (wDn ws ii q)) := by show _ = _; unfold meanA; rw [← hN.out]; rfl
      have HB : Hid (meanB xs ws ii k = fracDown (wUp xs ws ii q) (wDn ws ii q)) := by show _ = _; unfold meanB; rw [← hN.out]; rfl
      clear hcell kcell
      go_wp2_with fail
      refine (impl_frac _ _ _ (by omega) (by omega) g3).mono ?_
      rintro e w1 ⟨rfl, hb1⟩
      obtain ⟨hc', hf⟩ := bcell hb1
      have q0 : w1.cell? ⟨w.heap.size, 0, none⟩ = some (.int .i64 0) := by rw [hc' _ _ sz]; exact c0
      have q1 : w1.cell? ⟨w.heap.size, 1, none⟩ = some (.int .i64 0) := by rw [hc' _ _ sz]; exact c1
      have y0 : w1.frozen? ⟨w.heap.size, 0, none⟩ = false := by rw [hf _ _ sz]; exact z0
      have y1 : w1.frozen? ⟨w.heap.size, 1, none⟩ = false := by rw [hf _ _ sz]; exact z1
      have hsz : w.heap.size < w1.heap.size := Nat.lt_of_lt_of_le sz hb1.size
      have hbw := hbel.trans (hb1.mono hbel.size)
      clear hc' hf c0 c1
      go_wp2_with fail
      have hp := pair_set (.int .i64 (fracUp (wUp xs ws ii q) (wDn ws ii q))) (.int .i64 (fracDown (wUp xs ws ii q) (wDn ws ii q))) q0 q1
      (try simp only [Exit.inBlock, Exit.then])
      refine bodyPost_ret (v := .agg #[.int .i64 (fracUp (wUp xs ws ii q) (wDn ws ii q)), .int .i64 (fracDown (wUp xs ws ii q) (wDn ws ii q))]) (by simp [results, Try.results40, go_sem, hp.1, hp.2]) rfl ⟨by rw [HA.out, HB.out], ?_⟩
      exact (hbw.setCell (p := ⟨w.heap.size, 0, none⟩) (Nat.le_refl _) _).setCell (p := ⟨w.heap.size, 1, none⟩) (Nat.le_refl _) _
end Go.Proofs.Ytfnkeopkealkoaa
