/-
  Contracts of MeanOf, both packages.
-/
import Derived.Test.YtfnkeopkealkoaaMean
namespace Go.Proofs.Ytfnkeopkealkoaa
open Go.RowKit
set_option linter.unusedVariables false

def meanOk (xs ws : List Int) (i k : Int) : Bool := loadsB xs ws && (inB i 0 ((xs.length : Int) - 1) && inB k i ((xs.length : Int) - 1))
def mA (xs ws : List Int) (i k : Int) : Int := if meanOk xs ws i k = true then meanA xs ws i k else 0
def mB (xs ws : List Int) (i k : Int) : Int := if meanOk xs ws i k = true then meanB xs ws i k else 0
def meanV (xs ws : List Int) (i k : Int) : Value := .tuple #[.agg #[.int .i64 (mA xs ws i k), .int .i64 (mB xs ws i k)], .bool (meanOk xs ws i k)]
theorem meanV_yes {xs ws : List Int} {i k : Int} (h : meanOk xs ws i k = true) : Ending.returned (meanV xs ws i k) = .returned (.tuple #[.agg #[.int .i64 (meanA xs ws i k), .int .i64 (meanB xs ws i k)], .bool true]) := by
  unfold meanV mA mB; rw [if_pos h, if_pos h, h]
theorem meanV_no {xs ws : List Int} {i k : Int} (h : meanOk xs ws i k = false) : Ending.returned (meanV xs ws i k) = .returned (.tuple #[.agg #[.int .i64 0, .int .i64 0], .bool false]) := by
  unfold meanV mA mB; rw [if_neg (by rw [h]; simp), if_neg (by rw [h]; simp), h]

set_option maxHeartbeats 1000000 in
theorem spec_MeanOf (v : Value) (xs : List Int) (u : Value) (ws : List Int) (i k : Int) (w : World) (hr : Reads w v xs) (ks : Reads w u ws) :
    Calls Try.prog 11 #[v, u, .int .i64 i, .int .i64 k] w fun e w' => e = .returned (meanV xs ws i k) ∧ Below w.heap.size w w' := by
  have hal : Below w.heap.size w (w.alloc (.cells #[.int .i64 0, .int .i64 0] 24)) := (Below.refl _ _).alloc (Nat.le_refl _) _
  have c0_a : (w.alloc (.cells #[.int .i64 0, .int .i64 0] 24)).cell? ⟨w.heap.size, 0, none⟩ = some (.int .i64 0) := by simp
  have c1_a : (w.alloc (.cells #[.int .i64 0, .int .i64 0] 24)).cell? ⟨w.heap.size, 1, none⟩ = some (.int .i64 0) := by simp
  have z0_a : (w.alloc (.cells #[.int .i64 0, .int .i64 0] 24)).frozen? ⟨w.heap.size, 0, none⟩ = false := by simp
  have z1_a : (w.alloc (.cells #[.int .i64 0, .int .i64 0] 24)).frozen? ⟨w.heap.size, 1, none⟩ = false := by simp
  have sz_a : w.heap.size < (w.alloc (.cells #[.int .i64 0, .int .i64 0] 24)).heap.size := by simp
  have hle := hr.le
  cases h1 : loadsB xs ws
  · have hz := Lib.hid (meanV_no (xs := xs) (ws := ws) (i := i) (k := k) (by unfold meanOk; rw [h1]; rfl))
    go_enter Try.func11, Try.ntmps11
    go_wp2_with fail
    refine (spec_validLoads _ xs _ ws _ (hr.keep hal) (ks.keep hal)).mono ?_; rintro e w1 ⟨rfl, hX⟩
    have hb1 : Below (w.alloc (.cells #[.int .i64 0, .int .i64 0] 24)).heap.size (w.alloc (.cells #[.int .i64 0, .int .i64 0] 24)) w1 := by rw [← hX]; exact Below.refl _ _
    clear hX
    have c0_w1 : w1.cell? ⟨w.heap.size, 0, none⟩ = some (.int .i64 0) := by rw [(bcell hb1).1 _ _ sz_a]; exact c0_a
    have c1_w1 : w1.cell? ⟨w.heap.size, 1, none⟩ = some (.int .i64 0) := by rw [(bcell hb1).1 _ _ sz_a]; exact c1_a
    have z0_w1 : w1.frozen? ⟨w.heap.size, 0, none⟩ = false := by rw [(bcell hb1).2 _ _ sz_a]; exact z0_a
    have z1_w1 : w1.frozen? ⟨w.heap.size, 1, none⟩ = false := by rw [(bcell hb1).2 _ _ sz_a]; exact z1_a
    have sz_w1 : w.heap.size < w1.heap.size := Nat.lt_of_lt_of_le sz_a hb1.size
    have q1 := hal.trans (hb1.mono hal.size)
    have r1 := (hr.keep hal).keep hb1
    have k1 := (ks.keep hal).keep hb1
    clear hb1 c0_a c1_a z0_a z1_a hal
    go_wp2_with fail
    have hp := pair_set (.int .i64 0) (.int .i64 0) c0_w1 c1_w1
    refine bodyPost_ret (v := .tuple #[.agg #[.int .i64 0, .int .i64 0], .bool false]) (by simp [results, Try.results11, go_sem, hp.1, hp.2]) rfl ⟨hz.out.symm, ?_⟩
    exact (q1.setCell (p := ⟨w.heap.size, 0, none⟩) (Nat.le_refl _) _).setCell (p := ⟨w.heap.size, 1, none⟩) (Nat.le_refl _) _
  obtain ⟨l1, l2, l3, _, _⟩ := loads_of h1
  have hr' := hr
  obtain ⟨ao, cap, rfl, hl, hc, hcell⟩ := hr'
  clear hcell
  cases h2 : inB i 0 ((xs.length : Int) - 1)
  · have hz := Lib.hid (meanV_no (xs := xs) (ws := ws) (i := i) (k := k) (by unfold meanOk; rw [h2]; simp))
    clear l2
    go_enter Try.func11, Try.ntmps11
    go_wp2_with fail
    refine (spec_validLoads _ xs _ ws _ (hr.keep hal) (ks.keep hal)).mono ?_; rintro e w1 ⟨rfl, hX⟩
    have hb1 : Below (w.alloc (.cells #[.int .i64 0, .int .i64 0] 24)).heap.size (w.alloc (.cells #[.int .i64 0, .int .i64 0] 24)) w1 := by rw [← hX]; exact Below.refl _ _
    clear hX
    have c0_w1 : w1.cell? ⟨w.heap.size, 0, none⟩ = some (.int .i64 0) := by rw [(bcell hb1).1 _ _ sz_a]; exact c0_a
    have c1_w1 : w1.cell? ⟨w.heap.size, 1, none⟩ = some (.int .i64 0) := by rw [(bcell hb1).1 _ _ sz_a]; exact c1_a
    have z0_w1 : w1.frozen? ⟨w.heap.size, 0, none⟩ = false := by rw [(bcell hb1).2 _ _ sz_a]; exact z0_a
    have z1_w1 : w1.frozen? ⟨w.heap.size, 1, none⟩ = false := by rw [(bcell hb1).2 _ _ sz_a]; exact z1_a
    have sz_w1 : w.heap.size < w1.heap.size := Nat.lt_of_lt_of_le sz_a hb1.size
    have q1 := hal.trans (hb1.mono hal.size)
    have r1 := (hr.keep hal).keep hb1
    have k1 := (ks.keep hal).keep hb1
    clear hb1 c0_a c1_a z0_a z1_a hal
    go_wp2_with fail
    refine (spec_inRange _ _ _ _).mono ?_; rintro e w' ⟨rfl, rfl⟩
    go_wp2_with fail
    have hp := pair_set (.int .i64 0) (.int .i64 0) c0_w1 c1_w1
    refine bodyPost_ret (v := .tuple #[.agg #[.int .i64 0, .int .i64 0], .bool false]) (by simp [results, Try.results11, go_sem, hp.1, hp.2]) rfl ⟨hz.out.symm, ?_⟩
    exact (q1.setCell (p := ⟨w.heap.size, 0, none⟩) (Nat.le_refl _) _).setCell (p := ⟨w.heap.size, 1, none⟩) (Nat.le_refl _) _
  cases h3 : inB k i ((xs.length : Int) - 1)
  · have hz := Lib.hid (meanV_no (xs := xs) (ws := ws) (i := i) (k := k) (by unfold meanOk; rw [h3]; simp))
    clear l2
    go_enter Try.func11, Try.ntmps11
    go_wp2_with fail
    refine (spec_validLoads _ xs _ ws _ (hr.keep hal) (ks.keep hal)).mono ?_; rintro e w1 ⟨rfl, hX⟩
    have hb1 : Below (w.alloc (.cells #[.int .i64 0, .int .i64 0] 24)).heap.size (w.alloc (.cells #[.int .i64 0, .int .i64 0] 24)) w1 := by rw [← hX]; exact Below.refl _ _
    clear hX
    have c0_w1 : w1.cell? ⟨w.heap.size, 0, none⟩ = some (.int .i64 0) := by rw [(bcell hb1).1 _ _ sz_a]; exact c0_a
    have c1_w1 : w1.cell? ⟨w.heap.size, 1, none⟩ = some (.int .i64 0) := by rw [(bcell hb1).1 _ _ sz_a]; exact c1_a
    have z0_w1 : w1.frozen? ⟨w.heap.size, 0, none⟩ = false := by rw [(bcell hb1).2 _ _ sz_a]; exact z0_a
    have z1_w1 : w1.frozen? ⟨w.heap.size, 1, none⟩ = false := by rw [(bcell hb1).2 _ _ sz_a]; exact z1_a
    have sz_w1 : w.heap.size < w1.heap.size := Nat.lt_of_lt_of_le sz_a hb1.size
    have q1 := hal.trans (hb1.mono hal.size)
    have r1 := (hr.keep hal).keep hb1
    have k1 := (ks.keep hal).keep hb1
    clear hb1 c0_a c1_a z0_a z1_a hal
    go_wp2_with fail
    refine (spec_inRange _ _ _ _).mono ?_; rintro e w' ⟨rfl, rfl⟩
    go_wp2_with fail
    refine (spec_inRange _ _ _ _).mono ?_; rintro e w' ⟨rfl, rfl⟩
    go_wp2_with fail
    have hp := pair_set (.int .i64 0) (.int .i64 0) c0_w1 c1_w1
    refine bodyPost_ret (v := .tuple #[.agg #[.int .i64 0, .int .i64 0], .bool false]) (by simp [results, Try.results11, go_sem, hp.1, hp.2]) rfl ⟨hz.out.symm, ?_⟩
    exact (q1.setCell (p := ⟨w.heap.size, 0, none⟩) (Nat.le_refl _) _).setCell (p := ⟨w.heap.size, 1, none⟩) (Nat.le_refl _) _
  have b2 := inB_iff.1 h2
  have b3 := inB_iff.1 h3
  have hz := Lib.hid (meanV_yes (xs := xs) (ws := ws) (i := i) (k := k) (by unfold meanOk; rw [h1, h2, h3]; rfl))
  clear l2
  go_enter Try.func11, Try.ntmps11
  go_wp2_with fail
  refine (spec_validLoads _ xs _ ws _ (hr.keep hal) (ks.keep hal)).mono ?_; rintro e w1 ⟨rfl, hX⟩
  have hb1 : Below (w.alloc (.cells #[.int .i64 0, .int .i64 0] 24)).heap.size (w.alloc (.cells #[.int .i64 0, .int .i64 0] 24)) w1 := by rw [← hX]; exact Below.refl _ _
  clear hX
  have c0_w1 : w1.cell? ⟨w.heap.size, 0, none⟩ = some (.int .i64 0) := by rw [(bcell hb1).1 _ _ sz_a]; exact c0_a
  have c1_w1 : w1.cell? ⟨w.heap.size, 1, none⟩ = some (.int .i64 0) := by rw [(bcell hb1).1 _ _ sz_a]; exact c1_a
  have z0_w1 : w1.frozen? ⟨w.heap.size, 0, none⟩ = false := by rw [(bcell hb1).2 _ _ sz_a]; exact z0_a
  have z1_w1 : w1.frozen? ⟨w.heap.size, 1, none⟩ = false := by rw [(bcell hb1).2 _ _ sz_a]; exact z1_a
  have sz_w1 : w.heap.size < w1.heap.size := Nat.lt_of_lt_of_le sz_a hb1.size
  have q1 := hal.trans (hb1.mono hal.size)
  have r1 := (hr.keep hal).keep hb1
  have k1 := (ks.keep hal).keep hb1
  clear hb1 c0_a c1_a z0_a z1_a hal
  go_wp2_with fail
  refine (spec_inRange _ _ _ _).mono ?_; rintro e w' ⟨rfl, rfl⟩
  go_wp2_with fail
  refine (spec_inRange _ _ _ _).mono ?_; rintro e w' ⟨rfl, rfl⟩
  go_wp2_with fail
  refine (spec_mean _ xs _ ws i k w1 r1 k1 h1 (by omega) (by omega) (by omega)).mono ?_
  rintro e w2 ⟨rfl, hb2⟩
  have c0_w2 : w2.cell? ⟨w.heap.size, 0, none⟩ = some (.int .i64 0) := by rw [(bcell hb2).1 _ _ sz_w1]; exact c0_w1
  have c1_w2 : w2.cell? ⟨w.heap.size, 1, none⟩ = some (.int .i64 0) := by rw [(bcell hb2).1 _ _ sz_w1]; exact c1_w1
  have z0_w2 : w2.frozen? ⟨w.heap.size, 0, none⟩ = false := by rw [(bcell hb2).2 _ _ sz_w1]; exact z0_w1
  have z1_w2 : w2.frozen? ⟨w.heap.size, 1, none⟩ = false := by rw [(bcell hb2).2 _ _ sz_w1]; exact z1_w1
  have sz_w2 : w.heap.size < w2.heap.size := Nat.lt_of_lt_of_le sz_w1 hb2.size
  have q2 := q1.trans (hb2.mono q1.size)
  clear hb2 c0_w1 c1_w1 z0_w1 z1_w1
  go_wp2_with fail
  have hp := pair_set (.int .i64 (meanA xs ws i k)) (.int .i64 (meanB xs ws i k)) c0_w2 c1_w2
  refine bodyPost_ret (v := .tuple #[.agg #[.int .i64 (meanA xs ws i k), .int .i64 (meanB xs ws i k)], .bool true]) (by simp [results, Try.results11, go_sem, hp.1, hp.2]) rfl ⟨hz.out.symm, ?_⟩
  exact (q2.setCell (p := ⟨w.heap.size, 0, none⟩) (Nat.le_refl _) _).setCell (p := ⟨w.heap.size, 1, none⟩) (Nat.le_refl _) _

set_option maxHeartbeats 1000000 in
theorem impl_MeanOf (v : Value) (xs : List Int) (u : Value) (ws : List Int) (i k : Int) (w : World) (hr : Reads w v xs) (ks : Reads w u ws) :
    Calls Try.prog 13 #[v, u, .int .i64 i, .int .i64 k] w fun e w' => e = .returned (meanV xs ws i k) ∧ Below w.heap.size w w' := by
  have hal : Below w.heap.size w (w.alloc (.cells #[.int .i64 0, .int .i64 0] 24)) := (Below.refl _ _).alloc (Nat.le_refl _) _
  have c0_a : (w.alloc (.cells #[.int .i64 0, .int .i64 0] 24)).cell? ⟨w.heap.size, 0, none⟩ = some (.int .i64 0) := by simp
  have c1_a : (w.alloc (.cells #[.int .i64 0, .int .i64 0] 24)).cell? ⟨w.heap.size, 1, none⟩ = some (.int .i64 0) := by simp
  have z0_a : (w.alloc (.cells #[.int .i64 0, .int .i64 0] 24)).frozen? ⟨w.heap.size, 0, none⟩ = false := by simp
  have z1_a : (w.alloc (.cells #[.int .i64 0, .int .i64 0] 24)).frozen? ⟨w.heap.size, 1, none⟩ = false := by simp
  have sz_a : w.heap.size < (w.alloc (.cells #[.int .i64 0, .int .i64 0] 24)).heap.size := by simp
  have hle := hr.le
  cases h1 : loadsB xs ws
  · have hz := Lib.hid (meanV_no (xs := xs) (ws := ws) (i := i) (k := k) (by unfold meanOk; rw [h1]; rfl))
    go_enter Try.func13, Try.ntmps13
    go_wp2_with fail
    refine (impl_ValidLoads _ xs _ ws _ (hr.keep hal) (ks.keep hal)).mono ?_; rintro e w1 ⟨rfl, hb1⟩
    have c0_w1 : w1.cell? ⟨w.heap.size, 0, none⟩ = some (.int .i64 0) := by rw [(bcell hb1).1 _ _ sz_a]; exact c0_a
    have c1_w1 : w1.cell? ⟨w.heap.size, 1, none⟩ = some (.int .i64 0) := by rw [(bcell hb1).1 _ _ sz_a]; exact c1_a
    have z0_w1 : w1.frozen? ⟨w.heap.size, 0, none⟩ = false := by rw [(bcell hb1).2 _ _ sz_a]; exact z0_a
    have z1_w1 : w1.frozen? ⟨w.heap.size, 1, none⟩ = false := by rw [(bcell hb1).2 _ _ sz_a]; exact z1_a
    have sz_w1 : w.heap.size < w1.heap.size := Nat.lt_of_lt_of_le sz_a hb1.size
    have q1 := hal.trans (hb1.mono hal.size)
    have r1 := (hr.keep hal).keep hb1
    have k1 := (ks.keep hal).keep hb1
    clear hb1 c0_a c1_a z0_a z1_a hal
    go_wp2_with fail
    have hp := pair_set (.int .i64 0) (.int .i64 0) c0_w1 c1_w1
    refine bodyPost_ret (v := .tuple #[.agg #[.int .i64 0, .int .i64 0], .bool false]) (by simp [results, Try.results13, go_sem, hp.1, hp.2]) rfl ⟨hz.out.symm, ?_⟩
    exact (q1.setCell (p := ⟨w.heap.size, 0, none⟩) (Nat.le_refl _) _).setCell (p := ⟨w.heap.size, 1, none⟩) (Nat.le_refl _) _
  obtain ⟨l1, l2, l3, _, _⟩ := loads_of h1
  have hr' := hr
  obtain ⟨ao, cap, rfl, hl, hc, hcell⟩ := hr'
  clear hcell
  have hiff : meanOk xs ws i k = (decide (0 ≤ i) && (decide (i ≤ k) && decide (k < (xs.length : Int)))) := by
    rw [Bool.eq_iff_iff]
    unfold meanOk
    rw [h1]
    simp only [Bool.and_eq_true, inB_iff, decide_eq_true_eq, Bool.true_and]
    omega
  by_cases h2 : i < 0
  · have t2 : decide (i < 0) = true := decide_eq_true h2
    have hz := Lib.hid (meanV_no (xs := xs) (ws := ws) (i := i) (k := k) (by rw [hiff, decide_eq_false (by omega)]; rfl))
    clear l2 hiff
    go_enter Try.func13, Try.ntmps13
    go_wp2_with fail
    refine (impl_ValidLoads _ xs _ ws _ (hr.keep hal) (ks.keep hal)).mono ?_; rintro e w1 ⟨rfl, hb1⟩
    have c0_w1 : w1.cell? ⟨w.heap.size, 0, none⟩ = some (.int .i64 0) := by rw [(bcell hb1).1 _ _ sz_a]; exact c0_a
    have c1_w1 : w1.cell? ⟨w.heap.size, 1, none⟩ = some (.int .i64 0) := by rw [(bcell hb1).1 _ _ sz_a]; exact c1_a
    have z0_w1 : w1.frozen? ⟨w.heap.size, 0, none⟩ = false := by rw [(bcell hb1).2 _ _ sz_a]; exact z0_a
    have z1_w1 : w1.frozen? ⟨w.heap.size, 1, none⟩ = false := by rw [(bcell hb1).2 _ _ sz_a]; exact z1_a
    have sz_w1 : w.heap.size < w1.heap.size := Nat.lt_of_lt_of_le sz_a hb1.size
    have q1 := hal.trans (hb1.mono hal.size)
    have r1 := (hr.keep hal).keep hb1
    have k1 := (ks.keep hal).keep hb1
    clear hb1 c0_a c1_a z0_a z1_a hal
    go_wp2_with fail
    have hp := pair_set (.int .i64 0) (.int .i64 0) c0_w1 c1_w1
    refine bodyPost_ret (v := .tuple #[.agg #[.int .i64 0, .int .i64 0], .bool false]) (by simp [results, Try.results13, go_sem, hp.1, hp.2]) rfl ⟨hz.out.symm, ?_⟩
    exact (q1.setCell (p := ⟨w.heap.size, 0, none⟩) (Nat.le_refl _) _).setCell (p := ⟨w.heap.size, 1, none⟩) (Nat.le_refl _) _
  have t2 : decide (i < 0) = false := decide_eq_false h2
  by_cases h3 : k < i
  · have t3 : decide (k < i) = true := decide_eq_true h3
    have hz := Lib.hid (meanV_no (xs := xs) (ws := ws) (i := i) (k := k) (by rw [hiff, decide_eq_false (p := i ≤ k) (by omega)]; simp))
    clear l2 hiff
    go_enter Try.func13, Try.ntmps13
    go_wp2_with fail
    refine (impl_ValidLoads _ xs _ ws _ (hr.keep hal) (ks.keep hal)).mono ?_; rintro e w1 ⟨rfl, hb1⟩
    have c0_w1 : w1.cell? ⟨w.heap.size, 0, none⟩ = some (.int .i64 0) := by rw [(bcell hb1).1 _ _ sz_a]; exact c0_a
    have c1_w1 : w1.cell? ⟨w.heap.size, 1, none⟩ = some (.int .i64 0) := by rw [(bcell hb1).1 _ _ sz_a]; exact c1_a
    have z0_w1 : w1.frozen? ⟨w.heap.size, 0, none⟩ = false := by rw [(bcell hb1).2 _ _ sz_a]; exact z0_a
    have z1_w1 : w1.frozen? ⟨w.heap.size, 1, none⟩ = false := by rw [(bcell hb1).2 _ _ sz_a]; exact z1_a
    have sz_w1 : w.heap.size < w1.heap.size := Nat.lt_of_lt_of_le sz_a hb1.size
    have q1 := hal.trans (hb1.mono hal.size)
    have r1 := (hr.keep hal).keep hb1
    have k1 := (ks.keep hal).keep hb1
    clear hb1 c0_a c1_a z0_a z1_a hal
    go_wp2_with fail
    have hp := pair_set (.int .i64 0) (.int .i64 0) c0_w1 c1_w1
    refine bodyPost_ret (v := .tuple #[.agg #[.int .i64 0, .int .i64 0], .bool false]) (by simp [results, Try.results13, go_sem, hp.1, hp.2]) rfl ⟨hz.out.symm, ?_⟩
    exact (q1.setCell (p := ⟨w.heap.size, 0, none⟩) (Nat.le_refl _) _).setCell (p := ⟨w.heap.size, 1, none⟩) (Nat.le_refl _) _
  have t3 : decide (k < i) = false := decide_eq_false h3
  by_cases h4 : (xs.length : Int) ≤ k
  · have t4 : decide ((xs.length : Int) ≤ k) = true := decide_eq_true h4
    have hz := Lib.hid (meanV_no (xs := xs) (ws := ws) (i := i) (k := k) (by rw [hiff, decide_eq_false (p := k < (xs.length : Int)) (by omega)]; simp))
    clear l2 hiff
    go_enter Try.func13, Try.ntmps13
    go_wp2_with fail
    refine (impl_ValidLoads _ xs _ ws _ (hr.keep hal) (ks.keep hal)).mono ?_; rintro e w1 ⟨rfl, hb1⟩
    have c0_w1 : w1.cell? ⟨w.heap.size, 0, none⟩ = some (.int .i64 0) := by rw [(bcell hb1).1 _ _ sz_a]; exact c0_a
    have c1_w1 : w1.cell? ⟨w.heap.size, 1, none⟩ = some (.int .i64 0) := by rw [(bcell hb1).1 _ _ sz_a]; exact c1_a
    have z0_w1 : w1.frozen? ⟨w.heap.size, 0, none⟩ = false := by rw [(bcell hb1).2 _ _ sz_a]; exact z0_a
    have z1_w1 : w1.frozen? ⟨w.heap.size, 1, none⟩ = false := by rw [(bcell hb1).2 _ _ sz_a]; exact z1_a
    have sz_w1 : w.heap.size < w1.heap.size := Nat.lt_of_lt_of_le sz_a hb1.size
    have q1 := hal.trans (hb1.mono hal.size)
    have r1 := (hr.keep hal).keep hb1
    have k1 := (ks.keep hal).keep hb1
    clear hb1 c0_a c1_a z0_a z1_a hal
    go_wp2_with fail
    have hp := pair_set (.int .i64 0) (.int .i64 0) c0_w1 c1_w1
    refine bodyPost_ret (v := .tuple #[.agg #[.int .i64 0, .int .i64 0], .bool false]) (by simp [results, Try.results13, go_sem, hp.1, hp.2]) rfl ⟨hz.out.symm, ?_⟩
    exact (q1.setCell (p := ⟨w.heap.size, 0, none⟩) (Nat.le_refl _) _).setCell (p := ⟨w.heap.size, 1, none⟩) (Nat.le_refl _) _
  have t4 : decide ((xs.length : Int) ≤ k) = false := decide_eq_false h4
  have b2 : 0 ≤ i := by omega
  have b3 : i ≤ k := by omega
  have b4 : k < (xs.length : Int) := by omega
  have hz := Lib.hid (meanV_yes (xs := xs) (ws := ws) (i := i) (k := k) (by rw [hiff, decide_eq_true b2, decide_eq_true b3, decide_eq_true b4]; rfl))
  clear l2 hiff
  go_enter Try.func13, Try.ntmps13
  go_wp2_with fail
  refine (impl_ValidLoads _ xs _ ws _ (hr.keep hal) (ks.keep hal)).mono ?_; rintro e w1 ⟨rfl, hb1⟩
  have c0_w1 : w1.cell? ⟨w.heap.size, 0, none⟩ = some (.int .i64 0) := by rw [(bcell hb1).1 _ _ sz_a]; exact c0_a
  have c1_w1 : w1.cell? ⟨w.heap.size, 1, none⟩ = some (.int .i64 0) := by rw [(bcell hb1).1 _ _ sz_a]; exact c1_a
  have z0_w1 : w1.frozen? ⟨w.heap.size, 0, none⟩ = false := by rw [(bcell hb1).2 _ _ sz_a]; exact z0_a
  have z1_w1 : w1.frozen? ⟨w.heap.size, 1, none⟩ = false := by rw [(bcell hb1).2 _ _ sz_a]; exact z1_a
  have sz_w1 : w.heap.size < w1.heap.size := Nat.lt_of_lt_of_le sz_a hb1.size
  have q1 := hal.trans (hb1.mono hal.size)
  have r1 := (hr.keep hal).keep hb1
  have k1 := (ks.keep hal).keep hb1
  clear hb1 c0_a c1_a z0_a z1_a hal
  go_wp2_with fail
  refine (impl_mean _ xs _ ws i k w1 r1 k1 h1 (by omega) (by omega) (by omega)).mono ?_
  rintro e w2 ⟨rfl, hb2⟩
  have c0_w2 : w2.cell? ⟨w.heap.size, 0, none⟩ = some (.int .i64 0) := by rw [(bcell hb2).1 _ _ sz_w1]; exact c0_w1
  have c1_w2 : w2.cell? ⟨w.heap.size, 1, none⟩ = some (.int .i64 0) := by rw [(bcell hb2).1 _ _ sz_w1]; exact c1_w1
  have z0_w2 : w2.frozen? ⟨w.heap.size, 0, none⟩ = false := by rw [(bcell hb2).2 _ _ sz_w1]; exact z0_w1
  have z1_w2 : w2.frozen? ⟨w.heap.size, 1, none⟩ = false := by rw [(bcell hb2).2 _ _ sz_w1]; exact z1_w1
  have sz_w2 : w.heap.size < w2.heap.size := Nat.lt_of_lt_of_le sz_w1 hb2.size
  have q2 := q1.trans (hb2.mono q1.size)
  clear hb2 c0_w1 c1_w1 z0_w1 z1_w1
  go_wp2_with fail
  have hp := pair_set (.int .i64 (meanA xs ws i k)) (.int .i64 (meanB xs ws i k)) c0_w2 c1_w2
  refine bodyPost_ret (v := .tuple #[.agg #[.int .i64 (meanA xs ws i k), .int .i64 (meanB xs ws i k)], .bool true]) (by simp [results, Try.results13, go_sem, hp.1, hp.2]) rfl ⟨hz.out.symm, ?_⟩
  exact (q2.setCell (p := ⟨w.heap.size, 0, none⟩) (Nat.le_refl _) _).setCell (p := ⟨w.heap.size, 1, none⟩) (Nat.le_refl _) _
end Go.Proofs.Ytfnkeopkealkoaa
