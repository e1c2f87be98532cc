/-
  Contracts of the fractions of both packages.
-/
import Derived.Test.YtfnkeopkealkoaaIn
import Derived.Handy
import Derived.BigQuiet
import Derived.Deep.QuietTactic
namespace Go.Proofs.Ytfnkeopkealkoaa
open Go.RowKit

theorem gcd_step (a b : Int) : Int.gcd b (a.tmod b) = Int.gcd a b := by
  simp only [Int.gcd, Int.natAbs_tmod]
  rw [Nat.gcd_comm b.natAbs, ← Nat.gcd_rec, Nat.gcd_comm]
theorem gcd_zero (a b : Int) (h : b = 0) : ((Int.gcd a b : Nat) : Int) = max a (-a) := by
  subst h; simp [Int.gcd]; omega
theorem tmod_lt (a b : Int) (h : ¬ b = 0) : (a.tmod b).natAbs < b.natAbs := by
  rw [Int.natAbs_tmod]; exact Nat.mod_lt _ (by omega)

theorem tmod_bd (a b : Int) (h : ¬ b = 0) (h0 : -1000000 ≤ b) (h1 : b ≤ 1000000) : -1000000 ≤ a.tmod b ∧ a.tmod b ≤ 1000000 := by
  have h2 := tmod_lt a b h
  generalize a.tmod b = t at *
  omega
theorem tdiv_bd (a b : Int) (h0 : -1000000 ≤ a) (h1 : a ≤ 1000000) : -1000000 ≤ a.tdiv b ∧ a.tdiv b ≤ 1000000 := by
  have h2 := Int.natAbs_tdiv_le_natAbs a b
  generalize a.tdiv b = t at *
  omega

set_option maxHeartbeats 400000 in
theorem impl_divisor (a b : Int) (w : World) (ha : -1000000 ≤ a ∧ a ≤ 1000000) (hb : -1000000 ≤ b ∧ b ≤ 1000000) :
    Calls Try.prog 77 #[.int .i64 a, .int .i64 b] w fun e w' => e = .returned (.int .i64 (Int.gcd a b : Nat)) ∧ Below w.heap.size w w' := by
  go_enter Try.func77, Try.ntmps77
  go_wp2
  go_loopw [0, 1] (fun u v wr => ∃ x y : Int, u = .int .i64 x ∧ v = .int .i64 y ∧ Hid (Int.gcd x y = Int.gcd a b) ∧ -1000000 ≤ x ∧ x ≤ 1000000 ∧ -1000000 ≤ y ∧ y ≤ 1000000 ∧ Below w.heap.size w wr) (fun _ v _ => (intOf v).natAbs)
  case atStart => exact ⟨a, b, rfl, rfl, rfl, ha.1, ha.2, hb.1, hb.2, Below.refl _ _⟩
  case round =>
    obtain ⟨x, y, rfl, rfl, hg, hx0, hx1, hy0, hy1, hbel⟩ := hrel
    by_cases hy : y = 0
    · subst hy
      have hz := gcd_zero x 0 rfl
      rw [hg.out] at hz
      have Hz := Lib.hid hz
      clear hz
      go_wp2
      all_goals
        go_ret
        exact ⟨ret_int (by have := Hz.out; omega), hbel⟩
    · have h1 := Lib.hid (tmod_lt x y hy)
      have h3 := tmod_bd x y hy hy0 hy1
      have h2 := Lib.hid (gcd_step x y)
      go_wp2
      go_quiet (fail)
      go_wp2
      go_roundw
      case rel => exact ⟨y, x.tmod y, rfl, rfl, h2.out.trans hg.out, hy0, hy1, h3.1, h3.2, below_dn hbel _⟩
      case measure => exact h1.out

set_option maxHeartbeats 400000 in
theorem spec_gcd (a b : Int) (w : World) (ha : -1000000 ≤ a ∧ a ≤ 1000000) (hb : -1000000 ≤ b ∧ b ≤ 1000000) :
    Calls Try.prog 74 #[.int .i64 a, .int .i64 b] w fun e w' => e = .returned (.int .i64 (Int.gcd a b : Nat)) ∧ w = w' := by
  go_enter Try.func74, Try.ntmps74
  go_wp2
  go_loop [0, 1] (fun u v => ∃ x y : Int, u = .int .i64 x ∧ v = .int .i64 y ∧ Hid (Int.gcd x y = Int.gcd a b) ∧ -1000000 ≤ x ∧ x ≤ 1000000 ∧ -1000000 ≤ y ∧ y ≤ 1000000) (fun _ v => (intOf v).natAbs)
  case atStart => exact ⟨a, b, rfl, rfl, rfl, ha.1, ha.2, hb.1, hb.2⟩
  case round =>
    obtain ⟨x, y, rfl, rfl, hg, hx0, hx1, hy0, hy1⟩ := hrel
    by_cases hy : y = 0
    · subst hy
      have hz := gcd_zero x 0 rfl
      rw [hg.out] at hz
      have Hz := Lib.hid hz
      clear hz
      go_wp2
      all_goals
        go_ret
        exact ⟨ret_int (by have := Hz.out; omega), rfl⟩
    · have h1 := Lib.hid (tmod_lt x y hy)
      have h3 := tmod_bd x y hy hy0 hy1
      have h2 := Lib.hid (gcd_step x y)
      go_wp2
      go_round
      case rel => exact ⟨y, x.tmod y, rfl, rfl, h2.out.trans hg.out, hy0, hy1, h3.1, h3.2⟩
      case measure => exact h1.out

/-- The fraction of up and down, down not 0. -/
def fracUp (up down : Int) : Int := if down < 0 then (-up).tdiv (Int.gcd up down : Nat) else up.tdiv (Int.gcd up down : Nat)
def fracDown (up down : Int) : Int := if down < 0 then (-down).tdiv (Int.gcd up down : Nat) else down.tdiv (Int.gcd up down : Nat)

theorem gcd_bd (up down : Int) (h : ¬ down = 0) (h0 : -1000000 ≤ down) (h1 : down ≤ 1000000) : 1 ≤ ((Int.gcd up down : Nat) : Int) ∧ ((Int.gcd up down : Nat) : Int) ≤ 1000000 := by
  have h2 : Int.gcd up down ∣ down.natAbs := Nat.gcd_dvd_right _ _
  have h3 := Nat.le_of_dvd (by omega) h2
  have h4 : 0 < Int.gcd up down := Nat.pos_of_ne_zero (fun e => by rw [e] at h2; have := Nat.eq_zero_of_zero_dvd h2; omega)
  omega

theorem pair_set {w : World} {b : Nat} {u v : Value} (x y : Value) (q0 : w.cell? ⟨b, 0, none⟩ = some u) (q1 : w.cell? ⟨b, 1, none⟩ = some v) :
    ((w.setCell ⟨b, 0, none⟩ x).setCell ⟨b, 1, none⟩ y).cell? ⟨b, 0, none⟩ = some x ∧ ((w.setCell ⟨b, 0, none⟩ x).setCell ⟨b, 1, none⟩ y).cell? ⟨b, 1, none⟩ = some y := by
  refine ⟨?_, ?_⟩
  · rw [World.cell?_setCell_other _ _ _ _ (by simp), World.cell?_setCell_same _ _ _ q0]
  · rw [World.cell?_setCell_same _ _ _ (u := v) (by rw [World.cell?_setCell_other _ _ _ _ (by simp)]; exact q1)]

theorem ret_pair {a b c d : Int} (h : a = c ∧ b = d) : Ending.returned (.agg #[.int .i64 a, .int .i64 b]) = .returned (.agg #[.int .i64 c, .int .i64 d]) := by rw [h.1, h.2]

set_option maxHeartbeats 400000 in
theorem impl_frac (up down : Int) (w : World) (hu : -1000000 ≤ up ∧ up ≤ 1000000) (hd : -1000000 ≤ down ∧ down ≤ 1000000) (hz : ¬ down = 0) :
    Calls Try.prog 65 #[.int .i64 up, .int .i64 down] w fun e w' => e = .returned (.agg #[.int .i64 (fracUp up down), .int .i64 (fracDown up down)]) ∧ Below w.heap.size w w' := by
  have hg := gcd_bd up down hz hd.1 hd.2
  have hg0 : ¬ ((Int.gcd up down : Nat) : Int) = 0 := by omega
  have b1 := tdiv_bd up ((Int.gcd up down : Nat) : Int) hu.1 hu.2
  have b2 := tdiv_bd down ((Int.gcd up down : Nat) : Int) hd.1 hd.2
  by_cases hn : down < 0
  · have e1 : Hid (-up.tdiv ((Int.gcd up down : Nat) : Int) = fracUp up down ∧ -down.tdiv ((Int.gcd up down : Nat) : Int) = fracDown up down) := by
      unfold fracUp fracDown; rw [if_pos hn, if_pos hn, Int.neg_tdiv, Int.neg_tdiv]; exact ⟨rfl, rfl⟩
    go_enter Try.func65, Try.ntmps65
    go_wp2_with (go_at_call 77; refine (impl_divisor _ _ _ hu hd).mono ?_; rintro e w1 ⟨rfl, hb1⟩)
    obtain ⟨hc, hf⟩ := bcell hb1
    have hsz : w.heap.size < w1.heap.size := by have := hb1.size; simp at this; omega
    have q0 : w1.cell? ⟨w.heap.size, 0, none⟩ = some (.int .i64 0) := by rw [hc _ _ (by simp)]; simp
    have q1 : w1.cell? ⟨w.heap.size, 1, none⟩ = some (.int .i64 0) := by rw [hc _ _ (by simp)]; simp
    clear hc
    go_region
    go_wp2
    have hp := pair_set (.int .i64 (-up.tdiv ((Int.gcd up down : Nat) : Int))) (.int .i64 (-down.tdiv ((Int.gcd up down : Nat) : Int))) q0 q1
    refine bodyPost_ret (v := .agg #[.int .i64 (-up.tdiv ((Int.gcd up down : Nat) : Int)), .int .i64 (-down.tdiv ((Int.gcd up down : Nat) : Int))]) (by simp [results, Try.results65, go_sem, hp.1, hp.2]) rfl ⟨ret_pair e1.out, ?_⟩
    exact (((((Below.refl _ _).alloc (Nat.le_refl _) _).trans (hb1.mono (by simp))).setCell (p := ⟨w.heap.size, 0, none⟩) (Nat.le_refl _) _).setCell (p := ⟨w.heap.size, 1, none⟩) (Nat.le_refl _) _).drew
  · have e1 : Hid (up.tdiv ((Int.gcd up down : Nat) : Int) = fracUp up down ∧ down.tdiv ((Int.gcd up down : Nat) : Int) = fracDown up down) := by
      unfold fracUp fracDown; rw [if_neg hn, if_neg hn]; exact ⟨rfl, rfl⟩
    go_enter Try.func65, Try.ntmps65
    go_wp2_with (go_at_call 77; refine (impl_divisor _ _ _ hu hd).mono ?_; rintro e w1 ⟨rfl, hb1⟩)
    obtain ⟨hc, hf⟩ := bcell hb1
    have hsz : w.heap.size < w1.heap.size := by have := hb1.size; simp at this; omega
    have q0 : w1.cell? ⟨w.heap.size, 0, none⟩ = some (.int .i64 0) := by rw [hc _ _ (by simp)]; simp
    have q1 : w1.cell? ⟨w.heap.size, 1, none⟩ = some (.int .i64 0) := by rw [hc _ _ (by simp)]; simp
    clear hc
    go_region
    go_wp2
    have hp := pair_set (.int .i64 (up.tdiv ((Int.gcd up down : Nat) : Int))) (.int .i64 (down.tdiv ((Int.gcd up down : Nat) : Int))) q0 q1
    refine bodyPost_ret (v := .agg #[.int .i64 (up.tdiv ((Int.gcd up down : Nat) : Int)), .int .i64 (down.tdiv ((Int.gcd up down : Nat) : Int))]) (by simp [results, Try.results65, go_sem, hp.1, hp.2]) rfl ⟨ret_pair e1.out, ?_⟩
    exact (((((Below.refl _ _).alloc (Nat.le_refl _) _).trans (hb1.mono (by simp))).setCell (p := ⟨w.heap.size, 0, none⟩) (Nat.le_refl _) _).setCell (p := ⟨w.heap.size, 1, none⟩) (Nat.le_refl _) _).drew

set_option maxHeartbeats 400000 in
theorem spec_frac (up down : Int) (w : World) (hu : -1000000 ≤ up ∧ up ≤ 1000000) (hd : -1000000 ≤ down ∧ down ≤ 1000000) (hz : ¬ down = 0) :
    Calls Try.prog 63 #[.int .i64 up, .int .i64 down] w fun e w' => e = .returned (.agg #[.int .i64 (fracUp up down), .int .i64 (fracDown up down)]) ∧ Below w.heap.size w w' := by
  have hg := gcd_bd up down hz hd.1 hd.2
  have hg0 : ¬ ((Int.gcd up down : Nat) : Int) = 0 := by omega
  have b1 := tdiv_bd up ((Int.gcd up down : Nat) : Int) hu.1 hu.2
  have b2 := tdiv_bd down ((Int.gcd up down : Nat) : Int) hd.1 hd.2
  by_cases hn : down < 0
  · have e1 : Hid (-up.tdiv ((Int.gcd up down : Nat) : Int) = fracUp up down ∧ -down.tdiv ((Int.gcd up down : Nat) : Int) = fracDown up down) := by
      unfold fracUp fracDown; rw [if_pos hn, if_pos hn, Int.neg_tdiv, Int.neg_tdiv]; exact ⟨rfl, rfl⟩
    go_enter Try.func63, Try.ntmps63
    go_wp2_with (go_at_call 74; refine (spec_gcd _ _ _ (by omega) (by omega)).mono ?_; rintro e w1 ⟨rfl, rfl⟩)
    go_region
    go_wp2
    refine bodyPost_ret (v := .agg #[.int .i64 (-up.tdiv ((Int.gcd up down : Nat) : Int)), .int .i64 (-down.tdiv ((Int.gcd up down : Nat) : Int))]) (by simp [results, Try.results63, go_sem]) rfl ⟨ret_pair e1.out, ?_⟩
    exact ((Below.refl _ _).alloc (Nat.le_refl _) _).drew
  · have e1 : Hid (up.tdiv ((Int.gcd up down : Nat) : Int) = fracUp up down ∧ down.tdiv ((Int.gcd up down : Nat) : Int) = fracDown up down) := by
      unfold fracUp fracDown; rw [if_neg hn, if_neg hn]; exact ⟨rfl, rfl⟩
    go_enter Try.func63, Try.ntmps63
    go_wp2_with (go_at_call 74; refine (spec_gcd _ _ _ (by omega) (by omega)).mono ?_; rintro e w1 ⟨rfl, rfl⟩)
    go_region
    go_wp2
    refine bodyPost_ret (v := .agg #[.int .i64 (up.tdiv ((Int.gcd up down : Nat) : Int)), .int .i64 (down.tdiv ((Int.gcd up down : Nat) : Int))]) (by simp [results, Try.results63, go_sem]) rfl ⟨ret_pair e1.out, ?_⟩
    exact ((Below.refl _ _).alloc (Nat.le_refl _) _).drew

/-- FracOf. -/
def fracOk (up down : Int) : Bool := inB up (-1000000) 1000000 && inB down (-1000000) 1000000 && !(down == 0)
theorem fracOk_iff {up down : Int} : fracOk up down = true ↔ inB up (-1000000) 1000000 = true ∧ inB down (-1000000) 1000000 = true ∧ (down == 0) = false := by
  unfold fracOk; simp [and_assoc]
def fracA (up down : Int) : Int := if fracOk up down = true then fracUp up down else 0
def fracB (up down : Int) : Int := if fracOk up down = true then fracDown up down else 0
def fracV (up down : Int) : Value := .tuple #[.agg #[.int .i64 (fracA up down), .int .i64 (fracB up down)], .bool (fracOk up down)]
theorem fracV_yes {up down : Int} (h : fracOk up down = true) : Ending.returned (fracV up down) = .returned (.tuple #[.agg #[.int .i64 (fracUp up down), .int .i64 (fracDown up down)], .bool true]) := by
  unfold fracV fracA fracB; rw [if_pos h, if_pos h, h]
theorem fracV_no {up down : Int} (h : fracOk up down = false) : Ending.returned (fracV up down) = .returned (.tuple #[.agg #[.int .i64 0, .int .i64 0], .bool false]) := by
  have h' : ¬ fracOk up down = true := by rw [h]; simp
  unfold fracV fracA fracB; rw [if_neg h', if_neg h', h]

set_option maxHeartbeats 400000 in
theorem laws_eqFrac (a b c d : Int) (w : World) :
    Calls Try.prog 14 #[.agg #[.int .i64 a, .int .i64 b], .agg #[.int .i64 c, .int .i64 d]] w fun e w' => e = .returned (.bool (a == c && b == d)) ∧ Below w.heap.size w w' := by
  have hb : ∀ x y, Below w.heap.size w ((w.alloc x).alloc y) := fun x y => ((Below.refl _ _).alloc (Nat.le_refl _) _).alloc (by simp) _
  cases h1 : a == c
  all_goals
    cases h2 : b == d
    all_goals
      have h1' : (a != c) = !(a == c) := rfl
      have h2' : (b != d) = !(b == d) := rfl
      rw [h1] at h1'
      rw [h2] at h2'
      go_enter Try.func14, Try.ntmps14
      go_wp2
      go_ret
      exact ⟨rfl, hb _ _⟩
end Go.Proofs.Ytfnkeopkealkoaa
