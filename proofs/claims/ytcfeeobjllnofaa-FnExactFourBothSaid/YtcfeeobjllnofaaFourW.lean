/-
  Contracts of FourWays of both packages.
-/
import Derived.Test.YtcfeeobjllnofaaFour
namespace Go.Proofs.Ytcfeeobjllnofaa
open Go.RowKit
set_option linter.unusedVariables false

/-- What FourWays returns. -/
def fourX (a b c d : Int) : Int := if fourB a b c d = true then ways4 a b c d else -1
def fourY (a b c d : Int) : Int := if fourB a b c d = true then binI (a + b + c + d) (a + c) else -1

theorem spec_fourWaysK (gb : Nat) (a b c d : Int) (W w : World) (ha : 0 ≤ a ∧ a ≤ 16) (hab : 0 ≤ a + b ∧ a + b ≤ 16) (hc : 0 ≤ c ∧ c ≤ 16) (hcd : 0 ≤ c + d ∧ c + d ≤ 16)
    (c0 : w.cell? ⟨gb, 0, none⟩ = some (.int .i64 a)) (c1 : w.cell? ⟨gb, 1, none⟩ = some (.int .i64 b)) (c2 : w.cell? ⟨gb, 2, none⟩ = some (.int .i64 c)) (c3 : w.cell? ⟨gb, 3, none⟩ = some (.int .i64 d)) (hb : Below gb W w) :
    Calls Try.prog 41 #[four a b c d] w fun e w' => e = .returned (.int .i64 (ways4 a b c d)) ∧ w'.cell? ⟨gb, 0, none⟩ = some (.int .i64 a) ∧ w'.cell? ⟨gb, 1, none⟩ = some (.int .i64 b) ∧ w'.cell? ⟨gb, 2, none⟩ = some (.int .i64 c) ∧ w'.cell? ⟨gb, 3, none⟩ = some (.int .i64 d) ∧ Below gb W w' := by
  have hlt := World.block_lt_of_cell? _ _ c0
  refine (spec_fourWays a b c d w ha hab hc hcd).mono ?_
  rintro e w' ⟨rfl, h⟩
  exact ⟨rfl, (h.cell (p := ⟨gb, 0, none⟩) hlt).trans c0, (h.cell (p := ⟨gb, 1, none⟩) hlt).trans c1, (h.cell (p := ⟨gb, 2, none⟩) hlt).trans c2, (h.cell (p := ⟨gb, 3, none⟩) hlt).trans c3, hb.trans (h.mono (Nat.le_of_lt hlt))⟩

theorem impl_waysK (gb : Nat) (a b c d : Int) (W w : World) (ha : 0 ≤ a ∧ a ≤ 16) (hab : 0 ≤ a + b ∧ a + b ≤ 16) (hc : 0 ≤ c ∧ c ≤ 16) (hcd : 0 ≤ c + d ∧ c + d ≤ 16)
    (c0 : w.cell? ⟨gb, 0, none⟩ = some (.int .i64 a)) (c1 : w.cell? ⟨gb, 1, none⟩ = some (.int .i64 b)) (c2 : w.cell? ⟨gb, 2, none⟩ = some (.int .i64 c)) (c3 : w.cell? ⟨gb, 3, none⟩ = some (.int .i64 d)) (hb : Below gb W w) :
    Calls Try.prog 44 #[four a b c d] w fun e w' => e = .returned (.int .i64 (ways4 a b c d)) ∧ w'.cell? ⟨gb, 0, none⟩ = some (.int .i64 a) ∧ w'.cell? ⟨gb, 1, none⟩ = some (.int .i64 b) ∧ w'.cell? ⟨gb, 2, none⟩ = some (.int .i64 c) ∧ w'.cell? ⟨gb, 3, none⟩ = some (.int .i64 d) ∧ Below gb W w' := by
  have hlt := World.block_lt_of_cell? _ _ c0
  refine (impl_ways a b c d w ha hab hc hcd).mono ?_
  rintro e w' ⟨rfl, h⟩
  exact ⟨rfl, (h.cell (p := ⟨gb, 0, none⟩) hlt).trans c0, (h.cell (p := ⟨gb, 1, none⟩) hlt).trans c1, (h.cell (p := ⟨gb, 2, none⟩) hlt).trans c2, (h.cell (p := ⟨gb, 3, none⟩) hlt).trans c3, hb.trans (h.mono (Nat.le_of_lt hlt))⟩

set_option maxHeartbeats 2000000 in
theorem spec_FourWays (a b c d : Int) (w : World) (ba : -9223372036854775808 ≤ a ∧ a ≤ 9223372036854775807) (bb : -9223372036854775808 ≤ b ∧ b ≤ 9223372036854775807) (bc : -9223372036854775808 ≤ c ∧ c ≤ 9223372036854775807) (bd : -9223372036854775808 ≤ d ∧ d ≤ 9223372036854775807) :
    Calls Try.prog 13 #[four a b c d] w fun e w' => e = .returned (.tuple #[.int .i64 (fourX a b c d), .int .i64 (fourY a b c d)]) ∧ Below w.heap.size w w' := by
  have hbx := below_box w (.cells #[.int .i64 a, .int .i64 b, .int .i64 c, .int .i64 d] 26)
  cases hf : fourB a b c d
  · have hx : Hid (fourX a b c d = -1 ∧ fourY a b c d = -1) := by show _ ∧ _; unfold fourX fourY; rw [hf]; exact ⟨rfl, rfl⟩
    go_enter Try.func13, Try.ntmps13
    go_wp2_with fail
    refine (spec_validFour a b c d _).mono ?_
    rintro e w1 ⟨rfl, hb1⟩
    rw [hf]
    go_wp2_with fail
    go_ret2
    exact ⟨ret_int2 hx.out.1.symm hx.out.2.symm, hbx.trans (hb1.mono hbx.size)⟩
  · have hx : Hid (fourX a b c d = ways4 a b c d ∧ fourY a b c d = binI (a + b + c + d) (a + c)) := by show _ ∧ _; unfold fourX fourY; rw [hf]; exact ⟨rfl, rfl⟩
    have hq := fourB_iff.1 hf
    go_enter Try.func13, Try.ntmps13
    go_wp2_with fail
    refine (spec_validFour a b c d _).mono ?_
    rintro e w1 ⟨rfl, hb1⟩
    rw [hf]
    have HF := Lib.hid hf
    clear hf
    have hbw := hbx.trans (hb1.mono hbx.size)
    have hsz := hbw.size
    obtain ⟨hc, hfz⟩ := bcell hb1
    have c0 : w1.drew.cell? ⟨w.heap.size, 0, none⟩ = some (.int .i64 a) := by show w1.cell? _ = _; rw [hc _ _ (by simp)]; simp
    have c1 : w1.drew.cell? ⟨w.heap.size, 1, none⟩ = some (.int .i64 b) := by show w1.cell? _ = _; rw [hc _ _ (by simp)]; simp
    have c2 : w1.drew.cell? ⟨w.heap.size, 2, none⟩ = some (.int .i64 c) := by show w1.cell? _ = _; rw [hc _ _ (by simp)]; simp
    have c3 : w1.drew.cell? ⟨w.heap.size, 3, none⟩ = some (.int .i64 d) := by show w1.cell? _ = _; rw [hc _ _ (by simp)]; simp
    have q0 : w1.cell? ⟨w.heap.size, 0, none⟩ = some (.int .i64 a) := c0
    have q1 : w1.cell? ⟨w.heap.size, 1, none⟩ = some (.int .i64 b) := c1
    have q2 : w1.cell? ⟨w.heap.size, 2, none⟩ = some (.int .i64 c) := c2
    have q3 : w1.cell? ⟨w.heap.size, 3, none⟩ = some (.int .i64 d) := c3
    have hbd : Below w.heap.size w w1.drew := hbw.drew
    clear hc hfz hb1 hbx hbw
    generalize hgb : w.heap.size = gb at *
    have v1 := wrapF (a + b) (by omega)
    have v2 := wrapF (a + b + c) (by omega)
    have v3 := wrapF (a + b + c + d) (by omega)
    have v4 := wrapF (a + c) (by omega)
    have H1 := Lib.hid (fun w0 => spec_fourWaysK gb a b c d w w0 (by omega) (by omega) (by omega) (by omega))
    have H2 := Lib.hid (spec_choose (a + b + c + d) (a + c))
    have H3 := Lib.hid (show 0 ≤ a + b + c + d ∧ a + b + c + d ≤ 32 by omega)
    clear hq hsz
    go_wp2_with fail
    go_region_held3 (fun w' => w'.cell? ⟨gb, 0, none⟩ = some (.int .i64 a) ∧ w'.cell? ⟨gb, 1, none⟩ = some (.int .i64 b) ∧ w'.cell? ⟨gb, 2, none⟩ = some (.int .i64 c) ∧ w'.cell? ⟨gb, 3, none⟩ = some (.int .i64 d) ∧ Below gb w w')
      (exact ⟨by assumption, by assumption, by assumption, by assumption, by assumption⟩)
      (first
        | (go_at_call 41; refine (H1.out _ (by assumption) (by assumption) (by assumption) (by assumption) (by assumption)).mono ?_; rintro e w' ⟨rfl, k0, k1, k2, k3, kb⟩)
        | (go_at_call 42; refine (H2.out _ H3.out.1 H3.out.2).mono ?_; rintro e w' ⟨rfl, rfl⟩))
    all_goals
      go_wp2
      go_ret2
      exact ⟨ret_int2 hx.out.1.symm hx.out.2.symm, by rw [hgb]; assumption⟩

set_option maxHeartbeats 2000000 in
theorem impl_FourWays (a b c d : Int) (w : World) (ba : -9223372036854775808 ≤ a ∧ a ≤ 9223372036854775807) (bb : -9223372036854775808 ≤ b ∧ b ≤ 9223372036854775807) (bc : -9223372036854775808 ≤ c ∧ c ≤ 9223372036854775807) (bd : -9223372036854775808 ≤ d ∧ d ≤ 9223372036854775807) :
    Calls Try.prog 15 #[four a b c d] w fun e w' => e = .returned (.tuple #[.int .i64 (fourX a b c d), .int .i64 (fourY a b c d)]) ∧ Below w.heap.size w w' := by
  have hbx := below_box w (.cells #[.int .i64 a, .int .i64 b, .int .i64 c, .int .i64 d] 26)
  cases hf : fourB a b c d
  · have hx : Hid (fourX a b c d = -1 ∧ fourY a b c d = -1) := by show _ ∧ _; unfold fourX fourY; rw [hf]; exact ⟨rfl, rfl⟩
    go_enter Try.func15, Try.ntmps15
    go_wp2_with fail
    refine (impl_valid a b c d _).mono ?_
    rintro e w1 ⟨rfl, hb1⟩
    rw [hf]
    go_wp2_with fail
    go_ret2
    exact ⟨ret_int2 hx.out.1.symm hx.out.2.symm, hbx.trans (hb1.mono hbx.size)⟩
  · have hx : Hid (fourX a b c d = ways4 a b c d ∧ fourY a b c d = binI (a + b + c + d) (a + c)) := by show _ ∧ _; unfold fourX fourY; rw [hf]; exact ⟨rfl, rfl⟩
    have hq := fourB_iff.1 hf
    go_enter Try.func15, Try.ntmps15
    go_wp2_with fail
    refine (impl_valid a b c d _).mono ?_
    rintro e w1 ⟨rfl, hb1⟩
    rw [hf]
    have HF := Lib.hid hf
    clear hf
    have hbw := hbx.trans (hb1.mono hbx.size)
    have hsz := hbw.size
    obtain ⟨hc, hfz⟩ := bcell hb1
    have c0 : w1.drew.cell? ⟨w.heap.size, 0, none⟩ = some (.int .i64 a) := by show w1.cell? _ = _; rw [hc _ _ (by simp)]; simp
    have c1 : w1.drew.cell? ⟨w.heap.size, 1, none⟩ = some (.int .i64 b) := by show w1.cell? _ = _; rw [hc _ _ (by simp)]; simp
    have c2 : w1.drew.cell? ⟨w.heap.size, 2, none⟩ = some (.int .i64 c) := by show w1.cell? _ = _; rw [hc _ _ (by simp)]; simp
    have c3 : w1.drew.cell? ⟨w.heap.size, 3, none⟩ = some (.int .i64 d) := by show w1.cell? _ = _; rw [hc _ _ (by simp)]; simp
    have q0 : w1.cell? ⟨w.heap.size, 0, none⟩ = some (.int .i64 a) := c0
    have q1 : w1.cell? ⟨w.heap.size, 1, none⟩ = some (.int .i64 b) := c1
    have q2 : w1.cell? ⟨w.heap.size, 2, none⟩ = some (.int .i64 c) := c2
    have q3 : w1.cell? ⟨w.heap.size, 3, none⟩ = some (.int .i64 d) := c3
    have hbd : Below w.heap.size w w1.drew := hbw.drew
    clear hc hfz hb1 hbx hbw
    generalize hgb : w.heap.size = gb at *
    have v1 := wrapF (a + b) (by omega)
    have v2 := wrapF (a + b + c) (by omega)
    have v3 := wrapF (a + b + c + d) (by omega)
    have v4 := wrapF (a + c) (by omega)
    have H1 := Lib.hid (fun w0 => impl_waysK gb a b c d w w0 (by omega) (by omega) (by omega) (by omega))
    have H2 := Lib.hid (impl_choose (a + b + c + d) (a + c))
    have H3 := Lib.hid (show 0 ≤ a + b + c + d ∧ a + b + c + d ≤ 32 by omega)
    clear hq hsz
    go_wp2_with fail
    go_region_held3 (fun w' => w'.cell? ⟨gb, 0, none⟩ = some (.int .i64 a) ∧ w'.cell? ⟨gb, 1, none⟩ = some (.int .i64 b) ∧ w'.cell? ⟨gb, 2, none⟩ = some (.int .i64 c) ∧ w'.cell? ⟨gb, 3, none⟩ = some (.int .i64 d) ∧ Below gb w w')
      (exact ⟨by assumption, by assumption, by assumption, by assumption, by assumption⟩)
      (first
        | (go_at_call 44; refine (H1.out _ (by assumption) (by assumption) (by assumption) (by assumption) (by assumption)).mono ?_; rintro e w' ⟨rfl, k0, k1, k2, k3, kb⟩)
        | (go_at_call 45; refine (H2.out _ H3.out.1 H3.out.2).mono ?_; rintro e w' ⟨rfl, rfl⟩))
    all_goals
      go_wp2
      go_ret2
      exact ⟨ret_int2 hx.out.1.symm hx.out.2.symm, by rw [hgb]; assumption⟩
end Go.Proofs.Ytcfeeobjllnofaa
