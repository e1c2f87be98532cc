/-
  The table of four that spec.aFour draws.
-/
import Derived.Test.YtcfeeobjllnofaaFourW
import Derived.Test.YtcfeeobjllnofaaDrawL
namespace Go.Proofs.Ytcfeeobjllnofaa
open Go.RowKit
set_option linter.unusedVariables false

theorem blk_keep {w w' : World} {r : Option Nat} {g : Nat} {o : Obj} (h : w.heap[g]? = some o) (hg : w.grownBy w' r) (hne : some g ≠ r) : w'.heap[g]? = some o := by
  rw [hg.block g (Array.getElem?_eq_some_iff.1 h).1 hne]; exact h
theorem quad_set {w : World} {b : Nat} {u0 u1 u2 u3 : Value} (x y z t : Value) (q0 : w.cell? ⟨b, 0, none⟩ = some u0) (q1 : w.cell? ⟨b, 1, none⟩ = some u1) (q2 : w.cell? ⟨b, 2, none⟩ = some u2) (q3 : w.cell? ⟨b, 3, none⟩ = some u3) :
    let w' := (((w.setCell ⟨b, 0, none⟩ x).setCell ⟨b, 1, none⟩ y).setCell ⟨b, 2, none⟩ z).setCell ⟨b, 3, none⟩ t
    w'.cell? ⟨b, 0, none⟩ = some x ∧ w'.cell? ⟨b, 1, none⟩ = some y ∧ w'.cell? ⟨b, 2, none⟩ = some z ∧ w'.cell? ⟨b, 3, none⟩ = some t := by
  refine ⟨?_, ?_, ?_, ?_⟩
  · rw [World.cell?_setCell_other _ _ _ _ (by simp), World.cell?_setCell_other _ _ _ _ (by simp), World.cell?_setCell_other _ _ _ _ (by simp), World.cell?_setCell_same _ _ _ q0]
  · rw [World.cell?_setCell_other _ _ _ _ (by simp), World.cell?_setCell_other _ _ _ _ (by simp), World.cell?_setCell_same _ _ _ (u := u1) (by rw [World.cell?_setCell_other _ _ _ _ (by simp)]; exact q1)]
  · rw [World.cell?_setCell_other _ _ _ _ (by simp), World.cell?_setCell_same _ _ _ (u := u2) (by rw [World.cell?_setCell_other _ _ _ _ (by simp), World.cell?_setCell_other _ _ _ _ (by simp)]; exact q2)]
  · rw [World.cell?_setCell_same _ _ _ (u := u3) (by rw [World.cell?_setCell_other _ _ _ _ (by simp), World.cell?_setCell_other _ _ _ _ (by simp), World.cell?_setCell_other _ _ _ _ (by simp)]; exact q3)]
/-- What a table's block holds. -/
theorem quad_of {w : World} {g : Nat} {x y z t : Value} {T : TypeId} (h : w.heap[g]? = some (.cells #[x, y, z, t] T (0, 0))) :
    (w.cell? ⟨g, 0, none⟩ = some x ∧ w.cell? ⟨g, 1, none⟩ = some y ∧ w.cell? ⟨g, 2, none⟩ = some z ∧ w.cell? ⟨g, 3, none⟩ = some t) ∧
      (w.frozen? ⟨g, 0, none⟩ = false ∧ w.frozen? ⟨g, 1, none⟩ = false ∧ w.frozen? ⟨g, 2, none⟩ = false ∧ w.frozen? ⟨g, 3, none⟩ = false) := by
  have c0 := cell_of_row w g 0 _ _ (0, 0) h
  have c1 := cell_of_row w g 1 _ _ (0, 0) h
  have c2 := cell_of_row w g 2 _ _ (0, 0) h
  have c3 := cell_of_row w g 3 _ _ (0, 0) h
  simp at c0 c1 c2 c3
  exact ⟨⟨c0, c1, c2, c3⟩, frozen_of_row w g 0 _ _ h, frozen_of_row w g 1 _ _ h, frozen_of_row w g 2 _ _ h, frozen_of_row w g 3 _ _ h⟩

theorem row_keep {w w' : World} {k : IntKind} {a : Option Addr} {len cap : Nat} {z : List Int} (h : IsRow k w a len cap z) (hb : Below w.heap.size w w') : IsRow k w' a len cap z := by
  rcases h with h | ⟨x, rfl, h1, h2, h3, h4, h5⟩
  · exact .inl h
  · exact .inr ⟨x, rfl, h1, h2, h3, fun i hi => (hb.cell (p := x.add i) (World.block_lt_of_cell? _ _ (h4 i hi))).trans (h4 i hi), h5⟩
/-- A drawn table. -/
def RetFour (W : World) (e : Ending) (w' : World) : Prop := ∃ a b c d : Int, e = .returned (four a b c d) ∧ (0 ≤ a ∧ a ≤ 5) ∧ (b = -1 ∨ b = 9 ∨ (0 ≤ b ∧ b ≤ 5)) ∧ (0 ≤ c ∧ c ≤ 5) ∧ (0 ≤ d ∧ d ≤ 8) ∧ Below W.heap.size W w'

set_option maxHeartbeats 1000000 in
theorem draw_aFour (W w : World) (rv : Value) (hR : Rdr W w rv 0) (hb : Below W.heap.size W w) :
    Calls Try.prog 66 #[rv] w (RetFour W) := by
  have hgB := hR.blk
  have hBW := hb.size
  have hne : some w.heap.size ≠ rdrBlock rv := by intro e; have := hgB _ e.symm; omega
  have hal := below_box w (.cells #[.int .i64 0, .int .i64 0, .int .i64 0, .int .i64 0] 26)
  have hR0 := hR.keep hal
  have hb0 := hb.trans (hal.mono hb.size)
  have k0 := World.alloc_new w (.cells #[.int .i64 0, .int .i64 0, .int .i64 0, .int .i64 0] 26)
  clear hR hb
  have hR := hR0
  have hb := hb0
  clear hR0 hb0
  have gg : (w.alloc (.cells #[.int .i64 0, .int .i64 0, .int .i64 0, .int .i64 0] 26)).grownBy (w.alloc (.cells #[.int .i64 0, .int .i64 0, .int .i64 0, .int .i64 0] 26)) (rdrBlock rv) := grownBy_of_below (Below.refl _ _) _
  have HG := Lib.hid hgB
  have HW := Lib.hid hBW
  clear hgB
  go_enter Try.func66, Try.ntmps66
  go_wp2_with fail
  refine (rdr_pick W _ rv _ _ hR hb (by omega) (by omega)).mono ?_
  rintro e w1 ⟨r1, rfl, ⟨fr1, fr1b, _⟩, hR_, hb_, hg_⟩
  have fr1c := fr1b (by omega)
  clear hR hb
  have hR := hR_
  have hb := hb_
  have gg := grownBy_trans gg hg_
  clear hR_ hb_ hg_ fr1b
  go_wp2_with fail
  refine (rdr_pick W _ rv _ _ hR hb (by omega) (by omega)).mono ?_
  rintro e w2 ⟨r2, rfl, ⟨fr2, fr2b, _⟩, hR_, hb_, hg_⟩
  have fr2c := fr2b (by omega)
  clear hR hb
  have hR := hR_
  have hb := hb_
  have gg := grownBy_trans gg hg_
  clear hR_ hb_ hg_ fr2b
  go_wp2_with fail
  refine (rdr_pick W _ rv _ _ hR hb (by omega) (by omega)).mono ?_
  rintro e w3 ⟨r3, rfl, ⟨fr3, fr3b, _⟩, hR_, hb_, hg_⟩
  have fr3c := fr3b (by omega)
  clear hR hb
  have hR := hR_
  have hb := hb_
  have gg := grownBy_trans gg hg_
  clear hR_ hb_ hg_ fr3b
  go_wp2_with fail
  refine (rdr_pick W _ rv _ _ hR hb (by omega) (by omega)).mono ?_
  rintro e w4 ⟨r4, rfl, ⟨fr4, fr4b, _⟩, hR_, hb_, hg_⟩
  have fr4c := fr4b (by omega)
  clear hR hb
  have hR := hR_
  have hb := hb_
  have gg := grownBy_trans gg hg_
  clear hR_ hb_ hg_ fr4b
  have k4 := blk_keep k0 gg hne
  have hs4 : w.heap.size < w4.heap.size := (Array.getElem?_eq_some_iff.1 k4).1
  have hb4 := hb
  have hal4 := below_box w4 (.cells #[.int .i64 r1, .int .i64 r2, .int .i64 r3, .int .i64 r4] 26)
  have k5 : (w4.alloc (.cells #[.int .i64 r1, .int .i64 r2, .int .i64 r3, .int .i64 r4] 26)).heap[w.heap.size]? = _ := (hal4.block _ hs4).trans k4
  have m5 := World.alloc_new w4 (.cells #[.int .i64 r1, .int .i64 r2, .int .i64 r3, .int .i64 r4] 26)
  have hR0 := hR.keep hal4
  have hb0 := hb.trans (hal4.mono hb.size)
  have hne4 : some w4.heap.size ≠ rdrBlock rv := by intro e; have := HG.out _ e.symm; omega
  clear hR hb gg
  have hR := hR0
  have hb := hb0
  clear hR0 hb0 hal4 k4 k0 hal
  have gg : (w4.alloc (.cells #[.int .i64 r1, .int .i64 r2, .int .i64 r3, .int .i64 r4] 26)).grownBy (w4.alloc (.cells #[.int .i64 r1, .int .i64 r2, .int .i64 r3, .int .i64 r4] 26)) (rdrBlock rv) := grownBy_of_below (Below.refl _ _) _
  go_wp2_with fail
  refine (rdr_pick W _ rv _ _ hR hb (by omega) (by omega)).mono ?_
  rintro e w5 ⟨r5, rfl, ⟨fr5, fr5b, _⟩, hR_, hb_, hg_⟩
  have fr5c := fr5b (by omega)
  clear hR hb
  have hR := hR_
  have hb := hb_
  have gg := grownBy_trans gg hg_
  clear hR_ hb_ hg_ fr5b
  have k6 := blk_keep k5 gg hne
  have m6 := blk_keep m5 gg hne4
  clear k5 m5 gg
  by_cases hr : r5 = 0
  · have hr' : (r5 == 0) = true := by simp [hr]
    clear hr
    go_wp2_with fail
    refine (rdr_lit W w5 rv _ [-1, 9] 2 rfl (by omega) (by omega) hR hb (by omega)).mono ?_
    rintro e w6 ⟨r6, rfl, hr6, hR_, hb_, hg_⟩
    have k7 := blk_keep k6 hg_ hne
    have m7 := blk_keep m6 hg_ hne4
    clear k6 m6 hR hb hg_ hR_
    obtain ⟨⟨c0, c1, c2, c3⟩, f0, f1, f2, f3⟩ := quad_of k7
    obtain ⟨⟨d0, d1, d2, d3⟩, e0, e1, e2, e3⟩ := quad_of m7
    have hne' : w4.heap.size ≠ w.heap.size := by omega
    clear k7 m7
    go_wp2
    have c0 := (World.cell?_setCell_other w6 ⟨w4.heap.size, 1, none⟩ ⟨w.heap.size, 0, none⟩ (.int .i64 r6) (by intro e; injection e with e1; omega)).trans c0
    have c1 := (World.cell?_setCell_other w6 ⟨w4.heap.size, 1, none⟩ ⟨w.heap.size, 1, none⟩ (.int .i64 r6) (by intro e; injection e with e1; omega)).trans c1
    have c2 := (World.cell?_setCell_other w6 ⟨w4.heap.size, 1, none⟩ ⟨w.heap.size, 2, none⟩ (.int .i64 r6) (by intro e; injection e with e1; omega)).trans c2
    have c3 := (World.cell?_setCell_other w6 ⟨w4.heap.size, 1, none⟩ ⟨w.heap.size, 3, none⟩ (.int .i64 r6) (by intro e; injection e with e1; omega)).trans c3
    obtain ⟨p0, p1, p2, p3⟩ := quad_set (.int .i64 r1) (.int .i64 r6) (.int .i64 r3) (.int .i64 r4) c0 c1 c2 c3
    refine bodyPost_ret (v := four r1 r6 r3 r4) (by simp [results, Try.results66, go_sem, p0, p1, p2, p3]) rfl ?_
    exact ⟨r1, r6, r3, r4, rfl, by omega, by first | omega | (simp at hr6; omega), by omega, by omega, ((((hb_.setCell (p := ⟨w4.heap.size, 1, none⟩) (by show W.heap.size ≤ w4.heap.size; have := HW.out; omega) (.int .i64 r6)).setCell (p := ⟨w.heap.size, 0, none⟩) HW.out _).setCell (p := ⟨w.heap.size, 1, none⟩) HW.out _).setCell (p := ⟨w.heap.size, 2, none⟩) HW.out _).setCell (p := ⟨w.heap.size, 3, none⟩) HW.out _⟩
  · have hr' : (r5 == 0) = false := by simp [hr]
    clear hr
    obtain ⟨⟨c0, c1, c2, c3⟩, f0, f1, f2, f3⟩ := quad_of k6
    obtain ⟨⟨d0, d1, d2, d3⟩, e0, e1, e2, e3⟩ := quad_of m6
    clear k6 m6
    go_wp2
    obtain ⟨p0, p1, p2, p3⟩ := quad_set (.int .i64 r1) (.int .i64 r2) (.int .i64 r3) (.int .i64 r4) c0 c1 c2 c3
    refine bodyPost_ret (v := four r1 r2 r3 r4) (by simp [results, Try.results66, go_sem, p0, p1, p2, p3]) rfl ?_
    exact ⟨r1, r2, r3, r4, rfl, by omega, by first | omega | (simp at hr6; omega), by omega, by omega, ((((hb).setCell (p := ⟨w.heap.size, 0, none⟩) HW.out _).setCell (p := ⟨w.heap.size, 1, none⟩) HW.out _).setCell (p := ⟨w.heap.size, 2, none⟩) HW.out _).setCell (p := ⟨w.heap.size, 3, none⟩) HW.out _⟩

/-- What is drawn. -/
theorem draw_FourWays (a : Option Addr) (len cap : Nat) (z : List Int) (w : World) (h : IsRow .u8 w a len cap z) :
    Calls Try.prog 35 #[.slice a len cap] w (RetFour w) := by
  have hal := below_box w (.cells #[.int .i64 0, .int .i64 0, .int .i64 0, .int .i64 0] 26)
  have k0 := World.alloc_new w (.cells #[.int .i64 0, .int .i64 0, .int .i64 0, .int .i64 0] 26)
  have hrow : IsRow .u8 (w.alloc (.cells #[.int .i64 0, .int .i64 0, .int .i64 0, .int .i64 0] 26)) a len cap z := row_keep h hal
  clear h
  go_enter Try.func35, Try.ntmps35
  go_wp2_with fail
  refine (rdr_new a len cap z _ hrow).mono ?_
  rintro e w0 ⟨v, rfl, hR0, hb0⟩
  clear hrow
  go_wp2_with fail
  refine (draw_aFour _ w0 v hR0 hb0).mono ?_
  rintro e w1 ⟨r1, r2, r3, r4, rfl, i1, i2, i3, i4, hb⟩
  have k1 := (hb.block w.heap.size (Array.getElem?_eq_some_iff.1 k0).1).trans k0
  have hbw := hal.trans (hb.mono hal.size)
  obtain ⟨⟨c0, c1, c2, c3⟩, f0, f1, f2, f3⟩ := quad_of k1
  clear k0 k1 hR0 hb0 hb
  go_wp2
  obtain ⟨p0, p1, p2, p3⟩ := quad_set (.int .i64 r1) (.int .i64 r2) (.int .i64 r3) (.int .i64 r4) c0 c1 c2 c3
  refine bodyPost_ret (v := four r1 r2 r3 r4) (by simp [results, Try.results35, go_sem, p0, p1, p2, p3]) rfl ?_
  exact ⟨r1, r2, r3, r4, rfl, i1, i2, i3, i4, (((hbw.setCell (p := ⟨w.heap.size, 0, none⟩) (Nat.le_refl _) _).setCell (p := ⟨w.heap.size, 1, none⟩) (Nat.le_refl _) _).setCell (p := ⟨w.heap.size, 2, none⟩) (Nat.le_refl _) _).setCell (p := ⟨w.heap.size, 3, none⟩) (Nat.le_refl _) _⟩
end Go.Proofs.Ytcfeeobjllnofaa
