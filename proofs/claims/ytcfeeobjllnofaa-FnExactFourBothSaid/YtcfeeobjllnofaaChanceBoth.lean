/-
  The contract of impl.FourBoth.
-/
import Derived.Test.YtcfeeobjllnofaaChance
namespace Go.Proofs.Ytcfeeobjllnofaa
open Go.RowKit
set_option linter.unusedVariables false

theorem kept9 {wr w w' : World} {g lg : Nat} {x y z t x' y' z' t' : Value} (hb : Below w.heap.size w w')
    (h : w.cell? ⟨g, 0, none⟩ = some x ∧ w.cell? ⟨g, 1, none⟩ = some y ∧ w.cell? ⟨g, 2, none⟩ = some z ∧ w.cell? ⟨g, 3, none⟩ = some t ∧ w.cell? ⟨lg, 0, none⟩ = some x' ∧ w.cell? ⟨lg, 1, none⟩ = some y' ∧ w.cell? ⟨lg, 2, none⟩ = some z' ∧ w.cell? ⟨lg, 3, none⟩ = some t' ∧ Below wr.heap.size wr w) :
    w'.cell? ⟨g, 0, none⟩ = some x ∧ w'.cell? ⟨g, 1, none⟩ = some y ∧ w'.cell? ⟨g, 2, none⟩ = some z ∧ w'.cell? ⟨g, 3, none⟩ = some t ∧ w'.cell? ⟨lg, 0, none⟩ = some x' ∧ w'.cell? ⟨lg, 1, none⟩ = some y' ∧ w'.cell? ⟨lg, 2, none⟩ = some z' ∧ w'.cell? ⟨lg, 3, none⟩ = some t' ∧ Below wr.heap.size wr w' := by
  obtain ⟨h0, h1, h2, h3, k0, k1, k2, k3, h5⟩ := h
  have l1 := World.block_lt_of_cell? _ _ h0
  have l2 := World.block_lt_of_cell? _ _ k0
  exact ⟨(hb.cell (p := ⟨g, 0, none⟩) l1).trans h0, (hb.cell (p := ⟨g, 1, none⟩) l1).trans h1, (hb.cell (p := ⟨g, 2, none⟩) l1).trans h2, (hb.cell (p := ⟨g, 3, none⟩) l1).trans h3, (hb.cell (p := ⟨lg, 0, none⟩) l2).trans k0, (hb.cell (p := ⟨lg, 1, none⟩) l2).trans k1, (hb.cell (p := ⟨lg, 2, none⟩) l2).trans k2, (hb.cell (p := ⟨lg, 3, none⟩) l2).trans k3, h5.trans (hb.mono h5.size)⟩

set_option maxHeartbeats 2000000 in
theorem may_Both (x y z t a b c d : Int) (g : Nat) (w : World) (hg : w.heap[g]? = some (.cells #[.int .i64 a, .int .i64 b, .int .i64 c, .int .i64 d] 26 (0, 0)))
    (hx : 0 ≤ x ∧ x ≤ 16) (hxy : 0 ≤ x + y ∧ x + y ≤ 16) (hz : 0 ≤ z ∧ z ≤ 16) (hzt : 0 ≤ z + t ∧ z + t ≤ 16) (ha : 0 ≤ a ∧ a ≤ 8) (hb : 0 ≤ b ∧ b ≤ 8) (hc : 0 ≤ c ∧ c ≤ 8) (hd : 0 ≤ d ∧ d ≤ 8) :
    Calls Try.prog 64 #[four x y z t, .pointer (some ⟨g, 0, none⟩)] w fun e w' => e = .returned (.bool (decide (ways4 x y z t ≤ ways4 a b c d))) ∧ Below w.heap.size w w' := by
  have hbx := below_box w (.cells #[.int .i64 x, .int .i64 y, .int .i64 z, .int .i64 t] 26)
  obtain ⟨c0, c1, c2, c3⟩ := box_of (box_keep hg hbx)
  obtain ⟨e0, e1, e2, e3⟩ := box_of (box_new w (.cells #[.int .i64 x, .int .i64 y, .int .i64 z, .int .i64 t] 26))
  have H1 := Lib.hid (fun ww => impl_ways x y z t ww hx hxy hz hzt)
  have H2 := Lib.hid (fun ww => impl_ways a b c d ww (by omega) (by omega) (by omega) (by omega))
  generalize ways4 x y z t = X at *
  generalize ways4 a b c d = Y at *
  have hlt : g < w.heap.size := (Array.getElem?_eq_some_iff.1 hg).1
  clear hx hxy hz hzt ha hb hc hd hg
  go_enter Try.func64, Try.ntmps64
  go_wp2_with fail
  generalize w.alloc (.cells #[.int .i64 x, .int .i64 y, .int .i64 z, .int .i64 t] 26) = w0 at *
  generalize hgx : w.heap.size = gx at *
  have d0 : w0.drew.cell? ⟨g, 0, none⟩ = some (.int .i64 a) := c0
  have d1 : w0.drew.cell? ⟨g, 1, none⟩ = some (.int .i64 b) := c1
  have d2 : w0.drew.cell? ⟨g, 2, none⟩ = some (.int .i64 c) := c2
  have d3 : w0.drew.cell? ⟨g, 3, none⟩ = some (.int .i64 d) := c3
  have f0 : w0.drew.cell? ⟨gx, 0, none⟩ = some (.int .i64 x) := e0
  have f1 : w0.drew.cell? ⟨gx, 1, none⟩ = some (.int .i64 y) := e1
  have f2 : w0.drew.cell? ⟨gx, 2, none⟩ = some (.int .i64 z) := e2
  have f3 : w0.drew.cell? ⟨gx, 3, none⟩ = some (.int .i64 t) := e3
  have hbd : Below w0.heap.size w0 w0.drew := (Below.refl _ _).drew
  go_region_held3 (fun w' => w'.cell? ⟨gx, 0, none⟩ = some (.int .i64 x) ∧ w'.cell? ⟨gx, 1, none⟩ = some (.int .i64 y) ∧ w'.cell? ⟨gx, 2, none⟩ = some (.int .i64 z) ∧ w'.cell? ⟨gx, 3, none⟩ = some (.int .i64 t) ∧ w'.cell? ⟨g, 0, none⟩ = some (.int .i64 a) ∧ w'.cell? ⟨g, 1, none⟩ = some (.int .i64 b) ∧ w'.cell? ⟨g, 2, none⟩ = some (.int .i64 c) ∧ w'.cell? ⟨g, 3, none⟩ = some (.int .i64 d) ∧ Below w0.heap.size w0 w')
    (first | exact kept9 hbk (by assumption) | exact ⟨by assumption, by assumption, by assumption, by assumption, by assumption, by assumption, by assumption, by assumption, by assumption⟩)
    (first
      | (go_at_call_of 44 (Value.agg #[.int .i64 x, .int .i64 y, .int .i64 z, .int .i64 t]); refine (H1.out _).mono ?_; rintro e w' ⟨rfl, hbk⟩)
      | (go_at_call_of 44 (Value.agg #[.int .i64 a, .int .i64 b, .int .i64 c, .int .i64 d]); refine (H2.out _).mono ?_; rintro e w' ⟨rfl, hbk⟩))
  all_goals
    obtain ⟨_, _, _, _, _, _, _, _, hbf⟩ : w'.cell? ⟨gx, 0, none⟩ = some (.int .i64 x) ∧ w'.cell? ⟨gx, 1, none⟩ = some (.int .i64 y) ∧ w'.cell? ⟨gx, 2, none⟩ = some (.int .i64 z) ∧ w'.cell? ⟨gx, 3, none⟩ = some (.int .i64 t) ∧ w'.cell? ⟨g, 0, none⟩ = some (.int .i64 a) ∧ w'.cell? ⟨g, 1, none⟩ = some (.int .i64 b) ∧ w'.cell? ⟨g, 2, none⟩ = some (.int .i64 c) ∧ w'.cell? ⟨g, 3, none⟩ = some (.int .i64 d) ∧ Below w0.heap.size w0 w' := by assumption
    have hbz := hbx.trans (hbf.mono (by have := hbx.size; omega))
    clear hbf
    go_wp2
    go_ret
    exact ⟨rfl, by rw [hgx]; exact hbz⟩

set_option maxHeartbeats 4000000 in
theorem together_Both (a b c d : Int) (g : Nat) (w : World) (hg : w.heap[g]? = some (.cells #[.int .i64 a, .int .i64 b, .int .i64 c, .int .i64 d] 26 (0, 0))) :
    Calls Try.prog 63 #[four a b c d, .func (Fn.func 64) #[] #[.pointer (some ⟨g, 0, none⟩)]] w fun e w' => e = .returned (.tuple #[.int .i64 (someV a b c d (bothT a b c d)), .int .i64 (allV a b c d)]) ∧ Below w.heap.size w w' := by
  have hbx := below_box w (.cells #[.int .i64 a, .int .i64 b, .int .i64 c, .int .i64 d] 26)
  cases hf : fourB a b c d
  · have hx : Hid (someV a b c d (bothT a b c d) = -1 ∧ allV a b c d = -1) := by show _ ∧ _; unfold someV allV; rw [hf]; exact ⟨rfl, rfl⟩
    go_enter Try.func63, Try.ntmps63
    go_wp2_with fail
    refine (impl_valid a b c d _).mono ?_
    rintro e w1 ⟨rfl, hb1⟩
    rw [hf]
    go_wp2_with fail
    go_ret2
    exact ⟨ret_int2 hx.out.1.symm hx.out.2.symm, hbx.trans (hb1.mono hbx.size)⟩
  · have hx : Hid (someV a b c d (bothT a b c d) = sumTo (someF a b c d (bothT a b c d) (likeL a b c d)) (likeL a b c d).length ∧ allV a b c d = sumTo (allF a b c d (likeL a b c d)) (likeL a b c d).length) := by show _ ∧ _; unfold someV allV; rw [hf]; exact ⟨rfl, rfl⟩
    obtain ⟨ha, hb, hc, hd⟩ := fourB_iff.1 hf
    have k0 := box_new w (.cells #[.int .i64 a, .int .i64 b, .int .i64 c, .int .i64 d] 26)
    go_enter Try.func63, Try.ntmps63
    go_wp2_with fail
    refine (impl_valid a b c d _).mono ?_
    rintro e w1 ⟨rfl, hb1⟩
    rw [hf]
    have k1 := box_keep k0 hb1
    have q1 := hbx.trans (hb1.mono hbx.size)
    obtain ⟨c0, c1, c2, c3⟩ := box_of k1
    clear hf k0 hbx hb1
    go_wp2_with fail
    refine (impl_like a b c d _ ha hb hc hd).mono ?_
    rintro e w2 ⟨v, rfl, hrows, hb2⟩
    have q2 := q1.trans (hb2.mono q1.size)
    have hll : (likeL a b c d).length ≤ 17 := by have := likeTo_len a b c d (a + b + 1).toNat; unfold likeL; omega
    have hmem : ∀ j, j < (likeL a b c d).length → 0 ≤ nth (likeL a b c d) j ∧ nth (likeL a b c d) j < (a + b + 1).toNat ∧ 0 ≤ a + b - nth (likeL a b c d) j ∧ 0 ≤ a + c - nth (likeL a b c d) j ∧ 0 ≤ d - a + nth (likeL a b c d) j := fun j hj => likeTo_mem a b c d _ _ (nth_memL _ j hj)
    have HM := Lib.hid hmem
    obtain ⟨ao, cap, rfl, hl1, hl2, hread⟩ := rows_read hrows
    have kg := box_keep hg q2
    generalize hL : likeL a b c d = L at *
    clear hL hmem k1 q1 c0 c1 c2 c3 hb2 hrows
    have hsum := fun k => sums_bd a b c d (bothT a b c d) L k (by omega) (by omega)
    have HSUM := Lib.hid hsum
    clear hsum
    go_wp2_with fail
    go_loopw [6, 7, 16] (fun s t i wr => ∃ k : Nat, k ≤ L.length ∧ i = .int .i64 k ∧ s = .int .i64 (sumTo (someF a b c d (bothT a b c d) L) k) ∧ t = .int .i64 (sumTo (allF a b c d L) k) ∧ Below w2.heap.size w2 wr) (fun _ _ i _ => L.length - (intOf i).toNat)
    case atStart => exact ⟨0, Nat.zero_le _, rfl, rfl, rfl, Below.refl _ _⟩
    case round =>
      obtain ⟨k, hk, rfl, rfl, rfl, hbel⟩ := hrel
      by_cases hlt : k < L.length
      · rcases hread with h0 | ⟨gv, rfl, hg1, hg2, hread⟩
        · omega
        · obtain ⟨r0, r1, r2, r3⟩ := hread k hlt
          obtain ⟨hcc, _⟩ := bcell hbel
          have s0 := (hcc _ _ hg2).trans r0
          have s1 := (hcc _ _ hg2).trans r1
          have s2 := (hcc _ _ hg2).trans r2
          have s3 := (hcc _ _ hg2).trans r3
          obtain ⟨m1, m2, m3, m4, m5⟩ := HM.out k hlt
          have hs := HSUM.out k (by omega)
          have hw := ways4_bd (nth L k) (a + b - nth L k) (a + c - nth L k) (d - a + nth L k) (by omega) (by omega)
          have i1 : (k : Int) < (L.length : Int) := by omega
          have HA : Hid (sumTo (allF a b c d L) (k + 1) = sumTo (allF a b c d L) k + ways4 (nth L k) (a + b - nth L k) (a + c - nth L k) (d - a + nth L k)) := rfl
          have HS : Hid (sumTo (someF a b c d (bothT a b c d) L) (k + 1) = sumTo (someF a b c d (bothT a b c d) L) k + if bothT a b c d (nth L k) = true then ways4 (nth L k) (a + b - nth L k) (a + c - nth L k) (d - a + nth L k) else 0) := rfl
          have hal := below_box wr (.cells #[.int .i64 (nth L k), .int .i64 (a + b - nth L k), .int .i64 (a + c - nth L k), .int .i64 (d - a + nth L k)] 26)
          have kx := box_new wr (.cells #[.int .i64 (nth L k), .int .i64 (a + b - nth L k), .int .i64 (a + c - nth L k), .int .i64 (d - a + nth L k)] 26)
          have q3 := hbel.trans (hal.mono hbel.size)
          have kg3 := box_keep kg q3
          have H2 := Lib.hid (fun ww => impl_ways (nth L k) (a + b - nth L k) (a + c - nth L k) (d - a + nth L k) ww (by omega) (by omega) (by omega) (by omega))
          have H3 := Lib.hid (fun ww hh => may_Both (nth L k) (a + b - nth L k) (a + c - nth L k) (d - a + nth L k) a b c d g ww hh (by omega) (by omega) (by omega) (by omega) ha hb hc hd)
          generalize hX : nth L k = X at *
          generalize hY : ways4 X (a + b - X) (a + c - X) (d - a + X) = Y at *
          generalize sumTo (allF a b c d L) k = T at *
          generalize sumTo (someF a b c d (bothT a b c d) L) k = U at *
          have HYY := Lib.hid hY
          clear hread m1 m2 m3 m4 m5 hX hY r0 r1 r2 r3 hcc hal
          go_wp2_with fail
          refine (H2.out _).mono ?_
          rintro e w3 ⟨rfl, hb3⟩
          have kx3 := box_keep kx hb3
          have kg4 := box_keep kg3 hb3
          have q4 := q3.trans (hb3.mono q3.size)
          clear hb3 kx kg3 q3 s0 s1 s2 s3
          obtain ⟨f0, f1, f2, f3⟩ := box_of kx3
          go_wp2_with fail
          refine (H3.out _ kg4).mono ?_
          rintro e w4 ⟨rfl, hb4⟩
          have kx4 := box_keep kx3 hb4
          have q5 := q4.trans (hb4.mono q4.size)
          clear hb4 kx3 kg4 q4 f0 f1 f2 f3
          obtain ⟨f0, f1, f2, f3⟩ := box_of kx4
          by_cases hp : Y ≤ ways4 a b c d
          · have hp' : decide (Y ≤ ways4 a b c d) = true := decide_eq_true hp
            have HSS : Hid (sumTo (someF a b c d (bothT a b c d) L) (k + 1) = U + Y) := by show _ = _; rw [HS.out, if_pos (by unfold bothT; rw [HYY.out]; exact hp')]
            clear hp
            go_wp2_with fail
            refine (H2.out _).mono ?_
            rintro e w5 ⟨rfl, hb5⟩
            have q6 := q5.trans (hb5.mono q5.size)
            clear hb5 q5
            go_wp2
            go_roundw
            case rel => exact ⟨k + 1, by omega, by go_num, by rw [HSS.out], by rw [HA.out], q6⟩
            case measure => simp [intOf]; omega
          · have hp' : decide (Y ≤ ways4 a b c d) = false := decide_eq_false hp
            have HSS : Hid (sumTo (someF a b c d (bothT a b c d) L) (k + 1) = U) := by show _ = _; rw [HS.out, if_neg (by unfold bothT; rw [HYY.out, hp']; simp)]; omega
            clear hp
            go_wp2
            go_roundw
            case rel => exact ⟨k + 1, by omega, by go_num, by rw [HSS.out], by rw [HA.out], q5⟩
            case measure => simp [intOf]; omega
      · have e : Hid (k = L.length) := by show _ = _; omega
        go_wp2_with fail
        go_ret2
        exact ⟨ret_int2 (by rw [hx.out.1, e.out]) (by rw [hx.out.2, e.out]), q2.trans (hbel.mono q2.size)⟩

set_option maxHeartbeats 1000000 in
theorem impl_FourBoth (a b c d : Int) (w : World) (ba : -9223372036854775808 ≤ a ∧ a ≤ 9223372036854775807) (bb : -9223372036854775808 ≤ b ∧ b ≤ 9223372036854775807) (bc : -9223372036854775808 ≤ c ∧ c ≤ 9223372036854775807) (bd : -9223372036854775808 ≤ d ∧ d ≤ 9223372036854775807) :
    Calls Try.prog 32 #[four a b c d] w fun e w' => e = .returned (.tuple #[.int .i64 (someV a b c d (bothT a b c d)), .int .i64 (allV a b c d)]) ∧ Below w.heap.size w w' := by
  have hbx := below_box w (.cells #[.int .i64 a, .int .i64 b, .int .i64 c, .int .i64 d] 26)
  have k0 := box_new w (.cells #[.int .i64 a, .int .i64 b, .int .i64 c, .int .i64 d] 26)
  go_enter Try.func32, Try.ntmps32
  go_wp2_with fail
  refine (together_Both a b c d _ _ k0).mono ?_
  rintro e w1 ⟨rfl, hb1⟩
  go_wp2_with fail
  go_ret2
  exact ⟨rfl, hbx.trans (hb1.mono hbx.size)⟩
end Go.Proofs.Ytcfeeobjllnofaa
