/-
  Ways of tables with the same sums: FourChance, FourBoth.
-/
import Derived.Test.YtcfeeobjllnofaaLikeF
import Derived.Test.YtcfeeobjllnofaaSum
namespace Go.Proofs.Ytcfeeobjllnofaa
open Go.RowKit
set_option linter.unusedVariables false

/-- The ways of the table with another first number; the tests; the sums. -/
def chanceT (a : Int) (x : Int) : Bool := decide (a ≤ x)
def bothT (a b c d : Int) (x : Int) : Bool := decide (ways4 x (a + b - x) (a + c - x) (d - a + x) ≤ ways4 a b c d)
def allF (a b c d : Int) (L : List Int) (j : Nat) : Int := ways4 (nth L j) (a + b - nth L j) (a + c - nth L j) (d - a + nth L j)
def someF (a b c d : Int) (P : Int → Bool) (L : List Int) (j : Nat) : Int := if P (nth L j) = true then ways4 (nth L j) (a + b - nth L j) (a + c - nth L j) (d - a + nth L j) else 0
def someV (a b c d : Int) (P : Int → Bool) : Int := if fourB a b c d = true then sumTo (someF a b c d P (likeL a b c d)) (likeL a b c d).length else -1
def allV (a b c d : Int) : Int := if fourB a b c d = true then sumTo (allF a b c d (likeL a b c d)) (likeL a b c d).length else -1
theorem sums_bd (a b c d : Int) (P : Int → Bool) (L : List Int) (k : Nat) (h1 : a + b ≤ 16) (h2 : c + d ≤ 16) (hk : k ≤ 18) :
    (0 ≤ sumTo (someF a b c d P L) k ∧ sumTo (someF a b c d P L) k ≤ 77309411328) ∧ (0 ≤ sumTo (allF a b c d L) k ∧ sumTo (allF a b c d L) k ≤ 77309411328) := by
  have hw := fun x => ways4_bd x (a + b - x) (a + c - x) (d - a + x) (by omega) (by omega)
  have g1 := sumTo_bd (someF a b c d P L) 4294967296 k (fun j _ => by
    unfold someF
    split
    · exact hw _
    · omega)
  have g2 := sumTo_bd (allF a b c d L) 4294967296 k (fun j _ => hw _)
  omega
theorem nth_memL (zs : List Int) (j : Nat) (h : j < zs.length) : nth zs j ∈ zs := by
  have : nth zs j = zs[j] := by simp [nth, List.getD, h]
  rw [this]; exact List.getElem_mem _
theorem owns_read {w : World} {B : Nat} {v : Value} {zs : List Int} (h : Owns w B v zs) :
    ∃ ao cap, v = .slice ao zs.length cap ∧ zs.length ≤ cap ∧ cap ≤ 9223372036854775807 ∧ (zs.length = 0 ∨ ∃ g, ao = some ⟨g, 0, none⟩ ∧ g < w.heap.size ∧ ∀ j, j < zs.length → w.cell? ⟨g, j, none⟩ = some (.int .i64 (nth zs j))) := by
  rcases h.shape with ⟨rfl, rfl⟩ | ⟨g, cap, rfl, h1, h2, h3, h4⟩
  · exact ⟨none, 0, rfl, Nat.le_refl _, by omega, .inl rfl⟩
  · exact ⟨_, cap, rfl, h3, h4, .inr ⟨g, rfl, h2, fun j hj => h.cell j hj⟩⟩
theorem kept6 {wr w w' : World} {g lg i : Nat} {x y z t u : Value} (hb : Below w.heap.size w w')
    (h : w.cell? ⟨g, 0, none⟩ = some x ∧ w.cell? ⟨g, 1, none⟩ = some y ∧ w.cell? ⟨g, 2, none⟩ = some z ∧ w.cell? ⟨g, 3, none⟩ = some t ∧ w.cell? ⟨lg, i, none⟩ = some u ∧ Below wr.heap.size wr w) :
    w'.cell? ⟨g, 0, none⟩ = some x ∧ w'.cell? ⟨g, 1, none⟩ = some y ∧ w'.cell? ⟨g, 2, none⟩ = some z ∧ w'.cell? ⟨g, 3, none⟩ = some t ∧ w'.cell? ⟨lg, i, none⟩ = some u ∧ Below wr.heap.size wr w' := by
  obtain ⟨h0, h1, h2, h3, h4, h5⟩ := h
  have l1 := World.block_lt_of_cell? _ _ h0
  have l2 := World.block_lt_of_cell? _ _ h4
  exact ⟨(hb.cell (p := ⟨g, 0, none⟩) l1).trans h0, (hb.cell (p := ⟨g, 1, none⟩) l1).trans h1, (hb.cell (p := ⟨g, 2, none⟩) l1).trans h2, (hb.cell (p := ⟨g, 3, none⟩) l1).trans h3, (hb.cell (p := ⟨lg, i, none⟩) l2).trans h4, h5.trans (hb.mono h5.size)⟩

set_option maxHeartbeats 4000000 in
theorem spec_FourChance (a b c d : Int) (w : World) (ba : -9223372036854775808 ≤ a ∧ a ≤ 9223372036854775807) (bb : -9223372036854775808 ≤ b ∧ b ≤ 9223372036854775807) (bc : -9223372036854775808 ≤ c ∧ c ≤ 9223372036854775807) (bd : -9223372036854775808 ≤ d ∧ d ≤ 9223372036854775807) :
    Calls Try.prog 33 #[four a b c d] w fun e w' => e = .returned (.tuple #[.int .i64 (someV a b c d (chanceT a)), .int .i64 (allV a b c d)]) ∧ Below w.heap.size w w' := by
  have hbx := below_box w (.cells #[.int .i64 a, .int .i64 b, .int .i64 c, .int .i64 d] 26)
  cases hf : fourB a b c d
  · have hx : Hid (someV a b c d (chanceT a) = -1 ∧ allV a b c d = -1) := by show _ ∧ _; unfold someV allV; rw [hf]; exact ⟨rfl, rfl⟩
    go_enter Try.func33, Try.ntmps33
    go_wp2_with fail
    refine (spec_validFour a b c d _).mono ?_
    rintro e w1 ⟨rfl, hb1⟩
    rw [hf]
    go_wp2_with fail
    go_ret2
    exact ⟨ret_int2 hx.out.1.symm hx.out.2.symm, hbx.trans (hb1.mono hbx.size)⟩
  · have hx : Hid (someV a b c d (chanceT a) = sumTo (someF a b c d (chanceT a) (likeL a b c d)) (likeL a b c d).length ∧ allV a b c d = sumTo (allF a b c d (likeL a b c d)) (likeL a b c d).length) := by show _ ∧ _; unfold someV allV; rw [hf]; exact ⟨rfl, rfl⟩
    have hlv : likeV a b c d = likeL a b c d := if_pos hf
    obtain ⟨ha, hb, hc, hd⟩ := fourB_iff.1 hf
    have k0 := box_new w (.cells #[.int .i64 a, .int .i64 b, .int .i64 c, .int .i64 d] 26)
    go_enter Try.func33, Try.ntmps33
    go_wp2_with fail
    refine (spec_validFour a b c d _).mono ?_
    rintro e w1 ⟨rfl, hb1⟩
    rw [hf]
    have k1 := box_keep k0 hb1
    have q1 := hbx.trans (hb1.mono hbx.size)
    obtain ⟨c0, c1, c2, c3⟩ := box_of k1
    clear hf k0 hbx hb1
    go_wp2_with fail
    refine (spec_FoursLike a b c d _).mono ?_
    rintro e w2 ⟨v, rfl, hown, hb2⟩
    rw [hlv] at hown
    have q2 := q1.trans (hb2.mono q1.size)
    have k2 := box_keep k1 hb2
    have hll : (likeL a b c d).length ≤ 17 := by have := likeTo_len a b c d (a + b + 1).toNat; unfold likeL; omega
    have hmem : ∀ j, j < (likeL a b c d).length → 0 ≤ nth (likeL a b c d) j ∧ nth (likeL a b c d) j < (a + b + 1).toNat ∧ 0 ≤ a + b - nth (likeL a b c d) j ∧ 0 ≤ a + c - nth (likeL a b c d) j ∧ 0 ≤ d - a + nth (likeL a b c d) j := fun j hj => likeTo_mem a b c d _ _ (nth_memL _ j hj)
    have HM := Lib.hid hmem
    have hlenv : ∃ ao cap, v = .slice ao (likeL a b c d).length cap ∧ (likeL a b c d).length ≤ cap ∧ cap ≤ 9223372036854775807 ∧ ((likeL a b c d).length = 0 ∨ ∃ g, ao = some ⟨g, 0, none⟩ ∧ g < w2.heap.size ∧ ∀ j, j < (likeL a b c d).length → w2.cell? ⟨g, j, none⟩ = some (.int .i64 (nth (likeL a b c d) j))) := owns_read hown
    obtain ⟨ao, cap, rfl, hl1, hl2, hread⟩ := hlenv
    generalize hL : likeL a b c d = L at *
    clear hL hlv hmem k1 q1 c0 c1 c2 c3 hb2 hown
    have hsum := fun k => sums_bd a b c d (chanceT a) L k (by omega) (by omega)
    have HSUM := Lib.hid hsum
    clear hsum
    go_wp2_with fail
    go_loopw [5, 6, 7, 8] (fun s t i _ wr => ∃ k : Nat, k ≤ L.length ∧ i = .int .i64 k ∧ s = .int .i64 (sumTo (someF a b c d (chanceT a) L) k) ∧ t = .int .i64 (sumTo (allF a b c d L) k) ∧ Below w2.heap.size w2 wr) (fun _ _ i _ _ => L.length - (intOf i).toNat)
    case atStart => exact ⟨0, Nat.zero_le _, rfl, rfl, rfl, Below.refl _ _⟩
    case round =>
      obtain ⟨k, hk, rfl, rfl, rfl, hbel⟩ := hrel
      by_cases hlt : k < L.length
      · rcases hread with h0 | ⟨g, rfl, hg2, hread⟩
        · omega
        · obtain ⟨m1, m2, m3, m4, m5⟩ := HM.out k hlt
          have hs := HSUM.out k (by omega)
          have hw := ways4_bd (nth L k) (a + b - nth L k) (a + c - nth L k) (d - a + nth L k) (by omega) (by omega)
          have kr := box_keep k2 hbel
          obtain ⟨c0, c1, c2, c3⟩ := box_of kr
          have cl := ((bcell hbel).1 _ k hg2).trans (hread k hlt)
          have i1 : (k : Int) < (L.length : Int) := by omega
          have d0 : wr.drew.cell? ⟨w.heap.size, 0, none⟩ = some (.int .i64 a) := c0
          have d1 : wr.drew.cell? ⟨w.heap.size, 1, none⟩ = some (.int .i64 b) := c1
          have d2 : wr.drew.cell? ⟨w.heap.size, 2, none⟩ = some (.int .i64 c) := c2
          have d3 : wr.drew.cell? ⟨w.heap.size, 3, none⟩ = some (.int .i64 d) := c3
          have dl : wr.drew.cell? ⟨g, k, none⟩ = some (.int .i64 (nth L k)) := cl
          have hbd : Below wr.heap.size wr wr.drew := (Below.refl _ _).drew
          have HA : Hid (sumTo (allF a b c d L) (k + 1) = sumTo (allF a b c d L) k + ways4 (nth L k) (a + b - nth L k) (a + c - nth L k) (d - a + nth L k)) := rfl
          have HS : Hid (sumTo (someF a b c d (chanceT a) L) (k + 1) = sumTo (someF a b c d (chanceT a) L) k + if chanceT a (nth L k) = true then ways4 (nth L k) (a + b - nth L k) (a + c - nth L k) (d - a + nth L k) else 0) := rfl
          have HK := Lib.hid (And.intro k2 (And.intro q2 hbel))
          have H1 := Lib.hid (fun ww => spec_shifted a b c d (nth L k) ww ha hb hc hd (by omega))
          have H2 := Lib.hid (fun ww => spec_fourWays (nth L k) (a + b - nth L k) (a + c - nth L k) (d - a + nth L k) ww (by omega) (by omega) (by omega) (by omega))
          generalize hX : nth L k = X at *
          generalize hY : ways4 X (a + b - X) (a + c - X) (d - a + X) = Y at *
          generalize sumTo (allF a b c d L) k = T at *
          generalize sumTo (someF a b c d (chanceT a) L) k = U at *
          clear hread m1 m2 m3 m4 m5 hX hY kr
          go_wp2_with fail
          go_region_held3 (fun w' => w'.cell? ⟨w.heap.size, 0, none⟩ = some (.int .i64 a) ∧ w'.cell? ⟨w.heap.size, 1, none⟩ = some (.int .i64 b) ∧ w'.cell? ⟨w.heap.size, 2, none⟩ = some (.int .i64 c) ∧ w'.cell? ⟨w.heap.size, 3, none⟩ = some (.int .i64 d) ∧ w'.cell? ⟨g, k, none⟩ = some (.int .i64 X) ∧ Below wr.heap.size wr w')
            (first | exact kept6 hbk (by assumption) | exact ⟨by assumption, by assumption, by assumption, by assumption, by assumption, by assumption⟩)
            (first
              | (go_at_call 60; refine (H1.out _).mono ?_; rintro e w' ⟨rfl, hbk⟩)
              | (go_at_call 41; refine (H2.out _).mono ?_; rintro e w' ⟨rfl, hbk⟩))
          all_goals
            obtain ⟨f0, f1, f2, f3, fl, hbf⟩ : w'.cell? ⟨w.heap.size, 0, none⟩ = some (.int .i64 a) ∧ w'.cell? ⟨w.heap.size, 1, none⟩ = some (.int .i64 b) ∧ w'.cell? ⟨w.heap.size, 2, none⟩ = some (.int .i64 c) ∧ w'.cell? ⟨w.heap.size, 3, none⟩ = some (.int .i64 d) ∧ w'.cell? ⟨g, k, none⟩ = some (.int .i64 X) ∧ Below wr.heap.size wr w' := by assumption
            have hbn := HK.out.2.2.trans (hbf.mono HK.out.2.2.size)
            have HD := Lib.hid (fun n => below_dn hbn n)
            clear c0 c1 c2 c3 d0 d1 d2 d3 cl dl hbd hbf H1 H2 hbk
            by_cases hp : a ≤ X
            · have hp' : decide (a ≤ X) = true := decide_eq_true hp
              have HSS : Hid (sumTo (someF a b c d (chanceT a) L) (k + 1) = U + Y) := by show _ = _; rw [HS.out, if_pos (show chanceT a X = true from hp')]
              clear hp
              go_wp2
              go_quiet (fail)
              go_wp2
              go_roundw
              case rel => exact ⟨k + 1, by omega, by go_num, by rw [HSS.out], by rw [HA.out], HD.out _⟩
              case measure => simp [intOf]; omega
            · have hp' : decide (a ≤ X) = false := decide_eq_false hp
              have HSS : Hid (sumTo (someF a b c d (chanceT a) L) (k + 1) = U) := by show _ = _; rw [HS.out, if_neg (by rw [show chanceT a X = false from hp']; simp)]; omega
              clear hp
              go_wp2
              go_quiet (fail)
              go_wp2
              go_roundw
              case rel => exact ⟨k + 1, by omega, by go_num, by rw [HSS.out], by rw [HA.out], HD.out _⟩
              case measure => simp [intOf]; omega
      · have e : Hid (k = L.length) := by show _ = _; omega
        go_wp2_with fail
        go_ret2
        exact ⟨ret_int2 (by rw [hx.out.1, e.out]) (by rw [hx.out.2, e.out]), q2.trans (hbel.mono q2.size)⟩

set_option maxHeartbeats 4000000 in
theorem spec_FourBoth (a b c d : Int) (w : World) (ba : -9223372036854775808 ≤ a ∧ a ≤ 9223372036854775807) (bb : -9223372036854775808 ≤ b ∧ b ≤ 9223372036854775807) (bc : -9223372036854775808 ≤ c ∧ c ≤ 9223372036854775807) (bd : -9223372036854775808 ≤ d ∧ d ≤ 9223372036854775807) :
    Calls Try.prog 31 #[four a b c d] w fun e w' => e = .returned (.tuple #[.int .i64 (someV a b c d (bothT a b c d)), .int .i64 (allV a b c d)]) ∧ Below w.heap.size w w' := by
  have hbx := below_box w (.cells #[.int .i64 a, .int .i64 b, .int .i64 c, .int .i64 d] 26)
  cases hf : fourB a b c d
  · have hx : Hid (someV a b c d (bothT a b c d) = -1 ∧ allV a b c d = -1) := by show _ ∧ _; unfold someV allV; rw [hf]; exact ⟨rfl, rfl⟩
    go_enter Try.func31, Try.ntmps31
    go_wp2_with fail
    refine (spec_validFour a b c d _).mono ?_
    rintro e w1 ⟨rfl, hb1⟩
    rw [hf]
    go_wp2_with fail
    go_ret2
    exact ⟨ret_int2 hx.out.1.symm hx.out.2.symm, hbx.trans (hb1.mono hbx.size)⟩
  · have hx : Hid (someV a b c d (bothT a b c d) = sumTo (someF a b c d (bothT a b c d) (likeL a b c d)) (likeL a b c d).length ∧ allV a b c d = sumTo (allF a b c d (likeL a b c d)) (likeL a b c d).length) := by show _ ∧ _; unfold someV allV; rw [hf]; exact ⟨rfl, rfl⟩
    have hlv : likeV a b c d = likeL a b c d := if_pos hf
    obtain ⟨ha, hb, hc, hd⟩ := fourB_iff.1 hf
    have k0 := box_new w (.cells #[.int .i64 a, .int .i64 b, .int .i64 c, .int .i64 d] 26)
    go_enter Try.func31, Try.ntmps31
    go_wp2_with fail
    refine (spec_validFour a b c d _).mono ?_
    rintro e w1 ⟨rfl, hb1⟩
    rw [hf]
    have k1 := box_keep k0 hb1
    have q1 := hbx.trans (hb1.mono hbx.size)
    obtain ⟨c0, c1, c2, c3⟩ := box_of k1
    clear hf k0 hbx hb1
    go_wp2_with fail
    refine (spec_FoursLike a b c d _).mono ?_
    rintro e w2 ⟨v, rfl, hown, hb2⟩
    rw [hlv] at hown
    have q2 := q1.trans (hb2.mono q1.size)
    have k2 := box_keep k1 hb2
    have hll : (likeL a b c d).length ≤ 17 := by have := likeTo_len a b c d (a + b + 1).toNat; unfold likeL; omega
    have hmem : ∀ j, j < (likeL a b c d).length → 0 ≤ nth (likeL a b c d) j ∧ nth (likeL a b c d) j < (a + b + 1).toNat ∧ 0 ≤ a + b - nth (likeL a b c d) j ∧ 0 ≤ a + c - nth (likeL a b c d) j ∧ 0 ≤ d - a + nth (likeL a b c d) j := fun j hj => likeTo_mem a b c d _ _ (nth_memL _ j hj)
    have HM := Lib.hid hmem
    have hlenv : ∃ ao cap, v = .slice ao (likeL a b c d).length cap ∧ (likeL a b c d).length ≤ cap ∧ cap ≤ 9223372036854775807 ∧ ((likeL a b c d).length = 0 ∨ ∃ g, ao = some ⟨g, 0, none⟩ ∧ g < w2.heap.size ∧ ∀ j, j < (likeL a b c d).length → w2.cell? ⟨g, j, none⟩ = some (.int .i64 (nth (likeL a b c d) j))) := owns_read hown
    obtain ⟨ao, cap, rfl, hl1, hl2, hread⟩ := hlenv
    generalize hL : likeL a b c d = L at *
    clear hL hlv hmem k1 q1 c0 c1 c2 c3 hb2 hown
    have hsum := fun k => sums_bd a b c d (bothT a b c d) L k (by omega) (by omega)
    have HSUM := Lib.hid hsum
    clear hsum
    go_wp2_with fail
    go_loopw [5, 6, 7, 8] (fun s t i _ wr => ∃ k : Nat, k ≤ L.length ∧ i = .int .i64 k ∧ s = .int .i64 (sumTo (someF a b c d (bothT a b c d) L) k) ∧ t = .int .i64 (sumTo (allF a b c d L) k) ∧ Below w2.heap.size w2 wr) (fun _ _ i _ _ => L.length - (intOf i).toNat)
    case atStart => exact ⟨0, Nat.zero_le _, rfl, rfl, rfl, Below.refl _ _⟩
    case round =>
      obtain ⟨k, hk, rfl, rfl, rfl, hbel⟩ := hrel
      by_cases hlt : k < L.length
      · rcases hread with h0 | ⟨g, rfl, hg2, hread⟩
        · omega
        · obtain ⟨m1, m2, m3, m4, m5⟩ := HM.out k hlt
          have hs := HSUM.out k (by omega)
          have hw := ways4_bd (nth L k) (a + b - nth L k) (a + c - nth L k) (d - a + nth L k) (by omega) (by omega)
          have kr := box_keep k2 hbel
          obtain ⟨c0, c1, c2, c3⟩ := box_of kr
          have cl := ((bcell hbel).1 _ k hg2).trans (hread k hlt)
          have i1 : (k : Int) < (L.length : Int) := by omega
          have d0 : wr.drew.cell? ⟨w.heap.size, 0, none⟩ = some (.int .i64 a) := c0
          have d1 : wr.drew.cell? ⟨w.heap.size, 1, none⟩ = some (.int .i64 b) := c1
          have d2 : wr.drew.cell? ⟨w.heap.size, 2, none⟩ = some (.int .i64 c) := c2
          have d3 : wr.drew.cell? ⟨w.heap.size, 3, none⟩ = some (.int .i64 d) := c3
          have dl : wr.drew.cell? ⟨g, k, none⟩ = some (.int .i64 (nth L k)) := cl
          have hbd : Below wr.heap.size wr wr.drew := (Below.refl _ _).drew
          have HA : Hid (sumTo (allF a b c d L) (k + 1) = sumTo (allF a b c d L) k + ways4 (nth L k) (a + b - nth L k) (a + c - nth L k) (d - a + nth L k)) := rfl
          have HS : Hid (sumTo (someF a b c d (bothT a b c d) L) (k + 1) = sumTo (someF a b c d (bothT a b c d) L) k + if bothT a b c d (nth L k) = true then ways4 (nth L k) (a + b - nth L k) (a + c - nth L k) (d - a + nth L k) else 0) := rfl
          have HK := Lib.hid (And.intro k2 (And.intro q2 hbel))
          have H1 := Lib.hid (fun ww => spec_shifted a b c d (nth L k) ww ha hb hc hd (by omega))
          have H2 := Lib.hid (fun ww => spec_fourWays (nth L k) (a + b - nth L k) (a + c - nth L k) (d - a + nth L k) ww (by omega) (by omega) (by omega) (by omega))
          generalize hX : nth L k = X at *
          generalize hY : ways4 X (a + b - X) (a + c - X) (d - a + X) = Y at *
          generalize sumTo (allF a b c d L) k = T at *
          generalize sumTo (someF a b c d (bothT a b c d) L) k = U at *
          have HYY := Lib.hid hY
          clear hread m1 m2 m3 m4 m5 hX hY kr
          go_wp2_with fail
          go_region_held3 (fun w' => w'.cell? ⟨w.heap.size, 0, none⟩ = some (.int .i64 a) ∧ w'.cell? ⟨w.heap.size, 1, none⟩ = some (.int .i64 b) ∧ w'.cell? ⟨w.heap.size, 2, none⟩ = some (.int .i64 c) ∧ w'.cell? ⟨w.heap.size, 3, none⟩ = some (.int .i64 d) ∧ w'.cell? ⟨g, k, none⟩ = some (.int .i64 X) ∧ Below wr.heap.size wr w')
            (first | exact kept6 hbk (by assumption) | exact ⟨by assumption, by assumption, by assumption, by assumption, by assumption, by assumption⟩)
            (first
              | (go_at_call 60; refine (H1.out _).mono ?_; rintro e w' ⟨rfl, hbk⟩)
              | (go_at_call 41; refine (H2.out _).mono ?_; rintro e w' ⟨rfl, hbk⟩))
          all_goals
            obtain ⟨f0, f1, f2, f3, fl, hbf⟩ : w'.cell? ⟨w.heap.size, 0, none⟩ = some (.int .i64 a) ∧ w'.cell? ⟨w.heap.size, 1, none⟩ = some (.int .i64 b) ∧ w'.cell? ⟨w.heap.size, 2, none⟩ = some (.int .i64 c) ∧ w'.cell? ⟨w.heap.size, 3, none⟩ = some (.int .i64 d) ∧ w'.cell? ⟨g, k, none⟩ = some (.int .i64 X) ∧ Below wr.heap.size wr w' := by assumption
            have hbn := HK.out.2.2.trans (hbf.mono HK.out.2.2.size)
            have HD := Lib.hid (fun n => below_dn hbn n)
            clear c0 c1 c2 c3 d0 d1 d2 d3 cl dl hbd hbf H1 H2 hbk
            by_cases hp : Y ≤ ways4 a b c d
            · have hp' : decide (Y ≤ ways4 a b c d) = true := decide_eq_true hp
              have HSS : Hid (sumTo (someF a b c d (bothT a b c d) L) (k + 1) = U + Y) := by show _ = _; rw [HS.out, if_pos (by unfold bothT; rw [HYY.out]; exact hp')]
              clear hp
              go_wp2_with fail
              refine (spec_fourWays a b c d _ (by omega) (by omega) (by omega) (by omega)).mono ?_
              rintro e w'' ⟨rfl, hbz⟩
              have hbm := hbn.trans (hbz.mono hbn.size)
              clear hbz
              go_wp2
              go_roundw
              case rel => exact ⟨k + 1, by omega, by go_num, by rw [HSS.out], by rw [HA.out], hbm⟩
              case measure => simp [intOf]; omega
            · have hp' : decide (Y ≤ ways4 a b c d) = false := decide_eq_false hp
              have HSS : Hid (sumTo (someF a b c d (bothT a b c d) L) (k + 1) = U) := by show _ = _; rw [HS.out, if_neg (by unfold bothT; rw [HYY.out, hp']; simp)]; omega
              clear hp
              go_wp2_with fail
              refine (spec_fourWays a b c d _ (by omega) (by omega) (by omega) (by omega)).mono ?_
              rintro e w'' ⟨rfl, hbz⟩
              have hbm := hbn.trans (hbz.mono hbn.size)
              clear hbz
              go_wp2
              go_roundw
              case rel => exact ⟨k + 1, by omega, by go_num, by rw [HSS.out], by rw [HA.out], hbm⟩
              case measure => simp [intOf]; omega
      · have e : Hid (k = L.length) := by show _ = _; omega
        go_wp2_with fail
        go_ret2
        exact ⟨ret_int2 (by rw [hx.out.1, e.out]) (by rw [hx.out.2, e.out]), q2.trans (hbel.mono q2.size)⟩
end Go.Proofs.Ytcfeeobjllnofaa
