/-
  The rows that spec.someGaps draws.
-/
import Derived.Test.YtcfeeobjllnofaaSmall
namespace Go.Proofs.Ytcfeeobjllnofaa
open Go.RowKit
set_option linter.unusedVariables false

theorem rdr_app {W w w' : World} {rv u : Value} {p B : Nat} {ob : Obj} (h : Rdr W w rv p) (hu : ∀ k, u.ownBlock = some k → B ≤ k) (hgB : ∀ g, rdrBlock rv = some g → g < B) (hgrow : (w.alloc ob).grownBy w' u.ownBlock) : Rdr W w' rv p := by
  refine (h.keep (below_box1 w ob)).other hgrow ?_
  intro e
  cases ho : rdrBlock rv with
  | none =>
    obtain ⟨g, a, L, cap, rfl, _⟩ := h
    simp [rdrBlock] at ho
  | some k =>
    rw [ho] at e
    have h1 := hu k e.symm
    have h2 := hgB k ho
    omega
theorem rdr_set' {W w : World} {rv : Value} {p B q b : Nat} {x : Value} (h : Rdr W w rv p) (hgB : ∀ g, rdrBlock rv = some g → g < B) (hq : B ≤ q) : Rdr W (w.setCell ⟨q, b, none⟩ x) rv p := by
  refine h.other (r := some q) ⟨rfl, rfl, rfl, by simp [World.setCell], fun k _ hr => Below.heap_setCell _ _ _ _ (fun e => hr (by rw [e]))⟩ ?_
  intro e
  have := hgB q e
  omega
/-- Drawn rows. -/
def RetGaps (W : World) (e : Ending) (w' : World) : Prop := ∃ v rs, e = .returned v ∧ ReadsM w' v rs ∧ Below W.heap.size W w' ∧ List.length rs ≤ 6

set_option maxHeartbeats 4000000 in
theorem draw_someGaps (W w : World) (rv : Value) (hR : Rdr W w rv 0) (hb : Below W.heap.size W w) :
    Calls Try.prog 70 #[rv] w (RetGaps W) := by
  obtain ⟨ti, hi, hz0, hz1, hz2⟩ := info_parts infoInt
  obtain ⟨tr, hri, hrz0, hrz1, hrz2⟩ := info_parts infoInts
  have hgB := hR.blk
  have hBW := hb.size
  have HBW := Lib.hid hBW
  go_enter Try.func70, Try.ntmps70
  go_wp2_with fail
  refine (rdr_lit W w rv 0 [4, 5, 3, 6, 2, 1] 6 rfl (by omega) (by omega) hR hb (by omega)).mono ?_
  rintro e w1 ⟨nn, rfl, hn, hR1, hb1, hg1⟩
  have hs1 : w.heap.size ≤ w1.heap.size := hg1.size
  obtain ⟨n, rfl⟩ : ∃ n : Nat, nn = n := ⟨nn.toNat, by simp at hn; omega⟩
  have hnb : 0 < n ∧ n ≤ 6 := by simp at hn; omega
  obtain ⟨h0, h6⟩ := hnb
  obtain ⟨M, hM⟩ : ∃ M : Nat, (n : Int) - 1 = M := ⟨n - 1, by omega⟩
  clear hn hR hb hg1 hBW
  have hm0 := MatB.start w1 w.heap.size hs1 n (fun _ => 0) (fun _ => 0) (fun _ => [])
  have hal := below_box1 w1 (.cells #[] 36)
  have hR2 := hR1.keep hal
  have hb2 := hb1.trans (hal.mono hb1.size)
  have hs2 := Nat.le_trans hs1 hal.size
  clear hR1 hb1 hal hs1
  go_wp2_with fail
  go_loopw [4, 5] (fun o i wr => ∃ (k : Nat) (G K : Nat → Nat) (Z : Nat → List Int), k ≤ n ∧ i = .int .i64 k ∧ MatB wr w.heap.size o k n G K Z ∧ Rdr W wr rv 1 ∧ Below W.heap.size W wr ∧ w.heap.size ≤ wr.heap.size) (fun _ i _ => n - (intOf i).toNat)
  case atStart => exact ⟨0, _, _, _, Nat.zero_le _, rfl, hm0, hR2, hb2, hs2⟩
  case round =>
    clear hm0 hR2 hb2 hs2
    obtain ⟨k, G, K, Z, hk, rfl, hmat, hR, hb, hsz⟩ := hrel
    by_cases hlt : k < n
    · have i1 : (k : Int) < (n : Int) := by omega
      go_wp2_with (at_make; refine wpList_make_full _ rfl _ _ 36 rfl w.heap.size 3 ti (.int .i64 0) 1 Try.underlying36 hi hz0 hz1 .i64 .i64 _ _ n rfl rfl rfl rfl (by rw [hz2]; omega) (by unfold maxLen; omega) (by omega) ?_)
      intro w2 hown0 hgrow0
      have hnew := Owns.made (zs := List.replicate n 0) (by simpa using hown0) rfl rfl
      have hb12 : Below wr.heap.size wr w2 := (Below.refl _ _).grown hgrow0 (Nat.le_refl _) (by simp)
      have hmat2 := hmat.keep hb12
      have hR2 := hR.keep hb12
      have hb2 := hb.trans (hb12.mono hb.size)
      have hsz2 := Nat.le_trans hsz hb12.size
      have hGq : ∀ j, j < k → G j ≠ wr.heap.size := fun j hj e => by have := (hmat.lt j hj).2; omega
      have hoq : u4.ownBlock ≠ some wr.heap.size := fun e => by have := (World.ownsRow.lt hmat.outer _ e).2; omega
      have HH := Lib.hid (And.intro hmat2 (And.intro hR2 (And.intro hb2 (And.intro hnew (And.intro hGq (And.intro hoq hsz2))))))
      have HO := Lib.hid (World.ownsRow.alloc hmat2.outer (.cells #[.slice (some ⟨wr.heap.size, 0, none⟩) n n] 36))
      clear hmat2 hR2 hb2 hnew hGq hoq hsz2 hmat hR hb hown0 hgrow0 hb12
      go_wp2_with (at_builtin; refine wpList_append_fresh rfl _ _ 31 rfl w.heap.size 36 tr (.slice none 0 0) 1 24 Try.underlying31 hri hrz0 hrz1 hrz2 rfl (by decide) _ _ _ rfl HO.out ⟨w2.heap.size, 0, none⟩ 1 1 [.slice (some ⟨wr.heap.size, 0, none⟩) n n] rfl rfl (new_cellsR _ _ _ rfl) (new_oneR _ _ _) (by omega) (by unfold maxLen; omega) (by omega) (by have := HH.out.2.2.2.2.2.2; simp; omega) ?_)
      intro v3 w3 hown' hgrow hblk
      obtain ⟨h1, h2, h3, h4, h5, h6', h7⟩ := HH.out
      have hp := h1.push h4 (by simp) h5 h6' hown' hgrow (by simpa using hblk)
      have hRn := rdr_app h2 (fun p hp => (World.ownsRow.lt h1.outer p hp).1) hgB hgrow
      have hbn : Below W.heap.size W w3 := (h3.alloc h3.size _).grown hgrow (by have := HBW.out; simp; omega) (fun p hp => Nat.le_trans HBW.out (World.ownsRow.lt h1.outer p hp).1)
      have hsn : w.heap.size ≤ w3.heap.size := by have := hgrow.size; simp at this; omega
      clear hown' hgrow hblk h1 h2 h3 h4 h5 h6' h7 HH HO
      go_wp2
      go_roundw
      case rel => exact ⟨k + 1, _, _, _, by omega, by go_num, hp, hRn, hbn, hsn⟩
      case measure => simp [intOf]; omega
    · have e : k = n := by omega
      rw [e] at hmat
      clear e
      obtain ⟨g, cap', rfl, g1, g2, g3, g4⟩ := hmat.open_ h0
      have j0 : ¬ (k : Int) < (n : Int) := by omega
      go_wp2_with fail
      refine (rdr_lit W _ rv _ [5, 12, 40, 2] 4 rfl (by omega) (by omega) hR hb (by omega)).mono ?_
      rintro e wa ⟨most, rfl, hmo, hR1, hb1, hg1⟩
      have hmob : 1 ≤ most ∧ most ≤ 40 := by simp at hmo; omega
      have hmat1 := hmat.past hg1 hgB
      clear hmo hmat hR hb hg1 hsz g2
      go_wp2_with fail
      go_loopw [7, 8, 9] (fun i _ _ wr => ∃ (a : Nat) (Z : Nat → List Int) (p : Nat), a ≤ n ∧ i = .int .i64 a ∧ MatB wr w.heap.size (.slice (some ⟨g, 0, none⟩) n cap') n n G K Z ∧ Rdr W wr rv p ∧ p ≤ 2 + 6 * a ∧ Below W.heap.size W wr) (fun i _ _ _ => n - (intOf i).toNat)
      case atStart => exact ⟨0, Z, 2, Nat.zero_le _, rfl, hmat1, hR1, by omega, hb1⟩
      case round =>
        clear hmat1 hR1 hb1
        obtain ⟨a, Z1, p, ha, rfl, hmat, hR, hp, hb⟩ := hrel
        by_cases han : a < n
        · have i1 : (a : Int) < (n : Int) := by omega
          go_wp2_with fail
          go_loopw [8, 9] (fun i _ wr => ∃ (b : Nat) (Z : Nat → List Int) (p : Nat), b ≤ a ∧ i = .int .i64 b ∧ MatB wr w.heap.size (.slice (some ⟨g, 0, none⟩) n cap') n n G K Z ∧ Rdr W wr rv p ∧ p ≤ 2 + 6 * a + b ∧ Below W.heap.size W wr) (fun i _ _ => a - (intOf i).toNat)
          case atStart => exact ⟨0, Z1, p, Nat.zero_le _, rfl, hmat, hR, by omega, hb⟩
          case round =>
            clear hmat hR hb hp
            obtain ⟨b, Z2, p, hba, rfl, hmat, hR, hp, hb⟩ := hrel
            by_cases hbl : b < a
            · have i2 : (b : Int) < (a : Int) := by omega
              have i3 : (b : Int) < (n : Int) := by omega
              have hbn : b < n := by omega
              go_wp2_with fail
              refine (rdr_pick W _ rv _ _ hR hb (by omega) (by omega)).mono ?_
              rintro e wq ⟨r, rfl, ⟨fr, frb, _⟩, hR_, hb_, hg_⟩
              have frc := frb (by omega)
              have hm1 := hmat.past hg_ hgB
              clear hR hb frb hg_ hmat
              have c1 := hm1.cell a han
              obtain ⟨v1, f1⟩ := hm1.at_ a b han hbn
              have hm2 := hm1.store a b han (1 + r)
              have c2 := hm2.cell b hbn
              obtain ⟨v2, f2⟩ := hm2.at_ b a hbn han
              have hm3 := hm2.store b a hbn (1 + r)
              have hR2 := rdr_set' (x := .int .i64 (1 + r)) (b := b) hR_ hgB (hm1.lt a han).1
              have hR3 := rdr_set' (x := .int .i64 (1 + r)) (b := a) hR2 hgB (hm2.lt b hbn).1
              have hb2 := hm1.store_below a b han (.int .i64 (1 + r)) hb_ HBW.out
              have hb3 := hm2.store_below b a hbn (.int .i64 (1 + r)) hb2 HBW.out
              have HZ := Lib.hid (And.intro hm3 (And.intro hR3 hb3))
              clear hm1 hm2 hm3 hR_ hR2 hR3 hb_ hb2 hb3
              go_wp2
              go_roundw
              case rel => exact ⟨b + 1, _, _, by omega, by go_num, HZ.out.1, HZ.out.2.1, by omega, HZ.out.2.2⟩
              case measure => simp [intOf]; omega
            · have j2 : ¬ (b : Int) < (a : Int) := by omega
              go_wp2
              go_roundw
              case rel => exact ⟨a + 1, Z2, p, by omega, by go_num, hmat, hR, by omega, hb⟩
              case measure => simp [intOf]; omega
        · have j1 : ¬ (a : Int) < (n : Int) := by omega
          go_wp2_with fail
          refine (rdr_pick W _ rv _ _ hR hb (by omega) (by omega)).mono ?_
          rintro e wq ⟨r4, rfl, ⟨fr4, fr4b, _⟩, hR_, hb_, hg_⟩
          have hmat := hmat.past hg_ hgB
          clear hR hb fr4b hg_
          have hR := hR_
          have hb := hb_
          clear hR_ hb_
          by_cases hr4 : r4 = 0
          · have hr4' : (r4 == 0) = true := by simp [hr4]
            clear hr4
            go_wp2_with fail
            refine (spec_smallWays _ n _ _ (hmat.reads h0) (by simp) h0 h6 (fun j hj => by simp [rowR, List.getD, hj]; exact (hmat.rows j hj).2)).mono ?_
            rintro e ws ⟨v2, G2, K2, Z4, rfl, hmat2, hbs⟩
            have hR2 := hR.keep hbs
            have hb2 := hb.trans (hbs.mono hb.size)
            have hle : w.heap.size ≤ wq.heap.size := Nat.le_trans g1 (Nat.le_of_lt (World.ownsRow.lt hmat.outer g rfl).2)
            have hmat3 := hmat2.mono hle
            clear hmat hR hb hmat2 hbs
            have hmat := hmat3
            have hR := hR2
            have hb := hb2
            clear hmat3 hR2 hb2 g1 g3 g4
            obtain ⟨g, cap', rfl, g1, g2, g3, g4⟩ := hmat.open_ h0
            go_wp2_with fail
            refine (rdr_pick W _ rv _ _ hR hb (by omega) (by omega)).mono ?_
            rintro e wq ⟨r5, rfl, ⟨fr5, fr5b, _⟩, hR_, hb_, hg_⟩
            have hmat := hmat.past hg_ hgB
            clear hR hb fr5b hg_
            by_cases hr : r5 = 0
            · have hr' : (r5 == 0) = true := by simp [hr]
              clear hr
              have c0 := hmat.cell 0 h0
              obtain ⟨vd, fd⟩ := hmat.at_ 0 0 h0 h0
              have hst := (hmat.store 0 0 h0 1).reads h0
              have hbs := hmat.store_below 0 0 h0 (.int .i64 1) hb_ HBW.out
              have HST := Lib.hid (And.intro hst hbs)
              clear hst hbs hmat hb_ hR_
              go_wp2
              go_ret
              exact ⟨_, _, rfl, HST.out.1, HST.out.2, by simp; omega⟩
            · have hr' : (r5 == 0) = false := by simp [hr]
              clear hr
              by_cases hr1 : r5 = 1
              · have hr1' : (r5 == 1) = true := by simp [hr1]
                clear hr1
                have c0 := hmat.cell M (by omega)
                have hMl : M < n := by omega
                have hMw : IntKind.i64.wrap (M : Int) = (M : Int) := wrap_id _ (by omega)
                have hM0 : (0 : Int) ≤ (M : Int) := by omega
                have hM1 : (M : Int) < (n : Int) := by omega
                have hN0 : (0 : Int) < (n : Int) := by omega
                have hd0 : Below wq.heap.size wq wq.drew := (Below.refl _ _).drew
                have hmatd := hmat.keep hd0
                have hRd := hR_.keep hd0
                have hbd := hb_.trans (hd0.mono hb_.size)
                have c1 := hmatd.cell M hMl
                have hal := below_box1 wq.drew (.cells #[.int .i64 0, .int .i64 41] 3)
                have c2 := (hmatd.keep hal).cell M hMl
                have HM := Lib.hid (And.intro hmatd (And.intro hRd hbd))
                have hgne : ¬ g = G2 M := fun e => by have := hmat.apart M hMl; simp [Value.ownBlock] at this; omega
                clear hmat hmatd hRd hbd hR_ hb_ hd0 hal
                go_wp2_with fail
                go_region_held3 (fun w' => w'.cell? ⟨g, M, none⟩ = some (rowV n G2 K2 M))
                  (first | exact c1 | exact c2 | exact c6 | exact c7)
                  (first
                    | (go_at_call 74; refine (rdr_lit W _ rv _ [0, 41] 2 rfl (by omega) (by omega) HM.out.2.1 HM.out.2.2 (by omega)).mono ?_; rintro e w6 ⟨r6, rfl, hr6, hR6, hb6, hg6⟩; have hm6 := HM.out.1.past hg6 hgB; have c6 := hm6.cell M hMl; obtain ⟨vd, fd⟩ := hm6.at_ M 0 hMl h0; have c7 := (hm6.store M 0 hMl r6).cell M hMl; have hst := (hm6.store M 0 hMl r6).reads h0; have hbs := hm6.store_below M 0 hMl (.int .i64 r6) hb6 HBW.out; have HST := Lib.hid (And.intro hst hbs); clear hst hbs hm6 hR6 hb6 hg6))
                all_goals
                  go_wp2
                  go_ret
                  exact ⟨_, _, rfl, HST.out.1, HST.out.2, by simp; omega⟩
              · have hr1' : (r5 == 1) = false := by simp [hr1]
                clear hr1
                by_cases hr2 : r5 = 2
                · have hr2' : (r5 == 2) = true := by simp [hr2]
                  clear hr2
                  have hbz := hb_.alloc hb_.size (.cells #[] 36)
                  clear hmat hR_ hb_
                  go_wp2
                  go_ret
                  exact ⟨_, [], rfl, ⟨_, _, rfl, Nat.le_refl _, by omega, .inl rfl⟩, hbz, by simp⟩
                · have hr2' : (r5 == 2) = false := by simp [hr2]
                  clear hr2
                  have hrd := hmat.reads h0
                  clear hmat hR_
                  go_wp2
                  go_ret
                  exact ⟨_, _, rfl, hrd, hb_, by simp; omega⟩
          · have hr4' : (r4 == 0) = false := by simp [hr4]
            clear hr4
            go_wp2_with fail
            refine (rdr_pick W _ rv _ _ hR hb (by omega) (by omega)).mono ?_
            rintro e wq ⟨r5, rfl, ⟨fr5, fr5b, _⟩, hR_, hb_, hg_⟩
            have hmat := hmat.past hg_ hgB
            clear hR hb fr5b hg_
            by_cases hr : r5 = 0
            · have hr' : (r5 == 0) = true := by simp [hr]
              clear hr
              have c0 := hmat.cell 0 h0
              obtain ⟨vd, fd⟩ := hmat.at_ 0 0 h0 h0
              have hst := (hmat.store 0 0 h0 1).reads h0
              have hbs := hmat.store_below 0 0 h0 (.int .i64 1) hb_ HBW.out
              have HST := Lib.hid (And.intro hst hbs)
              clear hst hbs hmat hb_ hR_
              go_wp2
              go_ret
              exact ⟨_, _, rfl, HST.out.1, HST.out.2, by simp; omega⟩
            · have hr' : (r5 == 0) = false := by simp [hr]
              clear hr
              by_cases hr1 : r5 = 1
              · have hr1' : (r5 == 1) = true := by simp [hr1]
                clear hr1
                have c0 := hmat.cell M (by omega)
                have hMl : M < n := by omega
                have hMw : IntKind.i64.wrap (M : Int) = (M : Int) := wrap_id _ (by omega)
                have hM0 : (0 : Int) ≤ (M : Int) := by omega
                have hM1 : (M : Int) < (n : Int) := by omega
                have hN0 : (0 : Int) < (n : Int) := by omega
                have hd0 : Below wq.heap.size wq wq.drew := (Below.refl _ _).drew
                have hmatd := hmat.keep hd0
                have hRd := hR_.keep hd0
                have hbd := hb_.trans (hd0.mono hb_.size)
                have c1 := hmatd.cell M hMl
                have hal := below_box1 wq.drew (.cells #[.int .i64 0, .int .i64 41] 3)
                have c2 := (hmatd.keep hal).cell M hMl
                have HM := Lib.hid (And.intro hmatd (And.intro hRd hbd))
                have hgne : ¬ g = G M := fun e => by have := hmat.apart M hMl; simp [Value.ownBlock] at this; omega
                clear hmat hmatd hRd hbd hR_ hb_ hd0 hal
                go_wp2_with fail
                go_region_held3 (fun w' => w'.cell? ⟨g, M, none⟩ = some (rowV n G K M))
                  (first | exact c1 | exact c2 | exact c6 | exact c7)
                  (first
                    | (go_at_call 74; refine (rdr_lit W _ rv _ [0, 41] 2 rfl (by omega) (by omega) HM.out.2.1 HM.out.2.2 (by omega)).mono ?_; rintro e w6 ⟨r6, rfl, hr6, hR6, hb6, hg6⟩; have hm6 := HM.out.1.past hg6 hgB; have c6 := hm6.cell M hMl; obtain ⟨vd, fd⟩ := hm6.at_ M 0 hMl h0; have c7 := (hm6.store M 0 hMl r6).cell M hMl; have hst := (hm6.store M 0 hMl r6).reads h0; have hbs := hm6.store_below M 0 hMl (.int .i64 r6) hb6 HBW.out; have HST := Lib.hid (And.intro hst hbs); clear hst hbs hm6 hR6 hb6 hg6))
                all_goals
                  go_wp2
                  go_ret
                  exact ⟨_, _, rfl, HST.out.1, HST.out.2, by simp; omega⟩
              · have hr1' : (r5 == 1) = false := by simp [hr1]
                clear hr1
                by_cases hr2 : r5 = 2
                · have hr2' : (r5 == 2) = true := by simp [hr2]
                  clear hr2
                  have hbz := hb_.alloc hb_.size (.cells #[] 36)
                  clear hmat hR_ hb_
                  go_wp2
                  go_ret
                  exact ⟨_, [], rfl, ⟨_, _, rfl, Nat.le_refl _, by omega, .inl rfl⟩, hbz, by simp⟩
                · have hr2' : (r5 == 2) = false := by simp [hr2]
                  clear hr2
                  have hrd := hmat.reads h0
                  clear hmat hR_
                  go_wp2
                  go_ret
                  exact ⟨_, _, rfl, hrd, hb_, by simp; omega⟩

theorem draw_ValidGaps (a : Option Addr) (len cap : Nat) (z : List Int) (w : World) (h : IsRow .u8 w a len cap z) :
    Calls Try.prog 39 #[.slice a len cap] w (RetGaps w) := by
  go_enter Try.func39, Try.ntmps39
  go_wp2_with fail
  refine (rdr_new a len cap z w h).mono ?_
  rintro e w0 ⟨v, rfl, hR0, hb0⟩
  clear h
  go_wp2_with fail
  refine (draw_someGaps w w0 v hR0 hb0).mono ?_
  rintro e w1 ⟨x, rs, rfl, ho, hb, hl⟩
  go_wp2_with fail
  go_ret
  exact ⟨x, rs, rfl, ho, hb, hl⟩
end Go.Proofs.Ytcfeeobjllnofaa
