/-
  The contracts of the laws' helpers on rows of rows: szIntSS, toIntSS, eqIntSS.
-/
import Derived.Test.YtcfeeobjllnofaaGapsI
import Derived.Test.YtcfeeobjllnofaaToInt
import Derived.Deep.RegionHeld3
namespace Go.Proofs.Ytcfeeobjllnofaa
open Go.RowKit
set_option linter.unusedVariables false

theorem laws_szIntS (v : Value) (zs : List Int) (left : Int) (w : World) (hr : Reads w v zs) (h0 : 0 ≤ left) (h1 : left ≤ 1048576) :
    Calls Try.prog 54 #[v, .int .i64 left] w fun e w' => e = .returned (.int .i64 (if left - zs.length < 0 then -1 else left - zs.length)) ∧ w = w' := by
  have hle := hr.le
  obtain ⟨ao, cap, rfl, hl, hc, hcell⟩ := hr
  by_cases h : left - (zs.length : Int) < 0
  · rw [if_pos h]
    go_enter Try.func54, Try.ntmps54
    go_wp2
    go_ret
    exact ⟨rfl, rfl⟩
  · rw [if_neg h]
    go_enter Try.func54, Try.ntmps54
    go_wp2
    go_ret
    exact ⟨rfl, rfl⟩

/-- What the count says. -/
def RetSz (w : World) (rs : List (List Int)) (e : Ending) (w' : World) : Prop :=
  ∃ r : Int, e = .returned (.int .i64 r) ∧ -1 ≤ r ∧ (0 ≤ r → rs.length ≤ 1048576 ∧ ∀ j, j < rs.length → (rowR rs j).length ≤ 1048576) ∧ w = w'

set_option maxHeartbeats 1000000 in
theorem laws_szIntSS (v : Value) (rs : List (List Int)) (w : World) (hr : ReadsM w v rs) :
    Calls Try.prog 18 #[v, .int .i64 1048576] w (RetSz w rs) := by
  obtain ⟨ao, cap, rfl, hl, hc, hcell⟩ := hr
  by_cases h : (1048576 : Int) - (rs.length : Int) < 0
  · have h' : decide ((1048576 : Int) - (rs.length : Int) < 0) = true := decide_eq_true h
    go_enter Try.func18, Try.ntmps18
    go_wp2_with fail
    go_ret
    exact ⟨-1, rfl, by omega, fun h => by omega, rfl⟩
  · have h' : decide ((1048576 : Int) - (rs.length : Int) < 0) = false := decide_eq_false h
    go_enter Try.func18, Try.ntmps18
    go_wp2_with fail
    go_loop [1, 5] (fun l i => ∃ (k : Nat) (left : Int), k ≤ rs.length ∧ i = .int .i64 k ∧ l = .int .i64 left ∧ 0 ≤ left ∧ left ≤ 1048576 ∧ Hid (∀ j, j < k → (rowR rs j).length ≤ 1048576)) (fun _ i => rs.length - (intOf i).toNat)
    case atStart => exact ⟨0, 1048576 - rs.length, Nat.zero_le _, rfl, by first | rfl | go_num, by omega, by omega, fun j hj => by omega⟩
    case round =>
      obtain ⟨k, left, hk, rfl, rfl, hl0, hl1, hall⟩ := hrel
      by_cases hlt : k < rs.length
      · rcases hcell with h0 | ⟨b, o, rfl, hcell⟩
        · omega
        · obtain ⟨ak, ck, r1, r2⟩ := (hcell k hlt).reads
          have i1 : (k : Int) < (rs.length : Int) := by omega
          clear hcell
          by_cases hx : left - ((rowR rs k).length : Int) < 0
          · have H := Lib.hid (laws_szIntS _ _ left w r2 hl0 hl1)
            rw [if_pos hx] at H
            clear r2
            go_wp2_with fail
            refine H.out.mono ?_
            rintro e w' ⟨rfl, rfl⟩
            go_wp2_with fail
            go_ret
            exact ⟨-1, rfl, by omega, fun h => by omega, rfl⟩
          · have H := Lib.hid (laws_szIntS _ _ left w r2 hl0 hl1)
            rw [if_neg hx] at H
            have hx' : decide (left - ((rowR rs k).length : Int) < 0) = false := decide_eq_false hx
            have HX : Hid (∀ j, j < k + 1 → (rowR rs j).length ≤ 1048576) := fun j hj => by
              by_cases e : j = k
              · rw [e]; omega
              · exact hall.out j (by omega)
            have hn0 : 0 ≤ left - ((rowR rs k).length : Int) ∧ left - ((rowR rs k).length : Int) ≤ 1048576 := by omega
            generalize left - ((rowR rs k).length : Int) = left2 at *
            clear r2 hx
            go_wp2_with fail
            refine H.out.mono ?_
            rintro e w' ⟨rfl, rfl⟩
            go_wp2_with fail
            go_round
            case rel => exact ⟨k + 1, left2, by omega, by go_num, rfl, hn0.1, hn0.2, HX⟩
            case measure => simp [intOf]; omega
      · have e : k = rs.length := by omega
        have HX : Hid (∀ j, j < rs.length → (rowR rs j).length ≤ 1048576) := by rw [← e]; exact hall
        clear e
        go_wp2_with fail
        go_ret
        exact ⟨left, rfl, by omega, fun _ => ⟨by omega, HX.out⟩, rfl⟩

theorem infoInts : (Try.prog.info? 36).map (fun i => (i.zero, i.size, i.bytes)) = some (some (.slice none 0 0), 1, 24) := by kernel_rfl
/-- Rows that were copied. -/
def RetM (w : World) (rs : List (List Int)) (e : Ending) (w' : World) : Prop := ∃ v, e = .returned v ∧ ReadsM w' v rs ∧ Below w.heap.size w w'
/-- The rows copied so far. -/
def MatTo (w : World) (g : Nat) (rs : List (List Int)) (k : Nat) : Prop :=
  ∃ cur, w.heap[g]? = some (.cells cur 36 (0, 0)) ∧ cur.size = rs.length ∧ ∀ j, j < k → ∃ V, cur[j]? = some V ∧ Owns w (g + 1) V (rowR rs j)
theorem MatTo.reads {w : World} {g : Nat} {rs : List (List Int)} (h : MatTo w g rs rs.length) (hl : rs.length ≤ 1048576) : ReadsM w (.slice (some ⟨g, 0, none⟩) rs.length rs.length) rs := by
  obtain ⟨cur, h1, h2, h3⟩ := h
  refine ⟨_, _, rfl, Nat.le_refl _, by omega, .inr ⟨g, 0, rfl, fun j hj => ?_⟩⟩
  obtain ⟨V, e1, e2⟩ := h3 j hj
  have hc := cell_of_row w g j cur _ (0, 0) h1
  rw [e1] at hc
  rw [Nat.zero_add]
  exact Reads.rowAt hc e2.reads
theorem MatTo.next {w w2 : World} {g k : Nat} {rs : List (List Int)} {V : Value} {C : Nat} (h : MatTo w g rs k) (hb : Below w.heap.size w w2) (hV : Owns w2 C V (rowR rs k)) (hC : g < C) (hk : k < rs.length) : MatTo (w2.setCell ⟨g, k, none⟩ V) g rs (k + 1) := by
  obtain ⟨cur, h1, h2, h3⟩ := h
  have h4 : w2.heap[g]? = _ := (hb.block g (Array.getElem?_eq_some_iff.1 h1).1).trans h1
  have hgr : w2.grownBy (w2.setCell ⟨g, k, none⟩ V) (some g) := ⟨rfl, rfl, rfl, by simp [World.setCell], fun q _ hr => Below.heap_setCell _ _ _ _ (fun e => hr (by rw [e]))⟩
  have hne : ∀ {U zs}, Owns w2 (g + 1) U zs → Owns (w2.setCell ⟨g, k, none⟩ V) (g + 1) U zs := fun {U zs} hU => hU.other hgr (by
    rcases hU.shape with ⟨rfl, _⟩ | ⟨q, cap, rfl, q1, _⟩
    · exact .inl rfl
    · right; simp [Value.ownBlock]; omega)
  refine ⟨cur.setIfInBounds k V, heap_setCell_same w2 g k cur _ _ h4, by simpa using h2, fun j hj => ?_⟩
  by_cases e : j = k
  · subst e
    exact ⟨V, by simp [h2, hk], hne (hV.mono (by omega))⟩
  · obtain ⟨U, e1, e2⟩ := h3 j (by omega)
    refine ⟨U, ?_, hne (e2.keep hb)⟩
    rw [Array.getElem?_setIfInBounds_ne (by omega)]; exact e1

set_option maxHeartbeats 1000000 in
theorem laws_toIntSS (v : Value) (rs : List (List Int)) (w : World) (hr : ReadsM w v rs) (hn : rs.length ≤ 1048576) (hm : ∀ j, j < rs.length → (rowR rs j).length ≤ 1048576) :
    Calls Try.prog 20 #[v] w (RetM w rs) := by
  obtain ⟨i, hi, hz0, hz1, hz2⟩ := info_parts infoInts
  obtain ⟨ao, cap, rfl, hl, hc, hcell⟩ := hr
  have HM := Lib.hid hm
  clear hm
  go_enter Try.func20, Try.ntmps20
  go_wp2_with (at_make; refine wpList_make_full _ rfl _ _ 31 rfl w.heap.size 36 i (.slice none 0 0) 1 Try.underlying31 hi hz0 hz1 .i64 .i64 _ _ rs.length rfl rfl rfl rfl (by rw [hz2]; omega) (by unfold maxLen; omega) (Nat.le_refl _) ?_)
  intro w1 hown0 hgrow0
  have hbel : Below w.heap.size w w1 := (Below.refl _ _).grown hgrow0 (Nat.le_refl _) (by simp)
  have hmat : MatTo w1 w.heap.size rs 0 := by
    rcases hown0.2 with ⟨h0, _⟩ | ⟨g, cap', cur, h0, h1, h2, h3, h4, h5, h6⟩
    · cases h0
    · injection h0 with e1 e2 e3
      injection e1 with e1
      injection e1 with e1
      subst e1 e3
      exact ⟨cur, h2, by omega, fun j hj => by omega⟩
  have hlt0 : w.heap.size < w1.heap.size := by
    obtain ⟨cur, h1, _⟩ := hmat
    exact (Array.getElem?_eq_some_iff.1 h1).1
  clear hown0 hgrow0
  go_wp2
  go_loopw [4] (fun i wr => ∃ k : Nat, k ≤ rs.length ∧ i = .int .i64 k ∧ MatTo wr w.heap.size rs k ∧ Below w.heap.size w wr ∧ w.heap.size < wr.heap.size) (fun i _ => rs.length - (intOf i).toNat)
  case atStart => exact ⟨0, Nat.zero_le _, rfl, hmat, hbel, hlt0⟩
  case round =>
    clear hmat hbel hlt0
    obtain ⟨k, hk, rfl, hmat, hbel, hlt0⟩ := hrel
    by_cases hlt : k < rs.length
    · rcases hcell with h0 | ⟨b, o, rfl, hcell⟩
      · omega
      · obtain ⟨ak, ck, r1, r2⟩ := ((hcell k hlt).keep hbel).reads
        have i1 : (k : Int) < (rs.length : Int) := by omega
        have hmk := HM.out k hlt
        clear hcell
        go_wp2_with fail
        refine (laws_toIntS _ _ _ r2 hmk).mono ?_
        rintro e w2 ⟨v', rfl, ho, hb2⟩
        obtain ⟨a', c', hv, _⟩ := ho.reads
        subst hv
        have hnx := hmat.next hb2 ho hlt0 hlt
        have hbn := (hbel.trans (hb2.mono hbel.size)).setCell (p := ⟨w.heap.size, k, none⟩) (Nat.le_refl _) (.slice a' (rowR rs k).length c')
        have hsn : w.heap.size < (w2.setCell ⟨w.heap.size, k, none⟩ (.slice a' (rowR rs k).length c')).heap.size := by
          have := hb2.size
          have e : (w2.setCell ⟨w.heap.size, k, none⟩ (.slice a' (rowR rs k).length c')).heap.size = w2.heap.size := by simp [World.setCell]
          omega
        have hdst : ∃ u, w2.cell? ⟨w.heap.size, k, none⟩ = some u ∧ w2.frozen? ⟨w.heap.size, k, none⟩ = false := by
          obtain ⟨cur, h1, h2, _⟩ := hmat
          have h4 : w2.heap[w.heap.size]? = _ := (hb2.block _ hlt0).trans h1
          have hc := cell_of_row w2 w.heap.size k cur _ (0, 0) h4
          have hk' : k < cur.size := by omega
          exact ⟨cur[k], by rw [hc]; simp [hk'], frozen_of_row w2 w.heap.size k cur _ h4⟩
        obtain ⟨u, hd1, hd2⟩ := hdst
        have HN := Lib.hid (And.intro hnx (And.intro hbn hsn))
        clear hnx hbn hsn hmat r1 r2 ho hb2
        go_wp2
        go_roundw
        case rel => exact ⟨k + 1, by omega, by go_num, HN.out.1, HN.out.2.1, HN.out.2.2⟩
        case measure => simp [intOf]; omega
    · have e : k = rs.length := by omega
      rw [e] at hmat
      have hfin := hmat.reads hn
      clear e hmat
      go_wp2
      go_ret
      exact ⟨_, rfl, hfin, hbel⟩

set_option maxHeartbeats 1000000 in
theorem laws_eqIntSS (va vb : Value) (rs : List (List Int)) (w : World) (ha : ReadsM w va rs) (hb : ReadsM w vb rs) :
    Calls Try.prog 22 #[va, vb] w fun e w' => e = .returned (.bool true) ∧ Below w.heap.size w w' := by
  obtain ⟨ao, cap, rfl, hl, hc, hcell⟩ := ha
  obtain ⟨bo, dap, rfl, kl, kc, kcell⟩ := hb
  have hq : ((rs.length : Int) != (rs.length : Int)) = false := by simp
  go_enter Try.func22, Try.ntmps22
  go_wp2_with fail
  go_loopw [5] (fun i wr => ∃ k : Nat, k ≤ rs.length ∧ i = .int .i64 k ∧ Below w.heap.size w wr) (fun i _ => rs.length - (intOf i).toNat)
  case atStart => exact ⟨0, Nat.zero_le _, rfl, Below.refl _ _⟩
  case round =>
    obtain ⟨k, hk, rfl, hbel⟩ := hrel
    by_cases hlt : k < rs.length
    · rcases hcell with h0 | ⟨b, o, rfl, hcell⟩
      · omega
      rcases kcell with h0 | ⟨b', o', rfl, kcell⟩
      · omega
      obtain ⟨ak, ck, r1, r2⟩ := ((hcell k hlt).keep hbel).reads
      obtain ⟨bk, dk, s1, s2⟩ := ((kcell k hlt).keep hbel).reads
      have i1 : (k : Int) < (rs.length : Int) := by omega
      have hd0 : Below wr.heap.size wr wr.drew := (Below.refl _ _).drew
      have d1 : wr.drew.cell? ⟨b, o + k, none⟩ = some (.slice ak (rowR rs k).length ck) := r1
      have d2 : wr.drew.cell? ⟨b', o' + k, none⟩ = some (.slice bk (rowR rs k).length dk) := s1
      have H := laws_eqIntS _ _ _ _ _ (r2.keep hd0) (s2.keep hd0)
      have ht : decide (rowR rs k = rowR rs k) = true := by simp
      rw [ht] at H
      have HH := Lib.hid H
      have HB := Lib.hid hbel
      clear H ht r2 s2 hcell kcell hbel
      go_wp2_with fail
      go_region_held3 (fun w' => w'.cell? ⟨b, o + k, none⟩ = some (.slice ak (rowR rs k).length ck) ∧ w'.cell? ⟨b', o' + k, none⟩ = some (.slice bk (rowR rs k).length dk) ∧ Below wr.heap.size wr w')
        (first | exact ⟨(hbk.cell (p := ⟨b, o + k, none⟩) (World.block_lt_of_cell? _ _ d1)).trans d1, (hbk.cell (p := ⟨b', o' + k, none⟩) (World.block_lt_of_cell? _ _ d2)).trans d2, hd0.trans (hbk.mono hd0.size)⟩ | exact ⟨by assumption, by assumption, by assumption⟩)
        (first | (go_at_call 26; refine HH.out.mono ?_; rintro e w' ⟨rfl, hbk⟩))
      all_goals
        obtain ⟨_, _, hbf⟩ : w'.cell? ⟨b, o + k, none⟩ = some (.slice ak (rowR rs k).length ck) ∧ w'.cell? ⟨b', o' + k, none⟩ = some (.slice bk (rowR rs k).length dk) ∧ Below wr.heap.size wr w' := by assumption
        have hbn := HB.out.trans (hbf.mono HB.out.size)
        clear hbf hd0 d1 d2 r1 s1
        go_wp2
        go_roundw
        case rel => exact ⟨k + 1, by omega, by go_num, hbn⟩
        case measure => simp [intOf]; omega
    · go_wp2_with fail
      go_ret
      exact ⟨rfl, hbel⟩
end Go.Proofs.Ytcfeeobjllnofaa
