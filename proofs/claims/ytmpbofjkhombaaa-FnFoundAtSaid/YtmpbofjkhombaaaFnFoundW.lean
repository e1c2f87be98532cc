/-
  The walk of laws.FnFoundAt.
-/
import Derived.Test.YtmpbofjkhombaaaDrawL
import Derived.Test.YtmpbofjkhombaaaFound
namespace Go.Proofs.Ytmpbofjkhombaaa
open Go.RowKit
set_option linter.unusedVariables false

theorem owns_len'' {w : World} {B : Nat} {v : Value} {zs : List Int} (h : Owns w B v zs) (h0 : 0 < zs.length) : ∃ g cap, v = .slice (some ⟨g, 0, none⟩) zs.length cap ∧ B ≤ g ∧ g < w.heap.size ∧ zs.length ≤ cap ∧ cap ≤ 9223372036854775807 := by
  rcases h.shape with ⟨_, rfl⟩ | h
  · simp at h0
  · exact h
theorem mem_found (zs : List Int) (lv : Int) : ∀ k n, n ∈ foundTo zs lv k ↔ ∃ i : Nat, i < k ∧ n = i ∧ nth zs i ≤ lv := by
  intro k
  induction k with
  | zero => intro n; simp [foundTo]
  | succ k ih =>
    intro n
    by_cases h : nth zs k ≤ lv
    · rw [found_yes zs lv k h, List.mem_append, ih, List.mem_singleton]
      constructor
      · rintro (⟨i, h1, h2, h3⟩ | h1)
        · exact ⟨i, by omega, h2, h3⟩
        · exact ⟨k, by omega, h1, h⟩
      · rintro ⟨i, h1, h2, h3⟩
        by_cases e : i = k
        · right; rw [h2, e]
        · left; exact ⟨i, by omega, h2, h3⟩
    · rw [found_no zs lv k h, ih]
      constructor
      · rintro ⟨i, h1, h2, h3⟩
        exact ⟨i, by omega, h2, h3⟩
      · rintro ⟨i, h1, h2, h3⟩
        by_cases e : i = k
        · rw [e] at h3; exact absurd h3 h
        · exact ⟨i, by omega, h2, h3⟩
theorem found_pair (zs : List Int) (lv : Int) : ∀ k, (foundTo zs lv k).Pairwise (· < ·) := by
  intro k
  induction k with
  | zero => simp [foundTo]
  | succ k ih =>
    by_cases h : nth zs k ≤ lv
    · rw [found_yes zs lv k h, List.pairwise_append]
      refine ⟨ih, by simp, ?_⟩
      intro a ha b hb
      rw [List.mem_singleton] at hb
      obtain ⟨i, h1, h2, _⟩ := (mem_found zs lv k a).1 ha
      omega
    · rw [found_no zs lv k h]; exact ih
theorem found_asc (zs : List Int) (lv : Int) (k j : Nat) (h : j + 1 < (foundTo zs lv k).length) : nth (foundTo zs lv k) j < nth (foundTo zs lv k) (j + 1) := by
  have := List.pairwise_iff_getElem.1 (found_pair zs lv k) j (j + 1) (by omega) h (by omega)
  have e1 : nth (foundTo zs lv k) j = (foundTo zs lv k)[j] := by simp [nth, List.getD, show j < (foundTo zs lv k).length by omega]
  have e2 : nth (foundTo zs lv k) (j + 1) = (foundTo zs lv k)[j + 1] := by simp [nth, List.getD, h]
  omega
theorem found_all (zs : List Int) : ∀ k, (∀ i, i < k → nth zs i ≤ 1000) → (foundTo zs 1000 k).length = k := by
  intro k
  induction k with
  | zero => intro _; rfl
  | succ k ih => intro h; rw [found_yes zs 1000 k (h k (by omega)), List.length_append, ih (fun i hi => h i (by omega))]; rfl

set_option maxHeartbeats 400000 in
theorem laws_isIn (v : Value) (zs : List Int) (n : Int) (w : World) (hr : Reads w v zs) :
    Calls Try.prog 14 #[v, .int .i64 n] w fun e w' => e = .returned (.bool (decide (n ∈ zs))) ∧ w' = w := by
  have hle := hr.le
  obtain ⟨ao, cap, rfl, hl, hc, hcell⟩ := hr
  go_enter Try.func14, Try.ntmps14
  go_wp2
  go_loop [5] (fun i => ∃ k : Nat, k ≤ zs.length ∧ i = .int .i64 k ∧ Hid (∀ j, j < k → nth zs j ≠ n)) (fun i => zs.length - (intOf i).toNat)
  case atStart => exact ⟨0, Nat.zero_le _, rfl, fun j hj => absurd hj (by omega)⟩
  case round =>
    obtain ⟨k, hk, rfl, hall⟩ := hrel
    by_cases hlt : k < zs.length
    · rcases hcell with h0 | ⟨b, o, rfl, hcell⟩
      · exfalso; rw [h0] at hlt; simp at hlt
      · have hsrc := hcell k hlt
        have i1 : (k : Int) < (zs.length : Int) := by omega
        clear hcell
        by_cases hx : nth zs k = n
        · have hx' : (nth zs k == n) = true := by simp [hx]
          have HB : Hid (decide (n ∈ zs) = true) := by
            refine decide_eq_true ?_
            rw [← hx]; exact nth_mem zs k hlt
          clear hx
          go_wp2
          go_ret
          exact ⟨ret_bool HB.out.symm, rfl⟩
        · have hx' : (nth zs k == n) = false := by simp [hx]
          have HX : Hid (∀ j, j < k + 1 → nth zs j ≠ n) := fun j hj => by
            by_cases e : j = k
            · rw [e]; exact hx
            · exact hall.out j (by omega)
          clear hx
          go_wp2
          go_round
          case rel => exact ⟨k + 1, by omega, by go_num, HX⟩
          case measure => simp [intOf]; omega
    · have HB : Hid (decide (n ∈ zs) = false) := by
        refine decide_eq_false (fun hm => ?_)
        obtain ⟨j, hj, e⟩ := List.getElem_of_mem hm
        exact hall.out j (by omega) (by simp [nth, List.getD, hj, e])
      clear hcell
      go_wp2
      go_ret
      exact ⟨ret_bool HB.out.symm, rfl⟩

set_option maxHeartbeats 400000 in
theorem laws_ascends (v : Value) (zs : List Int) (w : World) (hr : Reads w v zs) (hasc : ∀ j, j + 1 < zs.length → nth zs j < nth zs (j + 1)) :
    Calls Try.prog 15 #[v] w fun e w' => e = .returned (.bool true) ∧ Below w.heap.size w w' := by
  have hle := hr.le
  have HA := Lib.hid hasc
  clear hasc
  obtain ⟨ao, cap, rfl, hl, hc, hcell⟩ := hr
  go_enter Try.func15, Try.ntmps15
  go_wp2
  go_loopw [3] (fun i wr => ∃ k : Nat, k ≤ zs.length ∧ i = .int .i64 ((k : Int) + 1) ∧ Below w.heap.size w wr) (fun i _ => zs.length + 1 - (intOf i).toNat)
  case atStart => exact ⟨0, Nat.zero_le _, rfl, Below.refl _ _⟩
  case round =>
    obtain ⟨k, hk, rfl, hbel⟩ := hrel
    by_cases hlt : k + 1 < zs.length
    · rcases hcell with h0 | ⟨b, o, rfl, hcell⟩
      · exfalso; rw [h0] at hlt; simp at hlt
      · have h1 := hcell (k + 1) hlt
        have h2 := hcell k (by omega)
        have ca : _ = _ := (hbel.cell (p := ⟨b, o + (k + 1), none⟩) (World.block_lt_of_cell? _ _ h1)).trans h1
        have cb : _ = _ := (hbel.cell (p := ⟨b, o + k, none⟩) (World.block_lt_of_cell? _ _ h2)).trans h2
        have i1 : (k : Int) + 1 < (zs.length : Int) := by omega
        have i2 : (k : Int) < (zs.length : Int) := by omega
        have u1 : IntKind.i64.wrap ((k : Int) + 1 - 1) = k := by rw [IntKind.wrap_i64]; omega
        have hx : decide (nth zs (k + 1) ≤ nth zs k) = false := by
          have := HA.out k hlt
          exact decide_eq_false (by omega)
        clear h1 h2 hcell
        go_wp2
        go_quiet (fail)
        go_wp2
        go_roundw
        case rel => exact ⟨k + 1, by omega, by go_num, below_dn hbel _⟩
        case measure => simp [intOf]; omega
    · clear hcell
      go_wp2
      go_ret
      exact ⟨rfl, hbel⟩

/-- What is drawn. -/
def RetLI (w : World) (e : Ending) (w' : World) : Prop := ∃ v zs n, e = .returned (.tuple #[v, .int .i64 n]) ∧ OwnsA w' w.heap.size v zs ∧ zs.length ≤ 30 ∧ (-1 ≤ n ∧ n ≤ 1001) ∧ Below w.heap.size w w'
theorem draw_FoundAt (a : Option Addr) (len cap : Nat) (z : List Int) (w : World) (h : IsRow .u8 w a len cap z) :
    Calls Try.prog 9 #[.slice a len cap] w (RetLI w) := by
  go_enter Try.func9, Try.ntmps9
  go_wp2_with fail
  refine (rdr_new a len cap z w h).mono ?_
  rintro e w0 ⟨v, rfl, hR0, hb0⟩
  clear h
  have hgB := hR0.blk
  go_wp2_with fail
  refine (draw_someOdds w w0 v hR0 hb0).mono ?_
  rintro e w1 ⟨u, zs, p, rfl, ho, hl, hR1, hp, hb1⟩
  go_wp2_with fail
  refine (rdr_pick w w1 v p _ hR1 hb1 (by omega) (by omega)).mono ?_
  rintro e w2 ⟨r2, rfl, ⟨f2, f2b, _⟩, hR2, hb2, hg2⟩
  have o2 := ho.past hg2 hgB
  have f2c := f2b (by omega)
  clear ho hR1 hb1 hg2 f2b
  go_wp2_with fail
  refine (rdr_lit w w2 v _ [50, 100, r2, 10, 0, 1000, 1001, -1] 8 rfl (by omega) (by omega) hR2 hb2 (by omega)).mono ?_
  rintro e w3 ⟨r3, rfl, hr3, hR3, hb3, hg3⟩
  have o3 := o2.past hg3 hgB
  have f3 : -1 ≤ r3 ∧ r3 ≤ 1001 := by simp at hr3; omega
  have HP : Hid (RetLI w (.returned (.tuple #[u, .int .i64 r3])) w3) := ⟨u, zs, r3, rfl, OwnsA.mono o3 hb0.size, hl, f3, hb3⟩
  clear o2 o3 hR2 hb2 hg3 hr3 hR3 hb3
  go_wp2_with fail
  go_ret2
  exact HP.out

set_option maxHeartbeats 1000000 in
theorem walk_FnFoundAt (a0 : Option Addr) (len0 cap0 : Nat) (z0 : List Int) (w : World) (w0 : IsRow .u8 w a0 len0 cap0 z0) :
    Calls Try.prog 3 #[.slice a0 len0 cap0] w fun e w' => e = .returned (.bool true) ∧ Below w.heap.size w w' := by
  by_cases hbig : 1048576 < len0
  · have hbig' : decide ((1048576 : Int) < (len0 : Int)) = true := decide_eq_true (by omega)
    go_enter Try.func3, Try.ntmps3
    go_wp2_with fail
    go_ret
    exact ⟨rfl, Below.refl _ _⟩
  · have hbig' : decide ((1048576 : Int) < (len0 : Int)) = false := decide_eq_false (by omega)
    go_enter Try.func3, Try.ntmps3
    go_wp2_with fail
    refine (draw_FoundAt a0 len0 cap0 z0 w w0).mono ?_
    clear hbig hbig' w0
    rintro e w1 ⟨v, zs, lv, rfl, ho, hlz, hlv, hb1⟩
    have o1 := ho.weak
    clear ho
    go_wp2_with fail
    refine (impl_FoundAt v zs lv w1 o1.reads).mono ?_
    rintro e w2 ⟨g, rfl, og, hb2⟩
    have o2 := o1.keep hb2
    go_wp2_with fail
    refine (spec_FoundAt v zs lv w2 o2.reads).mono ?_
    rintro e w3 ⟨t, rfl, ot, hb3⟩
    have o3 := o2.keep hb3
    have og3 := og.keep hb3
    go_wp2_with fail
    refine (laws_equalInts _ _ _ _ _ og3.reads ot.reads).mono ?_
    rintro e w4 ⟨rfl, hb4⟩
    have o4 := o3.keep hb4
    have og4 := og3.keep hb4
    have ht : decide (foundV zs lv = foundV zs lv) = true := by simp
    have q4 := hb1.trans (((hb2.trans (hb3.mono hb2.size)).trans (hb4.mono (Nat.le_trans hb2.size hb3.size))).mono hb1.size)
    clear hb1 hb2 hb3 hb4 o1 o2 o3 og og3 ot
    have hvalid := fun wx hx => impl_ValidOdds v zs wx hx
    cases hok : oddsB zs
    · rw [hok] at hvalid
      have HV := Lib.hid hvalid
      clear hvalid
      go_wp2_with fail
      refine (HV.out _ o4.reads).mono ?_
      rintro e w5 ⟨rfl, hb5⟩
      have q5 := q4.trans (hb5.mono q4.size)
      have o5 := o4.keep hb5
      have og5 := og4.keep hb5
      clear o4 og4
      go_wp2_with fail
      refine (spec_FoundAt v zs lv _ o5.reads).mono ?_
      rintro e w6 ⟨t6, rfl, ot6, hb6⟩
      go_wp2_with fail
      refine (laws_equalInts _ _ _ _ _ (og5.keep hb6).reads ot6.reads).mono ?_
      rintro e w7 ⟨rfl, hb7⟩
      go_wp2_with fail
      go_ret
      exact ⟨by simp, q5.trans ((hb6.trans (hb7.mono hb6.size)).mono q5.size)⟩
    · rw [hok] at hvalid
      have HV := Lib.hid hvalid
      clear hvalid
      by_cases hin : 0 ≤ lv ∧ lv ≤ 1000
      · have c1 : decide (lv < 0) = false := decide_eq_false (by omega)
        have c2 : decide (1000 < lv) = false := decide_eq_false (by omega)
        have hF : foundV zs lv = foundTo zs lv zs.length := if_pos ⟨hok, inB_true hin⟩
        have hF2 : foundV zs 1000 = foundTo zs 1000 zs.length := if_pos ⟨hok, inB_true ⟨by omega, by omega⟩⟩
        have hmem : ∀ k : Nat, k < zs.length → ((k : Int) ∈ foundV zs lv ↔ nth zs k ≤ lv) := by
          intro k hk
          rw [hF, mem_found]
          constructor
          · rintro ⟨i, h1, h2, h3⟩
            have : i = k := by omega
            rw [← this]; exact h3
          · intro h; exact ⟨k, hk, rfl, h⟩
        have hasc : ∀ j, j + 1 < (foundV zs lv).length → nth (foundV zs lv) j < nth (foundV zs lv) (j + 1) := by
          rw [hF]; exact fun j hj => found_asc zs lv zs.length j hj
        have hall : (foundV zs 1000).length = zs.length := by
          rw [hF2]; exact found_all zs zs.length (fun i hi => (odds_nth hok i hi).2)
        have hpos := odds_len hok
        have HM := Lib.hid hmem
        have HASC := Lib.hid hasc
        have HALL := Lib.hid hall
        have hwid := foundV_len zs 1000
        clear hF hF2 hmem hasc hall
        obtain ⟨gz, cap, hv, hg1, hg2, hg3, hg4⟩ := owns_len'' o4 (by omega)
        subst hv
        have rz4 := o4.reads
        have cz4 := fun k hk => o4.cell k hk
        have rg4 := og4.reads
        clear o4 og4
        generalize foundV zs lv = FV at *
        go_wp2_with fail
        refine (HV.out _ rz4).mono ?_
        rintro e w5 ⟨rfl, hb5⟩
        have q5 := q4.trans (hb5.mono q4.size)
        have rz5 := rz4.keep hb5
        have rg5 := rg4.keep hb5
        have cz5 : ∀ k, k < zs.length → w5.cell? ⟨gz, k, none⟩ = some (.int .i64 (nth zs k)) := fun k hk => ((bcell hb5).1 _ _ hg2).trans (cz4 k hk)
        have CZ := Lib.hid cz5
        have hg5 : gz < w5.heap.size := Nat.lt_of_lt_of_le hg2 hb5.size
        have hlz0 := hlz
        clear rz4 rg4 cz4 cz5 hb5
        go_wp2_with fail
        go_loopw [6] (fun i wr => ∃ k : Nat, k ≤ zs.length ∧ i = .int .i64 k ∧ Below w5.heap.size w5 wr) (fun i _ => zs.length - (intOf i).toNat)
        case atStart => exact ⟨0, Nat.zero_le _, rfl, Below.refl _ _⟩
        case round =>
          obtain ⟨k, hk, rfl, hbel⟩ := hrel
          by_cases hlt : k < zs.length
          · have ck : wr.cell? ⟨gz, k, none⟩ = some (.int .i64 (nth zs k)) := ((bcell hbel).1 _ _ hg5).trans (CZ.out k hlt)
            have i1 : (k : Int) < (zs.length : Int) := by omega
            have hm := HM.out k hlt
            have hisb := fun m : Nat => laws_isIn g FV k (wr.drewN m) ((rg5.keep hbel).keep (below_dn (Below.refl _ _) m))
            by_cases hx : nth zs k ≤ lv
            · have hx' : decide (nth zs k ≤ lv) = true := decide_eq_true hx
              rw [decide_eq_true (hm.2 hx)] at hisb
              have HIS := Lib.hid hisb
              clear hisb hm hx
              go_wp2
              go_quiet (first | (go_at_call 14; refine Calls.quiet_of_same (HIS.out _)))
              go_wp2
              go_roundw
              case rel => exact ⟨k + 1, by omega, by go_num, below_dn hbel _⟩
              case measure => simp [intOf]; omega
            · have hx' : decide (nth zs k ≤ lv) = false := decide_eq_false hx
              rw [decide_eq_false (fun h => hx (hm.1 h))] at hisb
              have HIS := Lib.hid hisb
              clear hisb hm hx
              go_wp2
              go_quiet (first | (go_at_call 14; refine Calls.quiet_of_same (HIS.out _)))
              go_wp2
              go_roundw
              case rel => exact ⟨k + 1, by omega, by go_num, below_dn hbel _⟩
              case measure => simp [intOf]; omega
          · have hAS := laws_ascends g FV wr (rg5.keep hbel) HASC.out
            have q6 := q5.trans (hbel.mono q5.size)
            have rz6 := rz5.keep hbel
            go_wp2_with fail
            refine hAS.mono ?_
            rintro e w6 ⟨rfl, hb6⟩
            have q7 := q6.trans (hb6.mono q6.size)
            go_wp2_with fail
            refine (impl_FoundAt _ zs 1000 w6 (rz6.keep hb6)).mono ?_
            rintro e w7 ⟨g7, rfl, og7, hb7⟩
            have q8 := q7.trans (hb7.mono q7.size)
            obtain ⟨ao7, cap7, hv7, hl7, hc7, _⟩ := og7.reads
            subst hv7
            have hfin : (((foundV zs 1000).length : Int) == (zs.length : Int)) = true := by rw [HALL.out]; simp
            clear og7
            go_wp2_with fail
            go_ret
            exact ⟨rfl, q8⟩
      · obtain ⟨c1, c2⟩ | c1 : (decide (lv < 0) = false ∧ decide (1000 < lv) = true) ∨ decide (lv < 0) = true := by
          by_cases h : lv < 0
          · exact .inr (decide_eq_true h)
          · exact .inl ⟨decide_eq_false h, decide_eq_true (by omega)⟩
        all_goals
          go_wp2_with fail
          refine (HV.out _ o4.reads).mono ?_
          rintro e w5 ⟨rfl, hb5⟩
          have q5 := q4.trans (hb5.mono q4.size)
          have o5 := o4.keep hb5
          have og5 := og4.keep hb5
          clear o4 og4
          go_wp2_with fail
          refine (spec_FoundAt v zs lv _ o5.reads).mono ?_
          rintro e w6 ⟨t6, rfl, ot6, hb6⟩
          go_wp2_with fail
          refine (laws_equalInts _ _ _ _ _ (og5.keep hb6).reads ot6.reads).mono ?_
          rintro e w7 ⟨rfl, hb7⟩
          go_wp2_with fail
          go_ret
          exact ⟨by simp, q5.trans ((hb6.trans (hb7.mono hb6.size)).mono q5.size)⟩
end Go.Proofs.Ytmpbofjkhombaaa
