/-
  Contracts of ranks, RanksOf and RankGap, both packages.
-/
import Derived.Test.YtolepfgabbmpdaaPairs
import Derived.Test.YtolepfgabbmpdaaTimes
namespace Go.Proofs.Ytolepfgabbmpdaa
open Go.RowKit
set_option linter.unusedVariables false

def lessTo (zs : List Int) (x : Int) (k : Nat) : Int := sumTo (fun j => if nth zs j < x then 1 else 0) k
def sameTo (zs : List Int) (x : Int) (k : Nat) : Int := sumTo (fun j => if nth zs j = x then 1 else 0) k
theorem lessTo_bd (zs : List Int) (x : Int) (k : Nat) : 0 ≤ lessTo zs x k ∧ lessTo zs x k ≤ k := by
  have := sumTo_bd (fun j => if nth zs j < x then 1 else 0) 1 k (fun j _ => by show 0 ≤ (if nth zs j < x then (1:Int) else 0) ∧ (if nth zs j < x then (1:Int) else 0) ≤ 1; split <;> omega)
  unfold lessTo; omega
theorem sameTo_bd (zs : List Int) (x : Int) (k : Nat) : 0 ≤ sameTo zs x k ∧ sameTo zs x k ≤ k := by
  have := sumTo_bd (fun j => if nth zs j = x then 1 else 0) 1 k (fun j _ => by show 0 ≤ (if nth zs j = x then (1:Int) else 0) ∧ (if nth zs j = x then (1:Int) else 0) ≤ 1; split <;> omega)
  unfold sameTo; omega
theorem lessTo_succ (zs : List Int) (x : Int) (k : Nat) : lessTo zs x (k + 1) = lessTo zs x k + if nth zs k < x then 1 else 0 := rfl
theorem sameTo_succ (zs : List Int) (x : Int) (k : Nat) : sameTo zs x (k + 1) = sameTo zs x k + if nth zs k = x then 1 else 0 := rfl
def rkTo (zs : List Int) (x : Int) (k : Nat) : Int := 2 * lessTo zs x k + sameTo zs x k + 1
def ranksL (zs : List Int) : List Int := zs.map (fun x => rkTo zs x zs.length)
theorem ranksL_length (zs : List Int) : (ranksL zs).length = zs.length := by simp [ranksL]
theorem nth_ranksL (zs : List Int) (k : Nat) (h : k < zs.length) : nth (ranksL zs) k = rkTo zs (nth zs k) zs.length := by simp [nth, ranksL, List.getD, h]
theorem rkTo_bd (zs : List Int) (x : Int) (k : Nat) : 1 ≤ rkTo zs x k ∧ rkTo zs x k ≤ 3 * k + 1 := by
  have h1 := lessTo_bd zs x k
  have h2 := sameTo_bd zs x k
  unfold rkTo; omega
theorem ranks_nth_bd (zs : List Int) (k : Nat) (h : k < zs.length) : 1 ≤ nth (ranksL zs) k ∧ nth (ranksL zs) k ≤ 3 * zs.length + 1 := by
  rw [nth_ranksL zs k h]; exact rkTo_bd _ _ _
theorem OwnsA.len {w : World} {B : Nat} {v : Value} {zs : List Int} (h : OwnsA w B v zs) : zs.length ≤ 9223372036854775807 := h.weak.reads.le

set_option maxHeartbeats 1000000 in
theorem spec_ranks (v : Value) (zs : List Int) (w : World) (hr : Reads w v zs) (hlen : zs.length ≤ 10) :
    Calls Try.prog 62 #[v] w (RetOwns w (ranksL zs)) := by
  obtain ⟨ti, hi, hz0, hz1, hz2⟩ := info_parts infoInt
  have hlt0 : (ranksL zs).length ≤ zs.length := by rw [ranksL_length]; exact Nat.le_refl _
  have hlt1 : zs.length ≤ (ranksL zs).length := by rw [ranksL_length]; exact Nat.le_refl _
  obtain ⟨ao, cap, rfl, hl, hc, hcell⟩ := hr
  go_enter Try.func62, Try.ntmps62
  go_wp2_with fail
  go_loopw [3, 4] (fun o i wr => ∃ k : Nat, k ≤ zs.length ∧ i = .int .i64 k ∧ OwnsA wr w.heap.size o ((ranksL zs).take k) ∧ Below w.heap.size w wr) (fun _ i _ => zs.length - (intOf i).toNat)
  case atStart => exact ⟨0, Nat.zero_le _, rfl, owns_lit0 w _ (Nat.le_refl _), (Below.refl _ _).alloc (Nat.le_refl _) _⟩
  case round =>
    obtain ⟨k, hk, rfl, hown, hbel⟩ := hrel
    have hlk : ((ranksL zs).take k).length ≤ 10 := by rw [List.length_take]; omega
    by_cases hlt : k < zs.length
    · rcases hcell with h0 | ⟨b, o, rfl, hcell⟩
      · exfalso; subst h0; have e0 : ([] : List Int).length = 0 := rfl; omega
      · have HT : Hid ((ranksL zs).take (k + 1) = (ranksL zs).take k ++ [2 * lessTo zs (nth zs k) zs.length + sameTo zs (nth zs k) zs.length + 1]) := by
          show _ = _; rw [take_snoc (by omega), nth_ranksL zs k hlt]; rfl
        generalize hP : (ranksL zs).take k = P at *
        have HP := Lib.hid hP
        clear hP
        go_wp2_with fail
        go_loopw [5, 6, 7] (fun l s j wr => ∃ q : Nat, q ≤ zs.length ∧ j = .int .i64 q ∧ l = .int .i64 (lessTo zs (nth zs k) q) ∧ s = .int .i64 (sameTo zs (nth zs k) q) ∧ OwnsA wr w.heap.size u3 P ∧ Below w.heap.size w wr) (fun _ _ j _ => zs.length - (intOf j).toNat)
        case atStart => exact ⟨0, Nat.zero_le _, rfl, rfl, rfl, hown, hbel⟩
        case round =>
          obtain ⟨q, hq, rfl, rfl, rfl, hown, hbel⟩ := hrel
          have l1 := lessTo_bd zs (nth zs k) q
          have l2 := sameTo_bd zs (nth zs k) q
          by_cases hql : q < zs.length
          · have h1 := hcell k hlt
            have h2 := hcell q hql
            have ca : _ = _ := (hbel.cell (p := ⟨b, o + k, none⟩) (World.block_lt_of_cell? _ _ h1)).trans h1
            have cb : _ = _ := (hbel.cell (p := ⟨b, o + q, none⟩) (World.block_lt_of_cell? _ _ h2)).trans h2
            have i1 : (k : Int) < (zs.length : Int) := by omega
            have i2 : (q : Int) < (zs.length : Int) := by omega
            have HL := Lib.hid (lessTo_succ zs (nth zs k) q)
            have HE := Lib.hid (sameTo_succ zs (nth zs k) q)
            clear h1 h2 hcell
            generalize nth zs k = x at *
            generalize nth zs q = y at *
            rcases Int.lt_trichotomy y x with h | h | h
            · have t1 : decide (y < x) = true := decide_eq_true h
              have t2 : (y == x) = false := by simp; omega
              have e1 : Hid (lessTo zs x (q + 1) = lessTo zs x q + 1) := by show _ = _; rw [HL.out, if_pos h]
              have e2 : Hid (sameTo zs x (q + 1) = sameTo zs x q) := by show _ = _; rw [HE.out, if_neg (by omega), Int.add_zero]
              clear HL HE
              go_wp2
              go_quiet (fail)
              go_wp2
              go_quiet (fail)
              go_wp2
              go_roundw
              case rel => exact ⟨q + 1, by omega, by go_num, by rw [e1.out], by rw [e2.out], hown, below_dn hbel _⟩
              case measure => simp [intOf]; omega
            · subst h
              have e1 : Hid (lessTo zs y (q + 1) = lessTo zs y q) := by show _ = _; rw [HL.out, if_neg (by omega), Int.add_zero]
              have e2 : Hid (sameTo zs y (q + 1) = sameTo zs y q + 1) := by show _ = _; rw [HE.out, if_pos rfl]
              clear HL HE
              go_wp2
              go_quiet (fail)
              go_wp2
              go_quiet (fail)
              go_wp2
              go_roundw
              case rel => exact ⟨q + 1, by omega, by go_num, by rw [e1.out], by rw [e2.out], hown, below_dn hbel _⟩
              case measure => simp [intOf]; omega
            · have t1 : decide (y < x) = false := decide_eq_false (by omega)
              have t2 : (y == x) = false := by simp; omega
              have e1 : Hid (lessTo zs x (q + 1) = lessTo zs x q) := by show _ = _; rw [HL.out, if_neg (by omega), Int.add_zero]
              have e2 : Hid (sameTo zs x (q + 1) = sameTo zs x q) := by show _ = _; rw [HE.out, if_neg (by omega), Int.add_zero]
              clear HL HE
              go_wp2
              go_quiet (fail)
              go_wp2
              go_quiet (fail)
              go_wp2
              go_roundw
              case rel => exact ⟨q + 1, by omega, by go_num, by rw [e1.out], by rw [e2.out], hown, below_dn hbel _⟩
              case measure => simp [intOf]; omega
          · have hqq : q = zs.length := by omega
            subst hqq
            have hsz := hbel.size
            clear hcell
            go_wp2_with (at_builtin; refine wpList_append_own _ rfl _ _ 22 rfl w.heap.size 3 ti (.int .i64 0) 1 8 Try.underlying22 hi hz0 hz1 hz2 rfl (by decide) _ _ _ rfl (hown.alloc _) ⟨wr.heap.size, 0, none⟩ 1 1 [.int .i64 (2 * lessTo zs (nth zs k) zs.length + sameTo zs (nth zs k) zs.length + 1)] rfl rfl (new_cells _ _) (new_one _) (by unfold maxLen; omega) (by omega) (by simp; omega) ?_)
            intro v' w1 hown' hgrow _
            have ho2 := OwnsA.appended hown'
            rw [← HT.out] at ho2
            have hb2 : Below w.heap.size w w1 := OwnsA.grownBelow (hown.alloc _) hgrow (hbel.alloc hsz _) (Nat.le_refl _) (by simp; omega)
            clear hown' hgrow hown hbel
            go_wp2
            go_roundw
            case rel => exact ⟨k + 1, by omega, by go_num, ho2, hb2⟩
            case measure => simp [intOf]; omega
    · rw [drop_zero_all _ k (by omega)] at hown
      go_wp2
      go_ret
      exact ⟨_, rfl, hown.weak, hbel⟩

theorem set_nth_self (P : List Int) (k : Nat) (x : Int) (h : k < P.length) : nth (P.set k x) k = x := by simp [nth, List.getD, h]

set_option maxHeartbeats 1000000 in
theorem impl_ranks (v : Value) (zs : List Int) (w : World) (hr : Reads w v zs) (hlen : zs.length ≤ 10) :
    Calls Try.prog 63 #[v] w (RetOwns w (ranksL zs)) := by
  obtain ⟨ti, hi, hz0, hz1, hz2⟩ := info_parts infoInt
  obtain ⟨ao, cap, rfl, hl, hc, hcell⟩ := hr
  go_enter Try.func63, Try.ntmps63
  go_wp2_with (at_make; refine wpList_make_full _ rfl _ _ 22 rfl w.heap.size 3 ti (.int .i64 0) 1 Try.underlying22 hi hz0 hz1 .i64 .i64 _ _ zs.length rfl rfl rfl rfl (by rw [hz2]; omega) (by unfold maxLen; omega) (Nat.le_refl _) ?_)
  intro w2 hown0 hgrow0
  have hown := Owns.made (zs := List.replicate zs.length 0) (by simpa using hown0) rfl rfl
  have hbel : Below w.heap.size w w2 := (Below.refl _ _).grown hgrow0 (Nat.le_refl _) (by simp)
  clear hown0 hgrow0
  go_wp2
  go_loopw [13] (fun i wr => ∃ k : Nat, k ≤ zs.length ∧ i = .int .i64 k ∧ Owns wr w.heap.size (.slice (some ⟨w.heap.size, 0, none⟩) zs.length zs.length) ((ranksL zs).take k ++ List.replicate (zs.length - k) 0) ∧ Below w.heap.size w wr) (fun i _ => zs.length - (intOf i).toNat)
  case atStart => exact ⟨0, Nat.zero_le _, rfl, by simpa using hown, hbel⟩
  case round =>
    obtain ⟨k, hk, rfl, hown, hbel⟩ := hrel
    by_cases hlt : k < zs.length
    · rcases hcell with h0 | ⟨b, o, rfl, hcell⟩
      · exfalso; subst h0; have e0 : ([] : List Int).length = 0 := rfl; omega
      · have h1 := hcell k hlt
        have ca : _ = _ := (hbel.cell (p := ⟨b, o + k, none⟩) (World.block_lt_of_cell? _ _ h1)).trans h1
        have hPl : ((ranksL zs).take k ++ List.replicate (zs.length - k) 0).length = zs.length := by simp [ranksL_length]; omega
        have HN : Hid (((ranksL zs).take k ++ List.replicate (zs.length - k) 0).set k (rkTo zs (nth zs k) zs.length) = (ranksL zs).take (k + 1) ++ List.replicate (zs.length - (k + 1)) 0) :=
          filled_set (ranksL zs) k zs.length _ (ranksL_length zs) hlt (nth_ranksL zs k hlt)
        generalize (ranksL zs).take k ++ List.replicate (zs.length - k) 0 = P at *
        have hkP : k < P.length := by omega
        have HPL := Lib.hid hPl
        clear hPl
        have hdst := hown.cell k hkP
        have hfree := hown.free k
        have hst := hown.store k 1
        have hbl := Owns.store_below hbel hown (Nat.le_refl _) k (.int .i64 1)
        have i1 : (k : Int) < (zs.length : Int) := by omega
        clear h1 hown hbel
        go_wp2
        go_loopw [23] (fun j wr => ∃ q : Nat, q ≤ zs.length ∧ j = .int .i64 q ∧ Owns wr w.heap.size (.slice (some ⟨w.heap.size, 0, none⟩) zs.length zs.length) (P.set k (rkTo zs (nth zs k) q)) ∧ Below w.heap.size w wr) (fun j _ => zs.length - (intOf j).toNat)
        case atStart => exact ⟨0, Nat.zero_le _, rfl, by simpa [rkTo, lessTo, sameTo, sumTo] using hst, hbl⟩
        case round =>
          clear hdst hfree hst hbl
          obtain ⟨q, hq, rfl, hown, hbel⟩ := hrel
          have rb := rkTo_bd zs (nth zs k) q
          by_cases hql : q < zs.length
          · have h2 := hcell q hql
            have cb : _ = _ := (hbel.cell (p := ⟨b, o + q, none⟩) (World.block_lt_of_cell? _ _ h2)).trans h2
            have i2 : (q : Int) < (zs.length : Int) := by omega
            have HL := Lib.hid (lessTo_succ zs (nth zs k) q)
            have HE := Lib.hid (sameTo_succ zs (nth zs k) q)
            have hdst := hown.cell k (by simpa using hkP)
            rw [set_nth_self P k _ hkP] at hdst
            have hfree := hown.free k
            have hst : ∀ x, Owns _ _ _ _ := fun x => hown.store k x
            have hbl := fun x => Owns.store_below hbel hown (Nat.le_refl _) k (.int .i64 x)
            simp only [List.set_set] at hst
            have HST := Lib.hid hst
            have HBL := Lib.hid hbl
            clear h2 hcell hst hbl ca
            generalize nth zs k = x at *
            generalize nth zs q = y at *
            rcases Int.lt_trichotomy y x with h | h | h
            · have t1 : decide (y < x) = true := decide_eq_true h
              have e1 : Hid (rkTo zs x (q + 1) = rkTo zs x q + 2) := by show _ = _; unfold rkTo; rw [HL.out, if_pos h, HE.out, if_neg (by omega)]; omega
              clear HL HE hown hbel
              go_wp2
              go_roundw
              case rel => exact ⟨q + 1, by omega, by go_num, by rw [e1.out]; exact HST.out _, HBL.out _⟩
              case measure => simp [intOf]; omega
            · subst h
              have e1 : Hid (rkTo zs y (q + 1) = rkTo zs y q + 1) := by show _ = _; unfold rkTo; rw [HL.out, if_neg (by omega), HE.out, if_pos rfl]; omega
              clear HL HE hown hbel
              go_wp2
              go_roundw
              case rel => exact ⟨q + 1, by omega, by go_num, by rw [e1.out]; exact HST.out _, HBL.out _⟩
              case measure => simp [intOf]; omega
            · have t1 : decide (y < x) = false := decide_eq_false (by omega)
              have t2 : (y == x) = false := by simp; omega
              have e1 : Hid (rkTo zs x (q + 1) = rkTo zs x q) := by show _ = _; unfold rkTo; rw [HL.out, if_neg (by omega), HE.out, if_neg (by omega)]; omega
              clear HL HE
              go_wp2
              go_roundw
              case rel => exact ⟨q + 1, by omega, by go_num, by rw [e1.out]; exact hown, hbel⟩
              case measure => simp [intOf]; omega
          · have hqq : q = zs.length := by omega
            subst hqq
            rw [HN.out] at hown
            clear hcell ca
            go_wp2
            go_roundw
            case rel => exact ⟨k + 1, by omega, by go_num, hown, hbel⟩
            case measure => simp [intOf]; omega
    · have e : (ranksL zs).take k ++ List.replicate (zs.length - k) 0 = ranksL zs := by
        have : k = zs.length := by omega
        rw [this, List.take_of_length_le (by rw [ranksL_length]; exact Nat.le_refl _)]; simp
      rw [e] at hown
      clear e
      go_wp2
      go_ret
      exact ⟨_, rfl, hown, hbel⟩

/-- RanksOf. -/
def ranksV (zs : List Int) : List Int := if dataB zs = true then ranksL zs else []
theorem ranksV_len (zs : List Int) : (ranksV zs).length ≤ 10 := by
  unfold ranksV
  split
  · rename_i h; rw [ranksL_length]; exact data_len h
  · simp

theorem spec_RanksOf (v : Value) (zs : List Int) (w : World) (hr : Reads w v zs) :
    Calls Try.prog 39 #[v] w (RetOwns w (ranksV zs)) := by
  cases h : dataB zs
  · have hz : Hid (ranksV zs = []) := if_neg (by rw [h]; simp)
    go_enter Try.func39, Try.ntmps39
    go_wp2_with fail
    refine (spec_validData v zs _ hr).mono ?_; rintro e w1 ⟨rfl, rfl⟩
    go_wp2_with fail
    go_ret
    exact ⟨_, rfl, by rw [hz.out]; exact Owns.nil _ _, Below.refl _ _⟩
  · have hz : Hid (ranksV zs = ranksL zs) := if_pos h
    have hl := data_len h
    go_enter Try.func39, Try.ntmps39
    go_wp2_with fail
    refine (spec_validData v zs _ hr).mono ?_; rintro e w1 ⟨rfl, rfl⟩
    go_wp2_with fail
    refine (spec_ranks v zs _ hr hl).mono ?_; rintro e w2 ⟨r, rfl, ho, hb⟩
    go_wp2_with fail
    go_ret
    exact ⟨_, rfl, by rw [hz.out]; exact ho, hb⟩

theorem impl_RanksOf (v : Value) (zs : List Int) (w : World) (hr : Reads w v zs) :
    Calls Try.prog 40 #[v] w (RetOwns w (ranksV zs)) := by
  cases h : dataB zs
  · have hz : Hid (ranksV zs = []) := if_neg (by rw [h]; simp)
    go_enter Try.func40, Try.ntmps40
    go_wp2_with fail
    refine (impl_ValidData v zs _ hr).mono ?_; rintro e w1 ⟨rfl, hb⟩
    go_wp2_with fail
    go_ret
    exact ⟨_, rfl, by rw [hz.out]; exact Owns.nil _ _, hb⟩
  · have hz : Hid (ranksV zs = ranksL zs) := if_pos h
    have hl := data_len h
    go_enter Try.func40, Try.ntmps40
    go_wp2_with fail
    refine (impl_ValidData v zs _ hr).mono ?_; rintro e w1 ⟨rfl, hb⟩
    go_wp2_with fail
    refine (impl_ranks v zs _ (hr.keep hb) hl).mono ?_; rintro e w2 ⟨r, rfl, ho, hb2⟩
    go_wp2_with fail
    go_ret
    exact ⟨_, rfl, by rw [hz.out]; exact ho.mono hb.size, hb.trans (hb2.mono hb.size)⟩

/-- RankGap. -/
def gapOne (xs ys : List Int) (i : Nat) : Int := (nth (ranksL xs) i - nth (ranksL ys) i) * (nth (ranksL xs) i - nth (ranksL ys) i)
def gapSum (xs ys : List Int) (k : Nat) : Int := sumTo (gapOne xs ys) k
theorem sq_bd (d : Int) (h : -30 ≤ d ∧ d ≤ 30) : 0 ≤ d * d ∧ d * d ≤ 900 := by
  by_cases h0 : 0 ≤ d
  · have := mul_bd d d 30 30 h0 h.2 h0 h.2; omega
  · have := mul_bd (-d) (-d) 30 30 (by omega) (by omega) (by omega) (by omega)
    rw [Int.neg_mul_neg] at this; omega
theorem gapOne_bd (xs ys : List Int) (i : Nat) (hx : xs.length ≤ 10) (hy : ys.length ≤ 10) (h1 : i < xs.length) (h2 : i < ys.length) : 0 ≤ gapOne xs ys i ∧ gapOne xs ys i ≤ 900 := by
  have a := ranks_nth_bd xs i h1
  have b := ranks_nth_bd ys i h2
  exact sq_bd _ (by omega)
theorem gapSum_bd (xs ys : List Int) (k : Nat) (hx : xs.length ≤ 10) (hy : ys.length ≤ 10) (h1 : k ≤ xs.length) (h2 : k ≤ ys.length) : 0 ≤ gapSum xs ys k ∧ gapSum xs ys k ≤ 9000 := by
  have := sumTo_bd (gapOne xs ys) 900 k (fun i hi => gapOne_bd xs ys i hx hy (by omega) (by omega))
  unfold gapSum; omega
def gapV (xs ys : List Int) : Int := if twoB xs ys = true then gapSum xs ys xs.length else -1

set_option maxHeartbeats 1000000 in
theorem spec_RankGap (v : Value) (xs : List Int) (u : Value) (ys : List Int) (w : World) (hr : Reads w v xs) (ks : Reads w u ys) :
    Calls Try.prog 37 #[v, u] w fun e w' => e = .returned (.int .i64 (gapV xs ys)) ∧ Below w.heap.size w w' := by
  cases h : twoB xs ys
  · have hz : Hid (gapV xs ys = -1) := if_neg (by rw [h]; simp)
    go_enter Try.func37, Try.ntmps37
    go_wp2_with fail
    refine (spec_validTwo _ xs _ ys _ hr ks).mono ?_; rintro e w1 ⟨rfl, rfl⟩
    go_wp2_with fail
    go_ret
    exact ⟨ret_int hz.out.symm, Below.refl _ _⟩
  · have hz : Hid (gapV xs ys = gapSum xs ys xs.length) := if_pos h
    obtain ⟨dx, dy, lxy⟩ := two_of h
    have lx := data_len dx
    have ly := data_len dy
    have LXY := Lib.hid lxy
    clear lxy dx dy
    go_enter Try.func37, Try.ntmps37
    go_wp2_with fail
    refine (spec_validTwo _ xs _ ys _ hr ks).mono ?_; rintro e w1 ⟨rfl, rfl⟩
    go_wp2_with fail
    refine (spec_ranks _ xs _ hr lx).mono ?_; rintro e w2 ⟨r1, rfl, o1, hb1⟩
    go_wp2_with fail
    refine (spec_ranks _ ys _ (ks.keep hb1) ly).mono ?_; rintro e w3 ⟨r2, rfl, o2, hb2⟩
    have ha := (o1.keep hb2).reads
    have hb := o2.reads
    have hbel : Below w.heap.size w w3 := hb1.trans (hb2.mono hb1.size)
    clear hb1 hb2 o1 o2 hr ks 
    have E1 := Lib.hid (ranksL_length xs)
    have E2 := Lib.hid (ranksL_length ys)
    obtain ⟨ao, cap, rfl, hl, hc, hcell⟩ := ha
    obtain ⟨bo, dap, rfl, kl, kc, kcell⟩ := hb
    have m1 : (ranksL xs).length ≤ 10 := by rw [E1.out]; exact lx
    have m2 : (ranksL ys).length ≤ 10 := by rw [E2.out]; exact ly
    go_wp2_with fail
    go_loopw [7, 8] (fun s i wr => ∃ k : Nat, k ≤ (ranksL xs).length ∧ i = .int .i64 k ∧ s = .int .i64 (gapSum xs ys k) ∧ Below w3.heap.size w3 wr) (fun _ i _ => (ranksL xs).length - (intOf i).toNat)
    case atStart => exact ⟨0, Nat.zero_le _, rfl, rfl, Below.refl _ _⟩
    case round =>
      obtain ⟨k, hk, rfl, rfl, hbl⟩ := hrel
      have kx : k ≤ xs.length := by have := E1.out; omega
      have hsb := gapSum_bd xs ys k lx ly kx (by have := LXY.out; omega)
      by_cases hlt : k < (ranksL xs).length
      · have kx2 : k < xs.length := by have := E1.out; omega
        have ky2 : k < ys.length := by have := LXY.out; omega
        have hlt2 : k < (ranksL ys).length := by have := E2.out; omega
        rcases hcell with h0 | ⟨b, o, rfl, hcell⟩
        · exfalso; rw [h0] at hlt; simp at hlt
        rcases kcell with h0 | ⟨b2, o2, rfl, kcell⟩
        · exfalso; rw [h0] at hlt2; simp at hlt2
        have h1 := hcell k hlt
        have h2 := kcell k hlt2
        have ca : _ = _ := (hbl.cell (p := ⟨b, o + k, none⟩) (World.block_lt_of_cell? _ _ h1)).trans h1
        have cb : _ = _ := (hbl.cell (p := ⟨b2, o2 + k, none⟩) (World.block_lt_of_cell? _ _ h2)).trans h2
        have b1 := ranks_nth_bd xs k kx2
        have b2' := ranks_nth_bd ys k ky2
        have hm := gapOne_bd xs ys k lx ly kx2 ky2
        have HS : Hid (gapSum xs ys (k + 1) = gapSum xs ys k + (nth (ranksL xs) k - nth (ranksL ys) k) * (nth (ranksL xs) k - nth (ranksL ys) k)) := rfl
        unfold gapOne at hm
        have i1 : (k : Int) < ((ranksL xs).length : Int) := by omega
        have i2 : (k : Int) < ((ranksL ys).length : Int) := by omega
        clear h1 h2 hcell kcell
        go_wp2
        go_quiet (fail)
        go_wp2
        go_roundw
        case rel => exact ⟨k + 1, by omega, by go_num, by rw [HS.out], below_dn hbl _⟩
        case measure => simp [intOf]; omega
      · have hkk : Hid (k = xs.length) := by show _ = _; have := E1.out; omega
        go_wp2
        go_ret
        exact ⟨ret_int (by rw [hz.out, hkk.out]), hbel.trans (hbl.mono hbel.size)⟩

set_option maxHeartbeats 1000000 in
theorem impl_RankGap (v : Value) (xs : List Int) (u : Value) (ys : List Int) (w : World) (hr : Reads w v xs) (ks : Reads w u ys) :
    Calls Try.prog 38 #[v, u] w fun e w' => e = .returned (.int .i64 (gapV xs ys)) ∧ Below w.heap.size w w' := by
  cases h : twoB xs ys
  · have hz : Hid (gapV xs ys = -1) := if_neg (by rw [h]; simp)
    go_enter Try.func38, Try.ntmps38
    go_wp2_with fail
    refine (impl_bothData _ xs _ ys _ hr ks).mono ?_; rintro e w1 ⟨rfl, hv⟩
    go_wp2_with fail
    go_ret
    exact ⟨ret_int hz.out.symm, hv⟩
  · have hz : Hid (gapV xs ys = gapSum xs ys xs.length) := if_pos h
    obtain ⟨dx, dy, lxy⟩ := two_of h
    have lx := data_len dx
    have ly := data_len dy
    have LXY := Lib.hid lxy
    clear lxy dx dy
    go_enter Try.func38, Try.ntmps38
    go_wp2_with fail
    refine (impl_bothData _ xs _ ys _ hr ks).mono ?_; rintro e w1 ⟨rfl, hv⟩
    go_wp2_with fail
    refine (impl_ranks _ xs _ (hr.keep hv) lx).mono ?_; rintro e w2 ⟨r1, rfl, o1, hb1⟩
    go_wp2_with fail
    refine (impl_ranks _ ys _ ((ks.keep hv).keep hb1) ly).mono ?_; rintro e w3 ⟨r2, rfl, o2, hb2⟩
    have ha := (o1.keep hb2).reads
    have hb := o2.reads
    have hbel : Below w.heap.size w w3 := hv.trans ((hb1.trans (hb2.mono hb1.size)).mono hv.size)
    clear hb1 hb2 o1 o2 hr ks hv
    have E1 := Lib.hid (ranksL_length xs)
    have E2 := Lib.hid (ranksL_length ys)
    obtain ⟨ao, cap, rfl, hl, hc, hcell⟩ := ha
    obtain ⟨bo, dap, rfl, kl, kc, kcell⟩ := hb
    have m1 : (ranksL xs).length ≤ 10 := by rw [E1.out]; exact lx
    have m2 : (ranksL ys).length ≤ 10 := by rw [E2.out]; exact ly
    go_wp2_with fail
    go_loopw [7, 19] (fun s i wr => ∃ k : Nat, k ≤ (ranksL xs).length ∧ i = .int .i64 k ∧ s = .int .i64 (gapSum xs ys k) ∧ Below w3.heap.size w3 wr) (fun _ i _ => (ranksL xs).length - (intOf i).toNat)
    case atStart => exact ⟨0, Nat.zero_le _, rfl, rfl, Below.refl _ _⟩
    case round =>
      obtain ⟨k, hk, rfl, rfl, hbl⟩ := hrel
      have kx : k ≤ xs.length := by have := E1.out; omega
      have hsb := gapSum_bd xs ys k lx ly kx (by have := LXY.out; omega)
      by_cases hlt : k < (ranksL xs).length
      · have kx2 : k < xs.length := by have := E1.out; omega
        have ky2 : k < ys.length := by have := LXY.out; omega
        have hlt2 : k < (ranksL ys).length := by have := E2.out; omega
        rcases hcell with h0 | ⟨b, o, rfl, hcell⟩
        · exfalso; rw [h0] at hlt; simp at hlt
        rcases kcell with h0 | ⟨b2, o2, rfl, kcell⟩
        · exfalso; rw [h0] at hlt2; simp at hlt2
        have h1 := hcell k hlt
        have h2 := kcell k hlt2
        have ca : _ = _ := (hbl.cell (p := ⟨b, o + k, none⟩) (World.block_lt_of_cell? _ _ h1)).trans h1
        have cb : _ = _ := (hbl.cell (p := ⟨b2, o2 + k, none⟩) (World.block_lt_of_cell? _ _ h2)).trans h2
        have b1 := ranks_nth_bd xs k kx2
        have b2' := ranks_nth_bd ys k ky2
        have hm := gapOne_bd xs ys k lx ly kx2 ky2
        have HS : Hid (gapSum xs ys (k + 1) = gapSum xs ys k + (nth (ranksL xs) k - nth (ranksL ys) k) * (nth (ranksL xs) k - nth (ranksL ys) k)) := rfl
        unfold gapOne at hm
        have i1 : (k : Int) < ((ranksL xs).length : Int) := by omega
        have i2 : (k : Int) < ((ranksL ys).length : Int) := by omega
        clear h1 h2 hcell kcell
        go_wp2
        go_quiet (fail)
        go_wp2
        go_roundw
        case rel => exact ⟨k + 1, by omega, by go_num, by rw [HS.out], below_dn hbl _⟩
        case measure => simp [intOf]; omega
      · have hkk : Hid (k = xs.length) := by show _ = _; have := E1.out; omega
        go_wp2
        go_ret
        exact ⟨ret_int (by rw [hz.out, hkk.out]), hbel.trans (hbl.mono hbel.size)⟩
end Go.Proofs.Ytolepfgabbmpdaa
