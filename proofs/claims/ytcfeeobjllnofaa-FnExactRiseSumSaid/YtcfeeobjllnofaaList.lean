/-
  Contracts of the laws' helpers on slices of integers: eqIntS, markIntS, heldIntS.
-/
import Derived.Test.YtcfeeobjllnofaaMem
namespace Go.Proofs.Ytcfeeobjllnofaa
open Go.RowKit

theorem infoInt : (Try.prog.info? 3).map (fun i => (i.zero, i.size, i.bytes)) = some (some (.int .i64 0), 1, 8) := by kernel_rfl

/-- A slice of the call's own is returned, which holds zs. -/
def RetOwns (w : World) (zs : List Int) (e : Ending) (w' : World) : Prop := ∃ v', e = .returned v' ∧ Owns w' w.heap.size v' zs ∧ Below w.heap.size w w'

theorem copied_set (zs : List Int) (k : Nat) (h : k < zs.length) : (zs.take k ++ List.replicate (zs.length - k) 0).set k (nth zs k) = zs.take (k + 1) ++ List.replicate (zs.length - (k + 1)) 0 := by
  apply List.ext_getElem?
  intro j
  have hl : (zs.take k).length = k := by rw [List.length_take]; omega
  rw [List.getElem?_set]
  by_cases e : k = j
  · subst e
    rw [if_pos rfl, if_pos (by simp; omega), List.getElem?_append_left (by rw [List.length_take]; omega), List.getElem?_take, if_pos (by omega)]
    simp [nth, List.getD, h]
  · rw [if_neg e]
    by_cases h2 : j < k
    · rw [List.getElem?_append_left (by omega), List.getElem?_append_left (by rw [List.length_take]; omega), List.getElem?_take, List.getElem?_take, if_pos h2, if_pos (by omega)]
    · rw [List.getElem?_append_right (by omega), List.getElem?_append_right (by rw [List.length_take]; omega), List.getElem?_replicate, List.getElem?_replicate, hl, List.length_take]
      by_cases h3 : j < zs.length
      · rw [if_pos (by omega), if_pos (by omega)]
      · rw [if_neg (by omega), if_neg (by omega)]

theorem take_ext {xs ys : List Int} {n k : Nat} (ha : xs.length = n) (hb : ys.length = n) (hk : k < n) (h : xs.take k = ys.take k) (e : nth xs k = nth ys k) : xs.take (k + 1) = ys.take (k + 1) := by
  have h1 : xs[k]? = some (nth xs k) := by simp [nth, List.getD, show k < xs.length by omega]
  have h2 : ys[k]? = some (nth ys k) := by simp [nth, List.getD, show k < ys.length by omega]
  rw [List.take_add_one, List.take_add_one, h, h1, h2, e]
theorem ne_of_nth {xs ys : List Int} {k : Nat} (e : ¬ nth xs k = nth ys k) : ¬ xs = ys := fun h => e (by rw [h])

set_option maxHeartbeats 800000 in
theorem laws_eqIntS (va vb : Value) (xs ys : List Int) (w : World) (ha : Reads w va xs) (hb : Reads w vb ys) :
    Calls Try.prog 26 #[va, vb] w fun e w' => e = .returned (.bool (decide (xs = ys))) ∧ Below w.heap.size w w' := by
  have hla := ha.le
  have hlb := hb.le
  obtain ⟨aa, capa, rfl, hla2, hca, hcella⟩ := ha
  obtain ⟨ab, capb, rfl, hlb2, hcb, hcellb⟩ := hb
  by_cases hl : xs.length = ys.length
  · have hne : ((xs.length : Int) != (ys.length : Int)) = false := by simp [hl]
    have hl1 : xs.length ≤ ys.length := by omega
    have hl2 : ys.length ≤ xs.length := by omega
    have HL := Lib.hid hl
    clear hl
    go_enter Try.func26, Try.ntmps26
    go_wp2
    go_loopw [5] (fun i wr => ∃ k : Nat, k ≤ xs.length ∧ i = .int .i64 k ∧ Hid (xs.take k = ys.take k) ∧ Below w.heap.size w wr) (fun i _ => xs.length - (intOf i).toNat)
    case atStart => exact ⟨0, Nat.zero_le _, rfl, rfl, Below.refl _ _⟩
    case round =>
      obtain ⟨k, hk, rfl, htk, hbel⟩ := hrel
      by_cases hlt : k < xs.length
      · rcases hcella with h0 | ⟨b, o, rfl, hcella⟩
        · exfalso; subst h0; simp at hlt
        · rcases hcellb with h0 | ⟨b', o', rfl, hcellb⟩
          · exfalso; subst h0; have e0 : ([] : List Int).length = 0 := rfl; omega
          · have h1 := hcella k hlt
            have h2 := World.block_lt_of_cell? _ _ h1
            have ca : wr.cell? ⟨b, o + k, none⟩ = some (.int .i64 (nth xs k)) := (hbel.cell (p := ⟨b, o + k, none⟩) h2).trans h1
            have h3 := hcellb k (by omega)
            have h4 := World.block_lt_of_cell? _ _ h3
            have cb : wr.cell? ⟨b', o' + k, none⟩ = some (.int .i64 (nth ys k)) := (hbel.cell (p := ⟨b', o' + k, none⟩) h4).trans h3
            clear h1 h2 h3 h4 hcella hcellb
            have i1 : (k : Int) < (xs.length : Int) := by omega
            have i2 : (k : Int) < (ys.length : Int) := by omega
            by_cases hx : nth xs k = nth ys k
            · have hx' : (nth xs k != nth ys k) = false := by simp [hx]
              have HT : Hid (xs.take (k + 1) = ys.take (k + 1)) := take_ext rfl HL.out.symm hlt htk.out hx
              clear hx
              go_wp2
              go_quiet (fail)
              go_wp2
              go_roundw
              case rel => exact ⟨k + 1, by omega, by go_num, HT, below_dn hbel _⟩
              case measure => simp [intOf]; omega
            · have hx' : (nth xs k != nth ys k) = true := by simp [hx]
              have HF : Hid (decide (xs = ys) = false) := decide_eq_false (ne_of_nth hx)
              clear hx
              go_wp2
              go_quiet (fail)
              go_wp2
              go_ret
              exact ⟨ret_bool HF.out.symm, below_dn hbel _⟩
      · have HF : Hid (decide (xs = ys) = true) := by
          have e : k = xs.length := by omega
          have := htk.out
          rw [e, List.take_of_length_le (Nat.le_refl _), List.take_of_length_le (by omega)] at this
          exact decide_eq_true this
        go_wp2
        go_ret
        exact ⟨ret_bool HF.out.symm, hbel⟩
  · have hne : ((xs.length : Int) != (ys.length : Int)) = true := by simp; omega
    have HF : Hid (decide (xs = ys) = false) := decide_eq_false (fun h => hl (by rw [h]))
    clear hl
    go_enter Try.func26, Try.ntmps26
    go_wp2
    go_ret
    exact ⟨ret_bool HF.out.symm, Below.refl _ _⟩

/-- The numbers that markIntS lays. -/
def marks (n : Nat) : List Int := (List.range n).map (fun j : Nat => (j : Int) + 1)
theorem marks_length (n : Nat) : (marks n).length = n := by simp [marks]
theorem marks_succ (n : Nat) : marks (n + 1) = marks n ++ [(n : Int) + 1] := by simp [marks, List.range_succ]
theorem nth_marks (n j : Nat) (h : j < n) : nth (marks n) j = (j : Int) + 1 := by simp [nth, marks, List.getD, h]
theorem marked_set (zs : List Int) (k : Nat) (h : k < zs.length) : (marks k ++ zs.drop k).set k ((k : Int) + 1) = marks (k + 1) ++ zs.drop (k + 1) := by
  rw [List.set_append_right _ _ (by rw [marks_length]; exact Nat.le_refl _), marks_length, Nat.sub_self, List.drop_eq_getElem_cons h, List.set_cons_zero, marks_succ, List.append_assoc]; rfl

set_option maxHeartbeats 400000 in
theorem laws_markIntS (v : Value) (zs : List Int) (B : Nat) (w : World) (ho : Owns w B v zs) (hn : zs.length ≤ 1048576) :
    Calls Try.prog 29 #[v, .int .i64 1] w fun e w' => e = .returned (.int .i64 ((zs.length : Int) + 1)) ∧ Owns w' B v (marks zs.length) ∧ w.grownBy w' v.ownBlock := by
  rcases ho.shape with ⟨rfl, rfl⟩ | ⟨g, cap, rfl, hg1, hg2, hg3, hg4⟩
  · go_enter Try.func29, Try.ntmps29
    go_wp2
    go_rounds 1
    go_ret
    exact ⟨rfl, ho, World.grownBy.refl _ _⟩
  · go_enter Try.func29, Try.ntmps29
    go_wp2
    go_loopw [1, 5] (fun q i wr => ∃ k : Nat, k ≤ zs.length ∧ i = .int .i64 k ∧ q = .int .i64 ((k : Int) + 1) ∧ Owns wr B (.slice (some ⟨g, 0, none⟩) zs.length cap) (marks k ++ zs.drop k) ∧ w.grownBy wr (some g)) (fun _ i _ => zs.length - (intOf i).toNat)
    case atStart => exact ⟨0, Nat.zero_le _, rfl, rfl, by simpa [marks] using ho, World.grownBy.refl _ _⟩
    case round =>
      obtain ⟨k, hk, rfl, rfl, hown, hbel⟩ := hrel
      by_cases hlt : k < zs.length
      · have hdst := hown.cell k (by simp [marks_length]; omega)
        have hfree := hown.free k
        have hst := hown.store k ((k : Int) + 1)
        rw [marked_set zs k hlt] at hst
        have hbel2 := grownBy_trans hbel (hown.stored k ((k : Int) + 1))
        clear hown hbel ho
        go_wp2
        go_roundw
        case rel => exact ⟨k + 1, by omega, by go_num, by go_num, hst, hbel2⟩
        case measure => simp [intOf]; omega
      · have e1 : k = zs.length := by omega
        have e : marks k ++ zs.drop k = marks zs.length := by rw [e1]; simp
        rw [e] at hown
        have E1 := Lib.hid e1
        clear e e1 ho
        go_wp2
        go_ret
        exact ⟨ret_int (by rw [E1.out]), hown, hbel⟩

set_option maxHeartbeats 400000 in
theorem laws_heldIntS (v : Value) (n : Nat) (w : World) (hr : Reads w v (marks n)) (hn : n ≤ 1048576) :
    Calls Try.prog 30 #[v, .int .i64 1] w fun e w' => e = .returned (.int .i64 ((n : Int) + 1)) ∧ w = w' := by
  obtain ⟨ao, cap, rfl, hl, hc, hcell⟩ := hr
  rw [marks_length] at *
  go_enter Try.func30, Try.ntmps30
  go_wp2
  go_loop [1, 5] (fun q i => ∃ k : Nat, k ≤ n ∧ i = .int .i64 k ∧ q = .int .i64 ((k : Int) + 1)) (fun _ i => n - (intOf i).toNat)
  case atStart => exact ⟨0, Nat.zero_le _, rfl, rfl⟩
  case round =>
    obtain ⟨k, hk, rfl, rfl⟩ := hrel
    by_cases hlt : k < n
    · rcases hcell with h0 | ⟨b, o, rfl, hcell⟩
      · exfalso; have := marks_length n; rw [h0] at this; simp at this; omega
      · have h1 := hcell k hlt
        rw [nth_marks n k hlt] at h1
        have hx : (((k : Int) + 1) != ((k : Int) + 1)) = false := by simp
        clear hcell
        go_wp2
        go_round
        case rel => exact ⟨k + 1, by omega, by go_num, by go_num⟩
        case measure => simp [intOf]; omega
    · go_wp2
      go_ret
      exact ⟨ret_int (by omega), rfl⟩
end Go.Proofs.Ytcfeeobjllnofaa
