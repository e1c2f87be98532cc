/-
  Contracts of the laws' helpers on slices of integers: eqIntS, markIntS, heldIntS.
-/
import Derived.Test.YtmpbofjkhombaaaMem
namespace Go.Proofs.Ytmpbofjkhombaaa
open Go.RowKit

theorem infoInt : (Try.prog.info? 3).map (fun i => (i.zero, i.size, i.bytes)) = some (some (.int .i64 0), 1, 8) := by kernel_rfl

/-- A slice of the call's own is returned, which holds zs. -/
def RetOwns (w : World) (zs : List Int) (e : Ending) (w' : World) : Prop := ∃ v', e = .returned v' ∧ Owns w' w.heap.size v' zs ∧ Below w.heap.size w w'

theorem copied_set (zs : List Int) (k : Nat) (h : k < zs.length) : (zs.take k ++ List.replicate (zs.length - k) 0).set k (nth zs k) = zs.take (k + 1) ++ List.replicate (zs.length - (k + 1)) 0 := by
  apply List.ext_getElem?
  intro j
  have hl : (zs.take k).length = k := by rw [List.length_take]; omega
  rw [List.getElem?_set]
  by_cases e : k = j
  · subst e
    rw [if_pos rfl, if_pos (by simp; omega), List.getElem?_append_left (by rw [List.length_take]; omega), List.getElem?_take, if_pos (by omega)]
    simp [nth, List.getD, h]
  · rw [if_neg e]
    by_cases h2 : j < k
    · rw [List.getElem?_append_left (by omega), List.getElem?_append_left (by rw [List.length_take]; omega), List.getElem?_take, List.getElem?_take, if_pos h2, if_pos (by omega)]
    · rw [List.getElem?_append_right (by omega), List.getElem?_append_right (by rw [List.length_take]; omega), List.getElem?_replicate, List.getElem?_replicate, hl, List.length_take]
      by_cases h3 : j < zs.length
      · rw [if_pos (by omega), if_pos (by omega)]
      · rw [if_neg (by omega), if_neg (by omega)]

theorem take_ext {xs ys : List Int} {n k : Nat} (ha : xs.length = n) (hb : ys.length = n) (hk : k < n) (h : xs.take k = ys.take k) (e : nth xs k = nth ys k) : xs.take (k + 1) = ys.take (k + 1) := by
  have h1 : xs[k]? = some (nth xs k) := by simp [nth, List.getD, show k < xs.length by omega]
  have h2 : ys[k]? = some (nth ys k) := by simp [nth, List.getD, show k < ys.length by omega]
  rw [List.take_add_one, List.take_add_one, h, h1, h2, e]
theorem ne_of_nth {xs ys : List Int} {k : Nat} (e : ¬ nth xs k = nth ys k) : ¬ xs = ys := fun h => e (by rw [h])

set_option maxHeartbeats 800000 in
theorem laws_equalInts (va vb : Value) (xs ys : List Int) (w : World) (ha : Reads w va xs) (hb : Reads w vb ys) :
    Calls Try.prog 11 #[va, vb] w fun e w' => e = .returned (.bool (decide (xs = ys))) ∧ Below w.heap.size w w' := by
  have hla := ha.le
  have hlb := hb.le
  obtain ⟨aa, capa, rfl, hla2, hca, hcella⟩ := ha
  obtain ⟨ab, capb, rfl, hlb2, hcb, hcellb⟩ := hb
  by_cases hl : xs.length = ys.length
  · have hne : ((xs.length : Int) != (ys.length : Int)) = false := by simp [hl]
    have hl1 : xs.length ≤ ys.length := by omega
    have hl2 : ys.length ≤ xs.length := by omega
    have HL := Lib.hid hl
    clear hl
    go_enter Try.func11, Try.ntmps11
    go_wp2
    go_loopw [5] (fun i wr => ∃ k : Nat, k ≤ xs.length ∧ i = .int .i64 k ∧ Hid (xs.take k = ys.take k) ∧ Below w.heap.size w wr) (fun i _ => xs.length - (intOf i).toNat)
    case atStart => exact ⟨0, Nat.zero_le _, rfl, rfl, Below.refl _ _⟩
    case round =>
      obtain ⟨k, hk, rfl, htk, hbel⟩ := hrel
      by_cases hlt : k < xs.length
      · rcases hcella with h0 | ⟨b, o, rfl, hcella⟩
        · exfalso; subst h0; simp at hlt
        · rcases hcellb with h0 | ⟨b', o', rfl, hcellb⟩
          · exfalso; subst h0; have e0 : ([] : List Int).length = 0 := rfl; omega
          · have h1 := hcella k hlt
            have h2 := World.block_lt_of_cell? _ _ h1
            have ca : wr.cell? ⟨b, o + k, none⟩ = some (.int .i64 (nth xs k)) := (hbel.cell (p := ⟨b, o + k, none⟩) h2).trans h1
            have h3 := hcellb k (by omega)
            have h4 := World.block_lt_of_cell? _ _ h3
            have cb : wr.cell? ⟨b', o' + k, none⟩ = some (.int .i64 (nth ys k)) := (hbel.cell (p := ⟨b', o' + k, none⟩) h4).trans h3
            clear h1 h2 h3 h4 hcella hcellb
            have i1 : (k : Int) < (xs.length : Int) := by omega
            have i2 : (k : Int) < (ys.length : Int) := by omega
            by_cases hx : nth xs k = nth ys k
            · have hx' : (nth xs k != nth ys k) = false := by simp [hx]
              have HT : Hid (xs.take (k + 1) = ys.take (k + 1)) := take_ext rfl HL.out.symm hlt htk.out hx
              clear hx
              go_wp2
              go_quiet (fail)
              go_wp2
              go_roundw
              case rel => exact ⟨k + 1, by omega, by go_num, HT, below_dn hbel _⟩
              case measure => simp [intOf]; omega
            · have hx' : (nth xs k != nth ys k) = true := by simp [hx]
              have HF : Hid (decide (xs = ys) = false) := decide_eq_false (ne_of_nth hx)
              clear hx
              go_wp2
              go_quiet (fail)
              go_wp2
              go_ret
              exact ⟨ret_bool HF.out.symm, below_dn hbel _⟩
      · have HF : Hid (decide (xs = ys) = true) := by
          have e : k = xs.length := by omega
          have := htk.out
          rw [e, List.take_of_length_le (Nat.le_refl _), List.take_of_length_le (by omega)] at this
          exact decide_eq_true this
        go_wp2
        go_ret
        exact ⟨ret_bool HF.out.symm, hbel⟩
  · have hne : ((xs.length : Int) != (ys.length : Int)) = true := by simp; omega
    have HF : Hid (decide (xs = ys) = false) := decide_eq_false (fun h => hl (by rw [h]))
    clear hl
    go_enter Try.func11, Try.ntmps11
    go_wp2
    go_ret
    exact ⟨ret_bool HF.out.symm, Below.refl _ _⟩

end Go.Proofs.Ytmpbofjkhombaaa
