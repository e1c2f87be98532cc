/-
  Contracts of the laws' helpers on numbers and lists.
-/
import Derived.Test.YtohdbbdolmgaaaaFalls
namespace Go.Proofs.Ytohdbbdolmgaaaa
open Go.RowKit
set_option linter.unusedVariables false

theorem new_cells' (w : World) (x : Int) : ∀ j u, ([Value.int .i64 x] : List Value)[j]? = some u → (w.alloc (.cells #[.int .i64 x] 3)).cell? ((⟨w.heap.size, 0, none⟩ : Addr).add j) = some u := by
  intro j u hj
  match j, hj with
  | 0, hj => simp at hj; subst hj; simp [Addr.add]
theorem new_one' (x : Int) : ∀ u ∈ ([Value.int .i64 x] : List Value), u.oneCell' = true := by
  intro u hu; simp at hu; subst hu; rfl

set_option maxHeartbeats 1000000 in
theorem laws_turned (v : Value) (zs : List Int) (w : World) (hr : Reads w v zs) (hlen : zs.length ≤ 1000) :
    Calls Try.prog 17 #[v] w (RetOwns w zs.reverse) := by
  obtain ⟨ti, hi, hz0, hz1, hz2⟩ := info_parts infoInt
  obtain ⟨ao, cap, rfl, hl, hc, hcell⟩ := hr
  go_enter Try.func17, Try.ntmps17
  go_wp2_with fail
  go_loopw [3, 4] (fun o i wr => ∃ k : Nat, k ≤ zs.length ∧ i = .int .i64 ((zs.length : Int) - 1 - k) ∧ OwnsA wr w.heap.size o (zs.reverse.take k) ∧ Below w.heap.size w wr) (fun _ i _ => (intOf i + 1).toNat)
  case atStart => exact ⟨0, Nat.zero_le _, by simp, World.ownsRow_lit (size := 1) w #[] 0 (Nat.le_refl _) (by unfold maxLen; omega) rfl, (Below.refl _ _).alloc (Nat.le_refl _) _⟩
  case round =>
    obtain ⟨k, hk, rfl, hown, hbel⟩ := hrel
    have hlk : (zs.reverse.take k).length ≤ 1000 := by rw [List.length_take]; omega
    by_cases hlt : k < zs.length
    · rcases hcell with h0 | ⟨b, o, rfl, hcell⟩
      · exfalso; rw [h0] at hlt; simp at hlt
      · obtain ⟨p, hp⟩ : ∃ p : Nat, p + k + 1 = zs.length := ⟨zs.length - 1 - k, by omega⟩
        have hpi : (zs.length : Int) - 1 - k = p := by omega
        have hpl : p < zs.length := by omega
        have h1 := hcell p hpl
        have ca : _ = _ := (hbel.cell (p := ⟨b, o + p, none⟩) (World.block_lt_of_cell? _ _ h1)).trans h1
        have HT : Hid (zs.reverse.take (k + 1) = zs.reverse.take k ++ [nth zs p]) := by
          show _ = _
          have hk' : k < zs.reverse.length := by simp; omega
          rw [List.take_add_one, List.getElem?_eq_getElem hk', List.getElem_reverse]
          have e : zs.length - 1 - k = p := by omega
          simp [nth, List.getD, e, hpl]
        have HI := Lib.hid hpi
        rw [hpi]
        clear hpi h1 hcell
        have i1 : (p : Int) < (zs.length : Int) := by omega
        have hsz := hbel.size
        generalize zs.reverse.take k = P at *
        have HP := Lib.hid hp
        clear hp
        go_wp2_with (at_builtin; refine wpList_append_own _ rfl _ _ 25 rfl w.heap.size 3 ti (.int .i64 0) 1 8 Try.underlying25 hi hz0 hz1 hz2 rfl (by decide) _ _ _ rfl (hown.alloc _) ⟨wr.heap.size, 0, none⟩ 1 1 [.int .i64 (nth zs p)] rfl rfl (new_cells' _ _) (new_one' _) (by unfold maxLen; omega) (by omega) (by simp; omega) ?_)
        intro v' w1 hown' hgrow _
        have ho2 := OwnsA.appended hown'
        rw [← HT.out] at ho2
        have hb2 : Below w.heap.size w w1 := OwnsA.grownBelow (hown.alloc _) hgrow (hbel.alloc hsz _) (Nat.le_refl _) (by simp; omega)
        clear hown' hgrow hown hbel ca
        go_wp2
        go_roundw
        case rel => exact ⟨k + 1, by omega, by have := HI.out; go_num, ho2, hb2⟩
        case measure => simp [intOf] <;> omega
    · have e : zs.reverse.take k = zs.reverse := List.take_of_length_le (by simp; omega)
      rw [e] at hown
      have hm : (zs.length : Int) - 1 - k = -1 := by omega
      rw [hm]
      clear e hm
      go_wp2
      go_ret
      exact ⟨_, rfl, hown.weak, hbel⟩

set_option maxHeartbeats 1000000 in
theorem laws_total (v : Value) (zs : List Int) (w : World) (hr : Reads w v zs) (hN : NonNeg zs) (hS : sumL zs ≤ 1000000000000) :
    Calls Try.prog 18 #[v] w fun e w' => e = .returned (.int .i64 (sumL zs)) ∧ w = w' := by
  have hle := hr.le
  obtain ⟨ao, cap, rfl, hl, hc, hcell⟩ := hr
  go_enter Try.func18, Try.ntmps18
  go_wp2
  go_loop [3, 4] (fun s i => ∃ k : Nat, k ≤ zs.length ∧ i = .int .i64 k ∧ s = .int .i64 (sumL (zs.take k))) (fun _ i => zs.length - (intOf i).toNat)
  case atStart => exact ⟨0, Nat.zero_le _, rfl, rfl⟩
  case round =>
    obtain ⟨k, hk, rfl, rfl⟩ := hrel
    have e := sumL_append (zs.take k) (zs.drop k)
    rw [List.take_append_drop] at e
    have n1 : NonNeg (zs.take k) := fun a ha => hN a (List.mem_of_mem_take ha)
    have n2 : NonNeg (zs.drop k) := fun a ha => hN a (List.mem_of_mem_drop ha)
    have n3 := (nth_le_sumL _ n1 0).2
    have n4 := (nth_le_sumL _ n2 0).2
    by_cases hlt : k < zs.length
    · rcases hcell with h0 | ⟨b, o, rfl, hcell⟩
      · exfalso; rw [h0] at hlt; simp at hlt
      · have h1 := hcell k hlt
        have n5 := nth_le_sumL _ hN k
        have n6 := nonNeg_nth hN k
        have HS := Lib.hid (sumL_take_succ zs k hlt)
        have i1 : (k : Int) < (zs.length : Int) := by omega
        have b1 : 0 ≤ sumL (zs.take k) ∧ sumL (zs.take k) ≤ 1000000000000 := by omega
        have b2 : 0 ≤ nth zs k ∧ nth zs k ≤ 1000000000000 := by omega
        clear e n1 n2 n3 n4 n5 n6 hcell
        go_wp2
        go_round
        case rel => exact ⟨k + 1, by omega, by go_num, by rw [HS.out]⟩
        case measure => simp [intOf]; omega
    · have e2 : Hid (zs.take k = zs) := List.take_of_length_le (by omega)
      clear e n1 n2 n3 n4
      go_wp2
      go_ret
      exact ⟨ret_int (by rw [e2.out]), rfl⟩

set_option maxHeartbeats 1000000 in
theorem laws_product (n : Int) (w : World) (h1 : 1 ≤ n) (h2 : n ≤ 10) :
    Calls Try.prog 43 #[.int .i64 n] w fun e w' => e = .returned (.int .i64 (fact n.toNat : Nat)) ∧ w = w' := by
  go_enter Try.func43, Try.ntmps43
  go_wp2
  go_loop [3, 4] (fun s i => ∃ k : Nat, (k : Int) + 1 ≤ n ∧ i = .int .i64 ((k : Int) + 2) ∧ s = .int .i64 (fact (k + 1) : Nat)) (fun _ i => (n + 2 - intOf i).toNat)
  case atStart => exact ⟨0, by omega, rfl, rfl⟩
  case round =>
    obtain ⟨k, hk, rfl, rfl⟩ := hrel
    have hf := fact_le (k + 1) (by omega)
    by_cases hlt : (k : Int) + 2 ≤ n
    · have HF : Hid (((fact (k + 2) : Nat) : Int) = (fact (k + 1) : Nat) * ((k : Int) + 2)) := by
        show _ = _
        rw [show fact (k + 2) = (k + 2) * fact (k + 1) from rfl, Int.natCast_mul, Int.mul_comm]; simp
      have hm := mul_bd ((fact (k + 1) : Nat) : Int) ((k : Int) + 2) 3628800 10 (by omega) (by omega) (by omega) (by omega)
      generalize ((fact (k + 1) : Nat) : Int) = F at *
      go_wp2
      go_round
      case rel => exact ⟨k + 1, by omega, by go_num, by rw [HF.out]⟩
      case measure => simp [intOf]; omega
    · have e : Hid (k + 1 = n.toNat) := by show _ = _; omega
      go_wp2
      go_ret
      exact ⟨ret_int (by rw [e.out]), rfl⟩
end Go.Proofs.Ytohdbbdolmgaaaa
