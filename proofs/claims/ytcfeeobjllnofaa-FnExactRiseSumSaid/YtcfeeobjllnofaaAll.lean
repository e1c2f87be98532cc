/-
  Contracts of impl.allIn and of the tests of data and of odds, both packages.
-/
import Derived.Test.YtcfeeobjllnofaaMem
namespace Go.Proofs.Ytcfeeobjllnofaa
open Go.RowKit

/-- All numbers lie in a range. -/
def allB (zs : List Int) (lo hi : Int) : Bool := zs.all (fun z => inB z lo hi)
theorem allB_yes {zs : List Int} {lo hi : Int} (h : ∀ j, j < zs.length → inB (nth zs j) lo hi = true) : allB zs lo hi = true := by
  unfold allB
  rw [List.all_eq_true]
  intro z hz
  obtain ⟨j, hj, rfl⟩ := List.getElem_of_mem hz
  have := h j hj
  simpa [nth, List.getD, hj] using this
theorem allB_no {zs : List Int} {lo hi : Int} (k : Nat) (hk : k < zs.length) (h : inB (nth zs k) lo hi = false) : allB zs lo hi = false := by
  unfold allB
  rw [List.all_eq_false]
  refine ⟨zs[k], List.getElem_mem _, ?_⟩
  have : nth zs k = zs[k] := by simp [nth, List.getD, hk]
  rw [← this, h]; simp
theorem allB_nth {zs : List Int} {lo hi : Int} (h : allB zs lo hi = true) (j : Nat) (hj : j < zs.length) : lo ≤ nth zs j ∧ nth zs j ≤ hi := by
  unfold allB at h
  rw [List.all_eq_true] at h
  have h1 := h zs[j] (List.getElem_mem _)
  have : nth zs j = zs[j] := by simp [nth, List.getD, hj]
  rw [this]; exact inB_iff.1 h1

theorem impl_allIn1 (z lo hi : Int) (b1 b2 : Nat) (w : World) (h1 : w.cell? ⟨b1, 0, none⟩ = some (.int .i64 lo)) (h2 : w.cell? ⟨b2, 0, none⟩ = some (.int .i64 hi)) :
    Calls Try.prog 76 #[.int .i64 z, .pointer (some ⟨b1, 0, none⟩), .pointer (some ⟨b2, 0, none⟩)] w fun e w' => e = .returned (.bool (!inB z lo hi)) ∧ w = w' := by
  go_enter Try.func76, Try.ntmps76
  go_wp2_with (go_at_call 49; refine (impl_in _ _ _ _).mono ?_; rintro e w' ⟨rfl, rfl⟩)
  go_ret
  exact ⟨rfl, rfl⟩

/-- An index is returned, at least 0 just where b is false. -/
def RetIdx (b : Bool) (w : World) (e : Ending) (w' : World) : Prop := ∃ r : Int, e = .returned (.int .i64 r) ∧ (0 ≤ r ↔ b = false) ∧ w = w'

set_option maxHeartbeats 400000 in
theorem idx_allIn (v : Value) (zs : List Int) (lo hi : Int) (b1 b2 : Nat) (w : World) (hr : Reads w v zs) (h1 : w.cell? ⟨b1, 0, none⟩ = some (.int .i64 lo)) (h2 : w.cell? ⟨b2, 0, none⟩ = some (.int .i64 hi)) :
    Calls Try.prog 79 #[v, .func (Fn.func 76) #[] #[.pointer (some ⟨b1, 0, none⟩), .pointer (some ⟨b2, 0, none⟩)]] w (RetIdx (allB zs lo hi) w) := by
  have hle := hr.le
  obtain ⟨ao, cap, rfl, hl, hc, hcell⟩ := hr
  go_enter Try.func79, Try.ntmps79
  go_wp2
  go_loop [8] (fun i => ∃ k : Nat, k ≤ zs.length ∧ i = .int .i64 k ∧ Hid (∀ j, j < k → inB (nth zs j) lo hi = true)) (fun i => zs.length - (intOf i).toNat)
  case atStart => exact ⟨0, Nat.zero_le _, rfl, fun j hj => absurd hj (by omega)⟩
  case round =>
    obtain ⟨k, hk, rfl, hall⟩ := hrel
    by_cases hlt : k < zs.length
    · rcases hcell with h0 | ⟨b, o, rfl, hcell⟩
      · exfalso; subst h0; have e0 : ([] : List Int).length = 0 := rfl; omega
      · have hsrc := hcell k hlt
        clear hcell
        cases hx : inB (nth zs k) lo hi
        · have HB := Lib.hid (allB_no k hlt hx)
          go_wp2_with (go_at_call 76; refine (impl_allIn1 _ lo hi b1 b2 _ h1 h2).mono ?_; rintro e w' ⟨rfl, rfl⟩)
          go_ret
          exact ⟨k, rfl, ⟨fun _ => HB.out, fun _ => by omega⟩, rfl⟩
        · have HX : Hid (∀ j, j < k + 1 → inB (nth zs j) lo hi = true) := fun j hj => by
            by_cases e : j = k
            · rw [e]; exact hx
            · exact hall.out j (by omega)
          go_wp2_with (go_at_call 76; refine (impl_allIn1 _ lo hi b1 b2 _ h1 h2).mono ?_; rintro e w' ⟨rfl, rfl⟩)
          go_round
          case rel => exact ⟨k + 1, by omega, by go_num, HX⟩
          case measure => simp [intOf]; omega
    · have HB := Lib.hid (allB_yes (fun j hj => hall.out j (by omega)))
      go_wp2
      go_ret
      exact ⟨-1, rfl, ⟨fun h => absurd h (by omega), fun h => by rw [HB.out] at h; cases h⟩, rfl⟩

set_option maxHeartbeats 400000 in
theorem contains_allIn (v : Value) (zs : List Int) (lo hi : Int) (b1 b2 : Nat) (w : World) (hr : Reads w v zs) (h1 : w.cell? ⟨b1, 0, none⟩ = some (.int .i64 lo)) (h2 : w.cell? ⟨b2, 0, none⟩ = some (.int .i64 hi)) :
    Calls Try.prog 75 #[v, .func (Fn.func 76) #[] #[.pointer (some ⟨b1, 0, none⟩), .pointer (some ⟨b2, 0, none⟩)]] w fun e w' => e = .returned (.bool (!allB zs lo hi)) ∧ w = w' := by
  go_enter Try.func75, Try.ntmps75
  go_wp2_with fail
  refine (idx_allIn v zs lo hi b1 b2 _ hr h1 h2).mono ?_
  rintro e w' ⟨r, rfl, hr2, rfl⟩
  have HR := Lib.hid hr2
  clear hr2
  cases hb : allB zs lo hi
  · have hge : 0 ≤ r := HR.out.2 hb
    go_wp2_with fail
    go_ret
    exact ⟨ret_bool (by rw [hb]; first | rfl | (simp; omega)), rfl⟩
  · have hge : ¬ 0 ≤ r := fun h => by have := HR.out.1 h; rw [hb] at this; cases this
    go_wp2_with fail
    go_ret
    exact ⟨ret_bool (by rw [hb]; first | rfl | (simp; omega)), rfl⟩

set_option maxHeartbeats 400000 in
theorem impl_allIn (v : Value) (zs : List Int) (lo hi : Int) (w : World) (hr : Reads w v zs) :
    Calls Try.prog 69 #[v, .int .i64 lo, .int .i64 hi] w fun e w' => e = .returned (.bool (allB zs lo hi)) ∧ Below w.heap.size w w' := by
  have hb : Below w.heap.size w ((w.alloc (.cells #[.int .i64 lo] 3)).alloc (.cells #[.int .i64 hi] 3)) := ((Below.refl _ _).alloc (Nat.le_refl _) _).alloc (by simp) _
  have hr2 := hr.keep hb
  go_enter Try.func69, Try.ntmps69
  go_wp2_with fail
  refine (contains_allIn v zs lo hi _ _ _ hr2 (by simp [go_sem]) (by simp [go_sem])).mono ?_
  rintro e w' ⟨rfl, rfl⟩
  go_wp2_with fail
  go_ret
  exact ⟨by simp, hb⟩

end Go.Proofs.Ytcfeeobjllnofaa
