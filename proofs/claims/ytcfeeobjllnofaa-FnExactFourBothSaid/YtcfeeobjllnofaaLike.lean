/-
  Tables with the same sums: contracts of spec.shifted, spec.whole, spec.FoursLike.
-/
import Derived.Test.YtcfeeobjllnofaaFourW
import Derived.Test.YtcfeeobjllnofaaList
import Derived.Test.YtcfeeobjllnofaaDrawL
namespace Go.Proofs.Ytcfeeobjllnofaa
open Go.RowKit
set_option linter.unusedVariables false

theorem box_of {w : World} {g : Nat} {x y z t : Value} {T : TypeId} (h : w.heap[g]? = some (.cells #[x, y, z, t] T (0, 0))) :
    w.cell? ⟨g, 0, none⟩ = some x ∧ w.cell? ⟨g, 1, none⟩ = some y ∧ w.cell? ⟨g, 2, none⟩ = some z ∧ w.cell? ⟨g, 3, none⟩ = some t := by
  have c0 := cell_of_row w g 0 _ _ (0, 0) h
  have c1 := cell_of_row w g 1 _ _ (0, 0) h
  have c2 := cell_of_row w g 2 _ _ (0, 0) h
  have c3 := cell_of_row w g 3 _ _ (0, 0) h
  simp at c0 c1 c2 c3
  exact ⟨c0, c1, c2, c3⟩
theorem box_new (w : World) (o : Obj) : (w.alloc o).heap[w.heap.size]? = some o := by show (w.heap.push o)[w.heap.size]? = some o; simp
theorem box_keep {w w' : World} {g : Nat} {o : Obj} (h : w.heap[g]? = some o) (hb : Below w.heap.size w w') : w'.heap[g]? = some o :=
  (hb.block g (Array.getElem?_eq_some_iff.1 h).1).trans h
theorem box_app {w w' : World} {g B : Nat} {o ob : Obj} {u : Value} {zs : List Int} (h : w.heap[g]? = some o) (hu : OwnsA w B u zs) (hg : g < B) (hgrow : (w.alloc ob).grownBy w' u.ownBlock) : w'.heap[g]? = some o := by
  have h2 := box_keep h (below_box w ob)
  refine (hgrow.block g (Array.getElem?_eq_some_iff.1 h2).1 ?_).trans h2
  intro e
  have := (World.ownsRow.lt hu g e.symm).1
  omega

theorem rowKeep {w w' : World} {base size n : Nat} {e : TypeId} {v : Value} {xs : List Value} (h : w.ownsRow base e size v n xs) (hb : Below w.heap.size w w') : w'.ownsRow base e size v n xs :=
  h.kept (grownBy_of_below hb none) (by cases v.ownBlock <;> simp)
/-- No number of the table is below 0. -/
def wholeB (a b c d : Int) : Bool := decide (0 ≤ a) && (decide (0 ≤ b) && (decide (0 ≤ c) && decide (0 ≤ d)))
/-- The first numbers below m of tables with the same sums. -/
def likeTo (a b c d : Int) : Nat → List Int
  | 0 => []
  | m + 1 => if wholeB (m : Int) (a + b - m) (a + c - m) (d - a + m) = true then likeTo a b c d m ++ [(m : Int)] else likeTo a b c d m
def likeL (a b c d : Int) : List Int := likeTo a b c d (a + b + 1).toNat
def likeV (a b c d : Int) : List Int := if fourB a b c d = true then likeL a b c d else []
theorem likeTo_len (a b c d : Int) : ∀ m, (likeTo a b c d m).length ≤ m := by
  intro m
  induction m with
  | zero => exact Nat.le_refl _
  | succ m ih =>
    unfold likeTo
    split
    · rw [List.length_append]; simp; omega
    · omega
theorem likeTo_mem (a b c d : Int) : ∀ m, ∀ x ∈ likeTo a b c d m, 0 ≤ x ∧ x < m ∧ 0 ≤ a + b - x ∧ 0 ≤ a + c - x ∧ 0 ≤ d - a + x := by
  intro m
  induction m with
  | zero => intro x hx; simp [likeTo] at hx
  | succ m ih =>
    intro x hx
    unfold likeTo at hx
    split at hx
    · rename_i hc
      unfold wholeB at hc
      simp only [Bool.and_eq_true, decide_eq_true_eq] at hc
      rcases List.mem_append.1 hx with h | h
      · have := ih x h; omega
      · simp at h; subst h; omega
    · have := ih x hx; omega

set_option maxHeartbeats 1000000 in
theorem spec_whole (a b c d : Int) (w : World) :
    Calls Try.prog 59 #[four a b c d] w fun e w' => e = .returned (.bool (wholeB a b c d)) ∧ Below w.heap.size w w' := by
  have hbx := below_box w (.cells #[.int .i64 a, .int .i64 b, .int .i64 c, .int .i64 d] 26)
  have HB := Lib.hid hbx
  clear hbx
  by_cases h1 : 0 ≤ a
  · have h1' : decide (0 ≤ a) = true := decide_eq_true h1
    by_cases h2 : 0 ≤ b
    · have h2' : decide (0 ≤ b) = true := decide_eq_true h2
      by_cases h3 : 0 ≤ c
      · have h3' : decide (0 ≤ c) = true := decide_eq_true h3
        have hz : Hid (wholeB a b c d = decide (0 ≤ d)) := by show _ = _; unfold wholeB; rw [h1', h2', h3']; rfl
        clear h1 h2 h3
        go_enter Try.func59, Try.ntmps59
        go_wp2_with fail
        go_ret
        exact ⟨ret_bool hz.out.symm, HB.out⟩
      · have h3' : decide (0 ≤ c) = false := decide_eq_false h3
        have hz : Hid (wholeB a b c d = false) := by show _ = _; unfold wholeB; rw [h3']; simp
        clear h1 h2 h3
        go_enter Try.func59, Try.ntmps59
        go_wp2_with fail
        go_ret
        exact ⟨ret_bool hz.out.symm, HB.out⟩
    · have h2' : decide (0 ≤ b) = false := decide_eq_false h2
      have hz : Hid (wholeB a b c d = false) := by show _ = _; unfold wholeB; rw [h2']; simp
      clear h1 h2
      go_enter Try.func59, Try.ntmps59
      go_wp2_with fail
      go_ret
      exact ⟨ret_bool hz.out.symm, HB.out⟩
  · have h1' : decide (0 ≤ a) = false := decide_eq_false h1
    have hz : Hid (wholeB a b c d = false) := by show _ = _; unfold wholeB; rw [h1']; simp
    clear h1
    go_enter Try.func59, Try.ntmps59
    go_wp2_with fail
    go_ret
    exact ⟨ret_bool hz.out.symm, HB.out⟩

set_option maxHeartbeats 1000000 in
theorem spec_shifted (a b c d k : Int) (w : World) (ha : 0 ≤ a ∧ a ≤ 8) (hb : 0 ≤ b ∧ b ≤ 8) (hc : 0 ≤ c ∧ c ≤ 8) (hd : 0 ≤ d ∧ d ≤ 8) (hk : 0 ≤ k ∧ k ≤ 17) :
    Calls Try.prog 60 #[four a b c d, .int .i64 k] w fun e w' => e = .returned (four k (a + b - k) (a + c - k) (d - a + k)) ∧ Below w.heap.size w w' := by
  have h1 := below_box w (.cells #[.int .i64 a, .int .i64 b, .int .i64 c, .int .i64 d] 26)
  have h3 := h1.alloc h1.size (.cells #[.int .i64 k, .int .i64 (b + a - k), .int .i64 (c + a - k), .int .i64 (d - a + k)] 26)
  have H3 := Lib.hid h3
  have e1 := Int.add_comm a b
  have e2 := Int.add_comm a c
  rw [e1, e2]
  clear h1 h3 e1 e2
  go_enter Try.func60, Try.ntmps60
  go_wp2
  refine bodyPost_ret (v := four k (b + a - k) (c + a - k) (d - a + k)) (by simp [results, Try.results60, go_sem]) rfl ?_
  exact ⟨rfl, H3.out⟩

set_option maxHeartbeats 2000000 in
theorem spec_FoursLike (a b c d : Int) (w : World) :
    Calls Try.prog 27 #[four a b c d] w (RetOwns w (likeV a b c d)) := by
  obtain ⟨ti, hi, hz0, hz1, hz2⟩ := info_parts infoInt
  have hbx := below_box w (.cells #[.int .i64 a, .int .i64 b, .int .i64 c, .int .i64 d] 26)
  cases hf : fourB a b c d
  · have hz : Hid (likeV a b c d = []) := by show _ = _; unfold likeV; rw [hf]; rfl
    go_enter Try.func27, Try.ntmps27
    go_wp2_with fail
    refine (spec_validFour a b c d _).mono ?_
    rintro e w1 ⟨rfl, hb1⟩
    rw [hf]
    go_wp2_with fail
    go_ret
    exact ⟨_, rfl, by rw [hz.out]; exact Owns.nil _ _, hbx.trans (hb1.mono hbx.size)⟩
  · have hz : Hid (likeV a b c d = likeL a b c d) := if_pos hf
    obtain ⟨ha, hb, hc, hd⟩ := fourB_iff.1 hf
    have k0 := box_new w (.cells #[.int .i64 a, .int .i64 b, .int .i64 c, .int .i64 d] 26)
    go_enter Try.func27, Try.ntmps27
    go_wp2_with fail
    refine (spec_validFour a b c d _).mono ?_
    rintro e w1 ⟨rfl, hb1⟩
    rw [hf]
    have k1 := box_keep k0 hb1
    have q1 := hbx.trans (hb1.mono hbx.size)
    have hlt1 : w.heap.size < w1.heap.size := (Array.getElem?_eq_some_iff.1 k1).1
    have hown : OwnsA (w1.alloc (.cells #[] 3)) w1.heap.size (.slice (some ⟨w1.heap.size, 0, none⟩) 0 0) [] := World.ownsRow_lit (size := 1) w1 #[] 0 (Nat.le_refl _) (by unfold maxLen; omega) rfl
    have hal := below_box w1 (.cells #[] 3)
    have k2 := box_keep k1 hal
    have q2 := q1.trans (hal.mono q1.size)
    have hs2 : w1.heap.size ≤ (w1.alloc (.cells #[] 3)).heap.size := hal.size
    clear hf k0 hbx hb1 hal
    go_wp2_with fail
    go_loopw [3, 4] (fun o i wr => ∃ m : Nat, (m : Int) ≤ a + b + 1 ∧ i = .int .i64 m ∧ OwnsA wr w1.heap.size o (likeTo a b c d m) ∧ wr.heap[w.heap.size]? = some (.cells #[.int .i64 a, .int .i64 b, .int .i64 c, .int .i64 d] 26 (0, 0)) ∧ Below w.heap.size w wr ∧ w1.heap.size ≤ wr.heap.size) (fun _ i _ => (a + b + 2 - intOf i).toNat)
    case atStart => exact ⟨0, by omega, rfl, hown, k2, q2, hs2⟩
    case round =>
      clear hown k2 q2 hs2
      obtain ⟨m, hm, rfl, hown, kr, qr, hsr⟩ := hrel
      obtain ⟨c0, c1, c2, c3⟩ := box_of kr
      have hll := likeTo_len a b c d m
      by_cases hlt : (m : Int) ≤ a + b
      · have hT : Hid (likeTo a b c d (m + 1) = if wholeB (m : Int) (a + b - m) (a + c - m) (d - a + m) = true then likeTo a b c d m ++ [(m : Int)] else likeTo a b c d m) := rfl
        generalize likeTo a b c d m = P at *
        go_wp2_with fail
        refine (spec_shifted a b c d m _ ha hb hc hd (by omega)).mono ?_
        rintro e w2 ⟨rfl, hb2⟩
        go_wp2_with fail
        refine (spec_whole _ _ _ _ _).mono ?_
        rintro e w3 ⟨rfl, hb3⟩
        have hb23 := hb2.trans (hb3.mono hb2.size)
        have o3 : OwnsA w3 w1.heap.size _ P := rowKeep hown hb23
        have k3 := box_keep kr hb23
        have q3 := qr.trans (hb23.mono qr.size)
        have s3 := Nat.le_trans hsr hb23.size
        clear hown kr qr hb2 hb3 hb23 c0 c1 c2 c3
        cases hw : wholeB (m : Int) (a + b - m) (a + c - m) (d - a + m)
        · have HT : Hid (likeTo a b c d (m + 1) = P) := by show _ = _; rw [hT.out, hw]; simp
          go_wp2_with fail
          go_roundw
          case rel => exact ⟨m + 1, by omega, by go_num, by rw [HT.out]; exact o3, k3, q3, s3⟩
          case measure => simp [intOf]; omega
        · have HT : Hid (likeTo a b c d (m + 1) = P ++ [(m : Int)]) := by show _ = _; rw [hT.out, hw]; simp
          go_wp2_with (at_builtin; refine wpList_append_own _ rfl _ _ 36 rfl w1.heap.size 3 ti (.int .i64 0) 1 8 Try.underlying36 hi hz0 hz1 hz2 rfl (by decide) _ _ _ rfl (World.ownsRow.alloc o3 _) ⟨w3.heap.size, 0, none⟩ 1 1 [.int .i64 (m : Int)] rfl rfl (new_cellsL _ _) (new_oneL _) (by unfold maxLen; omega) (by omega) (by simp; omega) ?_)
          intro v' w9 hown' hgrow _
          have k9 := box_app k3 o3 hlt1 hgrow
          have q9 : Below w.heap.size w w9 := OwnsA.grownBelow (B := w1.heap.size) (zs := P) (World.ownsRow.alloc o3 _) hgrow (q3.alloc q3.size _) (by omega) (by simp; omega)
          have s9 : w1.heap.size ≤ w9.heap.size := by have := hgrow.size; simp at this; omega
          have o9 := OwnsA.appended hown'
          rw [← HT.out] at o9
          clear hown' hgrow o3 k3 q3
          go_wp2
          go_roundw
          case rel => exact ⟨m + 1, by omega, by go_num, o9, k9, q9, s9⟩
          case measure => simp [intOf]; omega
      · have e : m = (a + b + 1).toNat := by omega
        rw [e] at hown
        have hown : OwnsA wr w1.heap.size _ (likeL a b c d) := hown
        clear e hll
        go_wp2_with fail
        go_ret
        exact ⟨_, rfl, by rw [hz.out]; exact hown.weak.mono (Nat.le_of_lt hlt1), qr⟩
end Go.Proofs.Ytcfeeobjllnofaa
