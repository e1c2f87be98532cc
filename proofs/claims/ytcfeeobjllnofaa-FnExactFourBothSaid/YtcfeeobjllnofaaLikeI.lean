/-
  Tables with the same sums: the contract of impl's like, and how its rows are read.
-/
import Derived.Test.YtcfeeobjllnofaaLike
namespace Go.Proofs.Ytcfeeobjllnofaa
open Go.RowKit
set_option linter.unusedVariables false

/-- The cells of a row; of all rows. -/
def rowF (a b c d k : Int) : List Value := [.int .i64 k, .int .i64 (a + b - k), .int .i64 (a + c - k), .int .i64 (d - a + k)]
def rowsF (a b c d : Int) (zs : List Int) : List Value := zs.flatMap (rowF a b c d)
theorem rowsF_add (a b c d : Int) (zs : List Int) (k : Int) : rowsF a b c d (zs ++ [k]) = rowsF a b c d zs ++ rowF a b c d k := by
  unfold rowsF; rw [List.flatMap_append]; simp
theorem rowsF_at (a b c d : Int) : ∀ (zs : List Int) (i r : Nat), i < zs.length → r < 4 → (rowsF a b c d zs)[i * 4 + r]? = (rowF a b c d (nth zs i))[r]? := by
  intro zs
  induction zs with
  | nil => intro i r h; simp at h
  | cons z zs ih =>
    intro i r h hr
    have e : rowsF a b c d (z :: zs) = rowF a b c d z ++ rowsF a b c d zs := rfl
    rw [e]
    cases i with
    | zero =>
      rw [List.getElem?_append_left (by show 0 * 4 + r < 4; omega)]
      simp [nth]
    | succ i =>
      have h4 : (rowF a b c d z).length = 4 := rfl
      rw [List.getElem?_append_right (by rw [h4]; omega), h4]
      have e2 : (i + 1) * 4 + r - 4 = i * 4 + r := by omega
      rw [e2, ih i r (by simp at h; omega) hr]
      simp [nth]
theorem infoFour : (Try.prog.info? 26).map (fun i => (i.zero, i.size, i.bytes)) = some (some (.agg #[.int .i64 0, .int .i64 0, .int .i64 0, .int .i64 0]), 4, 32) := by kernel_rfl

theorem row_mono {w : World} {base C size n : Nat} {e : TypeId} {v : Value} {xs : List Value} (h : w.ownsRow base e size v n xs) (hC : C ≤ base) : w.ownsRow C e size v n xs := by
  refine ⟨h.1, ?_⟩
  rcases h.2 with h0 | ⟨g, cap, cur, hv, h1, h2⟩
  · exact .inl h0
  · exact .inr ⟨g, cap, cur, hv, by omega, h2⟩
theorem new_cellsF (w : World) (bn : Nat) (x y z t : Int) (hbn : w.heap.size = bn) : ∀ j u, ([.int .i64 x, .int .i64 y, .int .i64 z, .int .i64 t] : List Value)[j]? = some u → (w.alloc (.cells #[.int .i64 x, .int .i64 y, .int .i64 z, .int .i64 t] 26)).cell? ((⟨bn, 0, none⟩ : Addr).add j) = some u := by
  subst hbn
  intro j u hj
  have h := box_of (box_new w (.cells #[.int .i64 x, .int .i64 y, .int .i64 z, .int .i64 t] 26))
  match j, hj with
  | 0, hj => simp at hj; subst hj; exact h.1
  | 1, hj => simp at hj; subst hj; exact h.2.1
  | 2, hj => simp at hj; subst hj; exact h.2.2.1
  | 3, hj => simp at hj; subst hj; exact h.2.2.2
theorem new_oneF (x y z t : Int) : ∀ u ∈ ([.int .i64 x, .int .i64 y, .int .i64 z, .int .i64 t] : List Value), u.oneCell' = true := by
  intro u hu; simp at hu; rcases hu with rfl | rfl | rfl | rfl <;> rfl
theorem box_app4 {w w' : World} {g B n size : Nat} {e : TypeId} {o ob : Obj} {u : Value} {xs : List Value} (h : w.heap[g]? = some o) (hu : w.ownsRow B e size u n xs) (hg : g < B) (hgrow : (w.alloc ob).grownBy w' u.ownBlock) : w'.heap[g]? = some o := by
  have h2 := box_keep h (below_box w ob)
  refine (hgrow.block g (Array.getElem?_eq_some_iff.1 h2).1 ?_).trans h2
  intro e
  have := (World.ownsRow.lt hu g e.symm).1
  omega
/-- The rows that like returns. -/
def RetRows (w : World) (a b c d : Int) (e : Ending) (w' : World) : Prop :=
  ∃ v, e = .returned v ∧ w'.ownsRow w.heap.size 26 4 v (likeL a b c d).length (rowsF a b c d (likeL a b c d)) ∧ Below w.heap.size w w'

set_option maxHeartbeats 2000000 in
theorem impl_like (a b c d : Int) (w : World) (ha : 0 ≤ a ∧ a ≤ 8) (hb : 0 ≤ b ∧ b ≤ 8) (hc : 0 ≤ c ∧ c ≤ 8) (hd : 0 ≤ d ∧ d ≤ 8) :
    Calls Try.prog 61 #[four a b c d] w (RetRows w a b c d) := by
  obtain ⟨ti, hi, hz0, hz1, hz2⟩ := info_parts infoFour
  have hbx := below_box w (.cells #[.int .i64 a, .int .i64 b, .int .i64 c, .int .i64 d] 26)
  have k0 := box_new w (.cells #[.int .i64 a, .int .i64 b, .int .i64 c, .int .i64 d] 26)
  have hown := World.ownsRow_nil (w.alloc (.cells #[.int .i64 a, .int .i64 b, .int .i64 c, .int .i64 d] 26)) (w.heap.size + 1) 26 4
  have hs0 : w.heap.size + 1 ≤ (w.alloc (.cells #[.int .i64 a, .int .i64 b, .int .i64 c, .int .i64 d] 26)).heap.size := by simp
  go_enter Try.func61, Try.ntmps61
  go_wp2_with fail
  go_loopw [3, 4] (fun o i wr => ∃ m : Nat, (m : Int) ≤ a + b + 1 ∧ i = .int .i64 m ∧ wr.ownsRow (w.heap.size + 1) 26 4 o (likeTo a b c d m).length (rowsF a b c d (likeTo a b c d m)) ∧ wr.heap[w.heap.size]? = some (.cells #[.int .i64 a, .int .i64 b, .int .i64 c, .int .i64 d] 26 (0, 0)) ∧ Below w.heap.size w wr ∧ w.heap.size + 1 ≤ wr.heap.size) (fun _ i _ => (a + b + 2 - intOf i).toNat)
  case atStart => exact ⟨0, by omega, rfl, hown, k0, hbx, hs0⟩
  case round =>
    clear hown k0 hbx hs0
    obtain ⟨m, hm, rfl, hown, kr, qr, hsr⟩ := hrel
    obtain ⟨c0, c1, c2, c3⟩ := box_of kr
    have hll := likeTo_len a b c d m
    by_cases hlt : (m : Int) ≤ a + b
    · have hw : wholeB (m : Int) (a + b - m) (a + c - m) (d - a + m) = (decide (0 ≤ a + c - m) && decide (0 ≤ d - a + m)) := by
        unfold wholeB; rw [decide_eq_true (by omega : (0 : Int) ≤ m), decide_eq_true (by omega : 0 ≤ a + b - m)]; rfl
      have hT : Hid (likeTo a b c d (m + 1) = if (decide (0 ≤ a + c - m) && decide (0 ≤ d - a + m)) = true then likeTo a b c d m ++ [(m : Int)] else likeTo a b c d m) := by show _ = _; rw [← hw]; rfl
      clear hw
      generalize likeTo a b c d m = P at *
      have hal := below_box wr (.cells #[.int .i64 (m : Int), .int .i64 (a + b - m), .int .i64 (a + c - m), .int .i64 (d - a + m)] 26)
      have o3 := rowKeep hown hal
      have k3 := box_keep kr hal
      have q3 := qr.trans (hal.mono qr.size)
      have s3 := Nat.le_trans hsr hal.size
      by_cases h1 : 0 ≤ a + c - m
      · have h1' : decide (0 ≤ a + c - m) = true := decide_eq_true h1
        have h1'' : decide ((m : Int) ≤ a + c) = true := decide_eq_true (by omega)
        by_cases h2 : 0 ≤ d - a + m
        · have h2' : decide (0 ≤ d - a + m) = true := decide_eq_true h2
          have HT : Hid (likeTo a b c d (m + 1) = P ++ [(m : Int)]) := by show _ = _; rw [hT.out, h1', h2']; rfl
          have H3 := Lib.hid (And.intro o3 (And.intro k3 q3))
          clear hown kr qr hal o3 k3 q3 h1 h2
          go_wp2_with (at_builtin; refine wpList_append_own _ rfl _ _ 59 rfl (w.heap.size + 1) 26 ti (.agg #[.int .i64 0, .int .i64 0, .int .i64 0, .int .i64 0]) 4 32 Try.underlying59 hi hz0 hz1 hz2 rfl (by decide) _ _ _ rfl (World.ownsRow.alloc H3.out.1 _) ⟨wr.heap.size + 1, 0, none⟩ 1 1 (rowF a b c d m) rfl rfl (new_cellsF _ _ _ _ _ _ (by simp)) (new_oneF _ _ _ _) (by unfold maxLen; omega) (by omega) (by simp; omega) ?_)
          intro v' w9 hown' hgrow _
          have k9 := box_app4 H3.out.2.1 H3.out.1 (Nat.lt_succ_self _) hgrow
          have s3 := H3.out.2.2.size
          have q9 : Below w.heap.size w w9 := (H3.out.2.2.alloc H3.out.2.2.size _).grown hgrow (by simp; omega) (fun k hk => Nat.le_of_lt (World.ownsRow.lt H3.out.1 k hk).1)
          have s9 : w.heap.size + 1 ≤ w9.heap.size := by have := hgrow.size; simp at this; omega
          have o9 : w9.ownsRow (w.heap.size + 1) 26 4 v' (P ++ [(m : Int)]).length (rowsF a b c d (P ++ [(m : Int)])) := by
            rw [rowsF_add, List.length_append]; exact hown'
          rw [← HT.out] at o9
          clear hown' hgrow H3
          go_wp2
          go_roundw
          case rel => exact ⟨m + 1, by omega, by go_num, o9, k9, q9, s9⟩
          case measure => simp [intOf]; omega
        · have h2' : decide (0 ≤ d - a + m) = false := decide_eq_false h2
          have HT : Hid (likeTo a b c d (m + 1) = P) := by show _ = _; rw [hT.out, h1', h2']; rfl
          clear hown kr qr hal h1 h2
          go_wp2_with fail
          go_roundw
          case rel => exact ⟨m + 1, by omega, by go_num, by rw [HT.out]; exact o3, k3, q3, s3⟩
          case measure => simp [intOf]; omega
      · have h1' : decide (0 ≤ a + c - m) = false := decide_eq_false h1
        have h1'' : decide ((m : Int) ≤ a + c) = false := decide_eq_false (by omega)
        have HT : Hid (likeTo a b c d (m + 1) = P) := by show _ = _; rw [hT.out, h1']; rfl
        clear hown kr qr hal h1
        go_wp2_with fail
        go_roundw
        case rel => exact ⟨m + 1, by omega, by go_num, by rw [HT.out]; exact o3, k3, q3, s3⟩
        case measure => simp [intOf]; omega
    · have e : m = (a + b + 1).toNat := by omega
      rw [e] at hown
      have hown : wr.ownsRow (w.heap.size + 1) 26 4 _ (likeL a b c d).length (rowsF a b c d (likeL a b c d)) := hown
      clear e hll
      go_wp2_with fail
      go_ret
      exact ⟨_, rfl, row_mono hown (by omega), qr⟩
end Go.Proofs.Ytcfeeobjllnofaa
