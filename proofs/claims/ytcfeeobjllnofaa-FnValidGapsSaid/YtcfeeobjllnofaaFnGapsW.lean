/-
  The walk of laws.FnValidGaps.
-/
import Derived.Test.YtcfeeobjllnofaaDrawG
namespace Go.Proofs.Ytcfeeobjllnofaa
open Go.RowKit
set_option linter.unusedVariables false

theorem colsB_get {rs : List (List Int)} {a : Nat} : ∀ n, colsB rs a n = true → ∀ k, k < n → cellB rs a k = true := by
  intro n
  induction n with
  | zero => intro _ k hk; omega
  | succ n ih =>
    intro h k hk
    unfold colsB at h
    simp only [Bool.and_eq_true] at h
    by_cases e : k = n
    · subst e; exact h.2
    · exact ih h.1 k (by omega)
theorem colsB_yes {rs : List (List Int)} {a : Nat} : ∀ n, (∀ k, k < n → cellB rs a k = true) → colsB rs a n = true := by
  intro n
  induction n with
  | zero => intro _; rfl
  | succ n ih =>
    intro h
    unfold colsB
    rw [ih (fun k hk => h k (by omega)), h n (by omega)]; rfl
theorem rowsB_yes {rs : List (List Int)} : ∀ n, (∀ k, k < n → rowB rs k = true) → rowsB rs n = true := by
  intro n
  induction n with
  | zero => intro _; rfl
  | succ n ih =>
    intro h
    unfold rowsB
    rw [ih (fun k hk => h k (by omega)), h n (by omega)]; rfl
/-- The rows without the last thing. -/
def cutR (rs : List (List Int)) (n : Nat) : List (List Int) := (List.range n).map (fun j => (rowR rs j).take n)
theorem cutR_len (rs : List (List Int)) (n : Nat) : (cutR rs n).length = n := by simp [cutR]
theorem cutR_row (rs : List (List Int)) (n j : Nat) (h : j < n) : rowR (cutR rs n) j = (rowR rs j).take n := by simp [cutR, rowR, List.getD, h]
theorem cutR_at (rs : List (List Int)) (n a b : Nat) (ha : a < n) (hb : b < n) : atR (cutR rs n) a b = atR rs a b := by
  unfold atR
  rw [cutR_row rs n a ha]
  simp [nth, List.getD, hb]
theorem gaps_cut {rs : List (List Int)} {n : Nat} (h : gapsB rs = true) (hn : rs.length = n + 1) (h0 : 0 < n) : gapsB (cutR rs n) = true := by
  unfold gapsB at h
  simp only [Bool.and_eq_true, inB_iff] at h
  have hrow := rowsB_get _ h.2
  unfold gapsB
  rw [cutR_len]
  have hin : inB (n : Int) 1 6 = true := inB_true (by omega)
  rw [hin, rowsB_yes n (fun k hk => ?_)]
  · rfl
  · have hr := hrow k (by omega)
    have hlen := rowB_len hr
    unfold rowB at hr ⊢
    simp only [Bool.and_eq_true, decide_eq_true_eq] at hr ⊢
    refine ⟨?_, ?_, colsB_yes k (fun m hm => ?_)⟩
    · rw [cutR_row rs n k hk, cutR_len, List.length_take]; omega
    · rw [cutR_at rs n k k hk hk]; exact hr.2.1
    · have hc := colsB_get k hr.2.2 m hm
      unfold cellB at hc ⊢
      rw [cutR_at rs n k m hk (by omega), cutR_at rs n m k (by omega) hk]
      exact hc

set_option maxHeartbeats 2000000 in
theorem walk_FnValidGaps (a0 : Option Addr) (len0 cap0 : Nat) (z0 : List Int) (w : World) (w0 : IsRow .u8 w a0 len0 cap0 z0) :
    Calls Try.prog 12 #[.slice a0 len0 cap0] w fun e w' => e = .returned (.bool true) ∧ Below w.heap.size w w' := by
  obtain ⟨tr, hri, hrz0, hrz1, hrz2⟩ := info_parts infoInts
  by_cases hbig : 1048576 < len0
  · have hbig' : decide ((1048576 : Int) < (len0 : Int)) = true := decide_eq_true (by omega)
    go_enter Try.func12, Try.ntmps12
    go_wp2_with fail
    go_ret
    exact ⟨rfl, Below.refl _ _⟩
  · have hbig' : decide ((1048576 : Int) < (len0 : Int)) = false := decide_eq_false (by omega)
    go_enter Try.func12, Try.ntmps12
    go_wp2_with fail
    refine (draw_ValidGaps a0 len0 cap0 z0 w w0).mono ?_
    clear hbig hbig' w0
    rintro e w1 ⟨v, rs, rfl, m1, hb1, hl6⟩
    go_wp2_with fail
    refine (impl_ValidGaps _ rs _ m1).mono ?_
    rintro e w2 ⟨rfl, hb2⟩
    have m2 := m1.keep hb2
    have q2 := hb1.trans (hb2.mono hb1.size)
    clear hb1 hb2 m1
    go_wp2_with fail
    refine (spec_ValidGaps _ rs _ m2).mono ?_
    rintro e w3 ⟨rfl, hb3⟩
    have m3 := m2.keep hb3
    have q3 := q2.trans (hb3.mono q2.size)
    clear hb3 m2 q2
    cases ht : gapsB rs
    · go_wp2_with fail
      refine (spec_ValidGaps _ rs _ m3).mono ?_
      rintro e w4 ⟨rfl, hb4⟩
      rw [ht]
      go_wp2_with fail
      go_ret
      exact ⟨rfl, q3.trans (hb4.mono q3.size)⟩
    · have hin : 1 ≤ rs.length ∧ rowsB rs rs.length = true := by
        have h := ht
        unfold gapsB at h
        simp only [Bool.and_eq_true, inB_iff] at h
        exact ⟨by omega, h.2⟩
      obtain ⟨N, hN⟩ : ∃ N : Nat, rs.length = N + 1 := ⟨rs.length - 1, by omega⟩
      have hNi : (rs.length : Int) - 1 = (N : Int) := by omega
      have HN := Lib.hid hN
      have HT := Lib.hid ht
      have HROW := Lib.hid (rowsB_get _ hin.2)
      have hN6 : N ≤ 5 := by omega
      obtain ⟨ao, cap, rfl, hl1, hc, hcell⟩ := m3
      rcases hcell with h | ⟨b, o, rfl, hcell⟩
      · omega
      clear hN hin ht
      have hown : (w3.alloc (.cells #[] 36)).ownsRow w3.heap.size 36 1 (.slice (some ⟨w3.heap.size, 0, none⟩) 0 0) 0 [] := World.ownsRow_lit (size := 1) w3 #[] 0 (Nat.le_refl _) (by unfold maxLen; omega) rfl
      have hal := below_box1 w3 (.cells #[] 36)
      go_wp2_with fail
      go_loopw [6, 7] (fun l i wr => ∃ (k : Nat) (V : Nat → Value), k ≤ N ∧ i = .int .i64 k ∧ wr.ownsRow w3.heap.size 36 1 l k ((List.range k).map V) ∧ Hid (∀ j, j < k → Reads w3 (V j) ((rowR rs j).take N)) ∧ Below w3.heap.size w3 wr) (fun _ i _ => N - (intOf i).toNat)
      case atStart => exact ⟨0, fun _ => .slice none 0 0, Nat.zero_le _, rfl, hown, fun j hj => by omega, hal⟩
      case round =>
        clear hown hal
        obtain ⟨k, V, hk, rfl, hown, hV, hbel⟩ := hrel
        by_cases hlt : k < N
        · have hlr : k < rs.length := by have := HN.out; omega
          have hlen := rowB_len (HROW.out k hlr)
          obtain ⟨ak, ck, r1, r2, r3, r4⟩ := hcell k hlr
          rcases r4 with h | ⟨g, q, rfl, r4⟩
          · have := HN.out; omega
          have r1w : _ = _ := (hbel.cell (p := ⟨b, o + k, none⟩) (World.block_lt_of_cell? _ _ r1)).trans r1
          have i1 : (k : Int) < (rs.length : Int) := by omega
          have i2 : (k : Int) < (N : Int) := by omega
          have hNl : N ≤ (rowR rs k).length := by have := HN.out; omega
          have i3 : (N : Int) ≤ (ck : Int) := by omega
          have i4 : N ≤ ck := by omega
          have hRk : Reads w3 (.slice (some ⟨g, q, none⟩) N ck) ((rowR rs k).take N) := by
            have el : ((rowR rs k).take N).length = N := by rw [List.length_take]; omega
            refine ⟨_, ck, by rw [el], by rw [el]; exact i4, by unfold maxLen; omega, .inr ⟨g, q, rfl, fun j hj => ?_⟩⟩
            rw [el] at hj
            have e : nth ((rowR rs k).take N) j = nth (rowR rs k) j := by simp [nth, List.getD, hj]
            rw [e]
            exact r4 j (by omega)
          have HV : Hid (∀ j, j < k + 1 → Reads w3 (upd V k (.slice (some ⟨g, q, none⟩) N ck) j) ((rowR rs j).take N)) := fun j hj => by
            by_cases e : j = k
            · subst e; rw [upd_same]; exact hRk
            · rw [upd_other _ _ _ e]; exact hV.out j (by omega)
          have HO := Lib.hid (And.intro hown hbel)
          have HLEN := Lib.hid hlen
          clear hlen hRk r1 r4 hown hbel hcell
          go_wp2_with (at_builtin; refine wpList_append_own _ rfl _ _ 31 rfl w3.heap.size 36 tr (.slice none 0 0) 1 24 Try.underlying31 hri hrz0 hrz1 hrz2 rfl (by decide) _ _ _ rfl (World.ownsRow.alloc HO.out.1 _) ⟨wr.heap.size, 0, none⟩ 1 1 [.slice (some ⟨g, q, none⟩) N ck] rfl rfl (new_cellsR _ _ _ rfl) (new_oneR _ _ _) (by unfold maxLen; omega) (by omega) (by have := HO.out.2.size; simp; omega) ?_)
          intro v9 w9 hown' hgrow _
          have o9 : w9.ownsRow w3.heap.size 36 1 v9 (k + 1) ((List.range (k + 1)).map (upd V k (.slice (some ⟨g, q, none⟩) N ck))) := by
            rw [List.range_succ, List.map_append]
            have e : (List.range k).map (upd V k (.slice (some ⟨g, q, none⟩) N ck)) = (List.range k).map V := List.map_congr_left (fun j hj => by
              have : j ≠ k := by have := List.mem_range.1 hj; omega
              rw [upd_other _ _ _ this])
            rw [e]
            simpa [upd_same] using hown'
          have b9 : Below w3.heap.size w3 w9 := (HO.out.2.alloc HO.out.2.size _).grown hgrow (by have := HO.out.2.size; simp; omega) (fun p hp => (World.ownsRow.lt HO.out.1 p hp).1)
          clear hown' hgrow HO
          go_wp2
          go_roundw
          case rel => exact ⟨k + 1, _, by omega, by go_num, o9, HV, b9⟩
          case measure => simp [intOf]; omega
        · have e : k = N := by omega
          have j0 : ¬ (k : Int) < (N : Int) := by omega
          have qf := q3.trans (hbel.mono q3.size)
          by_cases h0 : N = 0
          · have hz : (((N : Nat) : Int) == 0) = true := by simp [h0]
            clear hcell
            go_wp2_with fail
            go_ret
            exact ⟨rfl, qf⟩
          · have hz : (((N : Nat) : Int) == 0) = false := by simp; omega
            rw [e] at hown hV
            have hm : ReadsM wr u6 (cutR rs N) := by
              rcases hown.2 with ⟨rfl, h⟩ | ⟨g, cap', cur, rfl, h1, h2, h3, h4, h5, h6⟩
              · omega
              · refine ⟨_, cap', by rw [cutR_len], by rw [cutR_len]; exact h3, by unfold maxLen at h4; omega, .inr ⟨g, 0, rfl, fun j hj => ?_⟩⟩
                rw [cutR_len] at hj
                rw [cutR_row rs N j hj, Nat.zero_add]
                have hc := World.ownsRow.cells hown (g := g) rfl j (V j) (by simp [hj])
                rw [Addr.add_lit, Nat.zero_add] at hc
                exact Reads.rowAt hc ((hV.out j hj).keep hbel)
            have hgood : Hid (gapsB (cutR rs N) = true) := gaps_cut HT.out HN.out (by omega)
            clear hcell hown hV
            go_wp2_with fail
            refine (impl_ValidGaps _ _ _ hm).mono ?_
            rintro e w5 ⟨rfl, hb5⟩
            rw [hgood.out]
            go_wp2_with fail
            go_ret
            exact ⟨rfl, qf.trans (hb5.mono qf.size)⟩
end Go.Proofs.Ytcfeeobjllnofaa
