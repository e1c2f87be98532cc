/-
  Rows of rows of numbers, and the contracts of ValidGaps of both packages.
-/
import Derived.Test.YtcfeeobjllnofaaList
namespace Go.Proofs.Ytcfeeobjllnofaa
open Go.RowKit
set_option linter.unusedVariables false

/-- A row; a number. -/
def rowR (rs : List (List Int)) (j : Nat) : List Int := rs.getD j []
def atR (rs : List (List Int)) (a b : Nat) : Int := nth (rowR rs a) b
/-- The cell holds a slice value that reads as the numbers zs. -/
def RowAt (w : World) (b o : Nat) (zs : List Int) : Prop :=
  ∃ ao cap, w.cell? ⟨b, o, none⟩ = some (.slice ao zs.length cap) ∧ zs.length ≤ cap ∧ cap ≤ 9223372036854775807 ∧
    (zs.length = 0 ∨ ∃ g q, ao = some ⟨g, q, none⟩ ∧ ∀ j, j < zs.length → w.cell? ⟨g, q + j, none⟩ = some (.int .i64 (nth zs j)))
theorem RowAt.keep {w w' : World} {b o : Nat} {zs : List Int} (h : RowAt w b o zs) (hb : Below w.heap.size w w') : RowAt w' b o zs := by
  obtain ⟨ao, cap, h1, h2, h3, h4⟩ := h
  refine ⟨ao, cap, (hb.cell (p := ⟨b, o, none⟩) (World.block_lt_of_cell? _ _ h1)).trans h1, h2, h3, ?_⟩
  rcases h4 with h4 | ⟨g, q, rfl, h4⟩
  · exact .inl h4
  · exact .inr ⟨g, q, rfl, fun j hj => (hb.cell (p := ⟨g, q + j, none⟩) (World.block_lt_of_cell? _ _ (h4 j hj))).trans (h4 j hj)⟩
theorem RowAt.reads {w : World} {b o : Nat} {zs : List Int} (h : RowAt w b o zs) : ∃ ao cap, w.cell? ⟨b, o, none⟩ = some (.slice ao zs.length cap) ∧ Reads w (.slice ao zs.length cap) zs := by
  obtain ⟨ao, cap, h1, h2, h3, h4⟩ := h
  refine ⟨ao, cap, h1, ao, cap, rfl, h2, by unfold maxLen; omega, ?_⟩
  rcases h4 with h4 | ⟨g, q, rfl, h4⟩
  · exact .inl (List.eq_nil_of_length_eq_zero h4)
  · exact .inr ⟨g, q, rfl, h4⟩
theorem Reads.rowAt {w : World} {b o : Nat} {v : Value} {zs : List Int} (hc : w.cell? ⟨b, o, none⟩ = some v) (h : Reads w v zs) : RowAt w b o zs := by
  obtain ⟨ao, cap, rfl, h2, h3, h4⟩ := h
  refine ⟨ao, cap, hc, h2, by unfold maxLen at h3; omega, ?_⟩
  rcases h4 with rfl | ⟨g, q, rfl, h4⟩
  · exact .inl rfl
  · exact .inr ⟨g, q, rfl, h4⟩
/-- The slice value v reads as the rows rs. -/
def ReadsM (w : World) (v : Value) (rs : List (List Int)) : Prop :=
  ∃ ao cap, v = .slice ao rs.length cap ∧ rs.length ≤ cap ∧ cap ≤ 9223372036854775807 ∧
    (rs.length = 0 ∨ ∃ b o, ao = some ⟨b, o, none⟩ ∧ ∀ j, j < rs.length → RowAt w b (o + j) (rowR rs j))
theorem ReadsM.keep {w w' : World} {v : Value} {rs : List (List Int)} (h : ReadsM w v rs) (hb : Below w.heap.size w w') : ReadsM w' v rs := by
  obtain ⟨ao, cap, rfl, h2, h3, h4⟩ := h
  refine ⟨ao, cap, rfl, h2, h3, ?_⟩
  rcases h4 with h4 | ⟨b, o, rfl, h4⟩
  · exact .inl h4
  · exact .inr ⟨b, o, rfl, fun j hj => (h4 j hj).keep hb⟩

/-- Distances. -/
def cellB (rs : List (List Int)) (a b : Nat) : Bool := inB (atR rs a b) 1 40 && decide (atR rs b a = atR rs a b)
def colsB (rs : List (List Int)) (a : Nat) : Nat → Bool
  | 0 => true
  | k + 1 => colsB rs a k && cellB rs a k
def rowB (rs : List (List Int)) (a : Nat) : Bool := decide ((rowR rs a).length = rs.length) && (decide (atR rs a a = 0) && colsB rs a a)
def rowsB (rs : List (List Int)) : Nat → Bool
  | 0 => true
  | k + 1 => rowsB rs k && rowB rs k
def gapsB (rs : List (List Int)) : Bool := inB (rs.length : Int) 1 6 && rowsB rs rs.length
theorem colsB_no {rs : List (List Int)} {a k : Nat} (h : cellB rs a k = false) : ∀ n, k < n → colsB rs a n = false := by
  intro n
  induction n with
  | zero => intro h; omega
  | succ n ih =>
    intro hk
    unfold colsB
    by_cases e : k = n
    · subst e; rw [h]; simp
    · rw [ih (by omega)]; rfl
theorem rowsB_no {rs : List (List Int)} {k : Nat} (h : rowB rs k = false) : ∀ n, k < n → rowsB rs n = false := by
  intro n
  induction n with
  | zero => intro h; omega
  | succ n ih =>
    intro hk
    unfold rowsB
    by_cases e : k = n
    · subst e; rw [h]; simp
    · rw [ih (by omega)]; rfl
theorem rowsB_get {rs : List (List Int)} : ∀ n, rowsB rs n = true → ∀ k, k < n → rowB rs k = true := by
  intro n
  induction n with
  | zero => intro _ k hk; omega
  | succ n ih =>
    intro h k hk
    unfold rowsB at h
    simp only [Bool.and_eq_true] at h
    by_cases e : k = n
    · subst e; exact h.2
    · exact ih h.1 k (by omega)
theorem rowB_len {rs : List (List Int)} {k : Nat} (h : rowB rs k = true) : (rowR rs k).length = rs.length := by
  unfold rowB at h
  simp only [Bool.and_eq_true, decide_eq_true_eq] at h
  exact h.1
theorem gapsB_no {rs : List (List Int)} {k : Nat} (h : rowB rs k = false) (hk : k < rs.length) : gapsB rs = false := by
  unfold gapsB; rw [rowsB_no h _ hk]; simp

theorem inRangeQ {n lo hi : Int} {x : Bool} (h : inB n lo hi = x) (w : World) :
    Calls Try.prog 46 #[.int .i64 n, .int .i64 lo, .int .i64 hi] w fun e w' => e = .returned (.bool x) ∧ w' = w := by
  subst h; exact (spec_inRange n lo hi w).mono fun _ _ h => ⟨h.1, h.2.symm⟩
theorem inQ {n lo hi : Int} {x : Bool} (h : inB n lo hi = x) (w : World) :
    Calls Try.prog 49 #[.int .i64 n, .int .i64 lo, .int .i64 hi] w fun e w' => e = .returned (.bool x) ∧ w' = w := by
  subst h; exact (impl_in n lo hi w).mono fun _ _ h => ⟨h.1, h.2.symm⟩

set_option maxHeartbeats 2000000 in
theorem spec_validGaps (v : Value) (rs : List (List Int)) (w : World) (hr : ReadsM w v rs) :
    Calls Try.prog 55 #[v] w fun e w' => e = .returned (.bool (gapsB rs)) ∧ Below w.heap.size w w' := by
  obtain ⟨ao, cap, rfl, hl, hc, hcell⟩ := hr
  go_enter Try.func55, Try.ntmps55
  go_wp2_with fail
  go_loopw [3] (fun i wr => ∃ k : Nat, k ≤ rs.length ∧ i = .int .i64 k ∧ Hid (rowsB rs k = true) ∧ Below w.heap.size w wr) (fun i _ => rs.length - (intOf i).toNat)
  case atStart => exact ⟨0, Nat.zero_le _, rfl, rfl, Below.refl _ _⟩
  case round =>
    obtain ⟨k, hk, rfl, hall, hbel⟩ := hrel
    by_cases hlt : k < rs.length
    · rcases hcell with h0 | ⟨b0, o0, rfl, hcell⟩
      · omega
      · have hrow := (hcell k hlt).keep hbel
        obtain ⟨ak, ck, r1, r2, r3, r4⟩ := hrow
        have i1 : (k : Int) < (rs.length : Int) := by omega
        by_cases hln : (rowR rs k).length = rs.length
        · have hln' : (((rowR rs k).length : Int) != (rs.length : Int)) = false := by simp; omega
          have i2 : (k : Int) < ((rowR rs k).length : Int) := by omega
          have HLN := Lib.hid hln
          rcases r4 with h0 | ⟨gk, qk, rfl, r4⟩
          · exfalso; omega
          · have ck0 := r4 k (by omega)
            clear hln
            by_cases hd : nth (rowR rs k) k = 0
            · have hd' : (nth (rowR rs k) k != 0) = false := by simp [hd]
              have HD : Hid (atR rs k k = 0) := hd
              clear hd
              go_wp2_with fail
              go_loopw [4] (fun j wq => ∃ m : Nat, m ≤ k ∧ j = .int .i64 m ∧ Hid (colsB rs k m = true) ∧ Below wr.heap.size wr wq) (fun j _ => k - (intOf j).toNat)
              case atStart => exact ⟨0, Nat.zero_le _, rfl, rfl, Below.refl _ _⟩
              case round =>
                clear ck0 r1
                obtain ⟨m, hm, rfl, hcol, hbq⟩ := hrel
                have hbq2 := hbel.trans (hbq.mono hbel.size)
                by_cases hmk : m < k
                · have ca := ((hcell k hlt).keep hbq2)
                  have cb := ((hcell m (by omega)).keep hbq2)
                  have hlm := rowB_len (rowsB_get k hall.out m hmk)
                  obtain ⟨aa, caa, e1, e2, e3, e4⟩ := ca
                  obtain ⟨ab, cab, f1, f2, f3, f4⟩ := cb
                  have hlk := HLN.out
                  rcases e4 with h0 | ⟨ga, qa, rfl, e4⟩
                  · exfalso; omega
                  rcases f4 with h0 | ⟨gb, qb, rfl, f4⟩
                  · exfalso; omega
                  have va := e4 m (by omega)
                  have vb := f4 k (by omega)
                  have j1 : (m : Int) < (k : Int) := by omega
                  have j2 : (m : Int) < ((rowR rs k).length : Int) := by omega
                  have j3 : (k : Int) < ((rowR rs m).length : Int) := by omega
                  have j4 : (m : Int) < (rs.length : Int) := by omega
                  have HNO : Hid (cellB rs k m = false → gapsB rs = false) := fun hx => gapsB_no (by unfold rowB; rw [colsB_no hx k hmk]; simp) hlt
                  have HYES : Hid (cellB rs k m = true → colsB rs k (m + 1) = true) := fun hx => by unfold colsB; rw [hcol.out, hx]; rfl
                  have hCB : cellB rs k m = (inB (nth (rowR rs k) m) 1 40 && decide (nth (rowR rs m) k = nth (rowR rs k) m)) := rfl
                  have HCB := Lib.hid hCB
                  have HBQ := Lib.hid (fun n => below_dn hbq n)
                  have HBQ2 := Lib.hid (fun n => below_dn hbq2 n)
                  clear hCB hlm hlk e4 f4 hcell r4
                  cases hx : inB (nth (rowR rs k) m) 1 40
                  · have HI := Lib.hid (inRangeQ hx)
                    have hb0 : Hid (gapsB rs = false) := HNO.out (by rw [HCB.out, hx]; rfl)
                    clear hx
                    go_wp2
                    go_quiet (first | (go_at_call 46; refine Calls.quiet_of_same (HI.out _)))
                    go_wp2
                    go_ret
                    exact ⟨ret_bool hb0.out.symm, HBQ2.out _⟩
                  · have HI := Lib.hid (inRangeQ hx)
                    by_cases he : nth (rowR rs m) k = nth (rowR rs k) m
                    · have he' : (nth (rowR rs m) k != nth (rowR rs k) m) = false := by simp [he]
                      have hb0 : Hid (colsB rs k (m + 1) = true) := HYES.out (by rw [HCB.out, hx, decide_eq_true he]; rfl)
                      clear hx he
                      go_wp2
                      go_quiet (first | (go_at_call 46; refine Calls.quiet_of_same (HI.out _)))
                      go_wp2
                      go_roundw
                      case rel => exact ⟨m + 1, by omega, by go_num, hb0, HBQ.out _⟩
                      case measure => simp [intOf]; omega
                    · have he' : (nth (rowR rs m) k != nth (rowR rs k) m) = true := by simp [he]
                      have hb0 : Hid (gapsB rs = false) := HNO.out (by rw [HCB.out, hx, decide_eq_false he]; rfl)
                      clear hx he
                      go_wp2
                      go_quiet (first | (go_at_call 46; refine Calls.quiet_of_same (HI.out _)))
                      go_wp2
                      go_ret
                      exact ⟨ret_bool hb0.out.symm, HBQ2.out _⟩
                · have em : m = k := by omega
                  have HR : Hid (rowsB rs (k + 1) = true) := by
                    show _ = _
                    have h5 := hcol.out
                    rw [em] at h5
                    unfold rowsB rowB
                    rw [hall.out, decide_eq_true HLN.out, decide_eq_true HD.out, h5]; rfl
                  have j1 : ¬ (m : Int) < (k : Int) := by omega
                  clear em hcell r4
                  go_wp2
                  go_roundw
                  case rel => exact ⟨k + 1, by omega, by go_num, HR, hbq2⟩
                  case measure => simp [intOf]; omega
            · have hd' : (nth (rowR rs k) k != 0) = true := by simp [hd]
              have hb0 : Hid (gapsB rs = false) := gapsB_no (by unfold rowB; rw [show decide (atR rs k k = 0) = false from decide_eq_false hd]; simp) hlt
              clear hd hcell r4
              go_wp2_with fail
              go_ret
              exact ⟨ret_bool hb0.out.symm, hbel⟩
        · have hln' : (((rowR rs k).length : Int) != (rs.length : Int)) = true := by simp; omega
          have hb0 : Hid (gapsB rs = false) := gapsB_no (by unfold rowB; rw [decide_eq_false hln]; rfl) hlt
          clear hln hcell r4
          go_wp2_with fail
          go_ret
          exact ⟨ret_bool hb0.out.symm, hbel⟩
    · have e : k = rs.length := by omega
      have hb0 : Hid (gapsB rs = inB (rs.length : Int) 1 6) := by
        show _ = _
        have h5 := hall.out
        rw [e] at h5
        unfold gapsB; rw [h5]; simp
      clear e
      go_wp2_with fail
      refine (spec_inRange _ _ _ _).mono ?_; rintro e w' ⟨rfl, rfl⟩
      go_wp2_with fail
      go_ret
      exact ⟨ret_bool hb0.out.symm, hbel⟩
end Go.Proofs.Ytcfeeobjllnofaa
