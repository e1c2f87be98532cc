/-
  The contracts of impl.ValidGaps and spec.ValidGaps.
-/
import Derived.Test.YtcfeeobjllnofaaGaps
namespace Go.Proofs.Ytcfeeobjllnofaa
open Go.RowKit
set_option linter.unusedVariables false

theorem spec_ValidGaps (v : Value) (rs : List (List Int)) (w : World) (hr : ReadsM w v rs) :
    Calls Try.prog 19 #[v] w fun e w' => e = .returned (.bool (gapsB rs)) ∧ Below w.heap.size w w' := by
  go_enter Try.func19, Try.ntmps19
  go_wp2_with fail
  refine (spec_validGaps v rs _ hr).mono ?_
  rintro e w' ⟨rfl, hb⟩
  go_wp2_with fail
  go_ret
  exact ⟨rfl, hb⟩

set_option maxHeartbeats 2000000 in
theorem impl_ValidGaps (v : Value) (rs : List (List Int)) (w : World) (hr : ReadsM w v rs) :
    Calls Try.prog 21 #[v] w fun e w' => e = .returned (.bool (gapsB rs)) ∧ Below w.heap.size w w' := by
  obtain ⟨ao, cap, rfl, hl, hc, hcell⟩ := hr
  cases hin : inB (rs.length : Int) 1 6
  · have hz : Hid (gapsB rs = false) := by show _ = _; unfold gapsB; rw [hin]; rfl
    go_enter Try.func21, Try.ntmps21
    go_wp2_with fail
    refine (impl_in _ _ _ _).mono ?_; rintro e w' ⟨rfl, rfl⟩
    go_wp2_with fail
    go_ret
    exact ⟨ret_bool hz.out.symm, Below.refl _ _⟩
  have hz : Hid (gapsB rs = rowsB rs rs.length) := by show _ = _; unfold gapsB; rw [hin]; rfl
  go_enter Try.func21, Try.ntmps21
  go_wp2_with fail
  refine (impl_in _ _ _ _).mono ?_; rintro e w' ⟨rfl, rfl⟩
  go_wp2_with fail
  clear hin
  go_loopw [12] (fun i wr => ∃ k : Nat, k ≤ rs.length ∧ i = .int .i64 k ∧ Hid (rowsB rs k = true) ∧ Below w.heap.size w wr) (fun i _ => rs.length - (intOf i).toNat)
  case atStart => exact ⟨0, Nat.zero_le _, rfl, rfl, Below.refl _ _⟩
  case round =>
    obtain ⟨k, hk, rfl, hall, hbel⟩ := hrel
    by_cases hlt : k < rs.length
    · rcases hcell with h0 | ⟨b0, o0, rfl, hcell⟩
      · omega
      · have hrow := (hcell k hlt).keep hbel
        obtain ⟨ak, ck, r1, r2, r3, r4⟩ := hrow
        have i1 : (k : Int) < (rs.length : Int) := by omega
        by_cases hln : (rowR rs k).length = rs.length
        · have hln' : (((rowR rs k).length : Int) != (rs.length : Int)) = false := by simp; omega
          have i2 : (k : Int) < ((rowR rs k).length : Int) := by omega
          have HLN := Lib.hid hln
          rcases r4 with h0 | ⟨gk, qk, rfl, r4⟩
          · exfalso; omega
          · have ck0 := r4 k (by omega)
            clear hln
            by_cases hd : nth (rowR rs k) k = 0
            · have hd' : (nth (rowR rs k) k != 0) = false := by simp [hd]
              have HD : Hid (atR rs k k = 0) := hd
              have HR4 := Lib.hid r4
              clear hd r4
              go_wp2_with fail
              go_loopw [30] (fun j wq => ∃ m : Nat, m ≤ k ∧ j = .int .i64 m ∧ Hid (colsB rs k m = true) ∧ Below wr.heap.size wr wq) (fun j _ => k - (intOf j).toNat)
              case atStart => exact ⟨0, Nat.zero_le _, rfl, rfl, Below.refl _ _⟩
              case round =>
                clear ck0 r1
                obtain ⟨m, hm, rfl, hcol, hbq⟩ := hrel
                have hbq2 := hbel.trans (hbq.mono hbel.size)
                by_cases hmk : m < k
                · have cb := ((hcell m (by omega)).keep hbq2)
                  have hlm := rowB_len (rowsB_get k hall.out m hmk)
                  obtain ⟨ab, cab, f1, f2, f3, f4⟩ := cb
                  have hlk := HLN.out
                  rcases f4 with h0 | ⟨gb, qb, rfl, f4⟩
                  · exfalso; omega
                  have va0 := HR4.out m (by omega)
                  have va : _ = _ := (hbq.cell (p := ⟨gk, qk + m, none⟩) (World.block_lt_of_cell? _ _ va0)).trans va0
                  have vb := f4 k (by omega)
                  have j1 : (m : Int) < (k : Int) := by omega
                  have j2 : (m : Int) < ((rowR rs k).length : Int) := by omega
                  have j3 : (k : Int) < ((rowR rs m).length : Int) := by omega
                  have j4 : (m : Int) < (rs.length : Int) := by omega
                  have HNO : Hid (cellB rs k m = false → gapsB rs = false) := fun hx => gapsB_no (by unfold rowB; rw [colsB_no hx k hmk]; simp) hlt
                  have HYES : Hid (cellB rs k m = true → colsB rs k (m + 1) = true) := fun hx => by unfold colsB; rw [hcol.out, hx]; rfl
                  have hCB : cellB rs k m = (inB (nth (rowR rs k) m) 1 40 && decide (nth (rowR rs m) k = nth (rowR rs k) m)) := rfl
                  have HCB := Lib.hid hCB
                  have HBQ := Lib.hid (fun n => below_dn hbq n)
                  have HBQ2 := Lib.hid (fun n => below_dn hbq2 n)
                  clear hCB hlm hlk f4 hcell va0
                  cases hx : inB (nth (rowR rs k) m) 1 40
                  · have HI := Lib.hid (inQ hx)
                    have hb0 : Hid (gapsB rs = false) := HNO.out (by rw [HCB.out, hx]; rfl)
                    clear hx
                    go_wp2
                    go_quiet (first | (go_at_call 49; refine Calls.quiet_of_same (HI.out _)))
                    go_wp2
                    go_ret
                    exact ⟨ret_bool hb0.out.symm, HBQ2.out _⟩
                  · have HI := Lib.hid (inQ hx)
                    by_cases he : nth (rowR rs m) k = nth (rowR rs k) m
                    · have he' : (nth (rowR rs m) k != nth (rowR rs k) m) = false := by simp [he]
                      have hb0 : Hid (colsB rs k (m + 1) = true) := HYES.out (by rw [HCB.out, hx, decide_eq_true he]; rfl)
                      clear hx he
                      go_wp2
                      go_quiet (first | (go_at_call 49; refine Calls.quiet_of_same (HI.out _)))
                      go_wp2
                      go_roundw
                      case rel => exact ⟨m + 1, by omega, by go_num, hb0, HBQ.out _⟩
                      case measure => simp [intOf]; omega
                    · have he' : (nth (rowR rs m) k != nth (rowR rs k) m) = true := by simp [he]
                      have hb0 : Hid (gapsB rs = false) := HNO.out (by rw [HCB.out, hx, decide_eq_false he]; rfl)
                      clear hx he
                      go_wp2
                      go_quiet (first | (go_at_call 49; refine Calls.quiet_of_same (HI.out _)))
                      go_wp2
                      go_ret
                      exact ⟨ret_bool hb0.out.symm, HBQ2.out _⟩
                · have em : m = k := by omega
                  have HR : Hid (rowsB rs (k + 1) = true) := by
                    show _ = _
                    have h5 := hcol.out
                    rw [em] at h5
                    unfold rowsB rowB
                    rw [hall.out, decide_eq_true HLN.out, decide_eq_true HD.out, h5]; rfl
                  have j1 : ¬ (m : Int) < (k : Int) := by omega
                  clear em hcell
                  go_wp2
                  go_roundw
                  case rel => exact ⟨k + 1, by omega, by go_num, HR, hbq2⟩
                  case measure => simp [intOf]; omega
            · have hd' : (nth (rowR rs k) k != 0) = true := by simp [hd]
              have hb0 : Hid (gapsB rs = false) := gapsB_no (by unfold rowB; rw [show decide (atR rs k k = 0) = false from decide_eq_false hd]; simp) hlt
              clear hd hcell r4
              go_wp2_with fail
              go_ret
              exact ⟨ret_bool hb0.out.symm, hbel⟩
        · have hln' : (((rowR rs k).length : Int) != (rs.length : Int)) = true := by simp; omega
          have hb0 : Hid (gapsB rs = false) := gapsB_no (by unfold rowB; rw [decide_eq_false hln]; rfl) hlt
          clear hln hcell r4
          go_wp2_with fail
          go_ret
          exact ⟨ret_bool hb0.out.symm, hbel⟩
    · have e : k = rs.length := by omega
      have hb0 : Hid (gapsB rs = true) := by
        show _ = _
        rw [hz.out, ← e]; exact hall.out
      clear e
      go_wp2_with fail
      go_ret
      exact ⟨ret_bool hb0.out.symm, hbel⟩
end Go.Proofs.Ytcfeeobjllnofaa
