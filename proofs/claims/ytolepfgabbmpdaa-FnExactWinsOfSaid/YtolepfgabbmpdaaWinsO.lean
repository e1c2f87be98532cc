/-
  Contracts of WinsOf and AgreeOf, both packages.
-/
import Derived.Test.YtolepfgabbmpdaaPairs
namespace Go.Proofs.Ytolepfgabbmpdaa
open Go.RowKit
set_option linter.unusedVariables false

/-- Wins: one number against the first k of ys; the first i numbers of xs. -/
def winRow (x : Int) (ys : List Int) (k : Nat) : Int := sumTo (fun j => sgn (x - nth ys j) + 1) k
def winSum (xs ys : List Int) (i : Nat) : Int := sumTo (fun p => winRow (nth xs p) ys ys.length) i
theorem winRow_bd (x : Int) (ys : List Int) (k : Nat) : 0 ≤ winRow x ys k ∧ winRow x ys k ≤ k * 2 :=
  sumTo_bd _ 2 k (fun j _ => by have := sgn_bd (x - nth ys j); omega)
theorem winSum_bd (xs ys : List Int) (i : Nat) (hy : ys.length ≤ 10) : 0 ≤ winSum xs ys i ∧ winSum xs ys i ≤ i * 20 :=
  sumTo_bd _ 20 i (fun p _ => by have := winRow_bd (nth xs p) ys ys.length; omega)
/-- WinsOf. -/
def winsV (xs ys : List Int) : Int := if samplesB xs ys = true then winSum xs ys xs.length else -1

set_option maxHeartbeats 1000000 in
theorem spec_wins (v : Value) (xs : List Int) (u : Value) (ys : List Int) (w : World) (hr : Reads w v xs) (ks : Reads w u ys) (hv : samplesB xs ys = true) :
    Calls Try.prog 60 #[v, u] w fun e w' => e = .returned (.int .i64 (winSum xs ys xs.length)) ∧ Below w.heap.size w w' := by
  obtain ⟨lx, ly, lxy, dx, dy⟩ := samples_of hv
  have bx := Lib.hid (fun j hj => data_nth dx j hj)
  have by_ := Lib.hid (fun j hj => data_nth dy j hj)
  clear dx dy hv
  obtain ⟨ao, cap, rfl, hl, hc, hcell⟩ := hr
  obtain ⟨bo, dap, rfl, kl, kc, kcell⟩ := ks
  rcases hcell with h0 | ⟨b, o, rfl, hcell⟩
  · exfalso; subst h0; simp at lx
  rcases kcell with h0 | ⟨b2, o2, rfl, kcell⟩
  · exfalso; subst h0; simp at ly
  go_enter Try.func60, Try.ntmps60
  go_wp2
  go_loopw [5, 6] (fun s i wr => ∃ k : Nat, k ≤ xs.length ∧ i = .int .i64 k ∧ s = .int .i64 (winSum xs ys k) ∧ Below w.heap.size w wr) (fun _ i _ => xs.length - (intOf i).toNat)
  case atStart => exact ⟨0, Nat.zero_le _, rfl, rfl, Below.refl _ _⟩
  case round =>
    obtain ⟨k, hk, rfl, rfl, hbel⟩ := hrel
    have hsb := winSum_bd xs ys k (by omega)
    by_cases hlt : k < xs.length
    · have HS : Hid (winSum xs ys (k + 1) = winSum xs ys k + winRow (nth xs k) ys ys.length) := rfl
      generalize hS : winSum xs ys k = S at *
      clear hS
      go_wp2
      go_loopw [5, 7] (fun s j wr => ∃ q : Nat, q ≤ ys.length ∧ j = .int .i64 q ∧ s = .int .i64 (S + winRow (nth xs k) ys q) ∧ Below w.heap.size w wr) (fun _ j _ => ys.length - (intOf j).toNat)
      case atStart => exact ⟨0, Nat.zero_le _, rfl, by simp [winRow, sumTo], hbel⟩
      case round =>
        obtain ⟨q, hq, rfl, rfl, hbel⟩ := hrel
        have hrb := winRow_bd (nth xs k) ys q
        by_cases hql : q < ys.length
        · have h1 := hcell k hlt
          have h2 := kcell q hql
          have ca : _ = _ := (hbel.cell (p := ⟨b, o + k, none⟩) (World.block_lt_of_cell? _ _ h1)).trans h1
          have cb : _ = _ := (hbel.cell (p := ⟨b2, o2 + q, none⟩) (World.block_lt_of_cell? _ _ h2)).trans h2
          have b1 := bx.out k hlt
          have b2' := by_.out q hql
          have HR : Hid (winRow (nth xs k) ys (q + 1) = winRow (nth xs k) ys q + (sgn (nth xs k - nth ys q) + 1)) := rfl
          have hsg := sgn_bd (nth xs k - nth ys q)
          have i1 : (k : Int) < (xs.length : Int) := by omega
          have i2 : (q : Int) < (ys.length : Int) := by omega
          clear h1 h2 hcell kcell
          go_wp2
          go_quiet (first | (go_at_call 72; refine Calls.quiet_of_same (spec_sign _ _)))
          go_wp2
          go_roundw
          case rel => exact ⟨q + 1, by omega, by go_num, by rw [HR.out]; congr 1; omega, below_dn hbel _⟩
          case measure => simp [intOf]; omega
        · have hqq : q = ys.length := by omega
          subst hqq
          go_wp2
          go_roundw
          case rel => exact ⟨k + 1, by omega, by go_num, by rw [HS.out], hbel⟩
          case measure => simp [intOf]; omega
    · have hkk : k = xs.length := by omega
      subst hkk
      go_wp2
      go_ret
      exact ⟨rfl, hbel⟩

set_option maxHeartbeats 1000000 in
theorem spec_WinsOf (v : Value) (xs : List Int) (u : Value) (ys : List Int) (w : World) (hr : Reads w v xs) (ks : Reads w u ys) (lx : xs.length ≤ 1048576) (ly : ys.length ≤ 1048576) :
    Calls Try.prog 35 #[v, u] w fun e w' => e = .returned (.int .i64 (winsV xs ys)) ∧ Below w.heap.size w w' := by
  cases h : samplesB xs ys
  · have hz : Hid (winsV xs ys = -1) := if_neg (by rw [h]; simp)
    go_enter Try.func35, Try.ntmps35
    go_wp2_with fail
    refine (spec_validSamples _ xs _ ys _ hr ks).mono ?_; rintro e w1 ⟨rfl, rfl⟩
    go_wp2_with fail
    go_ret
    exact ⟨ret_int hz.out.symm, Below.refl _ _⟩
  · have hz : Hid (winsV xs ys = winSum xs ys xs.length) := if_pos h
    go_enter Try.func35, Try.ntmps35
    go_wp2_with fail
    refine (spec_validSamples _ xs _ ys _ hr ks).mono ?_; rintro e w1 ⟨rfl, rfl⟩
    go_wp2_with fail
    refine (spec_wins _ xs _ ys _ hr ks h).mono ?_; rintro e w1 ⟨rfl, hb⟩
    go_wp2_with fail
    go_ret
    exact ⟨ret_int hz.out.symm, hb⟩

set_option maxHeartbeats 1000000 in
theorem impl_WinsOf (v : Value) (xs : List Int) (u : Value) (ys : List Int) (w : World) (hr : Reads w v xs) (ks : Reads w u ys) (ux : xs.length ≤ 1048576) (uy : ys.length ≤ 1048576) :
    Calls Try.prog 36 #[v, u] w fun e w' => e = .returned (.int .i64 (winsV xs ys)) ∧ Below w.heap.size w w' := by
  cases h : samplesB xs ys
  · have hz : Hid (winsV xs ys = -1) := if_neg (by rw [h]; simp)
    go_enter Try.func36, Try.ntmps36
    go_wp2_with fail
    refine (impl_samples _ xs _ ys _ hr ks ux uy).mono ?_; rintro e w1 ⟨rfl, hb⟩
    go_wp2_with fail
    go_ret
    exact ⟨ret_int hz.out.symm, hb⟩
  · have hz : Hid (winsV xs ys = winSum xs ys xs.length) := if_pos h
    obtain ⟨lx, ly, lxy, dx, dy⟩ := samples_of h
    have bx := Lib.hid (fun j hj => data_nth dx j hj)
    have by_ := Lib.hid (fun j hj => data_nth dy j hj)
    clear dx dy
    have hr0 := hr
    have ks0 := ks
    obtain ⟨ao, cap, rfl, hl, hc, hcell⟩ := hr
    obtain ⟨bo, dap, rfl, kl, kc, kcell⟩ := ks
    rcases hcell with h0 | ⟨b, o, rfl, hcell⟩
    · exfalso; subst h0; simp at lx
    rcases kcell with h0 | ⟨b2, o2, rfl, kcell⟩
    · exfalso; subst h0; simp at ly
    go_enter Try.func36, Try.ntmps36
    go_wp2_with fail
    refine (impl_samples _ xs _ ys _ hr0 ks0 ux uy).mono ?_; rintro e w1 ⟨rfl, hb⟩
    go_wp2_with fail
    clear hr0 ks0 h
    go_loopw [5, 16] (fun s i wr => ∃ k : Nat, k ≤ xs.length ∧ i = .int .i64 k ∧ s = .int .i64 (winSum xs ys k) ∧ Below w.heap.size w wr) (fun _ i _ => xs.length - (intOf i).toNat)
    case atStart => exact ⟨0, Nat.zero_le _, rfl, rfl, hb⟩
    case round =>
      obtain ⟨k, hk, rfl, rfl, hbel⟩ := hrel
      have hsb := winSum_bd xs ys k (by omega)
      by_cases hlt : k < xs.length
      · have HS : Hid (winSum xs ys (k + 1) = winSum xs ys k + winRow (nth xs k) ys ys.length) := rfl
        generalize hS : winSum xs ys k = S at *
        clear hS
        have h1 := hcell k hlt
        have ca : _ = _ := (hbel.cell (p := ⟨b, o + k, none⟩) (World.block_lt_of_cell? _ _ h1)).trans h1
        have b1 := bx.out k hlt
        have i1 : (k : Int) < (xs.length : Int) := by omega
        clear h1
        go_wp2
        go_loopw [5, 22] (fun s j wr => ∃ q : Nat, q ≤ ys.length ∧ j = .int .i64 q ∧ s = .int .i64 (S + winRow (nth xs k) ys q) ∧ Below w.heap.size w wr) (fun _ j _ => ys.length - (intOf j).toNat)
        case atStart => exact ⟨0, Nat.zero_le _, rfl, by simp [winRow, sumTo], hbel⟩
        case round =>
          obtain ⟨q, hq, rfl, rfl, hbel⟩ := hrel
          have hrb := winRow_bd (nth xs k) ys q
          by_cases hql : q < ys.length
          · have h2 := kcell q hql
            have cb : _ = _ := (hbel.cell (p := ⟨b2, o2 + q, none⟩) (World.block_lt_of_cell? _ _ h2)).trans h2
            have b2' := by_.out q hql
            have HR : Hid (winRow (nth xs k) ys (q + 1) = winRow (nth xs k) ys q + (sgn (nth xs k - nth ys q) + 1)) := rfl
            have hsg := sgn_bd (nth xs k - nth ys q)
            have i2 : (q : Int) < (ys.length : Int) := by omega
            clear h2 hcell kcell
            go_wp2_with (go_at_call 58; refine (impl_sign _ _).mono ?_; rintro e w' ⟨rfl, rfl⟩)
            go_roundw
            case rel => exact ⟨q + 1, by omega, by go_num, by rw [HR.out]; congr 1; omega, hbel⟩
            case measure => simp [intOf]; omega
          · have hqq : q = ys.length := by omega
            subst hqq
            go_wp2
            go_roundw
            case rel => exact ⟨k + 1, by omega, by go_num, by rw [HS.out], hbel⟩
            case measure => simp [intOf]; omega
      · have hkk : k = xs.length := by omega
        subst hkk
        go_wp2
        go_ret
        exact ⟨ret_int hz.out.symm, hbel⟩
end Go.Proofs.Ytolepfgabbmpdaa
