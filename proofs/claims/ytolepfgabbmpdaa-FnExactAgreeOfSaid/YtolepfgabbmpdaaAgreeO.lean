/-
  Contracts of AgreeOf, both packages.
-/
import Derived.Test.YtolepfgabbmpdaaPairs
namespace Go.Proofs.Ytolepfgabbmpdaa
open Go.RowKit
set_option linter.unusedVariables false

def agOne (xs ys : List Int) (i j : Nat) : Int := sgn (nth xs i - nth xs j) * sgn (nth ys i - nth ys j)
theorem agOne_bd (xs ys : List Int) (i j : Nat) : -1 ≤ agOne xs ys i j ∧ agOne xs ys i j ≤ 1 := by
  have h1 : sgn (nth xs i - nth xs j) = 1 ∨ sgn (nth xs i - nth xs j) = -1 ∨ sgn (nth xs i - nth xs j) = 0 := by have := sgn_bd (nth xs i - nth xs j); omega
  have h2 := sgn_bd (nth ys i - nth ys j)
  unfold agOne
  rcases h1 with h | h | h <;> rw [h] <;> omega
def agRow (xs ys : List Int) (i k : Nat) : Int := sumTo (agOne xs ys i) k
def agSum (xs ys : List Int) (i : Nat) : Int := sumTo (fun p => agRow xs ys p p) i
theorem sumTo_abs (f : Nat → Int) (M : Int) : ∀ n : Nat, (∀ k, k < n → -M ≤ f k ∧ f k ≤ M) → -(n * M) ≤ sumTo f n ∧ sumTo f n ≤ n * M := by
  intro n
  induction n with
  | zero => intro _; simp [sumTo_zero]
  | succ n ih =>
    intro h
    have h1 := ih (fun k hk => h k (by omega))
    have h2 := h n (by omega)
    rw [sumTo_succ]
    have e : ((n + 1 : Nat) : Int) * M = n * M + M := by rw [Int.natCast_add, Int.add_mul]; simp
    omega
theorem agRow_bd (xs ys : List Int) (i k : Nat) : -(k : Int) ≤ agRow xs ys i k ∧ agRow xs ys i k ≤ k := by
  have := sumTo_abs (agOne xs ys i) 1 k (fun j _ => by have := agOne_bd xs ys i j; omega)
  unfold agRow; omega
theorem agSum_bd (xs ys : List Int) (i : Nat) (hi : i ≤ 10) : -100 ≤ agSum xs ys i ∧ agSum xs ys i ≤ 100 := by
  have := sumTo_abs (fun p => agRow xs ys p p) 10 i (fun j hj => by have := agRow_bd xs ys j j; omega)
  unfold agSum; omega
/-- AgreeOf. -/
def agreeV (xs ys : List Int) : Int := if twoB xs ys = true then agSum xs ys xs.length else 0

set_option maxHeartbeats 1000000 in
theorem spec_kendall (v : Value) (xs : List Int) (u : Value) (ys : List Int) (w : World) (hr : Reads w v xs) (ks : Reads w u ys) (hv : twoB xs ys = true) :
    Calls Try.prog 56 #[v, u] w fun e w' => e = .returned (.int .i64 (agSum xs ys xs.length)) ∧ Below w.heap.size w w' := by
  obtain ⟨dx, dy, lxy⟩ := two_of hv
  have lx := data_len dx
  have bx := Lib.hid (fun j hj => data_nth dx j hj)
  have by_ := Lib.hid (fun j hj => data_nth dy j hj)
  clear dx dy hv
  obtain ⟨ao, cap, rfl, hl, hc, hcell⟩ := hr
  obtain ⟨bo, dap, rfl, kl, kc, kcell⟩ := ks
  have LXY := Lib.hid lxy
  clear lxy
  go_enter Try.func56, Try.ntmps56
  go_wp2
  go_loopw [5, 6] (fun s i wr => ∃ k : Nat, k ≤ xs.length ∧ i = .int .i64 k ∧ s = .int .i64 (agSum xs ys k) ∧ Below w.heap.size w wr) (fun _ i _ => xs.length - (intOf i).toNat)
  case atStart => exact ⟨0, Nat.zero_le _, rfl, rfl, Below.refl _ _⟩
  case round =>
    obtain ⟨k, hk, rfl, rfl, hbel⟩ := hrel
    have hsb := agSum_bd xs ys k (by omega)
    by_cases hlt : k < xs.length
    · rcases hcell with h0 | ⟨b, o, rfl, hcell⟩
      · exfalso; rw [h0] at hlt; simp at hlt
      rcases kcell with h0 | ⟨b2, o2, rfl, kcell⟩
      · exfalso; rw [LXY.out, h0] at hlt; simp at hlt
      have HS : Hid (agSum xs ys (k + 1) = agSum xs ys k + agRow xs ys k k) := rfl
      generalize hS : agSum xs ys k = S at *
      clear hS
      go_wp2
      go_loopw [5, 7] (fun s j wr => ∃ q : Nat, q ≤ k ∧ j = .int .i64 q ∧ s = .int .i64 (S + agRow xs ys k q) ∧ Below w.heap.size w wr) (fun _ j _ => k - (intOf j).toNat)
      case atStart => exact ⟨0, Nat.zero_le _, rfl, by simp [agRow, sumTo], hbel⟩
      case round =>
        obtain ⟨q, hq, rfl, rfl, hbel⟩ := hrel
        have hrb := agRow_bd xs ys k q
        by_cases hql : q < k
        · have h1 := hcell k hlt
          have h2 := hcell q (by omega)
          have h3 := kcell k (by have := LXY.out; omega)
          have h4 := kcell q (by have := LXY.out; omega)
          have ca : _ = _ := (hbel.cell (p := ⟨b, o + k, none⟩) (World.block_lt_of_cell? _ _ h1)).trans h1
          have cb : _ = _ := (hbel.cell (p := ⟨b, o + q, none⟩) (World.block_lt_of_cell? _ _ h2)).trans h2
          have cc : _ = _ := (hbel.cell (p := ⟨b2, o2 + k, none⟩) (World.block_lt_of_cell? _ _ h3)).trans h3
          have cd : _ = _ := (hbel.cell (p := ⟨b2, o2 + q, none⟩) (World.block_lt_of_cell? _ _ h4)).trans h4
          have b1 := bx.out k hlt
          have b2' := bx.out q (by omega)
          have b3 := by_.out k (by have := LXY.out; omega)
          have b4 := by_.out q (by have := LXY.out; omega)
          have HR : Hid (agRow xs ys k (q + 1) = agRow xs ys k q + sgn (nth xs k - nth xs q) * sgn (nth ys k - nth ys q)) := rfl
          have hsg := agOne_bd xs ys k q
          unfold agOne at hsg
          have i1 : (k : Int) < (xs.length : Int) := by omega
          have i2 : (q : Int) < (xs.length : Int) := by omega
          have i3 : (q : Int) < (k : Int) := by omega
          have i4 : (k : Int) < (ys.length : Int) := by have := LXY.out; omega
          have i5 : (q : Int) < (ys.length : Int) := by have := LXY.out; omega
          clear h1 h2 h3 h4 hcell kcell
          go_wp2
          go_quiet (first | (go_at_call 72; refine Calls.quiet_of_same (spec_sign _ _)))
          go_wp2
          go_roundw
          case rel => exact ⟨q + 1, by omega, by go_num, by rw [HR.out]; congr 1; omega, below_dn hbel _⟩
          case measure => simp [intOf]; omega
        · have hqq : q = k := by omega
          subst hqq
          go_wp2
          go_roundw
          case rel => exact ⟨q + 1, by omega, by go_num, by rw [HS.out], hbel⟩
          case measure => simp [intOf]; omega
    · have hkk : k = xs.length := by omega
      subst hkk
      go_wp2
      go_ret
      exact ⟨rfl, hbel⟩

set_option maxHeartbeats 1000000 in
theorem spec_AgreeOf (v : Value) (xs : List Int) (u : Value) (ys : List Int) (w : World) (hr : Reads w v xs) (ks : Reads w u ys) :
    Calls Try.prog 33 #[v, u] w fun e w' => e = .returned (.tuple #[.int .i64 (agreeV xs ys), .bool (twoB xs ys)]) ∧ Below w.heap.size w w' := by
  cases h : twoB xs ys
  · have hz : Hid (agreeV xs ys = 0) := if_neg (by rw [h]; simp)
    go_enter Try.func33, Try.ntmps33
    go_wp2_with fail
    refine (spec_validTwo _ xs _ ys _ hr ks).mono ?_; rintro e w1 ⟨rfl, rfl⟩
    go_wp2_with fail
    go_ret2
    exact ⟨by rw [hz.out]; rfl, Below.refl _ _⟩
  · have hz : Hid (agreeV xs ys = agSum xs ys xs.length) := if_pos h
    go_enter Try.func33, Try.ntmps33
    go_wp2_with fail
    refine (spec_validTwo _ xs _ ys _ hr ks).mono ?_; rintro e w1 ⟨rfl, rfl⟩
    go_wp2_with fail
    refine (spec_kendall _ xs _ ys _ hr ks h).mono ?_; rintro e w1 ⟨rfl, hb⟩
    go_wp2_with fail
    go_ret2
    exact ⟨by rw [hz.out]; rfl, hb⟩

set_option maxHeartbeats 1000000 in
theorem impl_AgreeOf (v : Value) (xs : List Int) (u : Value) (ys : List Int) (w : World) (hr : Reads w v xs) (ks : Reads w u ys) :
    Calls Try.prog 34 #[v, u] w fun e w' => e = .returned (.tuple #[.int .i64 (agreeV xs ys), .bool (twoB xs ys)]) ∧ Below w.heap.size w w' := by
  cases h : twoB xs ys
  · have hz : Hid (agreeV xs ys = 0) := if_neg (by rw [h]; simp)
    go_enter Try.func34, Try.ntmps34
    go_wp2_with fail
    refine (impl_bothData _ xs _ ys _ hr ks).mono ?_; rintro e w1 ⟨rfl, hb⟩
    go_wp2_with fail
    go_ret2
    exact ⟨by rw [hz.out]; rfl, hb⟩
  · have hz : Hid (agreeV xs ys = agSum xs ys xs.length) := if_pos h
    obtain ⟨dx, dy, lxy⟩ := two_of h
    have lx := data_len dx
    have bx := Lib.hid (fun j hj => data_nth dx j hj)
    have by_ := Lib.hid (fun j hj => data_nth dy j hj)
    clear dx dy
    have LXY := Lib.hid lxy
    clear lxy
    have hr0 := hr
    have ks0 := ks
    obtain ⟨ao, cap, rfl, hl, hc, hcell⟩ := hr
    obtain ⟨bo, dap, rfl, kl, kc, kcell⟩ := ks
    go_enter Try.func34, Try.ntmps34
    go_wp2_with fail
    refine (impl_bothData _ xs _ ys _ hr0 ks0).mono ?_; rintro e w1 ⟨rfl, hb⟩
    go_wp2_with fail
    clear hr0 ks0
    go_loopw [6, 15] (fun s i wr => ∃ k : Nat, k ≤ xs.length ∧ i = .int .i64 k ∧ s = .int .i64 (agSum xs ys k) ∧ Below w.heap.size w wr) (fun _ i _ => xs.length - (intOf i).toNat)
    case atStart => exact ⟨0, Nat.zero_le _, rfl, rfl, hb⟩
    case round =>
      obtain ⟨k, hk, rfl, rfl, hbel⟩ := hrel
      have hsb := agSum_bd xs ys k (by omega)
      by_cases hlt : k < xs.length
      · rcases hcell with h0 | ⟨b, o, rfl, hcell⟩
        · exfalso; rw [h0] at hlt; simp at hlt
        rcases kcell with h0 | ⟨b2, o2, rfl, kcell⟩
        · exfalso; rw [LXY.out, h0] at hlt; simp at hlt
        have HS : Hid (agSum xs ys (k + 1) = agSum xs ys k + agRow xs ys k k) := rfl
        generalize hS : agSum xs ys k = S at *
        clear hS
        go_wp2
        go_loopw [6, 19] (fun s j wr => ∃ q : Nat, q ≤ k ∧ j = .int .i64 q ∧ s = .int .i64 (S + agRow xs ys k q) ∧ Below w.heap.size w wr) (fun _ j _ => k - (intOf j).toNat)
        case atStart => exact ⟨0, Nat.zero_le _, rfl, by simp [agRow, sumTo], hbel⟩
        case round =>
          obtain ⟨q, hq, rfl, rfl, hbel⟩ := hrel
          have hrb := agRow_bd xs ys k q
          by_cases hql : q < k
          · have h1 := hcell k hlt
            have h2 := hcell q (by omega)
            have h3 := kcell k (by have := LXY.out; omega)
            have h4 := kcell q (by have := LXY.out; omega)
            have ca : _ = _ := (hbel.cell (p := ⟨b, o + k, none⟩) (World.block_lt_of_cell? _ _ h1)).trans h1
            have cb : _ = _ := (hbel.cell (p := ⟨b, o + q, none⟩) (World.block_lt_of_cell? _ _ h2)).trans h2
            have cc : _ = _ := (hbel.cell (p := ⟨b2, o2 + k, none⟩) (World.block_lt_of_cell? _ _ h3)).trans h3
            have cd : _ = _ := (hbel.cell (p := ⟨b2, o2 + q, none⟩) (World.block_lt_of_cell? _ _ h4)).trans h4
            have b1 := bx.out k hlt
            have b2' := bx.out q (by omega)
            have b3 := by_.out k (by have := LXY.out; omega)
            have b4 := by_.out q (by have := LXY.out; omega)
            have HR : Hid (agRow xs ys k (q + 1) = agRow xs ys k q + sgn (nth xs k - nth xs q) * sgn (nth ys k - nth ys q)) := rfl
            have hsg := agOne_bd xs ys k q
            unfold agOne at hsg
            have i1 : (k : Int) < (xs.length : Int) := by omega
            have i2 : (q : Int) < (xs.length : Int) := by omega
            have i3 : (q : Int) < (k : Int) := by omega
            have i4 : (k : Int) < (ys.length : Int) := by have := LXY.out; omega
            have i5 : (q : Int) < (ys.length : Int) := by have := LXY.out; omega
            clear h1 h2 h3 h4 hcell kcell
            go_wp2
            go_quiet (first | (go_at_call 58; refine Calls.quiet_of_same (impl_sign _ _)))
            go_wp2
            go_roundw
            case rel => exact ⟨q + 1, by omega, by go_num, by rw [HR.out]; congr 1; omega, below_dn hbel _⟩
            case measure => simp [intOf]; omega
          · have hqq : q = k := by omega
            subst hqq
            go_wp2
            go_roundw
            case rel => exact ⟨q + 1, by omega, by go_num, by rw [HS.out], hbel⟩
            case measure => simp [intOf]; omega
      · have hkk : k = xs.length := by omega
        subst hkk
        go_wp2
        go_ret2
        exact ⟨by rw [hz.out]; rfl, hbel⟩
end Go.Proofs.Ytolepfgabbmpdaa
