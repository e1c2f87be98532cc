/-
  Contracts of FlipChance, both packages.
-/
import Derived.Test.YtolepfgabbmpdaaPairs
import Derived.Test.YtolepfgabbmpdaaBits
namespace Go.Proofs.Ytolepfgabbmpdaa
open Go.RowKit
set_option linter.unusedVariables false

theorem two_bdF (j : Nat) (hj : j ≤ 32) : 1 ≤ (2 : Int) ^ j ∧ (2 : Int) ^ j ≤ 4294967296 := by
  have h3 : ∀ j : Fin 33, 1 ≤ (2 : Int) ^ j.val ∧ (2 : Int) ^ j.val ≤ 4294967296 := by decide
  exact h3 ⟨j, by omega⟩
theorem sumTo_absF (f : Nat → Int) (M : Int) : ∀ n : Nat, (∀ k, k < n → -M ≤ f k ∧ f k ≤ M) → -(n * M) ≤ sumTo f n ∧ sumTo f n ≤ n * M := by
  intro n
  induction n with
  | zero => intro _; simp [sumTo_zero]
  | succ n ih =>
    intro h
    have h1 := ih (fun k hk => h k (by omega))
    have h2 := h n (by omega)
    rw [sumTo_succ]
    have e : ((n + 1 : Nat) : Int) * M = n * M + M := by rw [Int.natCast_add, Int.add_mul]; simp
    omega

/-- The sum of the first k numbers; with signs by a set; the choices of signs with at least a sum. -/
def totTo (zs : List Int) (k : Nat) : Int := sumTo (nth zs) k
def sgOne (zs : List Int) (set i : Nat) : Int := if bitN set i = 1 then -nth zs i else nth zs i
def sgTo (zs : List Int) (set k : Nat) : Int := sumTo (sgOne zs set) k
def flipsF : List Int → Int → Int
  | [], s => if s ≤ 0 then 1 else 0
  | x :: l, s => flipsF l (s - x) + flipsF l (s + x)
def flipOne (zs : List Int) (s : Int) (set : Nat) : Int := if s ≤ sgTo zs set zs.length then 1 else 0

theorem sumTo_pairs (f : Nat → Int) : ∀ M, sumTo f (2 * M) = sumTo (fun t => f (2 * t) + f (2 * t + 1)) M := by
  intro M
  induction M with
  | zero => rfl
  | succ M ih => rw [show 2 * (M + 1) = 2 * M + 1 + 1 by omega, sumTo_succ, sumTo_succ, ih, sumTo_succ]; omega
theorem sgTo_cons (x : Int) (l : List Int) (t b : Nat) (hb : b < 2) : sgTo (x :: l) (2 * t + b) (l.length + 1) = (if b = 1 then -x else x) + sgTo l t l.length := by
  unfold sgTo
  rw [sumTo_front]
  congr 1
  · unfold sgOne bitN
    have : (2 * t + b) / 2 ^ 0 % 2 = b := by simp; omega
    rw [this]; rfl
  · refine sumTo_congr _ _ _ (fun k hk => ?_)
    unfold sgOne bitN
    have e : (2 * t + b) / 2 ^ (k + 1) = t / 2 ^ k := by
      rw [Nat.pow_succ, Nat.mul_comm (2 ^ k) 2, ← Nat.div_div_eq_div_mul]
      congr 1; omega
    rw [e]; rfl
theorem flips_sets : ∀ (zs : List Int) (s : Int), flipsF zs s = sumTo (flipOne zs s) (2 ^ zs.length) := by
  intro zs
  induction zs with
  | nil => intro s; simp [flipsF, sumTo, flipOne, sgTo]
  | cons x l ih =>
    intro s
    show flipsF l (s - x) + flipsF l (s + x) = sumTo (flipOne (x :: l) s) (2 ^ (l.length + 1))
    rw [ih, ih, ← sumTo_add, Nat.pow_succ, Nat.mul_comm, sumTo_pairs]
    refine sumTo_congr _ _ _ (fun t ht => ?_)
    have h0 : sgTo (x :: l) (2 * t) (l.length + 1) = x + sgTo l t l.length := sgTo_cons x l t 0 (by omega)
    have h1 : sgTo (x :: l) (2 * t + 1) (l.length + 1) = -x + sgTo l t l.length := sgTo_cons x l t 1 (by omega)
    simp only [flipOne, List.length_cons, h0, h1]
    congr 1
    · by_cases h : s - x ≤ sgTo l t l.length
      · rw [if_pos h, if_pos (by omega)]
      · rw [if_neg h, if_neg (by omega)]
    · by_cases h : s + x ≤ sgTo l t l.length
      · rw [if_pos h, if_pos (by omega)]
      · rw [if_neg h, if_neg (by omega)]
theorem flipOne_bd (zs : List Int) (s : Int) (t : Nat) : 0 ≤ flipOne zs s t ∧ flipOne zs s t ≤ 1 := by unfold flipOne; split <;> omega
theorem flipsF_bd (zs : List Int) (s : Int) (h : zs.length ≤ 10) : 0 ≤ flipsF zs s ∧ flipsF zs s ≤ 1024 := by
  rw [flips_sets]
  have h1 := sumTo_bd (flipOne zs s) 1 (2 ^ zs.length) (fun t _ => flipOne_bd zs s t)
  have h2 : 2 ^ zs.length ≤ 2 ^ 10 := Nat.pow_le_pow_right (by omega) h
  omega

set_option maxHeartbeats 400000 in
theorem spec_sum (v : Value) (zs : List Int) (w : World) (hr : Reads w v zs) (hv : dataB zs = true) :
    Calls Try.prog 65 #[v] w fun e w' => e = .returned (.int .i64 (totTo zs zs.length)) ∧ w = w' := by
  have hlen := data_len hv
  have hno := Lib.hid (fun j hj => data_nth hv j hj)
  have hbd : ∀ k, k ≤ zs.length → -2000 ≤ totTo zs k ∧ totTo zs k ≤ 2000 := fun k hk => by
    have := sumTo_absF (nth zs) 200 k (fun j hj => data_nth hv j (by omega))
    unfold totTo; omega
  have HB := Lib.hid hbd
  clear hbd hv
  obtain ⟨ao, cap, rfl, hl, hc, hcell⟩ := hr
  go_enter Try.func65, Try.ntmps65
  go_wp2
  go_loop [3, 4] (fun s i => ∃ k : Nat, k ≤ zs.length ∧ i = .int .i64 k ∧ s = .int .i64 (totTo zs k)) (fun _ i => zs.length - (intOf i).toNat)
  case atStart => exact ⟨0, Nat.zero_le _, rfl, rfl⟩
  case round =>
    obtain ⟨k, hk, rfl, rfl⟩ := hrel
    have hb := HB.out k hk
    by_cases hlt : k < zs.length
    · rcases hcell with h0 | ⟨b, o, rfl, hcell⟩
      · exfalso; rw [h0] at hlt; simp at hlt
      · have h1 := hcell k hlt
        have hx := hno.out k hlt
        have HS : Hid (totTo zs (k + 1) = totTo zs k + nth zs k) := rfl
        have i1 : (k : Int) < (zs.length : Int) := by omega
        clear hcell
        go_wp2
        go_round
        case rel => exact ⟨k + 1, by omega, by go_num, by rw [HS.out]⟩
        case measure => simp [intOf]; omega
    · have e : Hid (k = zs.length) := by show _ = _; omega
      clear hcell
      go_wp2
      go_ret
      exact ⟨ret_int (by rw [e.out]), rfl⟩

set_option maxHeartbeats 400000 in
theorem impl_sum (v : Value) (zs : List Int) (w : World) (hr : Reads w v zs) (hv : dataB zs = true) :
    Calls Try.prog 67 #[v] w fun e w' => e = .returned (.int .i64 (totTo zs zs.length)) ∧ w = w' := by
  have hlen := data_len hv
  have hno := Lib.hid (fun j hj => data_nth hv j hj)
  have hbd : ∀ k, k ≤ zs.length → -2000 ≤ totTo zs k ∧ totTo zs k ≤ 2000 := fun k hk => by
    have := sumTo_absF (nth zs) 200 k (fun j hj => data_nth hv j (by omega))
    unfold totTo; omega
  have HB := Lib.hid hbd
  clear hbd hv
  obtain ⟨ao, cap, rfl, hl, hc, hcell⟩ := hr
  go_enter Try.func67, Try.ntmps67
  go_wp2
  go_loop [3, 8] (fun s i => ∃ k : Nat, k ≤ zs.length ∧ i = .int .i64 k ∧ s = .int .i64 (totTo zs k)) (fun _ i => zs.length - (intOf i).toNat)
  case atStart => exact ⟨0, Nat.zero_le _, rfl, rfl⟩
  case round =>
    obtain ⟨k, hk, rfl, rfl⟩ := hrel
    have hb := HB.out k hk
    by_cases hlt : k < zs.length
    · rcases hcell with h0 | ⟨b, o, rfl, hcell⟩
      · exfalso; rw [h0] at hlt; simp at hlt
      · have h1 := hcell k hlt
        have hx := hno.out k hlt
        have HS : Hid (totTo zs (k + 1) = totTo zs k + nth zs k) := rfl
        have i1 : (k : Int) < (zs.length : Int) := by omega
        clear hcell
        go_wp2
        go_round
        case rel => exact ⟨k + 1, by omega, by go_num, by rw [HS.out]⟩
        case measure => simp [intOf]; omega
    · have e : Hid (k = zs.length) := by show _ = _; omega
      clear hcell
      go_wp2
      go_ret
      exact ⟨ret_int (by rw [e.out]), rfl⟩

theorem spec_powerF (n : Nat) (w : World) (h1 : n ≤ 32) :
    Calls Try.prog 66 #[.int .i64 n] w fun e w' => e = .returned (.int .i64 (2 ^ n)) ∧ w = w' := by
  go_enter Try.func66, Try.ntmps66
  go_wp2
  go_loop [0, 3] (fun i o => ∃ j : Nat, j ≤ n ∧ i = .int .i64 ((n : Int) - j) ∧ o = .int .i64 (2 ^ j)) (fun i _ => (intOf i).toNat)
  case atStart => exact ⟨0, Nat.zero_le _, by simp, by simp⟩
  case round =>
    obtain ⟨j, hj, rfl, rfl⟩ := hrel
    have hbd := two_bdF j (by omega)
    by_cases hlt : j < n
    · go_wp2
      go_round
      case rel => exact ⟨j + 1, by omega, by go_num, by rw [Int.pow_succ, Int.mul_comm]⟩
      case measure => simp [intOf]; omega
    · go_wp2
      go_ret
      exact ⟨ret_int (by have : j = n := by omega
                         rw [this]), rfl⟩

set_option maxHeartbeats 1000000 in
theorem spec_flips : ∀ (zs : List Int) (v : Value) (s : Int) (w : World), Reads w v zs → zs.length ≤ 10 → (∀ j, j < zs.length → -200 ≤ nth zs j ∧ nth zs j ≤ 200) → -1000000 + 200 * zs.length ≤ s ∧ s ≤ 1000000 - 200 * zs.length →
    Calls Try.prog 64 #[v, .int .i64 s] w fun e w' => e = .returned (.int .i64 (flipsF zs s)) ∧ ∃ m, w' = w.drewN m := by
  intro zs
  induction zs with
  | nil =>
    intro v s w hr _ _ hs
    obtain ⟨ao, cap, rfl, hl, hc, hcell⟩ := hr
    clear hcell
    by_cases h : s ≤ 0
    · have h' : decide (s ≤ 0) = true := decide_eq_true h
      have hz : Hid (flipsF [] s = 1) := if_pos h
      go_enter Try.func64, Try.ntmps64
      go_wp2
      go_ret
      exact ⟨ret_int hz.out.symm, 0, rfl⟩
    · have h' : decide (s ≤ 0) = false := decide_eq_false h
      have hz : Hid (flipsF [] s = 0) := if_neg h
      go_enter Try.func64, Try.ntmps64
      go_wp2
      go_ret
      exact ⟨ret_int hz.out.symm, 0, rfl⟩
  | cons x l ih =>
    intro v s w hr hlen hno hs
    have hx := hno 0 (by simp)
    have hx : -200 ≤ x ∧ x ≤ 200 := hx
    simp only [List.length_cons] at hlen hs
    have hR : ∀ b o cap, v = .slice (some ⟨b, o, none⟩) (l.length + 1) cap → Reads w (.slice (if cap = 1 then some ⟨b, o, none⟩ else some ⟨b, o + 1, none⟩) l.length (cap - 1)) l := by
      intro b o cap hv
      obtain ⟨ao, cap', rfl, hl, hc, hcell⟩ := hr
      injection hv with e1 e2 e3
      subst e1 e3
      simp only [List.length_cons] at hl
      by_cases hc1 : cap' = 1
      · have hl0 : l = [] := List.eq_nil_of_length_eq_zero (by omega)
        exact ⟨_, _, rfl, by omega, by omega, .inl hl0⟩
      rw [if_neg hc1]
      refine ⟨_, _, rfl, by omega, by omega, .inr ⟨b, o + 1, rfl, fun j hj => ?_⟩⟩
      rcases hcell with h | ⟨b', o', e, hcell⟩
      · cases h
      · injection e with e; injection e with e1 e2; subst e1 e2
        have := hcell (j + 1) (by simp; omega)
        rw [show o + 1 + j = o + (j + 1) by omega]; exact this
    have hIH : ∀ b o cap, v = .slice (some ⟨b, o, none⟩) (l.length + 1) cap → ∀ (t : Int) (k : Nat), -1000000 + 200 * l.length ≤ t ∧ t ≤ 1000000 - 200 * l.length →
        Calls Try.prog 64 #[.slice (if cap = 1 then some ⟨b, o, none⟩ else some ⟨b, o + 1, none⟩) l.length (cap - 1), .int .i64 t] (w.drewN k) fun e w'' => e = .returned (.int .i64 (flipsF l t)) ∧ ∃ m, w'' = w.drewN m := by
      intro b o cap hv t k ht
      refine Calls.quiet_of (ih _ t (w.drewN k) ((hR b o cap hv).keep (below_dn (Below.refl _ _) k)) (by omega) (fun j hj => ?_) ht)
      exact hno (j + 1) (by simp; omega)
    have hb1 := flipsF_bd l (s - x) (by omega)
    have hb2 := flipsF_bd l (s + x) (by omega)
    have HZ : Hid (flipsF l (s - x) + flipsF l (s + x) = flipsF (x :: l) s) := rfl
    obtain ⟨ao, cap, rfl, hl, hc, hcell⟩ := hr
    simp only [List.length_cons] at hl hIH hcell
    rcases hcell with h | ⟨b, o, rfl, hcell⟩
    · cases h
    have c0 := hcell 0 (by omega)
    rw [Nat.add_zero] at c0
    rw [show nth (x :: l) 0 = x from rfl] at c0
    have IH := Lib.hid (hIH b o cap rfl)
    clear hIH hcell hR hno ih
    unfold maxLen at hc
    simp only [List.length_cons]
    go_enter Try.func64, Try.ntmps64
    go_wp2
    have u1 : IntKind.i64.wrap (s - x) = s - x := by rw [IntKind.wrap_i64]; omega
    have u2 : IntKind.i64.wrap (s + x) = s + x := by rw [IntKind.wrap_i64]; omega
    go_quiet (first | (go_at_call 64; refine IH.out _ _ (by omega)))
    go_wp2
    all_goals
      go_ret
      exact ⟨ret_int HZ.out, _, rfl⟩

/-- FlipChance. -/
def flipA (zs : List Int) : Int := if dataB zs = true then flipsF zs (totTo zs zs.length) else -1
def flipB (zs : List Int) : Int := if dataB zs = true then 2 ^ zs.length else -1

set_option maxHeartbeats 1000000 in
theorem spec_FlipChance (v : Value) (zs : List Int) (w : World) (hr : Reads w v zs) :
    Calls Try.prog 41 #[v] w fun e w' => e = .returned (.tuple #[.int .i64 (flipA zs), .int .i64 (flipB zs)]) ∧ Below w.heap.size w w' := by
  cases h : dataB zs
  · have hz : Hid (flipA zs = -1 ∧ flipB zs = -1) := ⟨if_neg (by rw [h]; simp), if_neg (by rw [h]; simp)⟩
    go_enter Try.func41, Try.ntmps41
    go_wp2_with fail
    refine (spec_validData v zs _ hr).mono ?_; rintro e w1 ⟨rfl, rfl⟩
    go_wp2_with fail
    go_ret2
    exact ⟨ret_int2 hz.out.1.symm hz.out.2.symm, Below.refl _ _⟩
  · have hz : Hid (flipA zs = flipsF zs (totTo zs zs.length) ∧ flipB zs = 2 ^ zs.length) := ⟨if_pos h, if_pos h⟩
    have hlen := data_len h
    have hbd : -2000 ≤ totTo zs zs.length ∧ totTo zs zs.length ≤ 2000 := by
      have := sumTo_absF (nth zs) 200 zs.length (fun j hj => data_nth h j hj)
      unfold totTo; omega
    have hfl := spec_flips zs v (totTo zs zs.length) w hr hlen (fun j hj => data_nth h j hj) (by omega)
    have hsum := spec_sum v zs w hr h
    have hr' := hr
    obtain ⟨ao, cap, rfl, hl, hc, hcell⟩ := hr'
    clear hcell
    go_enter Try.func41, Try.ntmps41
    go_wp2_with fail
    refine (spec_validData _ zs _ hr).mono ?_; rintro e w1 ⟨rfl, rfl⟩
    go_wp2_with fail
    refine hsum.mono ?_; rintro e w1 ⟨rfl, rfl⟩
    go_wp2_with fail
    refine hfl.mono ?_; rintro e w1 ⟨rfl, m, rfl⟩
    go_wp2_with fail
    refine (spec_powerF zs.length _ (by omega)).mono ?_; rintro e w1 ⟨rfl, rfl⟩
    go_wp2_with fail
    go_ret2
    exact ⟨ret_int2 hz.out.1.symm hz.out.2.symm, below_dn (Below.refl _ _) _⟩

theorem sgTo_bd {zs : List Int} (hv : dataB zs = true) (set k : Nat) (hk : k ≤ zs.length) : -2000 ≤ sgTo zs set k ∧ sgTo zs set k ≤ 2000 := by
  have hlen := data_len hv
  have := sumTo_absF (sgOne zs set) 200 k (fun j hj => by
    have := data_nth hv j (by omega)
    unfold sgOne; split <;> omega)
  unfold sgTo; omega

set_option maxHeartbeats 1000000 in
theorem impl_FlipChance (v : Value) (zs : List Int) (w : World) (hr : Reads w v zs) :
    Calls Try.prog 42 #[v] w fun e w' => e = .returned (.tuple #[.int .i64 (flipA zs), .int .i64 (flipB zs)]) ∧ Below w.heap.size w w' := by
  cases h : dataB zs
  · have hz : Hid (flipA zs = -1 ∧ flipB zs = -1) := ⟨if_neg (by rw [h]; simp), if_neg (by rw [h]; simp)⟩
    go_enter Try.func42, Try.ntmps42
    go_wp2_with fail
    refine (impl_ValidData v zs _ hr).mono ?_; rintro e w1 ⟨rfl, hb⟩
    go_wp2_with fail
    go_ret2
    exact ⟨ret_int2 hz.out.1.symm hz.out.2.symm, hb⟩
  · have hz : Hid (flipA zs = sumTo (flipOne zs (totTo zs zs.length)) (2 ^ zs.length) ∧ flipB zs = 2 ^ zs.length) := by
      refine ⟨?_, if_pos h⟩
      rw [← flips_sets]; exact if_pos h
    have hlen := data_len h
    have hno := Lib.hid (fun j hj => data_nth h j hj)
    have hsb := Lib.hid (fun set k hk => sgTo_bd h set k hk)
    have htot : -2000 ≤ totTo zs zs.length ∧ totTo zs zs.length ≤ 2000 := by
      have := sumTo_absF (nth zs) 200 zs.length (fun j hj => data_nth h j hj)
      unfold totTo; omega
    have hpw := two_bdF zs.length (by omega)
    have hpn : 2 ^ zs.length ≤ 1024 := Nat.pow_le_pow_right (show 0 < 2 by omega) hlen
    have hcast : (2 : Int) ^ zs.length = ((2 ^ zs.length : Nat) : Int) := by simp
    have HC := Lib.hid hcast
    have hpw2 : (2 : Int) ^ zs.length ≤ 1024 := by rw [hcast]; omega
    clear hcast
    have HSUM := Lib.hid (fun wx hx => impl_sum v zs wx hx h)
    have HR := Lib.hid hr
    obtain ⟨ao, cap, rfl, hl, hc, hcell⟩ := hr
    go_enter Try.func42, Try.ntmps42
    go_wp2_with fail
    refine (impl_ValidData _ zs _ HR.out).mono ?_; rintro e w1 ⟨rfl, hb⟩
    go_wp2_with fail
    go_loopw [4, 15] (fun m i wr => ∃ k : Nat, k ≤ 2 ^ zs.length ∧ i = .int .i64 k ∧ m = .int .i64 (sumTo (flipOne zs (totTo zs zs.length)) k) ∧ Below w.heap.size w wr) (fun _ i _ => 2 ^ zs.length - (intOf i).toNat)
    case atStart => exact ⟨0, Nat.zero_le _, rfl, rfl, hb⟩
    case round =>
      obtain ⟨k, hk, rfl, rfl, hbel⟩ := hrel
      have hmb := sumTo_bd (flipOne zs (totTo zs zs.length)) 1 k (fun t _ => flipOne_bd zs _ t)
      have HM : Hid (sumTo (flipOne zs (totTo zs zs.length)) (k + 1) = sumTo (flipOne zs (totTo zs zs.length)) k + flipOne zs (totTo zs zs.length) k) := rfl
      by_cases hlt : k < 2 ^ zs.length
      · have hlt' : (k : Int) < (2 : Int) ^ zs.length := by rw [HC.out]; omega
        generalize hM : sumTo (flipOne zs (totTo zs zs.length)) k = M at *
        clear hM
        go_wp2_with fail
        go_loopw [6, 20] (fun n j wr => ∃ p : Nat, p ≤ zs.length ∧ j = .int .i64 p ∧ n = .int .i64 (sgTo zs k p) ∧ Below w.heap.size w wr) (fun _ j _ => zs.length - (intOf j).toNat)
        case atStart => exact ⟨0, Nat.zero_le _, rfl, rfl, hbel⟩
        case round =>
          obtain ⟨p, hp, rfl, rfl, hbel⟩ := hrel
          have hs1 := hsb.out k p hp
          by_cases hpl : p < zs.length
          · rcases hcell with h0 | ⟨b, o, rfl, hcell⟩
            · exfalso; rw [h0] at hpl; simp at hpl
            · have h1 := hcell p hpl
              have ca : _ = _ := (hbel.cell (p := ⟨b, o + p, none⟩) (World.block_lt_of_cell? _ _ h1)).trans h1
              have hx := hno.out p hpl
              have hbit := and_bit k p
              have i1 : (p : Int) < (zs.length : Int) := by omega
              clear h1 hcell
              by_cases hb1 : bitN k p = 1
              · have hb1' : (((bitN k p : Nat) : Int) == 1) = true := by rw [hb1]; rfl
                have HS : Hid (sgTo zs k (p + 1) = sgTo zs k p + -nth zs p) := by
                  show sgTo zs k p + sgOne zs k p = _
                  unfold sgOne; rw [if_pos hb1]
                clear hb1
                go_wp2
                go_roundw
                case rel => exact ⟨p + 1, by omega, by go_num, by rw [HS.out], hbel⟩
                case measure => simp [intOf]; omega
              · have hb1' : (((bitN k p : Nat) : Int) == 1) = false := by simp; omega
                have HS : Hid (sgTo zs k (p + 1) = sgTo zs k p + nth zs p) := by
                  show sgTo zs k p + sgOne zs k p = _
                  unfold sgOne; rw [if_neg hb1]
                clear hb1
                go_wp2
                go_roundw
                case rel => exact ⟨p + 1, by omega, by go_num, by rw [HS.out], hbel⟩
                case measure => simp [intOf]; omega
          · have hpp : p = zs.length := by omega
            subst hpp
            clear hcell
            by_cases hge : totTo zs zs.length ≤ sgTo zs k zs.length
            · have hge' : decide (totTo zs zs.length ≤ sgTo zs k zs.length) = true := decide_eq_true hge
              have HM2 : Hid (sumTo (flipOne zs (totTo zs zs.length)) (k + 1) = M + 1) := by show _ = _; rw [HM.out]; unfold flipOne; rw [if_pos hge]
              go_wp2_with fail
              refine (HSUM.out _ (HR.out.keep hbel)).mono ?_; rintro e w5 ⟨rfl, rfl⟩
              go_wp2
              go_roundw
              case rel => exact ⟨k + 1, by omega, by go_num, by rw [HM2.out], hbel⟩
              case measure => simp [intOf]; omega
            · have hge' : decide (totTo zs zs.length ≤ sgTo zs k zs.length) = false := decide_eq_false hge
              have HM2 : Hid (sumTo (flipOne zs (totTo zs zs.length)) (k + 1) = M) := by show _ = _; rw [HM.out]; unfold flipOne; rw [if_neg hge, Int.add_zero]
              go_wp2_with fail
              refine (HSUM.out _ (HR.out.keep hbel)).mono ?_; rintro e w5 ⟨rfl, rfl⟩
              go_wp2
              go_roundw
              case rel => exact ⟨k + 1, by omega, by go_num, by rw [HM2.out], hbel⟩
              case measure => simp [intOf]; omega
      · have hkk : Hid (k = 2 ^ zs.length) := by show _ = _; omega
        have hge : ¬ (k : Int) < (2 : Int) ^ zs.length := by rw [HC.out]; omega
        clear hcell
        go_wp2
        go_quiet (fail)
        go_wp2
        go_ret2
        exact ⟨ret_int2 (by rw [hz.out.1, hkk.out]) hz.out.2.symm, below_dn hbel _⟩
end Go.Proofs.Ytolepfgabbmpdaa
