/-
  Contracts of impl.apart, spec.pathsFrom, and both PathsWithin.
-/
import Derived.Test.YtohdbbdolmgaaaaNum
import Derived.Handy
namespace Go.Proofs.Ytohdbbdolmgaaaa
open Go.RowKit

theorem impl_apart (i k m n : Int) (w : World) (_hi : 0 ≤ i ∧ i ≤ 1000) (_hk : 0 ≤ k ∧ k ≤ 1000) (_hm : 0 ≤ m ∧ m ≤ 1000) (_hn : 0 ≤ n ∧ n ≤ 1000) :
    Calls Try.prog 60 #[.int .i64 i, .int .i64 k, .int .i64 m, .int .i64 n] w fun e w' => e = .returned (.int .i64 (max (i * n - k * m) (-(i * n - k * m)))) ∧ w = w' := by
  have h1 := mul_bd i n 1000 1000 (by omega) (by omega) (by omega) (by omega)
  have h2 := mul_bd k m 1000 1000 (by omega) (by omega) (by omega) (by omega)
  go_enter Try.func60, Try.ntmps60
  go_wp2
  all_goals
    go_ret
    exact ⟨ret_int (by omega), rfl⟩

/-- The ways from 0 and 0 to i and k. -/
def fwd (m n d : Int) (i k : Nat) : Int :=
  if d < max ((i : Int) * n - k * m) (-((i : Int) * n - k * m)) then 0
  else match i, k with
    | 0, 0 => 1
    | i + 1, 0 => fwd m n d i 0
    | 0, k + 1 => fwd m n d 0 k
    | i + 1, k + 1 => fwd m n d i (k + 1) + fwd m n d (i + 1) k
termination_by i + k

theorem one_le_two_pow (s : Nat) : (1 : Int) ≤ 2 ^ s := by
  induction s with
  | zero => simp
  | succ s ih => rw [Int.pow_succ]; omega
theorem fwd_out (m n d : Int) (i k : Nat) (h : d < max ((i : Int) * n - k * m) (-((i : Int) * n - k * m))) : fwd m n d i k = 0 := by
  unfold fwd; rw [if_pos h]
theorem fwd_00 (m n d : Int) (h : 0 ≤ d) : fwd m n d 0 0 = 1 := by
  unfold fwd; rw [if_neg (by simp; omega)]
theorem fwd_i0 (m n d : Int) (i : Nat) (h : ¬ d < max (((i + 1 : Nat) : Int) * n - (0 : Nat) * m) (-(((i + 1 : Nat) : Int) * n - (0 : Nat) * m))) : fwd m n d (i + 1) 0 = fwd m n d i 0 := by
  rw [fwd, if_neg h]
theorem fwd_0k (m n d : Int) (k : Nat) (h : ¬ d < max (((0 : Nat) : Int) * n - (k + 1 : Nat) * m) (-(((0 : Nat) : Int) * n - (k + 1 : Nat) * m))) : fwd m n d 0 (k + 1) = fwd m n d 0 k := by
  rw [fwd, if_neg h]
theorem fwd_ik (m n d : Int) (i k : Nat) (h : ¬ d < max (((i + 1 : Nat) : Int) * n - (k + 1 : Nat) * m) (-(((i + 1 : Nat) : Int) * n - (k + 1 : Nat) * m))) : fwd m n d (i + 1) (k + 1) = fwd m n d i (k + 1) + fwd m n d (i + 1) k := by
  rw [fwd, if_neg h]
theorem fwd_ik' (m n d : Int) (i k : Nat) (hi : 0 < i) (hk : 0 < k) (h : ¬ d < max ((i : Int) * n - k * m) (-((i : Int) * n - k * m))) : fwd m n d i k = fwd m n d (i - 1) k + fwd m n d i (k - 1) := by
  obtain ⟨i, rfl⟩ : ∃ x, i = x + 1 := ⟨i - 1, by omega⟩
  obtain ⟨k, rfl⟩ : ∃ x, k = x + 1 := ⟨k - 1, by omega⟩
  exact fwd_ik m n d i k h
theorem fwd_0k' (m n d : Int) (i k : Nat) (hi : i < 1) (hk : 0 < k) (h : ¬ d < max ((i : Int) * n - k * m) (-((i : Int) * n - k * m))) : fwd m n d i k = fwd m n d i (k - 1) := by
  obtain rfl : i = 0 := by omega
  obtain ⟨k, rfl⟩ : ∃ x, k = x + 1 := ⟨k - 1, by omega⟩
  exact fwd_0k m n d k h
theorem fwd_i0' (m n d : Int) (i k : Nat) (hi : 0 < i) (hk : k < 1) (h : ¬ d < max ((i : Int) * n - k * m) (-((i : Int) * n - k * m))) : fwd m n d i k = fwd m n d (i - 1) k := by
  obtain rfl : k = 0 := by omega
  obtain ⟨i, rfl⟩ : ∃ x, i = x + 1 := ⟨i - 1, by omega⟩
  exact fwd_i0 m n d i h
theorem fwd_00' (m n d : Int) (i k : Nat) (hi : i < 1) (hk : k < 1) (h : 0 ≤ d) : fwd m n d i k = 1 := by
  obtain rfl : k = 0 := by omega
  obtain rfl : i = 0 := by omega
  exact fwd_00 m n d h
theorem fwd_bd (m n d : Int) (hd : 0 ≤ d) : ∀ (s i k : Nat), i + k ≤ s → 0 ≤ fwd m n d i k ∧ fwd m n d i k ≤ 2 ^ s := by
  intro s
  induction s with
  | zero =>
    intro i k h
    have : i = 0 := by omega
    have : k = 0 := by omega
    subst i; subst k
    rw [fwd_00 m n d hd]; simp
  | succ s ih =>
    intro i k h
    have e : (2 : Int) ^ (s + 1) = 2 ^ s * 2 := Int.pow_succ 2 s
    have p1 := one_le_two_pow s
    by_cases hz : d < max ((i : Int) * n - k * m) (-((i : Int) * n - k * m))
    · rw [fwd_out m n d i k hz]; omega
    · match i, k with
      | 0, 0 => rw [fwd_00 m n d hd]; omega
      | i + 1, 0 => rw [fwd_i0 m n d i hz]; have := ih i 0 (by omega); omega
      | 0, k + 1 => rw [fwd_0k m n d k hz]; have := ih 0 k (by omega); omega
      | i + 1, k + 1 => rw [fwd_ik m n d i k hz]; have := ih i (k + 1) (by omega); have := ih (i + 1) k (by omega); omega
theorem fwd_bd' (m n d : Int) (hd : 0 ≤ d) (i k : Nat) (h : i + k ≤ 14) : 0 ≤ fwd m n d i k ∧ fwd m n d i k ≤ 16384 := by
  have := fwd_bd m n d hd 14 i k h
  have e : (2 : Int) ^ 14 = 16384 := by decide
  omega

/-- A block of seven rows of seven numbers. -/
def CellsAre (w : World) (b : Nat) (f : Nat → Nat → Int) : Prop :=
  (∀ p q, p < 7 → q < 7 → w.cell? ⟨b, p * 7 + q, none⟩ = some (.int .i64 (f p q))) ∧ (∀ o, w.frozen? ⟨b, o, none⟩ = false)
theorem CellsAre.drew {w : World} {b : Nat} {f : Nat → Nat → Int} (h : CellsAre w b f) : CellsAre w.drew b f := h
theorem CellsAre.congr {w : World} {b : Nat} {f g : Nat → Nat → Int} (h : CellsAre w b f) (e : ∀ p q, p < 7 → q < 7 → f p q = g p q) : CellsAre w b g :=
  ⟨fun p q hp hq => by rw [h.1 p q hp hq, e p q hp hq], h.2⟩
theorem CellsAre.set {w : World} {b : Nat} {f : Nat → Nat → Int} (h : CellsAre w b f) (i k : Nat) (hi : i < 7) (hk : k < 7) (v : Int) : CellsAre (w.setCell ⟨b, i * 7 + k, none⟩ (.int .i64 v)) b (fun p q => if p = i ∧ q = k then v else f p q) := by
  refine ⟨fun p q hp hq => ?_, fun o => by rw [World.frozen?_setCell]; exact h.2 o⟩
  by_cases e : p = i ∧ q = k
  · obtain ⟨rfl, rfl⟩ := e
    rw [World.cell?_setCell_same _ _ _ (h.1 p q hp hq)]; simp only [and_self, if_true]
  · have hne : (⟨b, i * 7 + k, none⟩ : Addr) ≠ ⟨b, p * 7 + q, none⟩ := fun h => by injection h; omega
    rw [World.cell?_setCell_other _ _ _ _ hne, h.1 p q hp hq]; exact congrArg (fun x => some (Value.int .i64 x)) (if_neg e).symm

def tabT (m n d : Int) (i k p q : Nat) : Int := if (p < i ∧ q ≤ n.toNat) ∨ (p = i ∧ q < k) then fwd m n d p q else 0
theorem tabT_next (m n d : Int) (i k : Nat) (p q : Nat) : (if p = i ∧ q = k then fwd m n d i k else tabT m n d i k p q) = tabT m n d i (k + 1) p q := by
  unfold tabT
  by_cases e : p = i ∧ q = k
  · obtain ⟨rfl, rfl⟩ := e
    simp
  · rw [if_neg e]
    by_cases e2 : (p < i ∧ q ≤ n.toNat) ∨ (p = i ∧ q < k)
    · rw [if_pos e2, if_pos (by omega)]
    · rw [if_neg e2, if_neg (by omega)]
theorem tabT_row (m n d : Int) (i : Nat) (p q : Nat) : tabT m n d i (n.toNat + 1) p q = tabT m n d (i + 1) 0 p q := by
  unfold tabT
  by_cases e2 : (p < i ∧ q ≤ n.toNat) ∨ (p = i ∧ q < n.toNat + 1)
  · rw [if_pos e2, if_pos (by omega)]
  · rw [if_neg e2, if_neg (by omega)]
theorem cells_zero (w : World) (t : TypeId) : CellsAre (w.alloc (.cells (Array.replicate 49 (Value.int IntKind.i64 0)) t)) w.heap.size (fun _ _ => 0) := by
  refine ⟨fun p q hp hq => ?_, fun o => by simp⟩
  rw [World.cell?_alloc_new]
  rw [Array.getElem?_replicate, if_pos (by omega)]

theorem table_step (m n d : Int) (i l : Nat) (w : World) (b : Nat) (hi : i < 7) (hl : l < 7) (h : CellsAre w b (tabT m n d i l)) : CellsAre (w.setCell ⟨b, i * 7 + l, none⟩ (.int .i64 (fwd m n d i l))) b (tabT m n d i (l + 1)) :=
  (h.set i l hi hl _).congr (fun p q _ _ => tabT_next m n d i l p q)
theorem table_step2 (m n d : Int) (i l : Nat) (w : World) (b : Nat) (x : Int) (hi : i < 7) (hl : l < 7) (h : CellsAre w b (tabT m n d i l)) : CellsAre ((w.setCell ⟨b, i * 7 + l, none⟩ (.int .i64 x)).setCell ⟨b, i * 7 + l, none⟩ (.int .i64 (fwd m n d i l))) b (tabT m n d i (l + 1)) :=
  ((h.set i l hi hl _).set i l hi hl _).congr (fun p q _ _ => by
    rw [← tabT_next]; by_cases e : p = i ∧ q = l
    · simp [e]
    · simp [e])

set_option maxHeartbeats 2000000 in
theorem impl_paths (m n d : Int) (w : World) (hm0 : 1 ≤ m) (hm1 : m ≤ 6) (hn0 : 1 ≤ n) (hn1 : n ≤ 6) (hd : 0 ≤ d) :
    Calls Try.prog 25 #[.int .i64 m, .int .i64 n, .int .i64 d] w fun e w' => e = .returned (.int .i64 (fwd m n d m.toNat n.toNat)) ∧ Below w.heap.size w w' := by
  have i1 := inB_true ⟨hm0, hm1⟩
  have i2 := inB_true ⟨hn0, hn1⟩
  have hd' : ¬ d < 0 := by omega
  go_enter Try.func25, Try.ntmps25
  go_wp2_with (go_at_call 52; refine (impl_in _ _ _ _).mono ?_; rintro e w' ⟨rfl, rfl⟩)
  go_loopw [8] (fun i wr => ∃ j : Nat, (j : Int) ≤ m + 1 ∧ i = .int .i64 j ∧ CellsAre wr w.heap.size (tabT m n d j 0) ∧ Below w.heap.size w wr) (fun i _ => 7 - (intOf i).toNat)
  case atStart =>
    refine ⟨0, by omega, rfl, ?_, (Below.refl _ _).alloc (Nat.le_refl _) _⟩
    exact (cells_zero w 58).congr (fun p q _ _ => by unfold tabT; rw [if_neg (by omega)])
  case round =>
    obtain ⟨j, hj, rfl, htab, hbel⟩ := hrel
    by_cases hlt : (j : Int) ≤ m
    · go_wp2_with fail
      obtain ⟨wo, rfl⟩ : ∃ wo : World, wo = wr := ⟨_, rfl⟩
      go_loopw [9] (fun i wr => ∃ l : Nat, (l : Int) ≤ n + 1 ∧ i = .int .i64 l ∧ CellsAre wr w.heap.size (tabT m n d j l) ∧ Below w.heap.size w wr) (fun i _ => 7 - (intOf i).toNat)
      case atStart => exact ⟨0, by omega, rfl, htab, hbel⟩
      case round =>
        obtain ⟨l, hl, rfl, htab, hbel⟩ := hrel
        by_cases hlt2 : (l : Int) ≤ n
        · have hcur : wr.cell? ⟨w.heap.size, j * 7 + l, none⟩ = some (.int .i64 0) := by
            rw [htab.1 j l (by omega) (by omega)]; unfold tabT; rw [if_neg (by omega)]
          have hfr : wr.frozen? ⟨w.heap.size, j * 7 + l, none⟩ = false := htab.2 _
          have j7 : (j : Int) < 7 := by omega
          have l7 : (l : Int) < 7 := by omega
          by_cases hap : d < max ((j : Int) * n - l * m) (-((j : Int) * n - l * m))
          · have hz := Lib.hid (fwd_out m n d j l hap)
            clear hcur hfr
            go_wp2_with (go_at_call 60; refine (impl_apart _ _ _ _ _ (by omega) (by omega) (by omega) (by omega)).mono ?_; rintro e w' ⟨rfl, rfl⟩)
            go_roundw
            case rel => exact ⟨l + 1, by omega, by go_num, htab.congr (fun p q _ _ => by
              rw [← tabT_next, hz.out]; split
              · rename_i e; obtain ⟨rfl, rfl⟩ := e; unfold tabT; rw [if_neg (by omega)]
              · rfl), hbel⟩
            case measure => simp [intOf]; omega
          · have upf : 0 < j → wr.cell? ⟨w.heap.size, (j - 1) * 7 + l, none⟩ = some (.int .i64 (fwd m n d (j - 1) l)) := by
              intro h; rw [htab.1 (j - 1) l (by omega) (by omega)]; unfold tabT; rw [if_pos (by omega)]
            have lff : 0 < l → wr.cell? ⟨w.heap.size, j * 7 + (l - 1), none⟩ = some (.int .i64 (fwd m n d j (l - 1))) := by
              intro h; rw [htab.1 j (l - 1) (by omega) (by omega)]; unfold tabT; rw [if_pos (by omega)]
            have b1 := fwd_bd' m n d hd (j - 1) l (by omega)
            have b2 := fwd_bd' m n d hd j (l - 1) (by omega)
            have j7' : (j : Int) - 1 < 7 := by omega
            have l7' : (l : Int) - 1 < 7 := by omega
            have hs1 := table_step m n d j l wr w.heap.size (by omega) (by omega) htab
            have hs2 := table_step2 m n d j l wr w.heap.size (fwd m n d (j - 1) l) (by omega) (by omega) htab
            by_cases hj0 : j < 1
            · have ej : ((j : Int) == 0) = true := by simp; omega
              have gj : decide (0 < j) = false := by simp; omega
              by_cases hl0 : l < 1
              · rw [fwd_00' m n d j l hj0 hl0 hd] at hs1
                have el : ((l : Int) == 0) = true := by simp; omega
                have gl : decide (0 < l) = false := by simp; omega
                have Hj := Lib.hid hj0
                have Hl := Lib.hid hl0
                clear upf lff htab hs2 hj0 hl0
                go_wp2_with (go_at_call 60; refine (impl_apart _ _ _ _ _ (by omega) (by omega) (by omega) (by omega)).mono ?_; rintro e w' ⟨rfl, rfl⟩)
                go_roundw
                case rel => exact ⟨l + 1, by omega, by go_num, hs1, hbel.setCell (p := ⟨w.heap.size, _, none⟩) (Nat.le_refl _) _⟩
                case measure => simp [intOf]; omega
              · rw [fwd_0k' m n d j l hj0 (by omega) hap] at hs1
                have lf := lff (by omega)
                have Hj := Lib.hid hj0
                clear upf lff htab hs2 hj0
                go_wp2_with (go_at_call 60; refine (impl_apart _ _ _ _ _ (by omega) (by omega) (by omega) (by omega)).mono ?_; rintro e w' ⟨rfl, rfl⟩)
                go_region
                go_wp2
                go_roundw
                case rel => exact ⟨l + 1, by omega, by go_num, hs1, (hbel.setCell (p := ⟨w.heap.size, _, none⟩) (Nat.le_refl _) _).drew⟩
                case measure => simp [intOf]; omega
            · have up := upf (by omega)
              by_cases hl0 : l < 1
              · rw [fwd_i0' m n d j l (by omega) hl0 hap] at hs1
                have el : ((l : Int) == 0) = true := by simp; omega
                have gl : decide (0 < l) = false := by simp; omega
                have Hl := Lib.hid hl0
                clear upf lff htab hs2 hl0
                go_wp2_with (go_at_call 60; refine (impl_apart _ _ _ _ _ (by omega) (by omega) (by omega) (by omega)).mono ?_; rintro e w' ⟨rfl, rfl⟩)
                go_region
                go_wp2
                go_roundw
                case rel => exact ⟨l + 1, by omega, by go_num, hs1, (hbel.setCell (p := ⟨w.heap.size, _, none⟩) (Nat.le_refl _) _).drew⟩
                case measure => simp [intOf]; omega
              · have lf := lff (by omega)
                rw [fwd_ik' m n d j l (by omega) (by omega) hap] at hs2
                clear upf lff htab hs1
                go_wp2_with (go_at_call 60; refine (impl_apart _ _ _ _ _ (by omega) (by omega) (by omega) (by omega)).mono ?_; rintro e w' ⟨rfl, rfl⟩)
                go_region
                go_wp2
                go_region
                go_wp2
                go_roundw
                case rel => exact ⟨l + 1, by omega, by go_num, hs2, ((hbel.setCell (p := ⟨w.heap.size, _, none⟩) (Nat.le_refl _) _).setCell (p := ⟨w.heap.size, _, none⟩) (Nat.le_refl _) _).drew.drew⟩
                case measure => simp [intOf]; omega
        · go_wp2
          go_roundw
          case rel => exact ⟨j + 1, by omega, by go_num, htab.congr (fun p q _ _ => by
              have e : l = n.toNat + 1 := by omega
              rw [e]; exact tabT_row m n d j p q), hbel⟩
          case measure => simp [intOf]; omega
    · have hfin : wr.cell? ⟨w.heap.size, m.toNat * 7 + n.toNat, none⟩ = some (.int .i64 (fwd m n d m.toNat n.toNat)) := by
        rw [htab.1 m.toNat n.toNat (by omega) (by omega)]; unfold tabT; rw [if_pos (by omega)]
      go_wp2
      go_ret
      exact ⟨rfl, hbel⟩

/-- The ways from i and k on. -/
def onward (m n d i k : Int) : Int := if i ≤ m ∧ k ≤ n then fwd m n d (m - i).toNat (n - k).toNat else 0
theorem turn_apart (m n i k : Int) : (m - i) * n - (n - k) * m = -(i * n - k * m) := by
  rw [Int.sub_mul, Int.sub_mul, Int.mul_comm n m]; omega
theorem onward_out (m n d i k : Int) (h : m < i ∨ n < k ∨ d < i * n - k * m ∨ i * n - k * m < -d) : onward m n d i k = 0 := by
  unfold onward
  split
  · refine fwd_out _ _ _ _ _ ?_
    rw [show (((m - i).toNat : Nat) : Int) = m - i from by omega, show (((n - k).toNat : Nat) : Int) = n - k from by omega, turn_apart]
    omega
  · rfl
theorem onward_end (m n d : Int) (h : 0 ≤ d) : onward m n d m n = 1 := by
  unfold onward
  rw [if_pos ⟨Int.le_refl _, Int.le_refl _⟩, Int.sub_self, Int.sub_self]
  exact fwd_00 m n d h
theorem onward_on (m n d i k : Int) (hi : i ≤ m) (hk : k ≤ n) (hx : i * n - k * m ≤ d) (hy : -d ≤ i * n - k * m) (hne : ¬ (i = m ∧ k = n)) : onward m n d i k = onward m n d (i + 1) k + onward m n d i (k + 1) := by
  have ho : ¬ d < max ((((m - i).toNat : Nat) : Int) * n - ((n - k).toNat : Nat) * m) (-((((m - i).toNat : Nat) : Int) * n - ((n - k).toNat : Nat) * m)) := by
    rw [show (((m - i).toNat : Nat) : Int) = m - i from by omega, show (((n - k).toNat : Nat) : Int) = n - k from by omega, turn_apart]
    omega
  unfold onward
  rw [if_pos ⟨hi, hk⟩]
  by_cases e : i = m
  · have hk' : k < n := by omega
    rw [if_neg (show ¬ (i + 1 ≤ m ∧ k ≤ n) by omega), if_pos (show i ≤ m ∧ k + 1 ≤ n by omega), fwd_0k' _ _ _ _ _ (by omega) (by omega) ho, Int.zero_add]
    congr 1; omega
  · by_cases e2 : k = n
    · rw [if_pos (show (i + 1 ≤ m ∧ k ≤ n) by omega), if_neg (show ¬ (i ≤ m ∧ k + 1 ≤ n) by omega), fwd_i0' _ _ _ _ _ (by omega) (by omega) ho, Int.add_zero]
      congr 1; omega
    · rw [if_pos (show (i + 1 ≤ m ∧ k ≤ n) by omega), if_pos (show (i ≤ m ∧ k + 1 ≤ n) by omega), fwd_ik' _ _ _ _ _ (by omega) (by omega) ho]
      congr 1 <;> congr 1 <;> omega
theorem onward_bd (m n d i k : Int) (hd : 0 ≤ d) (hm1 : m ≤ 6) (hn1 : n ≤ 6) (hi : 0 ≤ i) (hk : 0 ≤ k) : 0 ≤ onward m n d i k ∧ onward m n d i k ≤ 16384 := by
  unfold onward
  split
  · exact fwd_bd' m n d hd _ _ (by omega)
  · omega

set_option maxHeartbeats 1000000 in
theorem spec_pathsFrom (m n d : Int) (hm0 : 1 ≤ m) (hm1 : m ≤ 6) (hn0 : 1 ≤ n) (hn1 : n ≤ 6) (hd : 0 ≤ d) (hd1 : d ≤ 9223372036854775807) (s : Nat) : ∀ (i k : Int) (w : World), 0 ≤ i → 0 ≤ k → i ≤ m + 1 → k ≤ n + 1 → (m - i + (n - k) + 2).toNat ≤ s →
    Calls Try.prog 61 #[.int .i64 m, .int .i64 n, .int .i64 i, .int .i64 k, .int .i64 d] w fun e w' => e = .returned (.int .i64 (onward m n d i k)) ∧ w = w' := by
  induction s with
  | zero =>
    intro i k w hi hk hi2 hk2 hs
    have hz := Lib.hid (onward_out m n d i k (by omega))
    have h1 : m < i := by omega
    have m1 := mul_bd i n 7 6 (by omega) (by omega) (by omega) (by omega)
    have m2 := mul_bd k m 7 6 (by omega) (by omega) (by omega) (by omega)
    go_enter Try.func61, Try.ntmps61
    go_wp2_with fail
    go_ret
    exact ⟨ret_int hz.out.symm, rfl⟩
  | succ s ih =>
    intro i k w hi hk hi2 hk2 hs
    have m1 := mul_bd i n 7 6 (by omega) (by omega) (by omega) (by omega)
    have m2 := mul_bd k m 7 6 (by omega) (by omega) (by omega) (by omega)
    by_cases h1 : m < i
    · have hz := Lib.hid (onward_out m n d i k (.inl h1))
      go_enter Try.func61, Try.ntmps61
      go_wp2_with fail
      go_ret
      exact ⟨ret_int hz.out.symm, rfl⟩
    by_cases h2 : n < k
    · have hz := Lib.hid (onward_out m n d i k (.inr (.inl h2)))
      go_enter Try.func61, Try.ntmps61
      go_wp2_with fail
      go_ret
      exact ⟨ret_int hz.out.symm, rfl⟩
    by_cases h3 : d < i * n - k * m
    · have hz := Lib.hid (onward_out m n d i k (.inr (.inr (.inl h3))))
      go_enter Try.func61, Try.ntmps61
      go_wp2_with fail
      go_ret
      exact ⟨ret_int hz.out.symm, rfl⟩
    by_cases h4 : i * n - k * m < -d
    · have hz := Lib.hid (onward_out m n d i k (.inr (.inr (.inr h4))))
      go_enter Try.func61, Try.ntmps61
      go_wp2_with fail
      go_ret
      exact ⟨ret_int hz.out.symm, rfl⟩
    by_cases e1 : i = m
    · subst e1
      by_cases e2 : k = n
      · subst e2
        have hz := Lib.hid (onward_end i k d hd)
        have hz' : i * k - k * i = 0 := by rw [Int.mul_comm]; omega
        go_enter Try.func61, Try.ntmps61
        go_wp2_with fail
        go_ret
        exact ⟨ret_int hz.out.symm, rfl⟩
      · have hz := Lib.hid (onward_on i n d i k (by omega) (by omega) (by omega) (by omega) (by omega))
        have b1 := onward_bd i n d (i + 1) k hd hm1 hn1 (by omega) (by omega)
        have b2 := onward_bd i n d i (k + 1) hd hm1 hn1 (by omega) (by omega)
        have hne : (k == n) = false := beq_eq_false_iff_ne.2 e2
        go_enter Try.func61, Try.ntmps61
        go_wp2_with fail
        refine (ih _ _ _ (by omega) (by omega) (by omega) (by omega) (by omega)).mono ?_; rintro e w' ⟨rfl, rfl⟩
        go_wp2_with fail
        refine (ih _ _ _ (by omega) (by omega) (by omega) (by omega) (by omega)).mono ?_; rintro e w' ⟨rfl, rfl⟩
        go_wp2_with fail
        go_ret
        exact ⟨ret_int hz.out.symm, rfl⟩
    · have hz := Lib.hid (onward_on m n d i k (by omega) (by omega) (by omega) (by omega) (by omega))
      have b1 := onward_bd m n d (i + 1) k hd hm1 hn1 (by omega) (by omega)
      have b2 := onward_bd m n d i (k + 1) hd hm1 hn1 (by omega) (by omega)
      have hne : (i == m) = false := beq_eq_false_iff_ne.2 e1
      go_enter Try.func61, Try.ntmps61
      go_wp2_with fail
      refine (ih _ _ _ (by omega) (by omega) (by omega) (by omega) (by omega)).mono ?_; rintro e w' ⟨rfl, rfl⟩
      go_wp2_with fail
      refine (ih _ _ _ (by omega) (by omega) (by omega) (by omega) (by omega)).mono ?_; rintro e w' ⟨rfl, rfl⟩
      go_wp2_with fail
      go_ret
      exact ⟨ret_int hz.out.symm, rfl⟩

/-- PathsWithin. -/
def pathsV (m n d : Int) : Int := if inB m 1 6 = true ∧ inB n 1 6 = true ∧ 0 ≤ d then fwd m n d m.toNat n.toNat else -1
theorem pathsV_yes {m n d : Int} (h1 : inB m 1 6 = true) (h2 : inB n 1 6 = true) (h3 : 0 ≤ d) : pathsV m n d = fwd m n d m.toNat n.toNat := if_pos ⟨h1, h2, h3⟩
theorem pathsV_no {m n d : Int} (h : inB m 1 6 = false ∨ inB n 1 6 = false ∨ d < 0) : pathsV m n d = -1 := by
  unfold pathsV
  refine if_neg ?_
  rintro ⟨h1, h2, h3⟩
  rcases h with h | h | h
  · rw [h1] at h; cases h
  · rw [h2] at h; cases h
  · omega
theorem onward_all {m n d : Int} (h1 : inB m 1 6 = true) (h2 : inB n 1 6 = true) : onward m n d 0 0 = fwd m n d m.toNat n.toNat := by
  have a := inB_iff.1 h1
  have b := inB_iff.1 h2
  unfold onward
  rw [if_pos (by omega), Int.sub_zero, Int.sub_zero]

set_option maxHeartbeats 400000 in
theorem impl_PathsWithin (m n d : Int) (w : World) :
    Calls Try.prog 25 #[.int .i64 m, .int .i64 n, .int .i64 d] w fun e w' => e = .returned (.int .i64 (pathsV m n d)) ∧ Below w.heap.size w w' := by
  by_cases h : inB m 1 6 = true ∧ inB n 1 6 = true ∧ 0 ≤ d
  · obtain ⟨h1, h2, h3⟩ := h
    rw [pathsV_yes h1 h2 h3]
    have a := inB_iff.1 h1
    have b := inB_iff.1 h2
    exact impl_paths m n d w a.1 a.2 b.1 b.2 h3
  · have hz : Hid (pathsV m n d = -1) := if_neg h
    cases h1 : inB m 1 6
    all_goals
      cases h2 : inB n 1 6
      all_goals
        by_cases h3 : d < 0
        all_goals first
          | (exfalso; exact h ⟨h1, h2, by omega⟩)
          | (clear h
             go_enter Try.func25, Try.ntmps25
             go_wp2_with (go_at_call 52; refine (impl_in _ _ _ _).mono ?_; rintro e w' ⟨rfl, rfl⟩)
             go_ret
             exact ⟨ret_int hz.out.symm, Below.refl _ _⟩)

set_option maxHeartbeats 400000 in
theorem spec_PathsWithin (m n d : Int) (w : World) (hd : d ≤ 9223372036854775807) :
    Calls Try.prog 26 #[.int .i64 m, .int .i64 n, .int .i64 d] w fun e w' => e = .returned (.int .i64 (pathsV m n d)) ∧ w = w' := by
  by_cases h : inB m 1 6 = true ∧ inB n 1 6 = true ∧ 0 ≤ d
  · obtain ⟨h1, h2, h3⟩ := h
    have hz : Hid (onward m n d 0 0 = pathsV m n d) := by rw [pathsV_yes h1 h2 h3]; exact onward_all h1 h2
    have a := inB_iff.1 h1
    have b := inB_iff.1 h2
    have h4 : ¬ d < 0 := by omega
    go_enter Try.func26, Try.ntmps26
    go_wp2_with (first | (go_at_call 55; refine (spec_inRange _ _ _ _).mono ?_; rintro e w' ⟨rfl, rfl⟩) | (go_at_call 61; refine (spec_pathsFrom m n d a.1 a.2 b.1 b.2 h3 hd (m + n + 2).toNat _ _ _ (by omega) (by omega) (by omega) (by omega) (by omega)).mono ?_; rintro e w' ⟨rfl, rfl⟩))
    go_ret
    exact ⟨ret_int hz.out, rfl⟩
  · have hz : Hid (pathsV m n d = -1) := if_neg h
    cases h1 : inB m 1 6
    all_goals
      cases h2 : inB n 1 6
      all_goals
        by_cases h3 : d < 0
        all_goals first
          | (exfalso; exact h ⟨h1, h2, by omega⟩)
          | (clear h
             go_enter Try.func26, Try.ntmps26
             go_wp2_with (go_at_call 55; refine (spec_inRange _ _ _ _).mono ?_; rintro e w' ⟨rfl, rfl⟩)
             go_ret
             exact ⟨ret_int hz.out.symm, rfl⟩)

theorem pathsV_wf (m n d : Int) : -1 ≤ pathsV m n d ∧ pathsV m n d ≤ 16384 := by
  unfold pathsV
  split
  · rename_i h
    have a := inB_iff.1 h.1
    have b := inB_iff.1 h.2.1
    have := fwd_bd' m n d h.2.2 m.toNat n.toNat (by omega)
    omega
  · omega
end Go.Proofs.Ytohdbbdolmgaaaa
