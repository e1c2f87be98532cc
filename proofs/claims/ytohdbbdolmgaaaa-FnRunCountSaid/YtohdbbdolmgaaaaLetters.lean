/-
  Contracts of impl.letters, for each of its closures.
-/
import Derived.Test.YtohdbbdolmgaaaaBits
import Derived.Test.YtohdbbdolmgaaaaList
import Derived.Test.YtohdbbdolmgaaaaNum
namespace Go.Proofs.Ytohdbbdolmgaaaa
open Go.RowKit

theorem infoBool : (Try.prog.info? 4).map (fun i => (i.zero, i.size, i.bytes)) = some (some (.bool false), 1, 1) := by kernel_rfl

def bitB (s i : Nat) : Bool := decide (bitN s i = 1)
/-- How many of the first bits are 1. -/
def popc : Nat → Nat → Nat
  | 0, _ => 0
  | n + 1, s => popc n s + bitN s n
theorem popc_le (n s : Nat) : popc n s ≤ n := by
  induction n with
  | zero => simp [popc]
  | succ n ih => rw [popc]; have := bitN_lt s n; omega
theorem popc_congr (n a b : Nat) (h : ∀ i, i < n → bitN a i = bitN b i) : popc n a = popc n b := by
  induction n with
  | zero => rfl
  | succ n ih => rw [popc, popc, ih (fun i hi => h i (by omega)), h n (by omega)]

/-- A row of truth values at the head of a block. -/
def BoolRow (w : World) (g n : Nat) (f : Nat → Bool) : Prop := (∀ i, i < n → w.cell? ⟨g, i, none⟩ = some (.bool (f i))) ∧ (∀ i, w.frozen? ⟨g, i, none⟩ = false)
theorem BoolRow.made {w : World} {B g n cap : Nat} (h : w.ownsRow B 4 1 (.slice (some ⟨g, 0, none⟩) n cap) n (madeCells #[.bool false] n).toList) : BoolRow w g n (fun _ => false) := by
  refine ⟨fun i hi => ?_, fun i => World.ownsRow.frozenAt h i⟩
  rw [World.ownsRow.cellAt h i (by omega)]
  have e : (madeCells #[.bool false] n).toList = List.replicate n (.bool false) := toList_madeCells_one _ _
  rw [e, List.getElem?_replicate, if_pos hi]
theorem BoolRow.congr {w : World} {g n : Nat} {f f' : Nat → Bool} (h : BoolRow w g n f) (e : ∀ i, i < n → f i = f' i) : BoolRow w g n f' :=
  ⟨fun i hi => by rw [h.1 i hi, e i hi], h.2⟩
theorem BoolRow.set {w : World} {g n : Nat} {f : Nat → Bool} (h : BoolRow w g n f) (k : Nat) (hk : k < n) (b : Bool) : BoolRow (w.setCell ⟨g, k, none⟩ (.bool b)) g n (fun i => if i = k then b else f i) := by
  refine ⟨fun i hi => ?_, fun i => by rw [World.frozen?_setCell]; exact h.2 i⟩
  by_cases e : i = k
  · subst e
    rw [World.cell?_setCell_same _ _ _ (h.1 i hi)]; simp
  · have hne : (⟨g, k, none⟩ : Addr) ≠ ⟨g, i, none⟩ := fun h => by injection h; omega
    rw [World.cell?_setCell_other _ _ _ _ hne, h.1 i hi]; simp [e]
/-- The bits below p, the rest false. -/
def upTo (s p i : Nat) : Bool := if i < p then bitB s i else false
theorem upTo_next (s p i : Nat) : (if i = p then bitB s p else upTo s p i) = upTo s (p + 1) i := by
  unfold upTo
  by_cases e : i = p
  · subst e; simp
  · rw [if_neg e]
    by_cases h : i < p
    · rw [if_pos h, if_pos (by omega)]
    · rw [if_neg h, if_neg (by omega)]

/-- impl.letters, with the closure RunCount$1: an invariant I goes from set to set. -/
theorem letters_run (m n : Int) (c0 c1 : Nat) (I : Nat → World → Prop) (w : World) (hm : 0 ≤ m ∧ m ≤ 6) (hn : 0 ≤ n ∧ n ≤ 6)
    (hstab : Hid (∀ k (w1 w2 : World), I k w1 → Below w1.heap.size w1 w2 → I k w2))
    (hno : Hid (∀ k (w1 : World), k < 2 ^ (m + n).toNat → I k w1 → ¬ ((popc (m + n).toNat k : Nat) : Int) = m → I (k + 1) w1))
    (hyes : Hid (∀ k (w1 : World) (g : Nat), k < 2 ^ (m + n).toNat → I k w1 → BoolRow w1 g (m + n).toNat (bitB k) → ((popc (m + n).toNat k : Nat) : Int) = m →
      Calls Try.prog 70 #[.slice (some ⟨g, 0, none⟩) (m + n).toNat (m + n).toNat, .pointer (some ⟨c0, 0, none⟩), .pointer (some ⟨c1, 0, none⟩)] w1 fun e w' => e = .returned (.tuple #[]) ∧ I (k + 1) w' ∧ w1.heap.size ≤ w'.heap.size))
    (h0 : I 0 w) :
    Calls Try.prog 53 #[.int .i64 m, .int .i64 n, .func (Fn.func 70) #[] #[.pointer (some ⟨c0, 0, none⟩), .pointer (some ⟨c1, 0, none⟩)]] w fun e w' => e = .returned (.tuple #[]) ∧ I (2 ^ (m + n).toNat) w' := by
  obtain ⟨ti, hi, hz0, hz1, hz2⟩ := info_parts infoBool
  generalize hN : (m + n).toNat = N at *
  have hN1 : (N : Int) ≤ m + n := by omega
  have hN2 : m + n ≤ (N : Int) := by omega
  have HN := Lib.hid hN
  clear hN
  have h2b := two_bd N (by omega)
  have h2c : ((2 ^ N : Nat) : Int) ≤ (2 : Int) ^ N ∧ (2 : Int) ^ N ≤ ((2 ^ N : Nat) : Int) := by
    have e : ((2 : Int) ^ N) = ((2 ^ N : Nat) : Int) := by simp
    omega
  have h2d : 1 ≤ (2 : Int) ^ (m + n).toNat ∧ (2 : Int) ^ (m + n).toNat ≤ 4294967296 := by rw [HN.out]; exact h2b
  go_enter Try.func53, Try.ntmps53
  go_wp2
  go_loopw [14] (fun i wr => ∃ k : Nat, k ≤ 2 ^ N ∧ i = .int .i64 k ∧ I k wr) (fun i _ => 2 ^ N - (intOf i).toNat)
  case atStart => exact ⟨0, Nat.zero_le _, rfl, h0⟩
  case round =>
    obtain ⟨k, hk, rfl, hI⟩ := hrel
    by_cases hlt : k < 2 ^ N
    · have hlt' : (k : Int) < 2 ^ (m + n).toNat := by rw [HN.out]; omega
      have hlt2 : (k : Int) < 2 ^ N := by omega
      obtain ⟨wo, rfl⟩ : ∃ wo : World, wo = wr := ⟨_, rfl⟩
      go_wp2_with (at_make; refine wpList_make_full _ rfl _ _ 54 rfl wo.heap.size 4 ti (.bool false) 1 Try.underlying54 hi hz0 hz1 .i64 .i64 _ _ N rfl rfl (by omega) (by omega) (by rw [hz2]; omega) (by unfold maxLen; omega) (Nat.le_refl _) ?_)
      intro w1 hown0 hgrow0
      have hrow := BoolRow.made hown0
      have hbel1 : Below wo.heap.size wo w1 := (Below.refl _ _).grown hgrow0 (Nat.le_refl _) (by simp)
      clear hown0 hgrow0
      go_wp2_with fail
      go_loopw [8, 23] (fun c i wr => ∃ p : Nat, p ≤ N ∧ i = .int .i64 p ∧ c = .int .i64 (popc p k) ∧ BoolRow wr wo.heap.size N (upTo k p) ∧ Below wo.heap.size wo wr) (fun _ i _ => N - (intOf i).toNat)
      case atStart => exact ⟨0, Nat.zero_le _, rfl, rfl, hrow.congr (fun i hi => by simp [upTo]), hbel1⟩
      case round =>
        obtain ⟨p, hp, rfl, rfl, hrow, hbel⟩ := hrel
        have hpc := popc_le p k
        by_cases hpl : p < N
        · have hbit := and_bit k p
          have hcur := hrow.1 p hpl
          have hfree := hrow.2 p
          have hset := hrow.set p hpl (bitB k p)
          have hset2 : BoolRow (wr.setCell ⟨wo.heap.size, p, none⟩ (.bool (bitB k p))) wo.heap.size N (upTo k (p + 1)) := hset.congr (fun i hi => upTo_next k p i)
          have hbel2 := hbel.setCell (p := ⟨wo.heap.size, p, none⟩) (Nat.le_refl _) (.bool (bitB k p))
          have hpi : (p : Int) < (N : Int) := by omega
          have hb2 := bitN_lt k p
          clear hset hrow hbel
          by_cases hb : bitN k p = 1
          · have hbb : bitB k p = true := by simp [bitB, hb]
            rw [hb] at hbit
            rw [hbb] at hset2 hbel2
            have HC : Hid (((popc p k : Nat) : Int) + 1 = (popc (p + 1) k : Nat)) := by show _ = _; rw [popc, hb]; simp
            clear hb hbb hb2
            go_wp2
            go_roundw
            case rel => exact ⟨p + 1, by omega, by go_num, by rw [HC.out], hset2, hbel2⟩
            case measure => simp [intOf]; omega
          · have hb0 : bitN k p = 0 := by omega
            have hbb : bitB k p = false := by simp [bitB, hb0]
            rw [hb0] at hbit
            rw [hbb] at hset2 hbel2
            have HC : Hid (((popc p k : Nat) : Int) = (popc (p + 1) k : Nat)) := by show _ = _; rw [popc, hb0]; simp
            clear hb hbb hb2 hb0
            go_wp2
            go_roundw
            case rel => exact ⟨p + 1, by omega, by go_num, by rw [HC.out], hset2, hbel2⟩
            case measure => simp [intOf]; omega
        · have hpN : p = N := by omega
          subst hpN
          have hrow2 : BoolRow wr wo.heap.size p (bitB k) := hrow.congr (fun i hi => by simp [upTo, hi])
          have hI2 := hstab.out k wo wr hI hbel
          by_cases hpm : ((popc p k : Nat) : Int) = m
          · have hy := Lib.hid (hyes.out k wr wo.heap.size hlt hI2 hrow2 hpm)
            have hpm' : (((popc p k : Nat) : Int) == m) = true := by simp [hpm]
            have HM := Lib.hid hpm
            clear hpm hrow hrow2 hI2 hI
            go_wp2_with fail
            refine hy.out.mono ?_
            rintro e w2 ⟨rfl, hI3, hsz⟩
            go_wp2_with fail
            go_roundw
            case rel => exact ⟨k + 1, by omega, by go_num, hI3⟩
            case measure => simp [intOf]; omega
          · have hI3 := hno.out k wr hlt hI2 hpm
            have hpm' : (((popc p k : Nat) : Int) == m) = false := by simp [hpm]
            have HM := Lib.hid hpm
            clear hpm hrow hrow2 hI2 hI
            go_wp2_with fail
            go_roundw
            case rel => exact ⟨k + 1, by omega, by go_num, hI3⟩
            case measure => simp [intOf]; omega
    · have hk2 : k = 2 ^ N := by omega
      rw [hk2] at hI
      have hge : ¬ (k : Int) < 2 ^ (m + n).toNat := by rw [HN.out]; omega
      have hge2 : ¬ (k : Int) < 2 ^ N := by omega
      clear hk2
      go_wp2
      go_end0
      exact ⟨rfl, hI⟩

end Go.Proofs.Ytohdbbdolmgaaaa
