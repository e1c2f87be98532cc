/-
  The contract of impl.MiddlePlaces.
-/
import Derived.Test.YtcfeeobjllnofaaMid
namespace Go.Proofs.Ytcfeeobjllnofaa
open Go.RowKit
set_option linter.unusedVariables false

theorem below_box1 (w : World) (o : Obj) : Below w.heap.size w (w.alloc o) := (Below.refl _ _).alloc (Nat.le_refl _) o
theorem World.alloc_new1 (w : World) (o : Obj) : (w.alloc o).heap[w.heap.size]? = some o := by show (w.heap.push o)[w.heap.size]? = some o; simp
theorem termI_one (n h : Int) : termI n h 1 2 = binI n h := by
  unfold termI
  rw [show (2 : Int) - 1 = 1 from rfl, Int.one_pow, Int.one_pow, Int.mul_one, Int.mul_one]
theorem impl_exact12 (n h : Int) (h0 : 0 ≤ n) (h1 : n ≤ 10) (k0 : 0 ≤ h) (k1 : h ≤ n) (w : World) :
    Calls Try.prog 71 #[.int .i64 n, .int .i64 h, .int .i64 1, .int .i64 2] w fun e w' => e = .returned (.int .i64 (binI n h)) ∧ w = w' := by
  have := impl_exact n h 1 2 w h0 h1 k0 k1 (by omega) (by omega) (by omega)
  rw [termI_one] at this
  exact this
/-- The sum of what a test lets by. -/
def keptF (n : Int) (P : Int → Bool) (h : Nat) : Int := if P h = true then binI n h else 0
theorem keptF_bd (n : Int) (P : Int → Bool) (h0 : 0 ≤ n) (h1 : n ≤ 10) (k : Nat) (hk : k ≤ 11) : 0 ≤ sumTo (keptF n P) k ∧ sumTo (keptF n P) k ≤ 11264 := by
  have := sumTo_bd (keptF n P) 1024 k (fun j _ => by
    unfold keptF
    split
    · exact binI_bd10 n j h0 h1
    · omega)
  omega
theorem kept_less (n : Int) (j : Nat) : ∀ N : Nat, j ≤ N → sumTo (keptF n (fun h => decide (h < (j : Int)))) N = lessF n j := by
  intro N
  induction N with
  | zero => intro h; have : j = 0 := by omega
            subst this; rfl
  | succ N ih =>
    intro h
    by_cases e : j = N + 1
    · subst e
      unfold lessF
      refine sumTo_congr _ _ _ (fun k hk => ?_)
      unfold keptF
      rw [if_pos (by simp; omega)]
    · rw [sumTo_succ, ih (by omega)]
      unfold keptF
      rw [if_neg (by simp; omega)]
      omega
theorem kept_mid : ∀ n : Fin 11, ∀ j : Fin 6, 1 ≤ j.val → 2 * j.val ≤ n.val → sumTo (keptF (n.val : Int) (fun h => inB h (j.val : Int) ((n.val : Int) - (j.val : Int)))) (n.val + 1) = 2 ^ n.val - 2 * lessF (n.val : Int) j.val := by decide +kernel

theorem mid_may1 (h j : Int) (b : Nat) (w : World) (hk : w.cell? ⟨b, 0, none⟩ = some (.int .i64 j)) :
    Calls Try.prog 52 #[.int .i64 h, .pointer (some ⟨b, 0, none⟩)] w fun e w' => e = .returned (.bool (decide (h < j))) ∧ w = w' := by
  go_enter Try.func52, Try.ntmps52
  go_wp2_with fail
  go_ret
  exact ⟨rfl, rfl⟩
theorem mid_may2 (h j n : Int) (b c : Nat) (w : World) (hk : w.cell? ⟨b, 0, none⟩ = some (.int .i64 j)) (hn : w.cell? ⟨c, 0, none⟩ = some (.int .i64 n)) (hj : 0 ≤ j ∧ j ≤ 10) (hnb : 0 ≤ n ∧ n ≤ 10) :
    Calls Try.prog 53 #[.int .i64 h, .pointer (some ⟨b, 0, none⟩), .pointer (some ⟨c, 0, none⟩)] w fun e w' => e = .returned (.bool (inB h j (n - j))) ∧ w = w' := by
  go_enter Try.func53, Try.ntmps53
  go_wp2_with fail
  refine (impl_in _ _ _ _).mono ?_; rintro e w' ⟨rfl, rfl⟩
  go_wp2_with fail
  go_ret
  exact ⟨rfl, rfl⟩

set_option maxHeartbeats 1000000 in
theorem impl_part_mid1 (n j : Int) (b : Nat) (w : World) (h0 : 0 ≤ n) (h1 : n ≤ 10) (hk : w.cell? ⟨b, 0, none⟩ = some (.int .i64 j)) :
    Calls Try.prog 51 #[.int .i64 n, .int .i64 1, .int .i64 2, .func (Fn.func 52) #[] #[.pointer (some ⟨b, 0, none⟩)]] w fun e w' => e = .returned (.int .i64 (sumTo (keptF n (fun h => decide (h < j))) (n + 1).toNat)) ∧ w = w' := by
  go_enter Try.func51, Try.ntmps51
  go_wp2
  go_loop [9, 10] (fun o i => ∃ k : Nat, (k : Int) ≤ n + 1 ∧ i = .int .i64 k ∧ o = .int .i64 (sumTo (keptF n (fun h => decide (h < j))) k)) (fun _ i => (n + 1).toNat - (intOf i).toNat)
  case atStart => exact ⟨0, by omega, rfl, rfl⟩
  case round =>
    obtain ⟨k, hj, rfl, rfl⟩ := hrel
    by_cases hlt : (k : Int) ≤ n
    · have hb := keptF_bd n (fun h => decide (h < j)) h0 h1 k (by omega)
      have ht := binI_bd10 n k h0 h1
      by_cases hx : (k : Int) < j
      · have hs : Hid (sumTo (keptF n (fun h => decide (h < j))) (k + 1) = sumTo (keptF n (fun h => decide (h < j))) k + binI n k) := by
          show _ = _; rw [sumTo_succ, show keptF n (fun h => decide (h < j)) k = binI n k from if_pos (decide_eq_true hx)]
        have hx' : decide ((k : Int) < j) = true := decide_eq_true hx
        clear hx
        generalize sumTo (keptF n (fun h => decide (h < j))) k = S at *
        go_wp2_with fail
        refine (mid_may1 _ j b _ hk).mono ?_; rintro e w' ⟨rfl, rfl⟩
        go_wp2_with fail
        refine (impl_exact12 _ _ h0 h1 (by omega) hlt _).mono ?_; rintro e w' ⟨rfl, rfl⟩
        go_wp2_with fail
        go_round
        case rel => exact ⟨k + 1, by omega, by go_num, by rw [hs.out]⟩
        case measure => simp [intOf]; omega
      · have hs : Hid (sumTo (keptF n (fun h => decide (h < j))) (k + 1) = sumTo (keptF n (fun h => decide (h < j))) k) := by
          show _ = _; rw [sumTo_succ, show keptF n (fun h => decide (h < j)) k = 0 from if_neg (by simp; omega), Int.add_zero]
        have hx' : decide ((k : Int) < j) = false := decide_eq_false hx
        clear hx
        generalize sumTo (keptF n (fun h => decide (h < j))) k = S at *
        go_wp2_with fail
        refine (mid_may1 _ j b _ hk).mono ?_; rintro e w' ⟨rfl, rfl⟩
        go_wp2_with fail
        go_round
        case rel => exact ⟨k + 1, by omega, by go_num, by rw [hs.out]⟩
        case measure => simp [intOf]; omega
    · go_wp2
      go_ret
      exact ⟨ret_int (by congr 1; omega), rfl⟩

set_option maxHeartbeats 1000000 in
theorem impl_part_mid2 (n j : Int) (b c : Nat) (w : World) (h0 : 0 ≤ n) (h1 : n ≤ 10) (j0 : 0 ≤ j) (j1 : j ≤ 10) (hk : w.cell? ⟨b, 0, none⟩ = some (.int .i64 j)) (hn : w.cell? ⟨c, 0, none⟩ = some (.int .i64 n)) :
    Calls Try.prog 51 #[.int .i64 n, .int .i64 1, .int .i64 2, .func (Fn.func 53) #[] #[.pointer (some ⟨b, 0, none⟩), .pointer (some ⟨c, 0, none⟩)]] w fun e w' => e = .returned (.int .i64 (sumTo (keptF n (fun h => inB h j (n - j))) (n + 1).toNat)) ∧ w = w' := by
  go_enter Try.func51, Try.ntmps51
  go_wp2
  go_loop [9, 10] (fun o i => ∃ k : Nat, (k : Int) ≤ n + 1 ∧ i = .int .i64 k ∧ o = .int .i64 (sumTo (keptF n (fun h => inB h j (n - j))) k)) (fun _ i => (n + 1).toNat - (intOf i).toNat)
  case atStart => exact ⟨0, by omega, rfl, rfl⟩
  case round =>
    obtain ⟨k, hj, rfl, rfl⟩ := hrel
    by_cases hlt : (k : Int) ≤ n
    · have hb := keptF_bd n (fun h => inB h j (n - j)) h0 h1 k (by omega)
      have ht := binI_bd10 n k h0 h1
      cases hx : inB (k : Int) j (n - j)
      · have hs : Hid (sumTo (keptF n (fun h => inB h j (n - j))) (k + 1) = sumTo (keptF n (fun h => inB h j (n - j))) k) := by
          show _ = _; rw [sumTo_succ, show keptF n (fun h => inB h j (n - j)) k = 0 from if_neg (by simp [hx]), Int.add_zero]
        generalize sumTo (keptF n (fun h => inB h j (n - j))) k = S at *
        go_wp2_with fail
        refine (mid_may2 _ j n b c _ hk hn ⟨j0, j1⟩ ⟨h0, h1⟩).mono ?_; rintro e w' ⟨rfl, rfl⟩
        go_wp2_with fail
        go_round
        case rel => exact ⟨k + 1, by omega, by go_num, by rw [hs.out]⟩
        case measure => simp [intOf]; omega
      · have hs : Hid (sumTo (keptF n (fun h => inB h j (n - j))) (k + 1) = sumTo (keptF n (fun h => inB h j (n - j))) k + binI n k) := by
          show _ = _; rw [sumTo_succ, show keptF n (fun h => inB h j (n - j)) k = binI n k from if_pos hx]
        generalize sumTo (keptF n (fun h => inB h j (n - j))) k = S at *
        go_wp2_with fail
        refine (mid_may2 _ j n b c _ hk hn ⟨j0, j1⟩ ⟨h0, h1⟩).mono ?_; rintro e w' ⟨rfl, rfl⟩
        go_wp2_with fail
        refine (impl_exact12 _ _ h0 h1 (by omega) hlt _).mono ?_; rintro e w' ⟨rfl, rfl⟩
        go_wp2_with fail
        go_round
        case rel => exact ⟨k + 1, by omega, by go_num, by rw [hs.out]⟩
        case measure => simp [intOf]; omega
    · go_wp2
      go_ret
      exact ⟨ret_int (by congr 1; omega), rfl⟩

/-- The number in the cell that a pointer leads to. -/
def cellN (w : World) : Value → Nat
  | .pointer (some a) => match w.cell? a with
    | some v => (intOf v).toNat
    | none => 0
  | _ => 0
theorem cellN_of {w : World} {a : Addr} {n : Int} (h : w.cell? a = some (.int .i64 n)) : cellN w (.pointer (some a)) = n.toNat := by
  simp [cellN, h, intOf]

set_option maxHeartbeats 2000000 in
theorem impl_MiddlePlaces (n a b : Int) (w : World) (hnw : -9223372036854775808 ≤ n ∧ n ≤ 9223372036854775807) :
    Calls Try.prog 17 #[.int .i64 n, .int .i64 a, .int .i64 b] w fun e w' => e = .returned (.tuple #[.int .i64 (midX n a b), .int .i64 (midY n a b)]) ∧ Below w.heap.size w w' := by
  have hbx := below_box1 w (.cells #[.int .i64 n] 3)
  cases h1 : inB n 1 10
  · have hz : Hid (midX n a b = -1 ∧ midY n a b = -1) := by show _ ∧ _; unfold midX midY midOk; rw [h1]; exact ⟨rfl, rfl⟩
    go_enter Try.func17, Try.ntmps17
    go_wp2_with fail
    refine (impl_in _ _ _ _).mono ?_; rintro e w' ⟨rfl, rfl⟩
    go_wp2_with fail
    go_ret2
    exact ⟨ret_int2 hz.out.1.symm hz.out.2.symm, hbx⟩
  cases h2 : levelB a b
  · have hz : Hid (midX n a b = -1 ∧ midY n a b = -1) := by show _ ∧ _; unfold midX midY midOk; rw [h2, h1]; exact ⟨rfl, rfl⟩
    go_enter Try.func17, Try.ntmps17
    go_wp2_with fail
    refine (impl_in _ _ _ _).mono ?_; rintro e w' ⟨rfl, rfl⟩
    go_wp2_with fail
    refine (impl_level _ _ _).mono ?_; rintro e w' ⟨rfl, rfl⟩
    go_wp2_with fail
    go_ret2
    exact ⟨ret_int2 hz.out.1.symm hz.out.2.symm, hbx⟩
  · have hok : midOk n a b = true := by unfold midOk; rw [h1, h2]; rfl
    have hz : Hid (midX n a b = (midTo n a b (n.toNat / 2) : Nat) ∧ midY n a b = 2 ^ n.toNat - 2 * lessF n (midTo n a b (n.toNat / 2))) := ⟨if_pos hok, if_pos hok⟩
    obtain ⟨⟨n0, n1⟩, ⟨b0, b1⟩, a0, a1⟩ := mid_parts hok
    have hpw := two_bd n.toNat (by omega)
    have hpw2 : (2 : Int) ^ n.toNat ≤ 1024 := by
      have h3 : ∀ j : Fin 11, (2 : Int) ^ j.val ≤ 1024 := by decide
      exact h3 ⟨n.toNat, by omega⟩
    have hm2 := mul_bd a (2 ^ n.toNat) 100 1024 a0 (by omega) (by omega) hpw2
    have hn0 : (w.alloc (.cells #[.int .i64 n] 3)).heap[w.heap.size]? = some (.cells #[.int .i64 n] 3 (0, 0)) := World.alloc_new1 w _
    go_enter Try.func17, Try.ntmps17
    go_wp2_with fail
    refine (impl_in _ _ _ _).mono ?_; rintro e w' ⟨rfl, rfl⟩
    go_wp2_with fail
    refine (impl_level _ _ _).mono ?_; rintro e w' ⟨rfl, rfl⟩
    go_wp2_with fail
    clear h1 h2 hok
    go_loopw [8, 9] (fun p _ wr => ∃ (m : Nat) (g : Nat), p = .pointer (some ⟨g, 0, none⟩) ∧ 2 * (m : Int) ≤ n ∧ wr.heap[g]? = some (.cells #[.int .i64 (m : Int)] 3 (0, 0)) ∧ w.heap.size < g ∧ wr.heap[w.heap.size]? = some (.cells #[.int .i64 n] 3 (0, 0)) ∧ Hid (midTo n a b m = midTo n a b (n.toNat / 2)) ∧ Below w.heap.size w wr) (fun p _ wr => cellN wr p)
    case atStart =>
      have e1 : n / 2 = ((n.toNat / 2 : Nat) : Int) := by omega
      have hs1 : (w.alloc (.cells #[.int .i64 n] 3)).heap.size = w.heap.size + 1 := by simp
      have k1 := World.alloc_new1 (w.alloc (.cells #[.int .i64 n] 3)) (.cells #[.int .i64 (n / 2)] 3)
      rw [hs1] at k1
      refine ⟨n.toNat / 2, w.heap.size + 1, by simp, by omega, by rw [← e1]; exact k1, by omega, ?_, rfl, hbx.alloc hbx.size _⟩
      exact ((below_box1 (w.alloc (.cells #[.int .i64 n] 3)) (.cells #[.int .i64 (n / 2)] 3)).block w.heap.size (by rw [hs1]; omega)).trans hn0
    case round =>
      obtain ⟨m, g, rfl, hm, hg, hgl, hnc, hrel2, hbel⟩ := hrel
      have c0 := cell_of_row wr g 0 _ _ (0, 0) hg
      have c1 := cell_of_row wr w.heap.size 0 _ _ (0, 0) hnc
      simp at c0 c1
      by_cases hlt : 1 ≤ (m : Int)
      · have hl := lessF_bd n m (by omega) n1 (by omega)
        have hm1 := mul_bd (2 * lessF n m) b 22528 100 (by omega) (by omega) (by omega) b1
        have hpt := impl_part_mid1 n m g wr (by omega) n1 c0
        rw [kept_less n m (n + 1).toNat (by omega)] at hpt
        have HPT := Lib.hid hpt
        clear hpt
        obtain ⟨q, hq⟩ : ∃ q, m = q + 1 := ⟨m - 1, by omega⟩
        have HQ := Lib.hid hq
        clear hq
        have hsz : w.heap.size < wr.heap.size := Nat.lt_trans hgl (Array.getElem?_eq_some_iff.1 hg).1
        by_cases hp : 2 * lessF n m * b ≤ a * 2 ^ n.toNat
        · have hp' : decide (2 * lessF n m * b ≤ a * 2 ^ n.toNat) = true := decide_eq_true hp
          have HV : Hid (midTo n a b (n.toNat / 2) = m) := by
            show _ = _
            rw [← hrel2.out, HQ.out]
            rw [HQ.out] at hp
            exact if_pos hp
          have HK : Hid (sumTo (keptF n (fun h => inB h m (n - m))) (n + 1).toNat = 2 ^ n.toNat - 2 * lessF n m) := by
            have h5 := kept_mid ⟨n.toNat, by omega⟩ ⟨m, by omega⟩ (by show 1 ≤ m; omega) (by show 2 * m ≤ n.toNat; omega)
            have e1 : ((n.toNat : Nat) : Int) = n := by omega
            have e2 : n.toNat + 1 = (n + 1).toNat := by omega
            simp only [e1, e2] at h5
            exact h5
          have hpt2 := fun w0 k0 k1 => impl_part_mid2 n m g w.heap.size w0 (by omega) n1 (by omega) (by omega) k0 k1
          rw [HK.out] at hpt2
          have HPT2 := Lib.hid hpt2
          clear hpt2
          have d0 : wr.drew.cell? ⟨g, 0, none⟩ = some (.int .i64 m) := c0
          have d1 : wr.drew.cell? ⟨w.heap.size, 0, none⟩ = some (.int .i64 n) := c1
          have hbd : Below w.heap.size w wr.drew := hbel.drew
          clear hp hg hnc hrel2
          go_wp2_with fail
          refine HPT.out.mono ?_; rintro e w' ⟨rfl, rfl⟩
          clear HPT
          go_wp2_with fail
          go_region_held3 (fun w' => w'.cell? ⟨g, 0, none⟩ = some (.int .i64 m) ∧ w'.cell? ⟨w.heap.size, 0, none⟩ = some (.int .i64 n) ∧ Below w.heap.size w w')
            (exact ⟨by assumption, by assumption, by assumption⟩)
            (first | (go_at_call 51; refine (HPT2.out _ (by assumption) (by assumption)).mono ?_; rintro e w' ⟨rfl, rfl⟩))
          all_goals
            go_wp2
            go_ret2
            exact ⟨ret_int2 (by rw [hz.out.1, HV.out]) (by rw [hz.out.2, HV.out]), by assumption⟩
        · have hp' : decide (2 * lessF n m * b ≤ a * 2 ^ n.toNat) = false := decide_eq_false hp
          have HV : Hid (midTo n a b q = midTo n a b (n.toNat / 2)) := by
            show _ = _
            rw [← hrel2.out, HQ.out]
            rw [HQ.out] at hp
            exact (if_neg hp).symm
          have hal := below_box1 wr (.cells #[.int .i64 ((m : Int) - 1)] 3)
          have hn9 := (hal.block w.heap.size hsz).trans hnc
          have hg9 := World.alloc_new1 wr (.cells #[.int .i64 ((m : Int) - 1)] 3)
          have hb9 := hbel.trans (hal.mono hbel.size)
          have HQ1 : Hid ((m : Int) - 1 = q) := by show _ = _; have := HQ.out; omega
          clear hp hg hnc hrel2 hal
          go_wp2_with fail
          refine HPT.out.mono ?_; rintro e w' ⟨rfl, rfl⟩
          clear HPT
          go_wp2
          go_roundw
          case rel =>
            refine ⟨q, wr.heap.size, rfl, by have := HQ.out; omega, ?_, hsz, hn9, HV, hb9⟩
            rw [← HQ1.out]; exact hg9
          case measure =>
            have k1 := cell_of_row (wr.alloc (.cells #[.int .i64 ((m : Int) - 1)] 3)) wr.heap.size 0 _ _ (0, 0) hg9
            simp at k1
            show cellN _ _ < cellN _ _
            rw [cellN_of (n := (m : Int) - 1) (by simp), cellN_of c0]
            omega
      · have hm0 : m = 0 := by omega
        subst hm0
        have HV : Hid (midTo n a b (n.toNat / 2) = 0) := hrel2.out.symm
        have HD := Lib.hid (fun k => below_dn hbel k)
        go_wp2_with fail
        go_quiet (fail)
        go_wp2
        go_ret2
        exact ⟨ret_int2 (by rw [hz.out.1, HV.out]; rfl) (by rw [hz.out.2, HV.out]; simp [lessF, sumTo]), HD.out _⟩
end Go.Proofs.Ytcfeeobjllnofaa
