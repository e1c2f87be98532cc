/-
  The reader of bytes that draws arguments: newReader, pick, one.
-/
import Derived.Test.YtcfeeobjllnofaaMem
namespace Go.Proofs.Ytcfeeobjllnofaa
open Go.RowKit
set_option linter.unusedVariables false

/-- The reader v: it lies behind what was there in W, has read p times, and its bytes lie in W. -/
def Rdr (W w : World) (v : Value) (p : Nat) : Prop :=
  ∃ g a L cap, v = .pointer (some ⟨g, 0, none⟩) ∧ W.heap.size ≤ g ∧ w.heap[g]? = some (.cells #[.slice a L cap, .int .i64 p] 70 (0, 0)) ∧ L ≤ cap ∧ cap ≤ maxLen ∧ L ≤ 2000 ∧
    (L = 0 ∨ ∃ b o, a = some ⟨b, o, none⟩ ∧ ∀ j : Nat, j < L → ∃ x : Int, W.cell? ⟨b, o + j, none⟩ = some (.int .u8 x) ∧ 0 ≤ x ∧ x ≤ 255)
theorem Rdr.keep {W w w' : World} {v : Value} {p : Nat} (h : Rdr W w v p) (hb : Below w.heap.size w w') : Rdr W w' v p := by
  obtain ⟨g, a, L, cap, rfl, h1, h2, h3⟩ := h
  have hlt : g < w.heap.size := (Array.getElem?_eq_some_iff.1 h2).1
  exact ⟨g, a, L, cap, rfl, h1, by rw [hb.block g hlt]; exact h2, h3⟩
/-- The block of a reader. -/
def rdrBlock : Value → Option Nat
  | .pointer (some a) => some a.block
  | _ => none
/-- What was drawn. -/
def RetPick (W w : World) (v : Value) (p : Nat) (n : Int) (e : Ending) (w' : World) : Prop :=
  ∃ r : Int, e = .returned (.int .i64 r) ∧ (0 ≤ r ∧ (1 ≤ n → r < n) ∧ (n < 1 → r = 0)) ∧ Rdr W w' v (p + 1) ∧ Below W.heap.size W w' ∧ w.grownBy w' (rdrBlock v)

theorem xor_nn (a b : Int) (h1 : 0 ≤ a) (h2 : a < 1099511627776) (h3 : 0 ≤ b) (h4 : b < 1099511627776) : 0 ≤ bits .xor .i64 a b ∧ bits .xor .i64 a b < 1099511627776 := by
  have key : (BitVec.ofInt 64 a ^^^ BitVec.ofInt 64 b).toNat = a.toNat ^^^ b.toNat := by
    rw [BitVec.toNat_xor, BitVec.toNat_ofInt, BitVec.toNat_ofInt]
    congr 1 <;> omega
  have hx : a.toNat ^^^ b.toNat < 2 ^ 40 := Nat.xor_lt_two_pow (by omega) (by omega)
  have e : bits .xor .i64 a b = IntKind.i64.wrap ((BitVec.ofInt 64 a ^^^ BitVec.ofInt 64 b).toNat : Nat) := rfl
  rw [e, key, IntKind.wrap_i64]
  generalize a.toNat ^^^ b.toNat = m at *
  omega

theorem wrap_id (n : Int) (h : -9223372036854775808 ≤ n ∧ n ≤ 9223372036854775807) : IntKind.i64.wrap n = n := by rw [IntKind.wrap_i64]; omega
theorem rdr_set {w : World} {g : Nat} {x y : Value} {t : TypeId} (h : w.heap[g]? = some (.cells #[x, y] t (0, 0))) (z : Value) : (w.setCell ⟨g, 1, none⟩ z).heap[g]? = some (.cells #[x, z] t (0, 0)) :=
  heap_setCell_same w g 1 _ t z h

set_option maxHeartbeats 1000000 in
theorem rdr_pick (W w : World) (v : Value) (p : Nat) (n : Int) (hR : Rdr W w v p) (hb : Below W.heap.size W w) (hp : p ≤ 1000) (hn : -1000000 ≤ n ∧ n ≤ 1000000) :
    Calls Try.prog 73 #[v, .int .i64 n] w (RetPick W w v p n) := by
  obtain ⟨g, a, L, cap, rfl, h1, h2, hl, hm, hL, hby⟩ := hR
  have c0 := cell_of_row w g 0 _ _ (0, 0) h2
  have c1 := cell_of_row w g 1 _ _ (0, 0) h2
  simp at c0 c1
  have f1 := frozen_of_row w g 1 _ _ h2
  have s2 := rdr_set h2 (.int .i64 ((p : Int) + 1))
  have hgr : w.grownBy (w.setCell ⟨g, 1, none⟩ (.int .i64 ((p : Int) + 1))) (some g) :=
    ⟨rfl, rfl, rfl, by simp [World.setCell], fun k _ hr => Below.heap_setCell _ _ _ _ (fun e => hr (by rw [e]))⟩
  have hR' : Rdr W (w.setCell ⟨g, 1, none⟩ (.int .i64 ((p : Int) + 1))) (.pointer (some ⟨g, 0, none⟩)) (p + 1) :=
    ⟨g, a, L, cap, rfl, h1, by simpa using s2, hl, hm, hL, hby⟩
  have hb' : Below W.heap.size W (w.setCell ⟨g, 1, none⟩ (.int .i64 ((p : Int) + 1))) := hb.setCell (p := ⟨g, 1, none⟩) h1 _
  have hpost : ∀ (r : Int) (m : Nat), 0 ≤ r ∧ (1 ≤ n → r < n) ∧ (n < 1 → r = 0) → RetPick W w (.pointer (some ⟨g, 0, none⟩)) p n (.returned (.int .i64 r)) ((w.setCell ⟨g, 1, none⟩ (.int .i64 ((p : Int) + 1))).drewN m) :=
    fun r m hr => ⟨r, rfl, hr, hR', below_dn hb' m, ⟨hgr.os, hgr.tape, hgr.output, hgr.size, hgr.block⟩⟩
  have HP := Lib.hid hpost
  have HH := Lib.hid h2
  clear hpost hgr hR' s2 h2 hb'
  by_cases h : n < 1
  · have h' : decide (n < 1) = true := decide_eq_true h
    go_enter Try.func73, Try.ntmps73
    go_wp2
    go_ret
    exact HP.out 0 0 ⟨Int.le_refl _, fun _ => by omega, fun _ => rfl⟩
  · have h' : decide (n < 1) = false := decide_eq_false h
    by_cases hL0 : L = 0
    · subst hL0
      go_enter Try.func73, Try.ntmps73
      go_wp2
      go_ret
      exact HP.out 0 0 ⟨Int.le_refl _, fun _ => by omega, fun _ => rfl⟩
    · have hL' : ((L : Int) == 0) = false := by simp; omega
      rcases hby with hby | ⟨b, o, rfl, hby⟩
      · exact absurd hby hL0
      · by_cases hpl : p < L
        · have i1 : decide ((p : Int) < (L : Int)) = true := decide_eq_true (by omega)
          obtain ⟨x, hx, x0, x1⟩ := hby p hpl
          have hbl := World.block_lt_of_cell? _ _ hx
          have hx1 : (w.setCell ⟨g, 1, none⟩ (.int .i64 ((p : Int) + 1))).cell? ⟨b, o + p, none⟩ = some (.int .u8 x) := by
            rw [World.cell?_setCell_other]
            · exact (hb.cell (p := ⟨b, o + p, none⟩) hbl).trans hx
            · intro e; simp at e; simp at hbl; omega
          clear hby hx hbl
          go_enter Try.func73, Try.ntmps73
          go_wp2
          go_ret
          exact HP.out _ 0 ⟨Int.emod_nonneg _ (by omega), fun _ => Int.emod_lt_of_pos _ (by omega), fun _ => by omega⟩
        · have i1 : decide ((p : Int) < (L : Int)) = false := decide_eq_false (by omega)
          have hLp : 0 < L := by omega
          obtain ⟨x, hx, x0, x1⟩ := hby (p % L) (Nat.mod_lt _ hLp)
          obtain ⟨y, hy, y0, y1⟩ := hby ((p * 7 + 3) % L) (Nat.mod_lt _ hLp)
          have hbl := World.block_lt_of_cell? _ _ hx
          have hx1 : (w.setCell ⟨g, 1, none⟩ (.int .i64 ((p : Int) + 1))).cell? ⟨b, o + p % L, none⟩ = some (.int .u8 x) := by
            rw [World.cell?_setCell_other]
            · exact (hb.cell (p := ⟨b, o + p % L, none⟩) hbl).trans hx
            · intro e; simp at e; simp at hbl; omega
          have hy1 : (w.setCell ⟨g, 1, none⟩ (.int .i64 ((p : Int) + 1))).cell? ⟨b, o + (p * 7 + 3) % L, none⟩ = some (.int .u8 y) := by
            rw [World.cell?_setCell_other]
            · exact (hb.cell (p := ⟨b, o + (p * 7 + 3) % L, none⟩) hbl).trans hy
            · intro e; simp at e; simp at hbl; omega
          have q1 : p % L < L := Nat.mod_lt _ hLp
          have q2 : (p * 7 + 3) % L < L := Nat.mod_lt _ hLp
          have q3 : p / L ≤ 1000 := Nat.le_trans (Nat.div_le_self _ _) hp
          have e1 : (p : Int) % (L : Int) = ((p % L : Nat) : Int) := by simp
          have e2 : ((p : Int) * 7 + 3) % (L : Int) = (((p * 7 + 3) % L : Nat) : Int) := by simp
          have e3 : (p : Int) / (L : Int) = ((p / L : Nat) : Int) := by simp
          have t1 : (p : Int).tmod (L : Int) = ((p % L : Nat) : Int) := by rw [Int.tmod_eq_emod_of_nonneg (by omega)]; simp
          have t2 : ((p : Int) * 7 + 3).tmod (L : Int) = (((p * 7 + 3) % L : Nat) : Int) := by rw [Int.tmod_eq_emod_of_nonneg (by omega)]; simp
          have t3 : (p : Int).tdiv (L : Int) = ((p / L : Nat) : Int) := by rw [Int.tdiv_eq_ediv_of_nonneg (by omega)]; simp
          generalize p % L = k1 at *
          generalize (p * 7 + 3) % L = k2 at *
          generalize p / L = k3 at *
          have v1 := wrap_id ((p : Int) * 7) (by omega)
          have v2 := wrap_id ((p : Int) * 7 + 3) (by omega)
          have v3 := wrap_id x (by omega)
          have v4 := wrap_id (x * 131) (by omega)
          have v5 := wrap_id y (by omega)
          have v6 := wrap_id (y * 1117) (by omega)
          have v7 := wrap_id (x * 131 + y * 1117) (by omega)
          have v8 := wrap_id ((p : Int) * 29) (by omega)
          have v9 := wrap_id (x * 131 + y * 1117 + (p : Int) * 29) (by omega)
          have va := wrap_id ((k3 : Int) * 53) (by omega)
          have vb := wrap_id (x * 131 + y * 1117 + (p : Int) * 29 + (k3 : Int) * 53) (by omega)
          clear hby hx hy hbl
          go_enter Try.func73, Try.ntmps73
          go_wp2
          go_quiet (fail)
          clear v1 v2 v3 v4 v5 v6 v7 v8 v9 va vb e1 e2 e3 t1 t2 t3
          have X0 : 0 ≤ x * 131 + y * 1117 + (p : Int) * 29 + (k3 : Int) * 53 := by omega
          have X1 : x * 131 + y * 1117 + (p : Int) * 29 + (k3 : Int) * 53 < 1099511627776 := by omega
          generalize x * 131 + y * 1117 + (p : Int) * 29 + (k3 : Int) * 53 = X at *
          have hx := xor_nn X (X / 64) X0 X1 (by omega) (by omega)
          go_wp2
          go_ret
          exact HP.out _ _ ⟨Int.emod_nonneg _ (by omega), fun _ => Int.emod_lt_of_pos _ (by omega), fun _ => by omega⟩

/-- One of the numbers of a list. -/
def RetOne (W w : World) (v : Value) (p : Nat) (zs : List Int) (e : Ending) (w' : World) : Prop :=
  ∃ r : Int, e = .returned (.int .i64 r) ∧ r ∈ zs ∧ Rdr W w' v (p + 1) ∧ Below W.heap.size W w' ∧ w.grownBy w' (rdrBlock v)

theorem nth_mem (zs : List Int) (j : Nat) (h : j < zs.length) : nth zs j ∈ zs := by
  have : nth zs j = zs[j] := by simp [nth, List.getD, h]
  rw [this]; exact List.getElem_mem _

theorem World.alloc_new (w : World) (o : Obj) : (w.alloc o).heap[w.heap.size]? = some o := by show (w.heap.push o)[w.heap.size]? = some o; simp
theorem owns_list (w : World) (B : Nat) (zs : List Int) (hB : B ≤ w.heap.size) (hl : zs.length ≤ 100) : Owns (w.alloc (.cells (zs.map (Value.int .i64)).toArray 3)) B (.slice (some ⟨w.heap.size, 0, none⟩) zs.length zs.length) zs := by
  refine .inr ⟨w.heap.size, zs.length, _, rfl, hB, World.alloc_new w _, Nat.le_refl _, by unfold maxLen; omega, by simp, ?_⟩
  exact List.take_of_length_le (by simp)

set_option maxHeartbeats 1000000 in
theorem rdr_lit (W w : World) (v : Value) (p : Nat) (zs : List Int) (n : Nat) (hn : zs.length = n) (h0 : 0 < n) (h100 : n ≤ 100) (hR : Rdr W w v p) (hb : Below W.heap.size W w) (hp : p ≤ 1000) :
    Calls Try.prog 74 #[v, .slice (some ⟨w.heap.size, 0, none⟩) n n] (w.alloc (.cells (zs.map (Value.int .i64)).toArray 3)) (RetOne W w v p zs) := by
  subst hn
  have ho := owns_list w w.heap.size zs (Nat.le_refl _) h100
  have hal : Below w.heap.size w (w.alloc (.cells (zs.map (Value.int .i64)).toArray 3)) := (Below.refl _ _).alloc (Nat.le_refl _) _
  have hR2 := hR.keep hal
  have hb2 := hb.trans (hal.mono hb.size)
  have hga := grownBy_of_below hal (rdrBlock v)
  have hgl : ∃ g, v = .pointer (some ⟨g, 0, none⟩) ∧ g < w.heap.size := by
    obtain ⟨g, a, L, cap, rfl, h1, h2, _⟩ := hR
    exact ⟨g, rfl, (Array.getElem?_eq_some_iff.1 h2).1⟩
  obtain ⟨g, rfl, hg⟩ := hgl
  generalize w.alloc (.cells (zs.map (Value.int .i64)).toArray 3) = w1 at *
  go_enter Try.func74, Try.ntmps74
  go_wp2_with fail
  refine (rdr_pick W _ _ p _ hR2 hb2 hp (by omega)).mono ?_
  rintro e w2 ⟨r, rfl, ⟨r0, r1, _⟩, hR3, hb3, hgr⟩
  have r1' := r1 (by omega)
  obtain ⟨k, rfl⟩ : ∃ k : Nat, r = k := ⟨r.toNat, by omega⟩
  have hk : k < zs.length := by omega
  have hc := (ho.other hgr (by right; simp [Value.ownBlock, rdrBlock]; omega)).cell k hk
  have hpost : RetOne W w (.pointer (some ⟨g, 0, none⟩)) p zs (.returned (.int .i64 (nth zs k))) w2 := ⟨_, rfl, nth_mem zs k hk, hR3, hb3, grownBy_trans hga hgr⟩
  have HP := Lib.hid hpost
  clear hpost hgr hga hR3 hR2 hb3 hb2 hal ho r1
  go_wp2_with fail
  go_ret
  exact HP.out

/-- A new reader. -/
def RetRdr (W : World) (e : Ending) (w' : World) : Prop := ∃ v, e = .returned v ∧ Rdr W w' v 0 ∧ Below W.heap.size W w'

theorem rdr_new (a : Option Addr) (len cap : Nat) (z : List Int) (w : World) (h : IsRow .u8 w a len cap z) :
    Calls Try.prog 67 #[.slice a len cap] w (RetRdr w) := by
  have hfacts : len ≤ cap ∧ cap ≤ maxLen ∧ (len = 0 ∨ ∃ b o, a = some ⟨b, o, none⟩ ∧ ∀ j : Nat, j < len → ∃ x : Int, w.cell? ⟨b, o + j, none⟩ = some (.int .u8 x) ∧ 0 ≤ x ∧ x ≤ 255) := by
    rcases h with ⟨rfl, rfl, rfl, rfl⟩ | ⟨x, rfl, hl, hm, hz, hcell, hw⟩
    · exact ⟨Nat.le_refl _, Nat.zero_le _, .inl rfl⟩
    · refine ⟨hl, hm, ?_⟩
      by_cases h0 : len = 0
      · exact .inl h0
      · right
        obtain ⟨b, off, spot⟩ := x
        have hc := hcell 0 (by omega)
        have hspot : spot = none := by simpa [Addr.add] using World.cell?_spot hc
        subst hspot
        refine ⟨b, off, rfl, fun j hj => ⟨z.getD j 0, ?_, ?_⟩⟩
        · have := hcell j (by omega)
          rwa [Addr.add_lit] at this
        · have hmem : z.getD j 0 ∈ z := by
            have hj' : j < z.length := by omega
            have : z.getD j 0 = z[j] := by simp [List.getD, hj']
            rw [this]; exact List.getElem_mem _
          have := hw _ hmem
          simp only [Lit.wf, Bool.and_eq_true, decide_eq_true_eq] at this
          exact this
  obtain ⟨h1, h2, h3⟩ := hfacts
  clear h
  have hal := fun c => ((Below.refl w.heap.size w).alloc (Nat.le_refl _) (.cells c 70))
  by_cases hl : 2000 < len
  · have hl' : decide ((2000 : Int) < (len : Int)) = true := decide_eq_true (by unfold maxLen at *; omega)
    rcases h3 with h3 | ⟨b, o, rfl, h3⟩
    · omega
    · have hp : RetRdr w (.returned (.pointer (some ⟨w.heap.size, 0, none⟩))) (w.alloc (.cells #[.slice (some ⟨b, o, none⟩) 2000 cap, .int .i64 0] 70)) :=
        ⟨_, rfl, ⟨w.heap.size, _, 2000, cap, rfl, Nat.le_refl _, World.alloc_new w _, by omega, h2, by omega, .inr ⟨b, o, rfl, fun j hj => h3 j (by omega)⟩⟩, hal _⟩
      have HP := Lib.hid hp
      clear hp hal h3
      unfold maxLen at h2
      go_enter Try.func67, Try.ntmps67
      go_wp2
      go_ret
      exact HP.out
  · have hl' : decide ((2000 : Int) < (len : Int)) = false := decide_eq_false (by omega)
    have hp : RetRdr w (.returned (.pointer (some ⟨w.heap.size, 0, none⟩))) (w.alloc (.cells #[.slice a len cap, .int .i64 0] 70)) :=
      ⟨_, rfl, ⟨w.heap.size, _, len, cap, rfl, Nat.le_refl _, World.alloc_new w _, h1, h2, by omega, h3⟩, hal _⟩
    have HP := Lib.hid hp
    clear hp hal h3
    unfold maxLen at h2
    go_enter Try.func67, Try.ntmps67
    go_wp2
    go_ret
    exact HP.out
end Go.Proofs.Ytcfeeobjllnofaa
