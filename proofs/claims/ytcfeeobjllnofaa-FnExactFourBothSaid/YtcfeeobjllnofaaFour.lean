/-
  Contracts of tables of four numbers: validFour, valid, fourWays, ways, FourWays of both packages, and laws.toFour.
-/
import Derived.Test.YtcfeeobjllnofaaNum
import Derived.Test.YtcfeeobjllnofaaAll
import Derived.Deep.RegionHeld3
namespace Go.Proofs.Ytcfeeobjllnofaa
open Go.RowKit
set_option linter.unusedVariables false

/-- The table as a value. -/
abbrev four (a b c d : Int) : Value := .agg #[.int .i64 a, .int .i64 b, .int .i64 c, .int .i64 d]
/-- The table is accepted. -/
def fourB (a b c d : Int) : Bool := inB a 0 8 && (inB b 0 8 && (inB c 0 8 && inB d 0 8))
theorem fourB_iff {a b c d : Int} : fourB a b c d = true ↔ (0 ≤ a ∧ a ≤ 8) ∧ (0 ≤ b ∧ b ≤ 8) ∧ (0 ≤ c ∧ c ≤ 8) ∧ (0 ≤ d ∧ d ≤ 8) := by
  unfold fourB; simp only [Bool.and_eq_true, inB_iff]
/-- The ways of a table. -/
def ways4 (a b c d : Int) : Int := binI (a + b) a * binI (c + d) c
theorem binI_le16 (n k : Int) (h : n ≤ 16) : binI n k ≤ 65536 := by
  unfold binI
  split
  · omega
  · have h1 := bin_le n.toNat k.toNat
    have h2 : (2 : Nat) ^ n.toNat ≤ 2 ^ 16 := two_pow_le (by omega)
    have h3 : (2 : Nat) ^ 16 = 65536 := by decide
    omega
theorem ways4_bd (a b c d : Int) (h1 : a + b ≤ 16) (h2 : c + d ≤ 16) : 0 ≤ ways4 a b c d ∧ ways4 a b c d ≤ 4294967296 := by
  unfold ways4
  have := mul_bd (binI (a + b) a) (binI (c + d) c) 65536 65536 (binI_nonneg _ _) (binI_le16 _ _ h1) (binI_nonneg _ _) (binI_le16 _ _ h2)
  omega
theorem wrapF (n : Int) (h : -9223372036854775808 ≤ n ∧ n ≤ 9223372036854775807) : IntKind.i64.wrap n = n := by rw [IntKind.wrap_i64]; omega
theorem spec_chooseQ (n k : Int) (h0 : 0 ≤ n) (h1 : n ≤ 32) (w : World) :
    Calls Try.prog 42 #[.int .i64 n, .int .i64 k] w fun e w' => e = .returned (.int .i64 (binI n k)) ∧ w' = w := (spec_choose n k w h0 h1).mono fun _ _ h => ⟨h.1, h.2.symm⟩
theorem impl_chooseQ (n k : Int) (h0 : 0 ≤ n) (h1 : n ≤ 32) (w : World) :
    Calls Try.prog 45 #[.int .i64 n, .int .i64 k] w fun e w' => e = .returned (.int .i64 (binI n k)) ∧ w' = w := (impl_choose n k w h0 h1).mono fun _ _ h => ⟨h.1, h.2.symm⟩

/-- A block of its own. -/
theorem below_box (w : World) (o : Obj) : Below w.heap.size w (w.alloc o) := (Below.refl _ _).alloc (Nat.le_refl _) o

set_option maxHeartbeats 1000000 in
theorem spec_validFour (a b c d : Int) (w : World) :
    Calls Try.prog 40 #[four a b c d] w fun e w' => e = .returned (.bool (fourB a b c d)) ∧ Below w.heap.size w w' := by
  have hbx := below_box w (.cells #[.int .i64 a, .int .i64 b, .int .i64 c, .int .i64 d] 26)
  have HB := Lib.hid hbx
  clear hbx
  cases h1 : inB a 0 8
  · have hz : Hid (fourB a b c d = false) := by show _ = _; unfold fourB; rw [h1]; rfl
    go_enter Try.func40, Try.ntmps40
    go_wp2_with (go_at_call 46; refine (spec_inRange _ _ _ _).mono ?_; rintro e w' ⟨rfl, rfl⟩)
    go_ret
    exact ⟨ret_bool hz.out.symm, HB.out⟩
  · cases h2 : inB b 0 8
    · have hz : Hid (fourB a b c d = false) := by show _ = _; unfold fourB; rw [h2]; simp
      go_enter Try.func40, Try.ntmps40
      go_wp2_with (go_at_call 46; refine (spec_inRange _ _ _ _).mono ?_; rintro e w' ⟨rfl, rfl⟩)
      go_ret
      exact ⟨ret_bool hz.out.symm, HB.out⟩
    · cases h3 : inB c 0 8
      · have hz : Hid (fourB a b c d = false) := by show _ = _; unfold fourB; rw [h3]; simp
        go_enter Try.func40, Try.ntmps40
        go_wp2_with (go_at_call 46; refine (spec_inRange _ _ _ _).mono ?_; rintro e w' ⟨rfl, rfl⟩)
        go_ret
        exact ⟨ret_bool hz.out.symm, HB.out⟩
      · have hz : Hid (fourB a b c d = inB d 0 8) := by show _ = _; unfold fourB; rw [h1, h2, h3]; rfl
        go_enter Try.func40, Try.ntmps40
        go_wp2_with (go_at_call 46; refine (spec_inRange _ _ _ _).mono ?_; rintro e w' ⟨rfl, rfl⟩)
        go_ret
        exact ⟨ret_bool hz.out.symm, HB.out⟩

theorem allB_four (a b c d : Int) : allB [a, b, c, d] 0 8 = fourB a b c d := by
  unfold fourB allB
  simp

set_option maxHeartbeats 1000000 in
theorem impl_valid (a b c d : Int) (w : World) :
    Calls Try.prog 43 #[four a b c d] w fun e w' => e = .returned (.bool (fourB a b c d)) ∧ Below w.heap.size w w' := by
  have hbx := below_box w (.cells #[.int .i64 a, .int .i64 b, .int .i64 c, .int .i64 d] 26)
  have hby : Below w.heap.size w ((w.alloc (.cells #[.int .i64 a, .int .i64 b, .int .i64 c, .int .i64 d] 26)).alloc (.cells #[.int .i64 a, .int .i64 b, .int .i64 c, .int .i64 d] 3)) := hbx.alloc hbx.size _
  have hr : Reads ((w.alloc (.cells #[.int .i64 a, .int .i64 b, .int .i64 c, .int .i64 d] 26)).alloc (.cells #[.int .i64 a, .int .i64 b, .int .i64 c, .int .i64 d] 3)) (.slice (some ⟨w.heap.size + 1, 0, none⟩) 4 4) [a, b, c, d] := by
    have h : Owns _ _ _ [a, b, c, d] := (OwnsA.weak (World.ownsRow_lit (size := 1) (w.alloc (.cells #[.int .i64 a, .int .i64 b, .int .i64 c, .int .i64 d] 26)) #[.int .i64 a, .int .i64 b, .int .i64 c, .int .i64 d] 4 (Nat.le_refl _) (by unfold maxLen; omega) rfl))
    have e1 : (w.alloc (.cells #[.int .i64 a, .int .i64 b, .int .i64 c, .int .i64 d] 26)).heap.size = w.heap.size + 1 := by simp
    rw [e1] at h
    exact h.reads
  go_enter Try.func43, Try.ntmps43
  go_wp2_with fail
  refine (impl_allIn _ [a, b, c, d] _ _ _ hr).mono ?_
  rintro e w2 ⟨rfl, hb2⟩
  go_wp2_with fail
  go_ret
  exact ⟨ret_bool (allB_four a b c d), hby.trans (hb2.mono hby.size)⟩

set_option maxHeartbeats 1000000 in
theorem spec_fourWays (a b c d : Int) (w : World) (ha : 0 ≤ a ∧ a ≤ 16) (hab : 0 ≤ a + b ∧ a + b ≤ 16) (hc : 0 ≤ c ∧ c ≤ 16) (hcd : 0 ≤ c + d ∧ c + d ≤ 16) :
    Calls Try.prog 41 #[four a b c d] w fun e w' => e = .returned (.int .i64 (ways4 a b c d)) ∧ Below w.heap.size w w' := by
  have hbx := below_box w (.cells #[.int .i64 a, .int .i64 b, .int .i64 c, .int .i64 d] 26)
  have HB := Lib.hid (fun n => below_dn hbx n)
  clear hbx
  have hw := ways4_bd a b c d (by omega) (by omega)
  have w1 := wrapF (a + b) (by omega)
  have w2 := wrapF (c + d) (by omega)
  unfold ways4 at *
  have w3 := wrapF (binI (a + b) a * binI (c + d) c) (by omega)
  have H1 := Lib.hid (spec_chooseQ (a + b) a (by omega) (by omega))
  have H2 := Lib.hid (spec_chooseQ (c + d) c (by omega) (by omega))
  clear ha hab hc hcd
  generalize binI (a + b) a = x at *
  generalize binI (c + d) c = y at *
  go_enter Try.func41, Try.ntmps41
  go_wp2
  go_quiet (first | (go_at_call_of 42 (Value.int .i64 (a + b)); refine Calls.quiet_of_same (H1.out _)) | (go_at_call_of 42 (Value.int .i64 (c + d)); refine Calls.quiet_of_same (H2.out _)))
  go_wp2
  go_ret
  exact ⟨rfl, HB.out _⟩

set_option maxHeartbeats 1000000 in
theorem impl_ways (a b c d : Int) (w : World) (ha : 0 ≤ a ∧ a ≤ 16) (hab : 0 ≤ a + b ∧ a + b ≤ 16) (hc : 0 ≤ c ∧ c ≤ 16) (hcd : 0 ≤ c + d ∧ c + d ≤ 16) :
    Calls Try.prog 44 #[four a b c d] w fun e w' => e = .returned (.int .i64 (ways4 a b c d)) ∧ Below w.heap.size w w' := by
  have hbx := below_box w (.cells #[.int .i64 a, .int .i64 b, .int .i64 c, .int .i64 d] 26)
  have HB := Lib.hid (fun n => below_dn hbx n)
  clear hbx
  have hw := ways4_bd a b c d (by omega) (by omega)
  have w1 := wrapF (a + b) (by omega)
  have w2 := wrapF (c + d) (by omega)
  unfold ways4 at *
  have w3 := wrapF (binI (a + b) a * binI (c + d) c) (by omega)
  have H1 := Lib.hid (impl_chooseQ (a + b) a (by omega) (by omega))
  have H2 := Lib.hid (impl_chooseQ (c + d) c (by omega) (by omega))
  clear ha hab hc hcd
  generalize binI (a + b) a = x at *
  generalize binI (c + d) c = y at *
  go_enter Try.func44, Try.ntmps44
  go_wp2
  go_quiet (first | (go_at_call_of 45 (Value.int .i64 (a + b)); refine Calls.quiet_of_same (H1.out _)) | (go_at_call_of 45 (Value.int .i64 (c + d)); refine Calls.quiet_of_same (H2.out _)))
  go_wp2
  go_ret
  exact ⟨rfl, HB.out _⟩

set_option maxHeartbeats 1000000 in
theorem laws_toFour (a b c d : Int) (w : World) :
    Calls Try.prog 14 #[four a b c d] w fun e w' => e = .returned (four a b c d) ∧ Below w.heap.size w w' := by
  have h1 := below_box w (.cells #[.int .i64 a, .int .i64 b, .int .i64 c, .int .i64 d] 23)
  have h2 := h1.alloc h1.size (.cells #[.int .i64 a, .int .i64 b, .int .i64 c, .int .i64 d] 26)
  have h3 := h2.alloc h2.size (.cells #[.int .i64 a, .int .i64 b, .int .i64 c, .int .i64 d] 26)
  have H3 := Lib.hid h3
  clear h1 h2 h3
  go_enter Try.func14, Try.ntmps14
  go_wp2
  refine bodyPost_ret (v := four a b c d) (by simp [results, Try.results14, go_sem]) rfl ?_
  exact ⟨rfl, H3.out⟩
end Go.Proofs.Ytcfeeobjllnofaa
