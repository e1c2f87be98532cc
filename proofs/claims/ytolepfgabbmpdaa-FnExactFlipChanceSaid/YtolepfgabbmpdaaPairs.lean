/-
  Contracts of the signs, of the tests of two data, and of wins and agreements, both packages.
-/
import Derived.Test.YtolepfgabbmpdaaAll
import Derived.Test.YtolepfgabbmpdaaSum
namespace Go.Proofs.Ytolepfgabbmpdaa
open Go.RowKit

def sgn (x : Int) : Int := if 0 < x then 1 else if x < 0 then -1 else 0
theorem sgn_bd (x : Int) : -1 ≤ sgn x ∧ sgn x ≤ 1 := by unfold sgn; split <;> (try split) <;> omega

theorem spec_sign (x : Int) (w : World) :
    Calls Try.prog 72 #[.int .i64 x] w fun e w' => e = .returned (.int .i64 (sgn x)) ∧ w' = w := by
  by_cases h1 : 0 < x
  · have h1' : decide (0 < x) = true := decide_eq_true h1
    have hs : Hid (sgn x = 1) := if_pos h1
    go_enter Try.func72, Try.ntmps72
    go_wp2
    go_ret
    exact ⟨ret_int hs.out.symm, rfl⟩
  · have h1' : decide (0 < x) = false := decide_eq_false h1
    by_cases h2 : x < 0
    · have h2' : decide (x < 0) = true := decide_eq_true h2
      have hs : Hid (sgn x = -1) := by show _ = _; rw [sgn, if_neg h1, if_pos h2]
      go_enter Try.func72, Try.ntmps72
      go_wp2
      go_ret
      exact ⟨ret_int hs.out.symm, rfl⟩
    · have h2' : decide (x < 0) = false := decide_eq_false h2
      have hs : Hid (sgn x = 0) := by show _ = _; rw [sgn, if_neg h1, if_neg h2]
      go_enter Try.func72, Try.ntmps72
      go_wp2
      go_ret
      exact ⟨ret_int hs.out.symm, rfl⟩

theorem impl_sign (x : Int) (w : World) :
    Calls Try.prog 58 #[.int .i64 x] w fun e w' => e = .returned (.int .i64 (sgn x)) ∧ w' = w := by
  by_cases h1 : x < 1
  · by_cases h2 : -1 < x
    · have hx : x = 0 := by omega
      subst hx
      go_enter Try.func58, Try.ntmps58
      go_wp2
      go_ret
      exact ⟨rfl, rfl⟩
    · have hs : Hid (sgn x = -1) := by show _ = _; rw [sgn, if_neg (by omega), if_pos (by omega)]
      go_enter Try.func58, Try.ntmps58
      go_wp2
      go_ret
      exact ⟨ret_int hs.out.symm, rfl⟩
  · have hs : Hid (sgn x = 1) := by show _ = _; rw [sgn, if_pos (by omega)]
    go_enter Try.func58, Try.ntmps58
    go_wp2
    go_ret
    exact ⟨ret_int hs.out.symm, rfl⟩

theorem data_len {zs : List Int} (h : dataB zs = true) : zs.length ≤ 10 := by
  unfold dataB at h; rw [Bool.and_eq_true] at h; exact of_decide_eq_true h.1
theorem data_nth {zs : List Int} (h : dataB zs = true) (j : Nat) (hj : j < zs.length) : -200 ≤ nth zs j ∧ nth zs j ≤ 200 := by
  unfold dataB at h; rw [Bool.and_eq_true] at h; exact allB_nth h.2 j hj

/-- Two data of as many numbers; two samples. -/
def twoB (xs ys : List Int) : Bool := dataB xs && (dataB ys && decide (xs.length = ys.length))
def samplesB (xs ys : List Int) : Bool := decide (0 < xs.length) && (decide (0 < ys.length) && (decide (xs.length + ys.length ≤ 10) && (dataB xs && dataB ys)))
theorem two_of {xs ys : List Int} (h : twoB xs ys = true) : dataB xs = true ∧ dataB ys = true ∧ xs.length = ys.length := by
  unfold twoB at h; simp at h; exact h
theorem samples_of {xs ys : List Int} (h : samplesB xs ys = true) : 0 < xs.length ∧ 0 < ys.length ∧ xs.length + ys.length ≤ 10 ∧ dataB xs = true ∧ dataB ys = true := by
  unfold samplesB at h
  simp only [Bool.and_eq_true, decide_eq_true_eq] at h; exact h

set_option maxHeartbeats 400000 in
theorem spec_validTwo (v : Value) (xs : List Int) (u : Value) (ys : List Int) (w : World) (hr : Reads w v xs) (ks : Reads w u ys) :
    Calls Try.prog 55 #[v, u] w fun e w' => e = .returned (.bool (twoB xs ys)) ∧ w = w' := by
  have hle := hr.le
  have kle := ks.le
  have hr' := hr
  have ks' := ks
  obtain ⟨ao, cap, rfl, hl, hc, hcell⟩ := hr'
  obtain ⟨bo, dap, rfl, kl, kc, kcell⟩ := ks'
  clear hcell kcell
  cases h1 : dataB xs
  · have hz : Hid (twoB xs ys = false) := by show _ = _; unfold twoB; rw [h1]; rfl
    go_enter Try.func55, Try.ntmps55
    go_wp2_with fail
    refine (spec_validData _ xs _ hr).mono ?_; rintro e w1 ⟨rfl, rfl⟩
    go_wp2_with fail
    go_ret
    exact ⟨ret_bool hz.out.symm, rfl⟩
  · cases h2 : dataB ys
    · have hz : Hid (twoB xs ys = false) := by show _ = _; unfold twoB; rw [h2]; simp
      go_enter Try.func55, Try.ntmps55
      go_wp2_with fail
      refine (spec_validData _ xs _ hr).mono ?_; rintro e w1 ⟨rfl, rfl⟩
      go_wp2_with fail
      refine (spec_validData _ ys _ ks).mono ?_; rintro e w1 ⟨rfl, rfl⟩
      go_wp2_with fail
      go_ret
      exact ⟨ret_bool hz.out.symm, rfl⟩
    · have hz : Hid (((xs.length : Int) == (ys.length : Int)) = twoB xs ys) := by
        show _ = _; unfold twoB; rw [h1, h2, Bool.true_and, Bool.true_and]
        by_cases h : xs.length = ys.length <;> simp [h] <;> omega
      go_enter Try.func55, Try.ntmps55
      go_wp2_with fail
      refine (spec_validData _ xs _ hr).mono ?_; rintro e w1 ⟨rfl, rfl⟩
      go_wp2_with fail
      refine (spec_validData _ ys _ ks).mono ?_; rintro e w1 ⟨rfl, rfl⟩
      go_wp2_with fail
      go_ret
      exact ⟨ret_bool hz.out, rfl⟩

set_option maxHeartbeats 400000 in
theorem impl_bothData (v : Value) (xs : List Int) (u : Value) (ys : List Int) (w : World) (hr : Reads w v xs) (ks : Reads w u ys) :
    Calls Try.prog 57 #[v, u] w fun e w' => e = .returned (.bool (twoB xs ys)) ∧ Below w.heap.size w w' := by
  have hle := hr.le
  have kle := ks.le
  have hr' := hr
  have ks' := ks
  obtain ⟨ao, cap, rfl, hl, hc, hcell⟩ := hr'
  obtain ⟨bo, dap, rfl, kl, kc, kcell⟩ := ks'
  clear hcell kcell
  cases h1 : dataB xs
  · have hz : Hid (twoB xs ys = false) := by show _ = _; unfold twoB; rw [h1]; rfl
    go_enter Try.func57, Try.ntmps57
    go_wp2_with fail
    refine (impl_ValidData _ xs _ hr).mono ?_; rintro e w1 ⟨rfl, hb⟩
    go_wp2_with fail
    go_ret
    exact ⟨ret_bool hz.out.symm, hb⟩
  · cases h2 : dataB ys
    · have hz : Hid (twoB xs ys = false) := by show _ = _; unfold twoB; rw [h2]; simp
      go_enter Try.func57, Try.ntmps57
      go_wp2_with fail
      refine (impl_ValidData _ xs _ hr).mono ?_; rintro e w1 ⟨rfl, hb⟩
      go_wp2_with fail
      refine (impl_ValidData _ ys _ (ks.keep hb)).mono ?_; rintro e w2 ⟨rfl, hb2⟩
      go_wp2_with fail
      go_ret
      exact ⟨ret_bool hz.out.symm, hb.trans (hb2.mono hb.size)⟩
    · have hz : Hid (((xs.length : Int) == (ys.length : Int)) = twoB xs ys) := by
        show _ = _; unfold twoB; rw [h1, h2, Bool.true_and, Bool.true_and]
        by_cases h : xs.length = ys.length <;> simp [h] <;> omega
      go_enter Try.func57, Try.ntmps57
      go_wp2_with fail
      refine (impl_ValidData _ xs _ hr).mono ?_; rintro e w1 ⟨rfl, hb⟩
      go_wp2_with fail
      refine (impl_ValidData _ ys _ (ks.keep hb)).mono ?_; rintro e w2 ⟨rfl, hb2⟩
      go_wp2_with fail
      go_ret
      exact ⟨ret_bool hz.out, hb.trans (hb2.mono hb.size)⟩

set_option maxHeartbeats 400000 in
theorem impl_samples (v : Value) (xs : List Int) (u : Value) (ys : List Int) (w : World) (hr : Reads w v xs) (ks : Reads w u ys) (lx : xs.length ≤ 1048576) (ly : ys.length ≤ 1048576) :
    Calls Try.prog 61 #[v, u] w fun e w' => e = .returned (.bool (samplesB xs ys)) ∧ Below w.heap.size w w' := by
  have hle := hr.le
  have kle := ks.le
  have hr' := hr
  have ks' := ks
  obtain ⟨ao, cap, rfl, hl, hc, hcell⟩ := hr'
  obtain ⟨bo, dap, rfl, kl, kc, kcell⟩ := ks'
  clear hcell kcell
  by_cases h1 : 0 < xs.length
  · have h1' : decide ((0 : Int) < (xs.length : Int)) = true := decide_eq_true (by omega)
    by_cases h2 : 0 < ys.length
    · have h2' : decide ((0 : Int) < (ys.length : Int)) = true := decide_eq_true (by omega)
      by_cases h3 : xs.length + ys.length ≤ 10
      · have h3' : decide ((xs.length : Int) + (ys.length : Int) ≤ 10) = true := decide_eq_true (by omega)
        cases h4 : dataB xs
        · have hz : Hid (samplesB xs ys = false) := by show _ = _; unfold samplesB; rw [h4]; simp
          go_enter Try.func61, Try.ntmps61
          go_wp2_with fail
          refine (impl_ValidData _ xs _ hr).mono ?_; rintro e w1 ⟨rfl, hb⟩
          go_wp2_with fail
          go_ret
          exact ⟨ret_bool hz.out.symm, hb⟩
        · have hz : Hid (dataB ys = samplesB xs ys) := by show _ = _; unfold samplesB; rw [h4, decide_eq_true h1, decide_eq_true h2, decide_eq_true h3]; rfl
          go_enter Try.func61, Try.ntmps61
          go_wp2_with fail
          refine (impl_ValidData _ xs _ hr).mono ?_; rintro e w1 ⟨rfl, hb⟩
          go_wp2_with fail
          refine (impl_ValidData _ ys _ (ks.keep hb)).mono ?_; rintro e w2 ⟨rfl, hb2⟩
          go_wp2_with fail
          go_ret
          exact ⟨ret_bool hz.out, hb.trans (hb2.mono hb.size)⟩
      · have h3' : decide ((xs.length : Int) + (ys.length : Int) ≤ 10) = false := decide_eq_false (by omega)
        have hz : Hid (samplesB xs ys = false) := by show _ = _; unfold samplesB; rw [decide_eq_false h3]; simp
        go_enter Try.func61, Try.ntmps61
        go_wp2_with fail
        go_ret
        exact ⟨ret_bool hz.out.symm, Below.refl _ _⟩
    · have h2' : decide ((0 : Int) < (ys.length : Int)) = false := decide_eq_false (by omega)
      have hz : Hid (samplesB xs ys = false) := by show _ = _; unfold samplesB; rw [decide_eq_false h2]; simp
      go_enter Try.func61, Try.ntmps61
      go_wp2_with fail
      go_ret
      exact ⟨ret_bool hz.out.symm, Below.refl _ _⟩
  · have h1' : decide ((0 : Int) < (xs.length : Int)) = false := decide_eq_false (by omega)
    have hz : Hid (samplesB xs ys = false) := by show _ = _; unfold samplesB; rw [decide_eq_false h1]; simp
    go_enter Try.func61, Try.ntmps61
    go_wp2_with fail
    go_ret
    exact ⟨ret_bool hz.out.symm, Below.refl _ _⟩

set_option maxHeartbeats 400000 in
theorem spec_validSamples (v : Value) (xs : List Int) (u : Value) (ys : List Int) (w : World) (hr : Reads w v xs) (ks : Reads w u ys) :
    Calls Try.prog 59 #[v, u] w fun e w' => e = .returned (.bool (samplesB xs ys)) ∧ w = w' := by
  have hle := hr.le
  have kle := ks.le
  have hr' := hr
  have ks' := ks
  obtain ⟨ao, cap, rfl, hl, hc, hcell⟩ := hr'
  obtain ⟨bo, dap, rfl, kl, kc, kcell⟩ := ks'
  clear hcell kcell
  cases h4 : dataB xs
  · have hz : Hid (samplesB xs ys = false) := by show _ = _; unfold samplesB; rw [h4]; simp
    go_enter Try.func59, Try.ntmps59
    go_wp2_with fail
    refine (spec_validData _ xs _ hr).mono ?_; rintro e w1 ⟨rfl, rfl⟩
    go_wp2_with fail
    go_ret
    exact ⟨ret_bool hz.out.symm, rfl⟩
  · cases h5 : dataB ys
    · have hz : Hid (samplesB xs ys = false) := by show _ = _; unfold samplesB; rw [h5]; simp
      go_enter Try.func59, Try.ntmps59
      go_wp2_with fail
      refine (spec_validData _ xs _ hr).mono ?_; rintro e w1 ⟨rfl, rfl⟩
      go_wp2_with fail
      refine (spec_validData _ ys _ ks).mono ?_; rintro e w1 ⟨rfl, rfl⟩
      go_wp2_with fail
      go_ret
      exact ⟨ret_bool hz.out.symm, rfl⟩
    · have dx := data_len h4
      have dy := data_len h5
      by_cases h3 : xs.length + ys.length ≤ 10
      · have h3' : decide ((xs.length : Int) + (ys.length : Int) ≤ 10) = true := decide_eq_true (by omega)
        by_cases h1 : 0 < xs.length
        · have h1' : decide ((0 : Int) < (xs.length : Int)) = true := decide_eq_true (by omega)
          have hz : Hid (samplesB xs ys = decide ((0 : Int) < (ys.length : Int))) := by
            show _ = _; unfold samplesB; rw [h4, h5, decide_eq_true h1, decide_eq_true h3]; by_cases h : 0 < ys.length <;> simp [h]
          go_enter Try.func59, Try.ntmps59
          go_wp2_with fail
          refine (spec_validData _ xs _ hr).mono ?_; rintro e w1 ⟨rfl, rfl⟩
          go_wp2_with fail
          refine (spec_validData _ ys _ ks).mono ?_; rintro e w1 ⟨rfl, rfl⟩
          go_wp2_with fail
          go_ret
          exact ⟨ret_bool (hz.out.symm ▸ (by simp)), rfl⟩
        · have h1' : decide ((0 : Int) < (xs.length : Int)) = false := decide_eq_false (by omega)
          have hz : Hid (samplesB xs ys = false) := by show _ = _; unfold samplesB; rw [decide_eq_false h1]; simp
          go_enter Try.func59, Try.ntmps59
          go_wp2_with fail
          refine (spec_validData _ xs _ hr).mono ?_; rintro e w1 ⟨rfl, rfl⟩
          go_wp2_with fail
          refine (spec_validData _ ys _ ks).mono ?_; rintro e w1 ⟨rfl, rfl⟩
          go_wp2_with fail
          go_ret
          exact ⟨ret_bool hz.out.symm, rfl⟩
      · have h3' : decide ((xs.length : Int) + (ys.length : Int) ≤ 10) = false := decide_eq_false (by omega)
        have hz : Hid (samplesB xs ys = false) := by show _ = _; unfold samplesB; rw [decide_eq_false h3]; simp
        go_enter Try.func59, Try.ntmps59
        go_wp2_with fail
        refine (spec_validData _ xs _ hr).mono ?_; rintro e w1 ⟨rfl, rfl⟩
        go_wp2_with fail
        refine (spec_validData _ ys _ ks).mono ?_; rintro e w1 ⟨rfl, rfl⟩
        go_wp2_with fail
        go_ret
        exact ⟨ret_bool hz.out.symm, rfl⟩
end Go.Proofs.Ytolepfgabbmpdaa
