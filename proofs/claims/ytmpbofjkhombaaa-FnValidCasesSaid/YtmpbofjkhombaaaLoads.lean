/-
  Contracts of ValidLoads and ValidCases.
-/
import Derived.Test.YtmpbofjkhombaaaAll
namespace Go.Proofs.Ytmpbofjkhombaaa
open Go.RowKit

/-- Numbers with weights; numbers with marks. -/
def loadsB (xs ws : List Int) : Bool := inB (xs.length : Int) 1 8 && (decide (xs.length = ws.length) && (allB xs (-30) 30 && allB ws 1 5))
def casesB (xs ms : List Int) : Bool := decide (0 < xs.length) && (dataB xs && (decide (xs.length = ms.length) && allB ms 0 1))

set_option maxHeartbeats 400000 in
theorem impl_ValidLoads (v : Value) (xs : List Int) (u : Value) (ws : List Int) (w : World) (hr : Reads w v xs) (ks : Reads w u ws) :
    Calls Try.prog 22 #[v, u] w fun e w' => e = .returned (.bool (loadsB xs ws)) ∧ Below w.heap.size w w' := by
  have hle := hr.le
  have kle := ks.le
  have hr' := hr
  have ks' := ks
  obtain ⟨ao, cap, rfl, hl, hc, hcell⟩ := hr'
  obtain ⟨bo, dap, rfl, kl, kc, kcell⟩ := ks'
  clear hcell kcell
  cases h1 : inB (xs.length : Int) 1 8
  · have hz : Hid (loadsB xs ws = false) := by show _ = _; unfold loadsB; rw [h1]; rfl
    go_enter Try.func22, Try.ntmps22
    go_wp2_with (go_at_call 34; refine (impl_in _ _ _ _).mono ?_; rintro e w' ⟨rfl, rfl⟩)
    go_ret
    exact ⟨ret_bool hz.out.symm, Below.refl _ _⟩
  · by_cases h2 : xs.length = ws.length
    · have h2' : ((ws.length : Int) == (xs.length : Int)) = true := by simp; omega
      have H1 := Lib.hid h1
      have H2 := Lib.hid h2
      clear h2
      cases h3 : allB xs (-30) 30
      · have hz : Hid (loadsB xs ws = false) := by show _ = _; unfold loadsB; rw [h3]; simp
        go_enter Try.func22, Try.ntmps22
        go_wp2_with (go_at_call 34; refine (impl_in _ _ _ _).mono ?_; rintro e w' ⟨rfl, rfl⟩)
        refine (impl_allIn _ xs _ _ _ hr).mono ?_
        rintro e w' ⟨rfl, hb⟩
        go_wp2_with fail
        go_ret
        exact ⟨ret_bool hz.out.symm, hb⟩
      · have hz : Hid (allB ws 1 5 = loadsB xs ws) := by show _ = _; unfold loadsB; rw [h1, h3, decide_eq_true H2.out]; rfl
        go_enter Try.func22, Try.ntmps22
        go_wp2_with (go_at_call 34; refine (impl_in _ _ _ _).mono ?_; rintro e w' ⟨rfl, rfl⟩)
        refine (impl_allIn _ xs _ _ _ hr).mono ?_
        rintro e w1 ⟨rfl, hb⟩
        go_wp2_with fail
        refine (impl_allIn _ ws _ _ _ (ks.keep hb)).mono ?_
        rintro e w2 ⟨rfl, hb2⟩
        go_wp2_with fail
        go_ret
        exact ⟨ret_bool hz.out, hb.trans (hb2.mono hb.size)⟩
    · have h2' : ((ws.length : Int) == (xs.length : Int)) = false := by simp; omega
      have hz : Hid (loadsB xs ws = false) := by show _ = _; unfold loadsB; rw [decide_eq_false h2]; simp
      go_enter Try.func22, Try.ntmps22
      go_wp2_with (go_at_call 34; refine (impl_in _ _ _ _).mono ?_; rintro e w' ⟨rfl, rfl⟩)
      go_ret
      exact ⟨ret_bool hz.out.symm, Below.refl _ _⟩

set_option maxHeartbeats 800000 in
theorem spec_validLoads (v : Value) (xs : List Int) (u : Value) (ws : List Int) (w : World) (hr : Reads w v xs) (ks : Reads w u ws) :
    Calls Try.prog 42 #[v, u] w fun e w' => e = .returned (.bool (loadsB xs ws)) ∧ w = w' := by
  have hle := hr.le
  have kle := ks.le
  obtain ⟨ao, cap, rfl, hl, hc, hcell⟩ := hr
  obtain ⟨bo, dap, rfl, kl, kc, kcell⟩ := ks
  go_enter Try.func42, Try.ntmps42
  go_wp2
  go_loop [5] (fun i => ∃ k : Nat, k ≤ ws.length ∧ i = .int .i64 k ∧ Hid (∀ j, j < k → inB (nth ws j) 1 5 = true)) (fun i => ws.length - (intOf i).toNat)
  case atStart => exact ⟨0, Nat.zero_le _, rfl, fun j hj => absurd hj (by omega)⟩
  case round =>
    obtain ⟨k, hk, rfl, hall⟩ := hrel
    by_cases hlt : k < ws.length
    · rcases kcell with h0 | ⟨b, o, rfl, kcell⟩
      · exfalso; subst h0; have e0 : ([] : List Int).length = 0 := rfl; omega
      · have hsrc := kcell k hlt
        clear hcell kcell
        cases hx : inB (nth ws k) 1 5
        · have HB : Hid (loadsB xs ws = false) := by show _ = _; unfold loadsB; rw [allB_no k hlt hx]; simp
          go_wp2_with (go_at_call 37; refine (spec_inRange _ _ _ _).mono ?_; rintro e w' ⟨rfl, rfl⟩)
          go_ret
          exact ⟨ret_bool HB.out.symm, rfl⟩
        · have HX : Hid (∀ j, j < k + 1 → inB (nth ws j) 1 5 = true) := fun j hj => by
            by_cases e : j = k
            · rw [e]; exact hx
            · exact hall.out j (by omega)
          go_wp2_with (go_at_call 37; refine (spec_inRange _ _ _ _).mono ?_; rintro e w' ⟨rfl, rfl⟩)
          go_round
          case rel => exact ⟨k + 1, by omega, by go_num, HX⟩
          case measure => simp [intOf]; omega
    · have HW : Hid (allB ws 1 5 = true) := allB_yes (fun j hj => hall.out j (by omega))
      clear hall
      go_wp2
      go_loop [6] (fun i => ∃ k : Nat, k ≤ xs.length ∧ i = .int .i64 k ∧ Hid (∀ j, j < k → inB (nth xs j) (-30) 30 = true)) (fun i => xs.length - (intOf i).toNat)
      case atStart => exact ⟨0, Nat.zero_le _, rfl, fun j hj => absurd hj (by omega)⟩
      case round =>
        obtain ⟨k, hk, rfl, hall⟩ := hrel
        by_cases hlt : k < xs.length
        · rcases hcell with h0 | ⟨b, o, rfl, hcell⟩
          · exfalso; subst h0; have e0 : ([] : List Int).length = 0 := rfl; omega
          · have hsrc := hcell k hlt
            clear hcell kcell
            cases hx : inB (nth xs k) (-30) 30
            · have HB : Hid (loadsB xs ws = false) := by show _ = _; unfold loadsB; rw [allB_no k hlt hx]; simp
              go_wp2_with (go_at_call 37; refine (spec_inRange _ _ _ _).mono ?_; rintro e w' ⟨rfl, rfl⟩)
              go_ret
              exact ⟨ret_bool HB.out.symm, rfl⟩
            · have HX : Hid (∀ j, j < k + 1 → inB (nth xs j) (-30) 30 = true) := fun j hj => by
                by_cases e : j = k
                · rw [e]; exact hx
                · exact hall.out j (by omega)
              go_wp2_with (go_at_call 37; refine (spec_inRange _ _ _ _).mono ?_; rintro e w' ⟨rfl, rfl⟩)
              go_round
              case rel => exact ⟨k + 1, by omega, by go_num, HX⟩
              case measure => simp [intOf]; omega
        · clear hcell kcell
          have HX : Hid (allB xs (-30) 30 = true) := allB_yes (fun j hj => hall.out j (by omega))
          by_cases h2 : xs.length = ws.length
          · have h2' : ((xs.length : Int) == (ws.length : Int)) = true := by simp; omega
            have HB : Hid (loadsB xs ws = inB (xs.length : Int) 1 8) := by show _ = _; unfold loadsB; rw [HW.out, HX.out, decide_eq_true h2]; simp
            clear h2
            go_wp2_with (go_at_call 37; refine (spec_inRange _ _ _ _).mono ?_; rintro e w' ⟨rfl, rfl⟩)
            go_ret
            exact ⟨ret_bool HB.out.symm, rfl⟩
          · have h2' : ((xs.length : Int) == (ws.length : Int)) = false := by simp; omega
            have HB : Hid (loadsB xs ws = false) := by show _ = _; unfold loadsB; rw [decide_eq_false h2]; simp
            clear h2
            go_wp2_with fail
            go_ret
            exact ⟨ret_bool HB.out.symm, rfl⟩

theorem spec_ValidLoads (v : Value) (xs : List Int) (u : Value) (ws : List Int) (w : World) (hr : Reads w v xs) (ks : Reads w u ws) :
    Calls Try.prog 23 #[v, u] w fun e w' => e = .returned (.bool (loadsB xs ws)) ∧ w = w' := by
  go_enter Try.func23, Try.ntmps23
  go_wp2_with fail
  refine (spec_validLoads v xs u ws _ hr ks).mono ?_
  rintro e w' ⟨rfl, rfl⟩
  go_wp2_with fail
  go_ret
  exact ⟨rfl, rfl⟩

set_option maxHeartbeats 400000 in
theorem impl_ValidCases (v : Value) (xs : List Int) (u : Value) (ms : List Int) (w : World) (hr : Reads w v xs) (ks : Reads w u ms) :
    Calls Try.prog 25 #[v, u] w fun e w' => e = .returned (.bool (casesB xs ms)) ∧ Below w.heap.size w w' := by
  have hle := hr.le
  have kle := ks.le
  have hr' := hr
  have ks' := ks
  obtain ⟨ao, cap, rfl, hl, hc, hcell⟩ := hr'
  obtain ⟨bo, dap, rfl, kl, kc, kcell⟩ := ks'
  clear hcell kcell
  by_cases h1 : 0 < xs.length
  · have h1' : decide ((0 : Int) < (xs.length : Int)) = true := decide_eq_true (by omega)
    cases h3 : dataB xs
    · have hz : Hid (casesB xs ms = false) := by show _ = _; unfold casesB; rw [h3]; simp
      go_enter Try.func25, Try.ntmps25
      go_wp2_with fail
      refine (impl_ValidData _ xs _ hr).mono ?_
      rintro e w' ⟨rfl, hb⟩
      go_wp2_with fail
      go_ret
      exact ⟨ret_bool hz.out.symm, hb⟩
    · by_cases h2 : xs.length = ms.length
      · have h2' : ((ms.length : Int) == (xs.length : Int)) = true := by simp; omega
        have hz : Hid (allB ms 0 1 = casesB xs ms) := by show _ = _; unfold casesB; rw [h3, decide_eq_true h2, decide_eq_true h1]; rfl
        clear h2
        go_enter Try.func25, Try.ntmps25
        go_wp2_with fail
        refine (impl_ValidData _ xs _ hr).mono ?_
        rintro e w1 ⟨rfl, hb⟩
        go_wp2_with fail
        refine (impl_allIn _ ms _ _ _ (ks.keep hb)).mono ?_
        rintro e w2 ⟨rfl, hb2⟩
        go_wp2_with fail
        go_ret
        exact ⟨ret_bool hz.out, hb.trans (hb2.mono hb.size)⟩
      · have h2' : ((ms.length : Int) == (xs.length : Int)) = false := by simp; omega
        have hz : Hid (casesB xs ms = false) := by show _ = _; unfold casesB; rw [decide_eq_false h2]; simp
        go_enter Try.func25, Try.ntmps25
        go_wp2_with fail
        refine (impl_ValidData _ xs _ hr).mono ?_
        rintro e w1 ⟨rfl, hb⟩
        go_wp2_with fail
        go_ret
        exact ⟨ret_bool hz.out.symm, hb⟩
  · have h1' : decide ((0 : Int) < (xs.length : Int)) = false := decide_eq_false (by omega)
    have hz : Hid (casesB xs ms = false) := by show _ = _; unfold casesB; rw [decide_eq_false h1]; rfl
    go_enter Try.func25, Try.ntmps25
    go_wp2_with fail
    go_ret
    exact ⟨ret_bool hz.out.symm, Below.refl _ _⟩

set_option maxHeartbeats 800000 in
theorem spec_validCases (v : Value) (xs : List Int) (u : Value) (ms : List Int) (w : World) (hr : Reads w v xs) (ks : Reads w u ms) :
    Calls Try.prog 44 #[v, u] w fun e w' => e = .returned (.bool (casesB xs ms)) ∧ w = w' := by
  have hle := hr.le
  have kle := ks.le
  have hr' := hr
  obtain ⟨ao, cap, rfl, hl, hc, hcell⟩ := hr'
  obtain ⟨bo, dap, rfl, kl, kc, kcell⟩ := ks
  clear hcell
  go_enter Try.func44, Try.ntmps44
  go_wp2
  go_loop [5] (fun i => ∃ k : Nat, k ≤ ms.length ∧ i = .int .i64 k ∧ Hid (∀ j, j < k → inB (nth ms j) 0 1 = true)) (fun i => ms.length - (intOf i).toNat)
  case atStart => exact ⟨0, Nat.zero_le _, rfl, fun j hj => absurd hj (by omega)⟩
  case round =>
    obtain ⟨k, hk, rfl, hall⟩ := hrel
    by_cases hlt : k < ms.length
    · rcases kcell with h0 | ⟨b, o, rfl, kcell⟩
      · exfalso; subst h0; have e0 : ([] : List Int).length = 0 := rfl; omega
      · have hsrc := kcell k hlt
        clear kcell
        cases hx : inB (nth ms k) 0 1
        · have HB : Hid (casesB xs ms = false) := by show _ = _; unfold casesB; rw [allB_no k hlt hx]; simp
          go_wp2_with (go_at_call 37; refine (spec_inRange _ _ _ _).mono ?_; rintro e w' ⟨rfl, rfl⟩)
          go_ret
          exact ⟨ret_bool HB.out.symm, rfl⟩
        · have HX : Hid (∀ j, j < k + 1 → inB (nth ms j) 0 1 = true) := fun j hj => by
            by_cases e : j = k
            · rw [e]; exact hx
            · exact hall.out j (by omega)
          go_wp2_with (go_at_call 37; refine (spec_inRange _ _ _ _).mono ?_; rintro e w' ⟨rfl, rfl⟩)
          go_round
          case rel => exact ⟨k + 1, by omega, by go_num, HX⟩
          case measure => simp [intOf]; omega
    · clear kcell
      have HW : Hid (allB ms 0 1 = true) := allB_yes (fun j hj => hall.out j (by omega))
      clear hall
      cases h3 : dataB xs
      · have hz : Hid (casesB xs ms = false) := by show _ = _; unfold casesB; rw [h3]; simp
        go_wp2_with fail
        refine (spec_validData _ xs _ hr).mono ?_
        rintro e w' ⟨rfl, rfl⟩
        go_wp2_with fail
        go_ret
        exact ⟨ret_bool hz.out.symm, rfl⟩
      · by_cases h2 : xs.length = ms.length
        · have h2' : ((xs.length : Int) == (ms.length : Int)) = true := by simp; omega
          have HB : Hid (casesB xs ms = decide (0 < xs.length)) := by show _ = _; unfold casesB; rw [HW.out, h3, decide_eq_true h2]; simp
          clear h2
          go_wp2_with fail
          refine (spec_validData _ xs _ hr).mono ?_
          rintro e w' ⟨rfl, rfl⟩
          go_wp2_with fail
          go_ret
          exact ⟨ret_bool (by rw [HB.out] <;> simp), rfl⟩
        · have h2' : ((xs.length : Int) == (ms.length : Int)) = false := by simp; omega
          have HB : Hid (casesB xs ms = false) := by show _ = _; unfold casesB; rw [decide_eq_false h2]; simp
          clear h2
          go_wp2_with fail
          refine (spec_validData _ xs _ hr).mono ?_
          rintro e w' ⟨rfl, rfl⟩
          go_wp2_with fail
          go_ret
          exact ⟨ret_bool HB.out.symm, rfl⟩

theorem spec_ValidCases (v : Value) (xs : List Int) (u : Value) (ms : List Int) (w : World) (hr : Reads w v xs) (ks : Reads w u ms) :
    Calls Try.prog 26 #[v, u] w fun e w' => e = .returned (.bool (casesB xs ms)) ∧ w = w' := by
  go_enter Try.func26, Try.ntmps26
  go_wp2_with fail
  refine (spec_validCases v xs u ms _ hr ks).mono ?_
  rintro e w' ⟨rfl, rfl⟩
  go_wp2_with fail
  go_ret
  exact ⟨rfl, rfl⟩
end Go.Proofs.Ytmpbofjkhombaaa
