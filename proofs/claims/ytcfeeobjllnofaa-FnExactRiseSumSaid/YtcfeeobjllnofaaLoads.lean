/-
  Contracts of ValidLoads.
-/
import Derived.Test.YtcfeeobjllnofaaAll
namespace Go.Proofs.Ytcfeeobjllnofaa
open Go.RowKit

/-- Numbers with weights. -/
def loadsB (xs ws : List Int) : Bool := inB (xs.length : Int) 1 8 && (decide (xs.length = ws.length) && (allB xs (-30) 30 && allB ws 1 5))
set_option maxHeartbeats 400000 in
theorem impl_ValidLoads (v : Value) (xs : List Int) (u : Value) (ws : List Int) (w : World) (hr : Reads w v xs) (ks : Reads w u ws) :
    Calls Try.prog 37 #[v, u] w fun e w' => e = .returned (.bool (loadsB xs ws)) ∧ Below w.heap.size w w' := by
  have hle := hr.le
  have kle := ks.le
  have hr' := hr
  have ks' := ks
  obtain ⟨ao, cap, rfl, hl, hc, hcell⟩ := hr'
  obtain ⟨bo, dap, rfl, kl, kc, kcell⟩ := ks'
  clear hcell kcell
  cases h1 : inB (xs.length : Int) 1 8
  · have hz : Hid (loadsB xs ws = false) := by show _ = _; unfold loadsB; rw [h1]; rfl
    go_enter Try.func37, Try.ntmps37
    go_wp2_with (go_at_call 49; refine (impl_in _ _ _ _).mono ?_; rintro e w' ⟨rfl, rfl⟩)
    go_ret
    exact ⟨ret_bool hz.out.symm, Below.refl _ _⟩
  · by_cases h2 : xs.length = ws.length
    · have h2' : ((ws.length : Int) == (xs.length : Int)) = true := by simp; omega
      have H1 := Lib.hid h1
      have H2 := Lib.hid h2
      clear h2
      cases h3 : allB xs (-30) 30
      · have hz : Hid (loadsB xs ws = false) := by show _ = _; unfold loadsB; rw [h3]; simp
        go_enter Try.func37, Try.ntmps37
        go_wp2_with (go_at_call 49; refine (impl_in _ _ _ _).mono ?_; rintro e w' ⟨rfl, rfl⟩)
        refine (impl_allIn _ xs _ _ _ hr).mono ?_
        rintro e w' ⟨rfl, hb⟩
        go_wp2_with fail
        go_ret
        exact ⟨ret_bool hz.out.symm, hb⟩
      · have hz : Hid (allB ws 1 5 = loadsB xs ws) := by show _ = _; unfold loadsB; rw [h1, h3, decide_eq_true H2.out]; rfl
        go_enter Try.func37, Try.ntmps37
        go_wp2_with (go_at_call 49; refine (impl_in _ _ _ _).mono ?_; rintro e w' ⟨rfl, rfl⟩)
        refine (impl_allIn _ xs _ _ _ hr).mono ?_
        rintro e w1 ⟨rfl, hb⟩
        go_wp2_with fail
        refine (impl_allIn _ ws _ _ _ (ks.keep hb)).mono ?_
        rintro e w2 ⟨rfl, hb2⟩
        go_wp2_with fail
        go_ret
        exact ⟨ret_bool hz.out, hb.trans (hb2.mono hb.size)⟩
    · have h2' : ((ws.length : Int) == (xs.length : Int)) = false := by simp; omega
      have hz : Hid (loadsB xs ws = false) := by show _ = _; unfold loadsB; rw [decide_eq_false h2]; simp
      go_enter Try.func37, Try.ntmps37
      go_wp2_with (go_at_call 49; refine (impl_in _ _ _ _).mono ?_; rintro e w' ⟨rfl, rfl⟩)
      go_ret
      exact ⟨ret_bool hz.out.symm, Below.refl _ _⟩

set_option maxHeartbeats 800000 in
theorem spec_validLoads (v : Value) (xs : List Int) (u : Value) (ws : List Int) (w : World) (hr : Reads w v xs) (ks : Reads w u ws) :
    Calls Try.prog 56 #[v, u] w fun e w' => e = .returned (.bool (loadsB xs ws)) ∧ w = w' := by
  have hle := hr.le
  have kle := ks.le
  obtain ⟨ao, cap, rfl, hl, hc, hcell⟩ := hr
  obtain ⟨bo, dap, rfl, kl, kc, kcell⟩ := ks
  go_enter Try.func56, Try.ntmps56
  go_wp2
  go_loop [5] (fun i => ∃ k : Nat, k ≤ ws.length ∧ i = .int .i64 k ∧ Hid (∀ j, j < k → inB (nth ws j) 1 5 = true)) (fun i => ws.length - (intOf i).toNat)
  case atStart => exact ⟨0, Nat.zero_le _, rfl, fun j hj => absurd hj (by omega)⟩
  case round =>
    obtain ⟨k, hk, rfl, hall⟩ := hrel
    by_cases hlt : k < ws.length
    · rcases kcell with h0 | ⟨b, o, rfl, kcell⟩
      · exfalso; subst h0; have e0 : ([] : List Int).length = 0 := rfl; omega
      · have hsrc := kcell k hlt
        clear hcell kcell
        cases hx : inB (nth ws k) 1 5
        · have HB : Hid (loadsB xs ws = false) := by show _ = _; unfold loadsB; rw [allB_no k hlt hx]; simp
          go_wp2_with (go_at_call 46; refine (spec_inRange _ _ _ _).mono ?_; rintro e w' ⟨rfl, rfl⟩)
          go_ret
          exact ⟨ret_bool HB.out.symm, rfl⟩
        · have HX : Hid (∀ j, j < k + 1 → inB (nth ws j) 1 5 = true) := fun j hj => by
            by_cases e : j = k
            · rw [e]; exact hx
            · exact hall.out j (by omega)
          go_wp2_with (go_at_call 46; refine (spec_inRange _ _ _ _).mono ?_; rintro e w' ⟨rfl, rfl⟩)
          go_round
          case rel => exact ⟨k + 1, by omega, by go_num, HX⟩
          case measure => simp [intOf]; omega
    · have HW : Hid (allB ws 1 5 = true) := allB_yes (fun j hj => hall.out j (by omega))
      clear hall
      go_wp2
      go_loop [6] (fun i => ∃ k : Nat, k ≤ xs.length ∧ i = .int .i64 k ∧ Hid (∀ j, j < k → inB (nth xs j) (-30) 30 = true)) (fun i => xs.length - (intOf i).toNat)
      case atStart => exact ⟨0, Nat.zero_le _, rfl, fun j hj => absurd hj (by omega)⟩
      case round =>
        obtain ⟨k, hk, rfl, hall⟩ := hrel
        by_cases hlt : k < xs.length
        · rcases hcell with h0 | ⟨b, o, rfl, hcell⟩
          · exfalso; subst h0; have e0 : ([] : List Int).length = 0 := rfl; omega
          · have hsrc := hcell k hlt
            clear hcell kcell
            cases hx : inB (nth xs k) (-30) 30
            · have HB : Hid (loadsB xs ws = false) := by show _ = _; unfold loadsB; rw [allB_no k hlt hx]; simp
              go_wp2_with (go_at_call 46; refine (spec_inRange _ _ _ _).mono ?_; rintro e w' ⟨rfl, rfl⟩)
              go_ret
              exact ⟨ret_bool HB.out.symm, rfl⟩
            · have HX : Hid (∀ j, j < k + 1 → inB (nth xs j) (-30) 30 = true) := fun j hj => by
                by_cases e : j = k
                · rw [e]; exact hx
                · exact hall.out j (by omega)
              go_wp2_with (go_at_call 46; refine (spec_inRange _ _ _ _).mono ?_; rintro e w' ⟨rfl, rfl⟩)
              go_round
              case rel => exact ⟨k + 1, by omega, by go_num, HX⟩
              case measure => simp [intOf]; omega
        · clear hcell kcell
          have HX : Hid (allB xs (-30) 30 = true) := allB_yes (fun j hj => hall.out j (by omega))
          by_cases h2 : xs.length = ws.length
          · have h2' : ((xs.length : Int) == (ws.length : Int)) = true := by simp; omega
            have HB : Hid (loadsB xs ws = inB (xs.length : Int) 1 8) := by show _ = _; unfold loadsB; rw [HW.out, HX.out, decide_eq_true h2]; simp
            clear h2
            go_wp2_with (go_at_call 46; refine (spec_inRange _ _ _ _).mono ?_; rintro e w' ⟨rfl, rfl⟩)
            go_ret
            exact ⟨ret_bool HB.out.symm, rfl⟩
          · have h2' : ((xs.length : Int) == (ws.length : Int)) = false := by simp; omega
            have HB : Hid (loadsB xs ws = false) := by show _ = _; unfold loadsB; rw [decide_eq_false h2]; simp
            clear h2
            go_wp2_with fail
            go_ret
            exact ⟨ret_bool HB.out.symm, rfl⟩

theorem spec_ValidLoads (v : Value) (xs : List Int) (u : Value) (ws : List Int) (w : World) (hr : Reads w v xs) (ks : Reads w u ws) :
    Calls Try.prog 38 #[v, u] w fun e w' => e = .returned (.bool (loadsB xs ws)) ∧ w = w' := by
  go_enter Try.func38, Try.ntmps38
  go_wp2_with fail
  refine (spec_validLoads v xs u ws _ hr ks).mono ?_
  rintro e w' ⟨rfl, rfl⟩
  go_wp2_with fail
  go_ret
  exact ⟨rfl, rfl⟩

end Go.Proofs.Ytcfeeobjllnofaa
