/-
  The contract of impl.RiseSum.
-/
import Derived.Test.YtcfeeobjllnofaaRise
namespace Go.Proofs.Ytcfeeobjllnofaa
open Go.RowKit
set_option linter.unusedVariables false

theorem nth_repl (n j : Nat) : nth (List.replicate n (0 : Int)) j = 0 := by
  simp only [nth, List.getD, List.getElem?_replicate]
  split <;> rfl
/-- The sums over heights are bounded as far as there are heights. -/
theorem hF_bd (ws xs : Nat → Int) (hw : ∀ i, 0 ≤ ws i ∧ ws i ≤ 5) (hx : ∀ i, -30 ≤ xs i ∧ xs i ≤ 30) : ∀ (i : Nat) k, k ≤ 60 → 0 ≤ hF ws xs i k ∧ hF ws xs i k ≤ 300 * i := by
  intro i
  induction i with
  | zero => intro k _; exact ⟨Int.le_refl _, by show (0 : Int) ≤ _; omega⟩
  | succ i ih =>
    intro k hk
    have h0 := pm_ge (hF ws xs i) 0 k (fun j hj => (ih j (by omega)).1)
    have h1 := pm_self (hF ws xs i) k
    have h1' := ih k hk
    have h2 := mul_bd (ws i) (absI (xs i) ((k : Int) - 30)) 5 60 (hw i).1 (hw i).2 (absI_nonneg _ _) (absI_le _ _ (hx i) (by omega))
    show 0 ≤ pm (hF ws xs i) k + ws i * absI (xs i) ((k : Int) - 30) ∧ pm (hF ws xs i) k + ws i * absI (xs i) ((k : Int) - 30) ≤ _
    omega

set_option maxHeartbeats 4000000 in
theorem impl_RiseSum (v : Value) (xs : List Int) (u : Value) (ws : List Int) (w : World) (hr : Reads w v xs) (hs : Reads w u ws) :
    Calls Try.prog 25 #[v, u] w fun e w' => e = .returned (.int .i64 (riseV xs ws)) ∧ Below w.heap.size w w' := by
  obtain ⟨ti, hi, hz0, hz1, hz2⟩ := info_parts infoInt
  cases hok : loadsB xs ws
  · have hz : Hid (riseV xs ws = -1) := by show _ = _; unfold riseV; rw [hok]; rfl
    go_enter Try.func25, Try.ntmps25
    go_wp2_with fail
    refine (impl_ValidLoads v xs u ws _ hr hs).mono ?_
    rintro e w' ⟨rfl, hb⟩
    rw [hok]
    go_wp2_with fail
    go_ret
    exact ⟨ret_int hz.out.symm, hb⟩
  have hz : Hid (riseV xs ws = pm (hF (nth ws) (nth xs) xs.length) 60) := if_pos hok
  obtain ⟨⟨hn1, hn8⟩, hlen, hx, hw⟩ := loads_parts hok
  have HX := Lib.hid (And.intro hx hw)
  have HLEN := Lib.hid hlen
  clear hx hw hlen
  go_enter Try.func25, Try.ntmps25
  go_wp2_with fail
  refine (impl_ValidLoads v xs u ws _ hr hs).mono ?_
  rintro e w1 ⟨rfl, hb1⟩
  rw [hok]
  have hr1 := hr.keep hb1
  have hs1 := hs.keep hb1
  have hb1s := hb1.size
  clear hr hs hok
  obtain ⟨ax, capx, rfl, lx1, lx2, cellx⟩ := hr1
  obtain ⟨aw, capw, rfl, lw1, lw2, cellw⟩ := hs1
  rcases cellx with h | ⟨bx, ox, rfl, cellx⟩
  · rw [h] at hn1; simp at hn1
  rcases cellw with h | ⟨bw, ow, rfl, cellw⟩
  · have h2 := HLEN.out; rw [h] at h2; have e0 : ([] : List Int).length = 0 := rfl; omega
  rw [← HLEN.out] at cellw
  have HC := Lib.hid (And.intro cellx cellw)
  clear cellx cellw
  go_wp2_with (at_make; refine wpList_make_full _ rfl _ _ 36 rfl w1.heap.size 3 ti (.int .i64 0) 1 Try.underlying36 hi hz0 hz1 .i64 .i64 _ _ 61 rfl rfl rfl rfl (by rw [hz2]; omega) (by unfold maxLen; omega) (Nat.le_refl _) ?_)
  intro w2 hown0 hgrow0
  have hown := Owns.made (zs := List.replicate 61 0) (by simpa using hown0) rfl rfl
  have hbel : Below w1.heap.size w1 w2 := (Below.refl _ _).grown hgrow0 (Nat.le_refl _) (by simp)
  have HZ0 : Hid (∀ j, j < 61 → nth (List.replicate 61 (0 : Int)) j = hF (nth ws) (nth xs) 0 j) := fun j hj => nth_repl 61 j
  have hlz : (List.replicate 61 (0 : Int)).length = 61 := List.length_replicate
  generalize List.replicate 61 (0 : Int) = z0 at *
  clear hown0 hgrow0
  go_wp2
  go_loopw [18] (fun i wr => ∃ (k : Nat) (zs : List Int), k ≤ xs.length ∧ i = .int .i64 k ∧ Owns wr w1.heap.size (.slice (some ⟨w1.heap.size, 0, none⟩) 61 61) zs ∧ Hid (zs.length = 61 ∧ ∀ j, j < 61 → nth zs j = hF (nth ws) (nth xs) k j) ∧ Below w1.heap.size w1 wr) (fun i _ => xs.length - (intOf i).toNat)
  case atStart => exact ⟨0, z0, Nat.zero_le _, rfl, hown, ⟨hlz, HZ0.out⟩, hbel⟩
  case round =>
    clear hown hbel hlz
    obtain ⟨i, zs, hi8, rfl, hown, hzs, hbel⟩ := hrel
    by_cases hin : i < xs.length
    · have i1 : (i : Int) < (xs.length : Int) := by omega
      have cx0 : wr.cell? ⟨bx, ox + i, none⟩ = some (.int .i64 (nth xs i)) := (hbel.cell (p := ⟨bx, ox + i, none⟩) (World.block_lt_of_cell? _ _ (HC.out.1 i hin))).trans (HC.out.1 i hin)
      have cz0 := hown.cell 0 (by rw [hzs.out.1]; omega)
      have hz00 : nth zs 0 = hF (nth ws) (nth xs) i 0 := hzs.out.2 0 (by omega)
      rw [hz00] at cz0
      clear hz00
      go_wp2
      go_loopw [28, 8] (fun kk bst wr => ∃ (k : Nat) (zs : List Int) (B : Int), k ≤ 61 ∧ kk = .int .i64 k ∧ bst = .int .i64 B ∧ Hid ((k = 0 → B = hF (nth ws) (nth xs) i 0) ∧ (∀ k', k = k' + 1 → B = pm (hF (nth ws) (nth xs) i) k')) ∧ Owns wr w1.heap.size (.slice (some ⟨w1.heap.size, 0, none⟩) 61 61) zs ∧ Hid (zs.length = 61 ∧ ∀ j, j < 61 → nth zs j = if j < k then hF (nth ws) (nth xs) (i + 1) j else hF (nth ws) (nth xs) i j) ∧ Below w1.heap.size w1 wr) (fun kk _ _ => 61 - (intOf kk).toNat)
      case atStart => exact ⟨0, zs, hF (nth ws) (nth xs) i 0, Nat.zero_le _, rfl, rfl, ⟨fun _ => rfl, fun k' h => by omega⟩, hown, ⟨hzs.out.1, fun j hj => by rw [if_neg (by omega)]; exact hzs.out.2 j hj⟩, hbel⟩
      case round =>
        clear hown hbel hzs cz0 cx0
        obtain ⟨k, zs, B, hk8, rfl, rfl, hB, hown, hzs, hbel⟩ := hrel
        by_cases hkn : k < 61
        · have i2 : (k : Int) < 61 := by omega
          have i1w : i < ws.length := by have := HLEN.out; omega
          have i1x : (i : Int) < (ws.length : Int) := by omega
          have cn := hown.cell k (by rw [hzs.out.1]; exact hkn)
          have fn := hown.free k
          have hNk : nth zs k = hF (nth ws) (nth xs) i k := by have := hzs.out.2 k hkn; rw [if_neg (by omega)] at this; exact this
          have cw : wr.cell? ⟨bw, ow + i, none⟩ = some (.int .i64 (nth ws i)) := (hbel.cell (p := ⟨bw, ow + i, none⟩) (World.block_lt_of_cell? _ _ (HC.out.2 i hin))).trans (HC.out.2 i hin)
          have HST := Lib.hid (fun x => And.intro (hown.store k x) (Owns.store_below hbel hown (Nat.le_refl _) k (.int .i64 x)))
          have hX := HX.out.1 i
          have hW := HX.out.2 i
          have hRb := hF_bd (nth ws) (nth xs) HX.out.2 HX.out.1 i
          have hRk := hRb k (by omega)
          have hAb := mul_bd (nth ws i) (absI (nth xs i) ((k : Int) - 30)) 5 60 hW.1 hW.2 (absI_nonneg _ _) (absI_le _ _ hX (by omega))
          have HNX : Hid (hF (nth ws) (nth xs) (i + 1) k = pm (hF (nth ws) (nth xs) i) k + nth ws i * absI (nth xs i) ((k : Int) - 30)) := rfl
          have HZN : Hid (∀ y, y = hF (nth ws) (nth xs) (i + 1) k → (zs.set k y).length = 61 ∧ ∀ j, j < 61 → nth (zs.set k y) j = if j < k + 1 then hF (nth ws) (nth xs) (i + 1) j else hF (nth ws) (nth xs) i j) := fun y hy => by
            refine ⟨by rw [List.length_set]; exact hzs.out.1, fun j hj => ?_⟩
            rw [nth_set' zs k j y (by rw [hzs.out.1]; exact hkn)]
            by_cases e : j = k
            · subst e; rw [if_pos rfl, if_pos (by omega)]; exact hy
            · rw [if_neg e, hzs.out.2 j hj]
              by_cases h : j < k
              · rw [if_pos h, if_pos (by omega)]
              · rw [if_neg h, if_neg (by omega)]
          have hPK : 0 ≤ pm (hF (nth ws) (nth xs) i) k ∧ pm (hF (nth ws) (nth xs) i) k ≤ 300 * i := ⟨pm_ge _ _ _ (fun j hj => (hRb j (by omega)).1), Int.le_trans (pm_self _ _) hRk.2⟩
          have HPM : Hid (pm (hF (nth ws) (nth xs) i) k = if hF (nth ws) (nth xs) i k < B then hF (nth ws) (nth xs) i k else B) := by
            show _ = _
            by_cases h0 : k = 0
            · have := hB.out.1 h0; subst h0; rw [this]; simp [pm]
            · obtain ⟨k', hk'⟩ : ∃ k', k = k' + 1 := ⟨k - 1, by omega⟩
              have := hB.out.2 k' hk'; rw [this, hk']; rfl
          rw [hNk] at cn
          have HPB := Lib.hid (show 0 ≤ B ∧ B ≤ 3000 from by
            by_cases h0 : k = 0
            · have h := hB.out.1 h0; have := hRb 0 (by omega); omega
            · obtain ⟨k', hk'⟩ : ∃ k', k = k' + 1 := ⟨k - 1, by omega⟩
              have h := hB.out.2 k' hk'
              have h1 := pm_ge (hF (nth ws) (nth xs) i) 0 k' (fun j hj => (hRb j (by omega)).1)
              have h2 := pm_self (hF (nth ws) (nth xs) i) k'
              have h3 := hRb k' (by omega)
              omega)
          have hBb := HPB.out
          clear hown hbel hNk hRb hB
          generalize hF (nth ws) (nth xs) i k = Nk at *
          generalize nth xs i = X at *
          generalize nth ws i = Wt at *
          have hNkb := hRk
          have HY : Hid (wrap64 ((if Nk < B then Nk else B) + wrap64 (Wt * if X - ((k : Int) - 30) < -(X - ((k : Int) - 30)) then -(X - ((k : Int) - 30)) else X - ((k : Int) - 30))) = hF (nth ws) (nth xs) (i + 1) k) := by
            show _ = _
            have e : (if X - ((k : Int) - 30) < -(X - ((k : Int) - 30)) then -(X - ((k : Int) - 30)) else X - ((k : Int) - 30)) = absI X ((k : Int) - 30) := by unfold absI; split <;> split <;> omega
            have h1 := HPM.out
            have h2 := hPK
            rw [h1] at h2
            rw [e, HNX.out, h1, w64 (Wt * absI X ((k : Int) - 30)) (by omega), w64 _ (by omega)]
          have HBN : Hid ((k + 1 = 0 → (if Nk < B then Nk else B) = hF (nth ws) (nth xs) i 0) ∧ (∀ k', k + 1 = k' + 1 → (if Nk < B then Nk else B) = pm (hF (nth ws) (nth xs) i) k')) := ⟨fun h => by omega, fun k2 h => by
            have h2 : k2 = k := by omega
            rw [h2]; exact HPM.out.symm⟩
          go_wp2
          go_roundw
          case rel => exact ⟨k + 1, _, _, by omega, by go_num, rfl, HBN, (HST.out _).1, HZN.out _ HY.out, (HST.out _).2⟩
          case measure => simp [intOf]; omega
        · have j2 : ¬ (k : Int) < 61 := by omega
          have HZE : Hid (zs.length = 61 ∧ ∀ j, j < 61 → nth zs j = hF (nth ws) (nth xs) (i + 1) j) := ⟨hzs.out.1, fun j hj => by have := hzs.out.2 j hj; rw [if_pos (by omega)] at this; exact this⟩
          go_wp2
          go_roundw
          case rel => exact ⟨i + 1, zs, by omega, by go_num, hown, HZE, hbel⟩
          case measure => simp [intOf]; omega
    · have j1 : ¬ (i : Int) < (xs.length : Int) := by omega
      have ein : i = xs.length := by omega
      have HV : Hid (pm (nth zs) 60 = riseV xs ws) := by
        show _ = _
        rw [hz.out, ← ein]
        exact pm_congr _ _ _ (fun j hj => hzs.out.2 j (by omega))
      have hmin := fun ww (hb : Reads ww (.slice (some ⟨w1.heap.size, 0, none⟩) 61 61) zs) => slices_Min _ zs ww hb (by rw [hzs.out.1]; omega)
      rw [hzs.out.1] at hmin
      have HMIN := Lib.hid hmin
      have hrd := hown.reads
      have hfin := hb1.trans (hbel.mono hb1.size)
      clear ein hmin
      go_wp2_with fail
      refine (HMIN.out _ hrd).mono ?_
      rintro e w' ⟨rfl, rfl⟩
      go_wp2_with fail
      go_ret
      exact ⟨ret_int HV.out, hfin⟩
end Go.Proofs.Ytcfeeobjllnofaa
