/-
  Contracts of slices.Min and spec.RiseSum.
-/
import Derived.Test.YtcfeeobjllnofaaSorted
import Derived.Test.YtcfeeobjllnofaaRiseM
import Derived.Test.YtcfeeobjllnofaaLoads
import Derived.StillTailTactics
namespace Go.Proofs.Ytcfeeobjllnofaa
open Go.RowKit
set_option linter.unusedVariables false

set_option maxHeartbeats 400000 in
theorem slices_Min (v : Value) (zs : List Int) (w : World) (hr : Reads w v zs) (h0 : 0 < zs.length) :
    Calls Try.prog 58 #[v] w fun e w' => e = .returned (.int .i64 (pm (nth zs) (zs.length - 1))) ∧ w = w' := by
  have hle := hr.le
  obtain ⟨ao, cap, rfl, hl, hc, hcell⟩ := hr
  rcases hcell with hE | ⟨b, o, rfl, hcell⟩
  · exfalso; rw [hE] at h0; simp at h0
  have c0 := hcell 0 h0
  rw [Nat.add_zero] at c0
  have hne : decide ((zs.length : Int) < 1) = false := decide_eq_false (by omega)
  go_enter Try.func58, Try.ntmps58
  go_wp2
  go_loop [3, 4] (fun m i => ∃ k : Nat, k < zs.length ∧ i = .int .i64 ((k : Int) + 1) ∧ m = .int .i64 (pm (nth zs) k)) (fun _ i => zs.length - (intOf i).toNat)
  case atStart => exact ⟨0, h0, rfl, rfl⟩
  case round =>
    obtain ⟨k, hk, rfl, rfl⟩ := hrel
    by_cases hlt : k + 1 < zs.length
    · have hsrc := hcell (k + 1) hlt
      have i1 : (k : Int) + 1 < (zs.length : Int) := by omega
      clear hcell c0
      by_cases hm : nth zs (k + 1) < pm (nth zs) k
      · have hm' : decide (nth zs (k + 1) < pm (nth zs) k) = true := decide_eq_true hm
        have HS2 : Hid (pm (nth zs) (k + 1) = nth zs (k + 1)) := if_pos hm
        go_wp2
        go_round
        case rel => exact ⟨k + 1, by omega, by go_num, by rw [HS2.out]⟩
        case measure => simp [intOf]; omega
      · have hm' : decide (nth zs (k + 1) < pm (nth zs) k) = false := decide_eq_false hm
        have HS2 : Hid (pm (nth zs) (k + 1) = pm (nth zs) k) := if_neg hm
        go_wp2
        go_round
        case rel => exact ⟨k + 1, by omega, by go_num, by rw [HS2.out]⟩
        case measure => simp [intOf]; omega
    · have e : Hid (k = zs.length - 1) := by show _ = _; omega
      go_wp2
      go_ret
      exact ⟨ret_int (by rw [e.out]), rfl⟩

theorem nth_set' (zs : List Int) (k j : Nat) (x : Int) (hk : k < zs.length) : nth (zs.set k x) j = if j = k then x else nth zs j := by
  by_cases e : j = k
  · subst e; rw [if_pos rfl]; simp [nth, List.getD, hk]
  · rw [if_neg e]
    simp [nth, List.getD, Ne.symm e]
theorem absI_le (x l : Int) (hx : -30 ≤ x ∧ x ≤ 30) (hl : -30 ≤ l ∧ l ≤ 30) : absI x l ≤ 60 := by unfold absI; split <;> omega
theorem w64 (z : Int) (h : -9223372036854775808 ≤ z ∧ z ≤ 9223372036854775807) : wrap64 z = z := by unfold wrap64; omega
theorem pm_congr (f g : Nat → Int) (k : Nat) (h : ∀ j, j ≤ k → f j = g j) : pm f k = pm g k := by
  induction k with
  | zero => exact h 0 (Nat.le_refl _)
  | succ k ih => unfold pm; rw [ih (fun j hj => h j (by omega)), h (k + 1) (Nat.le_refl _)]
theorem pm_bd (f : Nat → Int) (M : Int) (h : ∀ k, 0 ≤ f k ∧ f k ≤ M) (k : Nat) : 0 ≤ pm f k ∧ pm f k ≤ M :=
  ⟨pm_ge f 0 k (fun j _ => (h j).1), Int.le_trans (pm_self f k) (h k).2⟩
theorem run_bd (ws xs L : Nat → Int) (hw : ∀ i, 0 ≤ ws i ∧ ws i ≤ 5) (hx : ∀ i, -30 ≤ xs i ∧ xs i ≤ 30) (hL : ∀ k, -30 ≤ L k ∧ L k ≤ 30) : ∀ (i : Nat) k, 0 ≤ runF ws xs L i k ∧ runF ws xs L i k ≤ 300 * i := by
  intro i
  induction i with
  | zero => intro k; exact ⟨Int.le_refl _, by show (0 : Int) ≤ _; omega⟩
  | succ i ih =>
    intro k
    have h1 := pm_bd (runF ws xs L i) (300 * i) ih k
    have h2 := mul_bd (ws i) (absI (xs i) (L k)) 5 60 (hw i).1 (hw i).2 (absI_nonneg _ _) (absI_le _ _ (hx i) (hL k))
    show 0 ≤ pm (runF ws xs L i) k + ws i * absI (xs i) (L k) ∧ pm (runF ws xs L i) k + ws i * absI (xs i) (L k) ≤ _
    omega
theorem nth_bd (zs : List Int) (lo hi : Int) (h0 : lo ≤ 0 ∧ 0 ≤ hi) (h : ∀ j, j < zs.length → lo ≤ nth zs j ∧ nth zs j ≤ hi) (j : Nat) : lo ≤ nth zs j ∧ nth zs j ≤ hi := by
  by_cases hj : j < zs.length
  · exact h j hj
  · have : nth zs j = 0 := by simp [nth, List.getD, List.getElem?_eq_none (Nat.le_of_not_lt hj)]
    rw [this]; exact h0
theorem sortS_len (xs : List Int) : ∀ out, (sortS out xs).length = out.length + xs.length := by
  induction xs with
  | nil => intro out; rfl
  | cons y ys ih => intro out; show (sortS (insS y out) ys).length = _; rw [ih, insS_len]; simp; omega
theorem sortS_mem (xs : List Int) (n : Int) : ∀ out, n ∈ sortS out xs ↔ n ∈ out ∨ n ∈ xs := by
  induction xs with
  | nil => intro out; simp [sortS]
  | cons y ys ih =>
    intro out
    show n ∈ sortS (insS y out) ys ↔ _
    rw [ih, insS_mem]
    simp only [List.mem_cons]
    constructor
    · rintro ((h | h) | h) <;> simp [h]
    · rintro (h | h | h) <;> simp [h]
theorem insS_asc (x : Int) (zs : List Int) (h : zs.Pairwise (· ≤ ·)) : (insS x zs).Pairwise (· ≤ ·) := by
  induction zs with
  | nil => simp [insS]
  | cons y ys ih =>
    rw [List.pairwise_cons] at h
    unfold insS
    split
    · rename_i hyx
      rw [List.pairwise_cons]
      refine ⟨fun z hz => ?_, ih h.2⟩
      rcases (insS_mem x ys z).1 hz with rfl | hz
      · exact hyx
      · exact h.1 z hz
    · rename_i hyx
      rw [List.pairwise_cons]
      refine ⟨fun z hz => ?_, List.pairwise_cons.2 h⟩
      rcases List.mem_cons.1 hz with rfl | hz
      · omega
      · have := h.1 z hz; omega
theorem sortS_asc (xs : List Int) : ∀ out : List Int, out.Pairwise (· ≤ ·) → (sortS out xs).Pairwise (· ≤ ·) := by
  induction xs with
  | nil => intro out h; exact h
  | cons y ys ih => intro out h; exact ih _ (insS_asc y out h)
theorem asc_nth {zs : List Int} (h : zs.Pairwise (· ≤ ·)) (i j : Nat) (hij : i ≤ j) (hj : j < zs.length) : nth zs i ≤ nth zs j := by
  by_cases e : i = j
  · subst e; exact Int.le_refl _
  · have := List.pairwise_iff_getElem.1 h i j (by omega) hj (by omega)
    have e1 : nth zs i = zs[i] := by simp [nth, List.getD, show i < zs.length by omega]
    have e2 : nth zs j = zs[j] := by simp [nth, List.getD, hj]
    rw [e1, e2]; exact this
theorem mem_nth {zs : List Int} {n : Int} (h : n ∈ zs) : ∃ k, k < zs.length ∧ nth zs k = n := by
  obtain ⟨k, hk, rfl⟩ := List.getElem_of_mem h
  exact ⟨k, hk, by simp [nth, List.getD, hk]⟩
theorem nth_memR (zs : List Int) (j : Nat) (h : j < zs.length) : nth zs j ∈ zs := by
  have : nth zs j = zs[j] := by simp [nth, List.getD, h]
  rw [this]; exact List.getElem_mem _
/-- What RiseSum returns. -/
def riseV (xs ws : List Int) : Int := if loadsB xs ws = true then pm (hF (nth ws) (nth xs) xs.length) 60 else -1
theorem loads_parts {xs ws : List Int} (h : loadsB xs ws = true) : (1 ≤ xs.length ∧ xs.length ≤ 8) ∧ xs.length = ws.length ∧ (∀ j, -30 ≤ nth xs j ∧ nth xs j ≤ 30) ∧ (∀ j, 0 ≤ nth ws j ∧ nth ws j ≤ 5) := by
  unfold loadsB at h
  simp only [Bool.and_eq_true, inB_iff, decide_eq_true_eq] at h
  refine ⟨by omega, h.2.1, nth_bd xs (-30) 30 (by omega) (fun j hj => allB_nth h.2.2.1 j hj), nth_bd ws 0 5 (by omega) (fun j hj => ?_)⟩
  have := allB_nth h.2.2.2 j hj
  omega
/-- Over the numbers' own heights. -/
theorem rise_levels {xs ws : List Int} (h : loadsB xs ws = true) : pm (runF (nth ws) (nth xs) (nth (sortS [] xs)) xs.length) (xs.length - 1) = riseV xs ws := by
  obtain ⟨hn, hlen, hx, hw⟩ := loads_parts h
  have hl : (sortS [] xs).length = xs.length := by rw [sortS_len]; simp
  have hb : ∀ j, -30 ≤ nth (sortS [] xs) j ∧ nth (sortS [] xs) j ≤ 30 := nth_bd _ _ _ (by omega) (fun j hj => by
    have h1 := (sortS_mem xs _ []).1 (nth_memR _ j hj)
    simp at h1
    obtain ⟨k, _, hk2⟩ := mem_nth h1
    rw [← hk2]; exact hx k)
  have hT : (fun k => (((nth (sortS [] xs) k + 30).toNat : Nat) : Int) - 30) = nth (sortS [] xs) := by
    funext k
    have := hb k
    omega
  have hlaw := rise_law (nth ws) (nth xs) (fun k => (nth (sortS [] xs) k + 30).toNat) xs.length (by omega) (fun i j hij hj => by
    have := asc_nth (sortS_asc xs [] List.Pairwise.nil) i j hij (by omega)
    show (nth (sortS [] xs) i + 30).toNat ≤ (nth (sortS [] xs) j + 30).toNat
    omega) (fun i => (hw i).1) xs.length (fun i hi => by
      have hm : nth xs i ∈ sortS [] xs := (sortS_mem xs _ []).2 (.inr (nth_memR xs i hi))
      obtain ⟨k, hk, e⟩ := mem_nth hm
      refine ⟨k, by omega, ?_⟩
      have := hb k
      show nth xs i = (((nth (sortS [] xs) k + 30).toNat : Nat) : Int) - 30
      omega) (by
      have := hb (xs.length - 1)
      show (nth (sortS [] xs) (xs.length - 1) + 30).toNat ≤ 60
      omega) xs.length (Nat.le_refl _)
  have hT2 : (fun k => ((((fun k => (nth (sortS [] xs) k + 30).toNat) k : Nat)) : Int) - 30) = nth (sortS [] xs) := hT
  rw [hT2] at hlaw
  rw [hlaw]
  unfold riseV
  rw [if_pos h]

set_option maxHeartbeats 4000000 in
theorem spec_riseSum (v u : Value) (xs ws : List Int) (w : World) (hr : Reads w v xs) (hs : Reads w u ws) (hok : loadsB xs ws = true) :
    Calls Try.prog 57 #[v, u] w fun e w' => e = .returned (.int .i64 (riseV xs ws)) ∧ Below w.heap.size w w' := by
  obtain ⟨ti, hi, hz0, hz1, hz2⟩ := info_parts infoInt
  obtain ⟨⟨hn1, hn8⟩, hlen, hx, hw⟩ := loads_parts hok
  have hlv := rise_levels hok
  have HLV := Lib.hid hlv
  have hll : (sortS [] xs).length = xs.length := by rw [sortS_len]; simp
  have hlb : ∀ j, -30 ≤ nth (sortS [] xs) j ∧ nth (sortS [] xs) j ≤ 30 := nth_bd _ _ _ (by omega) (fun j hj => by
    have h1 := (sortS_mem xs _ []).1 (nth_memR _ j hj)
    simp at h1
    obtain ⟨k, _, hk2⟩ := mem_nth h1
    rw [← hk2]; exact hx k)
  have hbd := run_bd (nth ws) (nth xs) (nth (sortS [] xs)) hw hx hlb
  have HX := Lib.hid (And.intro hx (And.intro hw (And.intro hlb hbd)))
  have HLEN := Lib.hid hlen
  clear hlv hx hw hlb hbd hlen hok
  have hr0 := hr
  obtain ⟨ax, capx, rfl, lx1, lx2, cellx⟩ := hr
  obtain ⟨aw, capw, rfl, lw1, lw2, cellw⟩ := hs
  rcases cellx with h | ⟨bx, ox, rfl, cellx⟩
  · rw [h] at hn1; simp at hn1
  rcases cellw with h | ⟨bw, ow, rfl, cellw⟩
  · have h2 := HLEN.out; rw [h] at h2; have e0 : ([] : List Int).length = 0 := rfl; omega
  rw [← HLEN.out] at lw1 cellw
  have HWL : Hid ((ws.length : Int) = (xs.length : Int)) := by show _ = _; have := HLEN.out; omega
  go_enter Try.func57, Try.ntmps57
  go_wp2_with fail
  refine (spec_sorted _ xs _ hr0 (by omega)).mono ?_
  rintro e w1 ⟨lv, rfl, hol, hb1⟩
  have hcx : ∀ j, j < xs.length → w1.cell? ⟨bx, ox + j, none⟩ = some (.int .i64 (nth xs j)) := fun j hj => (hb1.cell (p := ⟨bx, ox + j, none⟩) (World.block_lt_of_cell? _ _ (cellx j hj))).trans (cellx j hj)
  have hcw : ∀ j, j < xs.length → w1.cell? ⟨bw, ow + j, none⟩ = some (.int .i64 (nth ws j)) := fun j hj => (hb1.cell (p := ⟨bw, ow + j, none⟩) (World.block_lt_of_cell? _ _ (cellw j hj))).trans (cellw j hj)
  have hsl : ∃ gl capl, lv = .slice (some ⟨gl, 0, none⟩) xs.length capl ∧ xs.length ≤ capl ∧ capl ≤ 9223372036854775807 ∧ ∀ j, j < xs.length → w1.cell? ⟨gl, j, none⟩ = some (.int .i64 (nth (sortS [] xs) j)) := by
    rcases hol.shape with ⟨_, h⟩ | ⟨gl, capl, hv, h1, h2, h3, h4⟩
    · rw [h] at hll; simp at hll; omega
    · subst hv
      exact ⟨gl, capl, by rw [hll], by rw [hll] at h3; exact h3, h4, fun j hj => hol.cell j (by rw [hll]; exact hj)⟩
  obtain ⟨gl, capl, rfl, ll1, ll2, hcl⟩ := hsl
  have hb1s := hb1.size
  generalize hS : sortS [] xs = lev at *
  clear cellx cellw hr0 hol hll hS
  generalize hN : xs.length = n at *
  clear hN
  have HC := Lib.hid (And.intro hcx (And.intro hcw hcl))
  clear hcx hcw hcl
  go_wp2_with (at_make; refine wpList_make_full _ rfl _ _ 36 rfl w1.heap.size 3 ti (.int .i64 0) 1 Try.underlying36 hi hz0 hz1 .i64 .i64 _ _ n rfl rfl rfl rfl (by rw [hz2]; omega) (by unfold maxLen; omega) (Nat.le_refl _) ?_)
  intro w2 hown0 hgrow0
  have hown := Owns.made (zs := List.replicate n 0) (by simpa using hown0) rfl rfl
  have hbel : Below w1.heap.size w1 w2 := (Below.refl _ _).grown hgrow0 (Nat.le_refl _) (by simp)
  have HZ0 : Hid (∀ j, j < n → nth (List.replicate n (0 : Int)) j = runF (nth ws) (nth xs) (nth lev) 0 j) := fun j hj => by
    show _ = (0 : Int); simp [nth, List.getD, hj]
  have hlz : (List.replicate n (0 : Int)).length = n := by simp
  generalize List.replicate n (0 : Int) = z0 at *
  clear hown0 hgrow0
  go_wp2
  go_loopw [7, 8, 9] (fun i _ _ wr => ∃ (k : Nat) (zs : List Int), k ≤ n ∧ i = .int .i64 k ∧ Owns wr w1.heap.size (.slice (some ⟨w1.heap.size, 0, none⟩) n n) zs ∧ Hid (zs.length = n ∧ ∀ j, j < n → nth zs j = runF (nth ws) (nth xs) (nth lev) k j) ∧ Below w1.heap.size w1 wr) (fun i _ _ _ => n - (intOf i).toNat)
  case atStart => exact ⟨0, z0, Nat.zero_le _, rfl, hown, ⟨hlz, HZ0.out⟩, hbel⟩
  case round =>
    clear hown hbel hlz
    obtain ⟨i, zs, hi8, rfl, hown, hzs, hbel⟩ := hrel
    by_cases hin : i < n
    · have i1 : (i : Int) < (n : Int) := by omega
      go_wp2
      go_loopw [8, 9] (fun bst kk wr => ∃ (k : Nat) (zs : List Int) (B : Int), k ≤ n ∧ kk = .int .i64 k ∧ bst = .int .i64 B ∧ Hid ((k = 0 → B = -1) ∧ (∀ k', k = k' + 1 → B = pm (runF (nth ws) (nth xs) (nth lev) i) k')) ∧ Owns wr w1.heap.size (.slice (some ⟨w1.heap.size, 0, none⟩) n n) zs ∧ Hid (zs.length = n ∧ ∀ j, j < n → nth zs j = if j < k then runF (nth ws) (nth xs) (nth lev) (i + 1) j else runF (nth ws) (nth xs) (nth lev) i j) ∧ Below w1.heap.size w1 wr) (fun _ kk _ => n - (intOf kk).toNat)
      case atStart => exact ⟨0, zs, -1, Nat.zero_le _, rfl, rfl, ⟨fun _ => rfl, fun k' h => by omega⟩, hown, ⟨hzs.out.1, fun j hj => by rw [if_neg (by omega)]; exact hzs.out.2 j hj⟩, hbel⟩
      case round =>
        clear hown hbel hzs
        obtain ⟨k, zs, B, hk8, rfl, rfl, hB, hown, hzs, hbel⟩ := hrel
        by_cases hkn : k < n
        · have i2 : (k : Int) < (n : Int) := by omega
          have i1w : i < ws.length := by have := HLEN.out; omega
          have i1x : (i : Int) < (ws.length : Int) := by omega
          have cn := hown.cell k (by rw [hzs.out.1]; exact hkn)
          have hNk : nth zs k = runF (nth ws) (nth xs) (nth lev) i k := by have := hzs.out.2 k hkn; rw [if_neg (by omega)] at this; exact this
          have cx : wr.cell? ⟨bx, ox + i, none⟩ = some (.int .i64 (nth xs i)) := (hbel.cell (p := ⟨bx, ox + i, none⟩) (World.block_lt_of_cell? _ _ (HC.out.1 i hin))).trans (HC.out.1 i hin)
          have cw : wr.cell? ⟨bw, ow + i, none⟩ = some (.int .i64 (nth ws i)) := (hbel.cell (p := ⟨bw, ow + i, none⟩) (World.block_lt_of_cell? _ _ (HC.out.2.1 i hin))).trans (HC.out.2.1 i hin)
          have cl : wr.cell? ⟨gl, k, none⟩ = some (.int .i64 (nth lev k)) := (hbel.cell (p := ⟨gl, k, none⟩) (World.block_lt_of_cell? _ _ (HC.out.2.2 k hkn))).trans (HC.out.2.2 k hkn)
          have hd0 : Below wr.heap.size wr wr.drew := (Below.refl _ _).drew
          have hownd := hown.keep hd0
          have cnd := hownd.cell k (by rw [hzs.out.1]; exact hkn)
          have fnd := hownd.free k
          have hbeld := hbel.trans (hd0.mono hbel.size)
          have HST := Lib.hid (fun x => And.intro (hownd.store k x) (Owns.store_below hbeld hownd (Nat.le_refl _) k (.int .i64 x)))
          have hX := HX.out.1 i
          have hW := HX.out.2.1 i
          have hL := HX.out.2.2.1 k
          have hRb := HX.out.2.2.2 i k
          have hPb := pm_bd _ _ (HX.out.2.2.2 i) k
          have hAb := mul_bd (nth ws i) (absI (nth xs i) (nth lev k)) 5 60 hW.1 hW.2 (absI_nonneg _ _) (absI_le _ _ hX hL)
          have HNX : Hid (runF (nth ws) (nth xs) (nth lev) (i + 1) k = pm (runF (nth ws) (nth xs) (nth lev) i) k + nth ws i * absI (nth xs i) (nth lev k)) := rfl
          have HZN : Hid (∀ y, y = runF (nth ws) (nth xs) (nth lev) (i + 1) k → (zs.set k y).length = n ∧ ∀ j, j < n → nth (zs.set k y) j = if j < k + 1 then runF (nth ws) (nth xs) (nth lev) (i + 1) j else runF (nth ws) (nth xs) (nth lev) i j) := fun y hy => by
            refine ⟨by rw [List.length_set]; exact hzs.out.1, fun j hj => ?_⟩
            rw [nth_set' zs k j y (by rw [hzs.out.1]; exact hkn)]
            by_cases e : j = k
            · subst e; rw [if_pos rfl, if_pos (by omega)]; exact hy
            · rw [if_neg e, hzs.out.2 j hj]
              by_cases h : j < k
              · rw [if_pos h, if_pos (by omega)]
              · rw [if_neg h, if_neg (by omega)]
          have HPA : Hid (k = 0 → pm (runF (nth ws) (nth xs) (nth lev) i) k = runF (nth ws) (nth xs) (nth lev) i k) := fun h => by rw [h]; rfl
          have HPB : Hid (∀ k', k = k' + 1 → (runF (nth ws) (nth xs) (nth lev) i k < pm (runF (nth ws) (nth xs) (nth lev) i) k' → pm (runF (nth ws) (nth xs) (nth lev) i) k = runF (nth ws) (nth xs) (nth lev) i k) ∧ (¬ runF (nth ws) (nth xs) (nth lev) i k < pm (runF (nth ws) (nth xs) (nth lev) i) k' → pm (runF (nth ws) (nth xs) (nth lev) i) k = pm (runF (nth ws) (nth xs) (nth lev) i) k')) := fun k' h => by
            rw [h]; exact ⟨fun h2 => if_pos h2, fun h2 => if_neg h2⟩
          have HPK := Lib.hid (pm_bd _ _ (HX.out.2.2.2 i))
          rw [hNk] at cn cnd
          clear hownd hd0 hbeld hown hbel hNk
          generalize runF (nth ws) (nth xs) (nth lev) i k = Nk at *
          generalize nth xs i = X at *
          generalize nth ws i = Wt at *
          generalize nth lev k = Lk at *
          by_cases hk0 : k = 0
          · have hBv : B = -1 := hB.out.1 hk0
            have HPM : Hid (pm (runF (nth ws) (nth xs) (nth lev) i) k = Nk) := HPA.out hk0
            subst hBv
            clear hk0 hB
            have HY : Hid (wrap64 (Nk + wrap64 (Wt * if X - Lk < Lk - X then Lk - X else X - Lk)) = runF (nth ws) (nth xs) (nth lev) (i + 1) k) := by
              show wrap64 (Nk + wrap64 (Wt * absI X Lk)) = _
              rw [HNX.out, HPM.out, w64 (Wt * absI X Lk) (by omega), w64 _ (by have := HPM.out; omega)]
            have HBN : Hid ((k + 1 = 0 → Nk = -1) ∧ (∀ k', k + 1 = k' + 1 → Nk = pm (runF (nth ws) (nth xs) (nth lev) i) k')) := ⟨fun h => by omega, fun k2 h => by
              have h2 : k2 = k := by omega
              rw [h2]; exact HPM.out.symm⟩
            go_wp2_with fail
            go_still_tail 29, (by kernel_rfl)
            change wpList _ _ _ _ _ wr.drew
            generalize wr.drew = wz at *
            go_wp2
            go_roundw
            case rel => exact ⟨k + 1, _, Nk, by omega, by go_num, rfl, HBN, (HST.out _).1, HZN.out _ HY.out, (HST.out _).2⟩
            case measure => simp [intOf]; omega
          · obtain ⟨k', hk'⟩ : ∃ k', k = k' + 1 := ⟨k - 1, by omega⟩
            have hBv := hB.out.2 k' hk'
            have hB0 : 0 ≤ B := by rw [hBv]; exact (HPK.out k').1
            have hB0' : decide (B < 0) = false := decide_eq_false (by omega)
            have hpb := HPB.out k' hk'
            rw [← hBv] at hpb
            have HPB2 := Lib.hid hpb
            clear hpb hBv hk' hk0 hB
            by_cases hlt : Nk < B
            · have hlt' : decide (Nk < B) = true := decide_eq_true hlt
              have HPM : Hid (pm (runF (nth ws) (nth xs) (nth lev) i) k = Nk) := HPB2.out.1 hlt
              clear hlt
              have HY : Hid (wrap64 (Nk + wrap64 (Wt * if X - Lk < Lk - X then Lk - X else X - Lk)) = runF (nth ws) (nth xs) (nth lev) (i + 1) k) := by
                show wrap64 (Nk + wrap64 (Wt * absI X Lk)) = _
                rw [HNX.out, HPM.out, w64 (Wt * absI X Lk) (by omega), w64 _ (by have := HPM.out; omega)]
              have HBN : Hid ((k + 1 = 0 → Nk = -1) ∧ (∀ k', k + 1 = k' + 1 → Nk = pm (runF (nth ws) (nth xs) (nth lev) i) k')) := ⟨fun h => by omega, fun k2 h => by
                have h2 : k2 = k := by omega
                rw [h2]; exact HPM.out.symm⟩
              go_wp2_with fail
              go_still_tail 29, (by kernel_rfl)
              change wpList _ _ _ _ _ wr.drew
              generalize wr.drew = wz at *
              go_wp2
              go_roundw
              case rel => exact ⟨k + 1, _, Nk, by omega, by go_num, rfl, HBN, (HST.out _).1, HZN.out _ HY.out, (HST.out _).2⟩
              case measure => simp [intOf]; omega
            · have hlt' : decide (Nk < B) = false := decide_eq_false hlt
              have HPM : Hid (pm (runF (nth ws) (nth xs) (nth lev) i) k = B) := HPB2.out.2 hlt
              clear hlt
              have HY : Hid (wrap64 (B + wrap64 (Wt * if X - Lk < Lk - X then Lk - X else X - Lk)) = runF (nth ws) (nth xs) (nth lev) (i + 1) k) := by
                show wrap64 (B + wrap64 (Wt * absI X Lk)) = _
                rw [HNX.out, HPM.out, w64 (Wt * absI X Lk) (by omega), w64 _ (by have := HPM.out; omega)]
              have HBN : Hid ((k + 1 = 0 → B = -1) ∧ (∀ k', k + 1 = k' + 1 → B = pm (runF (nth ws) (nth xs) (nth lev) i) k')) := ⟨fun h => by omega, fun k2 h => by
                have h2 : k2 = k := by omega
                rw [h2]; exact HPM.out.symm⟩
              go_wp2_with fail
              go_still_tail 29, (by kernel_rfl)
              change wpList _ _ _ _ _ wr.drew
              generalize wr.drew = wz at *
              go_wp2
              go_roundw
              case rel => exact ⟨k + 1, _, B, by omega, by go_num, rfl, HBN, (HST.out _).1, HZN.out _ HY.out, (HST.out _).2⟩
              case measure => simp [intOf]; omega
        · have j2 : ¬ (k : Int) < (n : Int) := by omega
          have HZE : Hid (zs.length = n ∧ ∀ j, j < n → nth zs j = runF (nth ws) (nth xs) (nth lev) (i + 1) j) := ⟨hzs.out.1, fun j hj => by have := hzs.out.2 j hj; rw [if_pos (by omega)] at this; exact this⟩
          go_wp2
          go_roundw
          case rel => exact ⟨i + 1, zs, by omega, by go_num, hown, HZE, hbel⟩
          case measure => simp [intOf]; omega
    · have j1 : ¬ (i : Int) < (n : Int) := by omega
      have ein : i = n := by omega
      have HV : Hid (pm (nth zs) (n - 1) = riseV xs ws) := by
        show _ = _
        rw [← HLV.out, ← ein]
        exact pm_congr _ _ _ (fun j hj => by have := hzs.out.2 j (by omega); exact this)
      have c0 := hown.cell 0 (by rw [hzs.out.1]; omega)
      have i0 : (0 : Int) < (n : Int) := by omega
      have hfin := hb1.trans (hbel.mono hb1.size)
      have HF := Lib.hid hfin
      clear ein hfin
      go_wp2
      go_loop [10, 11] (fun b kk => ∃ k : Nat, k < n ∧ kk = .int .i64 ((k : Int) + 1) ∧ b = .int .i64 (pm (nth zs) k)) (fun _ kk => n - (intOf kk).toNat)
      case atStart => exact ⟨0, by omega, rfl, rfl⟩
      case round =>
        obtain ⟨k, hk, rfl, rfl⟩ := hrel
        by_cases hkn : k + 1 < n
        · have ck := hown.cell (k + 1) (by rw [hzs.out.1]; exact hkn)
          have i2 : (k : Int) + 1 < (n : Int) := by omega
          clear c0
          by_cases hm : nth zs (k + 1) < pm (nth zs) k
          · have hm' : decide (nth zs (k + 1) < pm (nth zs) k) = true := decide_eq_true hm
            have HS2 : Hid (pm (nth zs) (k + 1) = nth zs (k + 1)) := if_pos hm
            go_wp2
            go_round
            case rel => exact ⟨k + 1, by omega, by go_num, by rw [HS2.out]⟩
            case measure => simp [intOf]; omega
          · have hm' : decide (nth zs (k + 1) < pm (nth zs) k) = false := decide_eq_false hm
            have HS2 : Hid (pm (nth zs) (k + 1) = pm (nth zs) k) := if_neg hm
            go_wp2
            go_round
            case rel => exact ⟨k + 1, by omega, by go_num, by rw [HS2.out]⟩
            case measure => simp [intOf]; omega
        · have e : Hid (k = n - 1) := by show _ = _; omega
          have j3 : ¬ (k : Int) + 1 < (n : Int) := by omega
          go_wp2
          go_ret
          exact ⟨ret_int (by rw [e.out]; exact HV.out), HF.out⟩

theorem spec_RiseSum (v : Value) (xs : List Int) (u : Value) (ws : List Int) (w : World) (hr : Reads w v xs) (hs : Reads w u ws) :
    Calls Try.prog 23 #[v, u] w fun e w' => e = .returned (.int .i64 (riseV xs ws)) ∧ Below w.heap.size w w' := by
  cases hok : loadsB xs ws
  · have hz : Hid (riseV xs ws = -1) := by show _ = _; unfold riseV; rw [hok]; rfl
    go_enter Try.func23, Try.ntmps23
    go_wp2_with fail
    refine (spec_validLoads v xs u ws _ hr hs).mono ?_
    rintro e w' ⟨rfl, rfl⟩
    rw [hok]
    go_wp2_with fail
    go_ret
    exact ⟨ret_int hz.out.symm, Below.refl _ _⟩
  · go_enter Try.func23, Try.ntmps23
    go_wp2_with fail
    refine (spec_validLoads v xs u ws _ hr hs).mono ?_
    rintro e w' ⟨rfl, rfl⟩
    rw [hok]
    go_wp2_with fail
    refine (spec_riseSum v u xs ws _ hr hs hok).mono ?_
    rintro e w' ⟨rfl, hb⟩
    go_wp2_with fail
    go_ret
    exact ⟨rfl, hb⟩
end Go.Proofs.Ytcfeeobjllnofaa
