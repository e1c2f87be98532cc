/-
  The contract of spec.sorted: numbers put in one after another.
-/
import Derived.Test.YtcfeeobjllnofaaDrawW
import Derived.Maps.AppendAt
import Derived.Deep.RegionHeld3
namespace Go.Proofs.Ytcfeeobjllnofaa
open Go.RowKit
set_option linter.unusedVariables false

/-- A number put in behind those that are not greater. -/
def insS (x : Int) : List Int → List Int
  | [] => [x]
  | y :: ys => if y ≤ x then y :: insS x ys else x :: y :: ys
def sortS : List Int → List Int → List Int
  | out, [] => out
  | out, x :: xs => sortS (insS x out) xs
theorem insS_len (x : Int) (zs : List Int) : (insS x zs).length = zs.length + 1 := by
  induction zs with
  | nil => rfl
  | cons y ys ih => unfold insS; split <;> simp [ih]
theorem insS_at (x : Int) : ∀ (zs : List Int) (k : Nat), k ≤ zs.length → (∀ j, j < k → nth zs j ≤ x) → (k = zs.length ∨ x < nth zs k) → insS x zs = zs.take k ++ [x] ++ zs.drop k := by
  intro zs
  induction zs with
  | nil => intro k hk _ _; have : k = 0 := by simpa using hk
           subst this; rfl
  | cons y ys ih =>
    intro k hk hle hlt
    unfold insS
    cases k with
    | zero =>
      rcases hlt with h | h
      · simp at h
      · rw [if_neg (by simp [nth] at h; omega)]; rfl
    | succ k =>
      have h0 : y ≤ x := by have := hle 0 (by omega); simpa [nth] using this
      rw [if_pos h0, ih k (by simpa using hk) (fun j hj => by have := hle (j + 1) (by omega); simpa [nth] using this) (by
        rcases hlt with h | h
        · left; simpa using h
        · right; simpa [nth] using h)]
      simp
theorem insS_mem (x : Int) (zs : List Int) (n : Int) : n ∈ insS x zs ↔ n = x ∨ n ∈ zs := by
  induction zs with
  | nil => simp [insS]
  | cons y ys ih =>
    unfold insS
    split
    · simp only [List.mem_cons, ih]; constructor <;> (intro h; rcases h with h | h | h <;> simp [h])
    · simp only [List.mem_cons]
theorem sortS_snoc (out xs : List Int) (x : Int) : sortS out (xs ++ [x]) = insS x (sortS out xs) := by
  induction xs generalizing out with
  | nil => rfl
  | cons y ys ih => exact ih (insS y out)

theorem below_box1 (w : World) (o : Obj) : Below w.heap.size w (w.alloc o) := (Below.refl _ _).alloc (Nat.le_refl _) o
theorem lit0 (w : World) (B n : Nat) (hn : w.heap.size = n) (hB : B ≤ n) : OwnsA (w.alloc (.cells #[] 3)) B (.slice (some ⟨n, 0, none⟩) 0 0) [] := by
  subst hn; exact World.ownsRow_lit (size := 1) w #[] 0 hB (by unfold maxLen; omega) rfl
theorem keepA {wr w : World} {p : Addr} {u : Value} (h : w.cell? p = some u ∧ Below wr.heap.size wr w) (o : Obj) : (w.alloc o).cell? p = some u ∧ Below wr.heap.size wr (w.alloc o) :=
  ⟨((below_box1 w o).cell (p := p) (World.block_lt_of_cell? _ _ h.1)).trans h.1, h.2.alloc h.2.size o⟩

section
variable {P : Program}
/-- An append at a step of a region that draws its order. -/
theorem step_app {w wd : World} {ops : Array Oper} {o : Oper} {a : Act} {K : Act → World → Prop} {Q : Exit → Act → World → Prop} {E : Prop} (hgd : o.guard = none) (s x : Operand)
    (ho : o.op = .call { callee := .builtin .append, args := #[s, x], argTypes := #[36, 36] })
    (ti : TypeInfo) (ht : P.underlying 36 = some (.slice 3)) (hi : P.info? 3 = some ti) (hz0 : ti.zero = some (.int .i64 0)) (hz1 : ti.size = 1) (hz2 : ti.bytes = 8)
    (p : Addr) (u : Value) (hp : wd.cell? p = some u) (hS : w.cell? p = some u ∧ Below wd.heap.size wd w)
    (v : Value) (xs : List Int) (hs : a.eval s = v) (hown : OwnsA w wd.heap.size v xs)
    (ad : Addr) (m c : Nat) (zs : List Int) (hx : a.eval x = .slice (some ad) m c) (hl : zs.length = m) (hnews : ∀ j, j < m → w.cell? (ad.add j) = some (.int .i64 (nth zs j))) (h100 : xs.length + m ≤ 100)
    (h : ∀ v' w', OwnsA w' wd.heap.size v' (xs ++ zs) → (w'.cell? p = some u ∧ Below wd.heap.size wd w') → w.grownBy w' v.ownBlock → K (a.put o.dst v') w') :
    if Region.wanted o (yielded ops a.tmps) = true then Oper.wp P o a w K Q else E := by
  have hw : Region.wanted o (yielded ops a.tmps) = true := by simp [Region.wanted, hgd]
  rw [if_pos hw]
  have hnews2 : ∀ j y, (zs.map (Value.int .i64))[j]? = some y → w.cell? (ad.add j) = some y := by
    intro j y hj
    have hj' : j < zs.length := by
      rcases Nat.lt_or_ge j zs.length with h | h
      · exact h
      · rw [List.getElem?_eq_none (by simpa using h)] at hj; cases hj
    have hy : y = .int .i64 (nth zs j) := by
      simp [hj'] at hj
      rw [← hj]; simp [nth, List.getD, hj']
    subst hy
    exact hnews j (by omega)
  have hone : ∀ y ∈ zs.map (Value.int .i64), y.oneCell' = true := by
    intro y hy; rw [List.mem_map] at hy; obtain ⟨q, _, rfl⟩ := hy; rfl
  obtain ⟨v', w', hr, h2, h3, h4, h5⟩ := run_append_own_at (P := P) w wd.heap.size 36 o.type 3 ti (.int .i64 0) 1 8 ht hi hz0 hz1 hz2 rfl (by decide) v xs.length (xs.map (Value.int .i64)) hown ad m c (zs.map (Value.int .i64)) (by rw [List.length_map, hl, Nat.mul_one]) hnews2 hone (by unfold maxLen; omega) (by omega) hS.2.size
  have hb' : Below wd.heap.size wd w' := hS.2.grown h3 hS.2.size (fun k hk => (World.ownsRow.lt hown k hk).1)
  have hcell' : w'.cell? p = some u := (hb'.cell (p := p) (World.block_lt_of_cell? _ _ hp)).trans hp
  have hown' : OwnsA w' wd.heap.size v' (xs ++ zs) := by
    unfold OwnsA
    rw [List.length_append, List.map_append, hl]
    exact h2
  unfold Oper.wp execOp
  simp only [ho, resolve, invoke, builtin, Sem.run_bind, Sem.run_pure, Result.andThen_ok, List.map_toArray, List.map_cons, List.map_nil, hs, hx, hr]
  exact h v' w' hown' ⟨hcell', hb'⟩ h3
end
theorem newsT {w wd : World} {p : Addr} {u : Value} {g m : Nat} {out : List Int} (hrd : ∀ j, j < m → wd.cell? ⟨g, j, none⟩ = some (.int .i64 (nth out j))) (hS : w.cell? p = some u ∧ Below wd.heap.size wd w) (k : Nat) (hk : k ≤ m) :
    ∀ j, j < k → w.cell? ((⟨g, 0, none⟩ : Addr).add j) = some (.int .i64 (nth (out.take k) j)) := fun j hj => by
  rw [Addr.add_lit, Nat.zero_add]
  have h := hrd j (by omega)
  have e : nth (out.take k) j = nth out j := by simp [nth, List.getD, hj]
  rw [e]
  exact (hS.2.cell (p := ⟨g, j, none⟩) (World.block_lt_of_cell? _ _ h)).trans h
theorem newsD {w wd : World} {p : Addr} {u : Value} {g m : Nat} {out : List Int} (hrd : ∀ j, j < m → wd.cell? ⟨g, j, none⟩ = some (.int .i64 (nth out j))) (hS : w.cell? p = some u ∧ Below wd.heap.size wd w) (k : Nat) (hk : k ≤ m) :
    ∀ j, j < m - k → w.cell? ((⟨g, k, none⟩ : Addr).add j) = some (.int .i64 (nth (out.drop k) j)) := fun j hj => by
  rw [Addr.add_lit]
  have h := hrd (k + j) (by omega)
  have e : nth (out.drop k) j = nth out (k + j) := by simp [nth, List.getD]
  rw [e]
  exact (hS.2.cell (p := ⟨g, k + j, none⟩) (World.block_lt_of_cell? _ _ h)).trans h
theorem newsZ {w : World} {ad : Addr} {zs : List Int} : ∀ j, j < 0 → w.cell? (ad.add j) = some (.int .i64 (nth zs j)) := fun j hj => by omega
theorem news1 {w : World} {n : Nat} {x : Int} (h : w.cell? ⟨n, 0, none⟩ = some (.int .i64 x)) : ∀ j, j < 1 → w.cell? ((⟨n, 0, none⟩ : Addr).add j) = some (.int .i64 (nth [x] j)) := fun j hj => by
  have : j = 0 := by omega
  subst this
  rw [Addr.add_lit]; exact h
theorem cell_new1 (w : World) (n : Nat) (x : Int) (hn : w.heap.size = n) : (w.alloc (.cells #[.int .i64 x] 3)).cell? ⟨n, 0, none⟩ = some (.int .i64 x) := by
  subst hn; exact new_cellsL w x 0 _ rfl
theorem cell_old1 {w : World} {n : Nat} {x : Int} (o : Obj) (h : w.cell? ⟨n, 0, none⟩ = some (.int .i64 x)) : (w.alloc o).cell? ⟨n, 0, none⟩ = some (.int .i64 x) :=
  ((below_box1 w o).cell (p := ⟨n, 0, none⟩) (World.block_lt_of_cell? _ _ h)).trans h
theorem own_shape {w : World} {B n cap : Nat} {ad : Addr} {xs : List Int} (h : OwnsA w B (.slice (some ad) n cap) xs) : ∃ g, ad = ⟨g, 0, none⟩ ∧ n = xs.length ∧ n ≤ cap ∧ cap ≤ 9223372036854775807 ∧ ∀ j, j < xs.length → w.cell? ⟨g, j, none⟩ = some (.int .i64 (nth xs j)) := by
  rcases h.weak with ⟨h0, _⟩ | ⟨g, cap', cur, h0, h1, h2, h3, h4, h5, h6⟩
  · cases h0
  · injection h0 with e1 e2 e3
    injection e1 with e1
    subst e1 e2 e3
    exact ⟨g, rfl, rfl, h3, by unfold maxLen at h4; omega, fun j hj => Owns.cellAt h2 h6 j hj⟩

theorem own_form {w : World} {B : Nat} {v : Value} {xs : List Int} (h : OwnsA w B v xs) (h0 : 0 < xs.length) : ∃ g cap, v = .slice (some ⟨g, 0, none⟩) xs.length cap := by
  rcases h.weak.shape with ⟨_, rfl⟩ | ⟨g, cap, rfl, _⟩
  · simp at h0
  · exact ⟨g, cap, rfl⟩

set_option maxHeartbeats 4000000 in
theorem spec_sorted (v : Value) (zs : List Int) (w : World) (hr : Reads w v zs) (hlen : zs.length ≤ 20) :
    Calls Try.prog 72 #[v] w (RetOwns w (sortS [] zs)) := by
  obtain ⟨ti, hi, hz0, hz1, hz2⟩ := info_parts infoInt
  obtain ⟨ao, cap, rfl, hl, hc, hcell⟩ := hr
  have hown := lit0 w w.heap.size w.heap.size rfl (Nat.le_refl _)
  have hal := below_box1 w (.cells #[] 3)
  go_enter Try.func72, Try.ntmps72
  go_wp2_with fail
  go_loopw [3, 4] (fun o i wr => ∃ m : Nat, m ≤ zs.length ∧ i = .int .i64 m ∧ OwnsA wr w.heap.size o (sortS [] (zs.take m)) ∧ (sortS [] (zs.take m)).length = m ∧ (∃ ao cap, o = .slice (some ao) m cap) ∧ Below w.heap.size w wr) (fun _ i _ => zs.length - (intOf i).toNat)
  case atStart => exact ⟨0, Nat.zero_le _, rfl, hown, rfl, ⟨_, _, rfl⟩, hal⟩
  case round =>
    clear hown hal
    obtain ⟨m, hm, rfl, hown, hsl, ⟨oa, ocap, rfl⟩, hbel⟩ := hrel
    by_cases hlt : m < zs.length
    · rcases hcell with h0 | ⟨b, o, rfl, hcell⟩
      · subst h0; simp at hlt
      have hc0 := hcell m hlt
      have hcm : _ = _ := (hbel.cell (p := ⟨b, o + m, none⟩) (World.block_lt_of_cell? _ _ hc0)).trans hc0
      have HT : Hid (sortS [] (zs.take (m + 1)) = insS (nth zs m) (sortS [] (zs.take m))) := by
        show _ = _
        have e : zs.take (m + 1) = zs.take m ++ [nth zs m] := by rw [List.take_add_one, List.getElem?_eq_getElem hlt]; simp [nth, List.getD, hlt]
        rw [e, sortS_snoc]
      have i1 : (m : Int) < (zs.length : Int) := by omega
      generalize sortS [] (zs.take m) = out at *
      generalize nth zs m = x at *
      obtain ⟨ao', cap', hv, l2, c2, rd⟩ := hown.weak.reads
      injection hv with e1 e2 e3
      subst e1 e3
      have HSL := Lib.hid hsl
      obtain ⟨w1, hw1⟩ : ∃ y, y = wr := ⟨_, rfl⟩
      subst hw1
      clear e2 hcell hc0 rd l2 c2 hsl
      obtain ⟨g, e1, e2, e3, e4, hrd0⟩ := own_shape hown
      rw [HSL.out] at hrd0
      subst e1
      have HR0 := Lib.hid hrd0
      clear e2 hrd0
      go_wp2_with fail
      go_loopw [5] (fun k wq => ∃ k' : Nat, k = .int .i64 k' ∧ k' ≤ m ∧ Hid (∀ j, j < k' → nth out j ≤ x) ∧ Below w1.heap.size w1 wq) (fun k _ => m - (intOf k).toNat)
      case atStart => exact ⟨0, rfl, Nat.zero_le _, fun j hj => by omega, Below.refl _ _⟩
      case round =>
        obtain ⟨k, rfl, hk, hle, hbq⟩ := hrel
        have hcq : _ = _ := (hbq.cell (p := ⟨b, o + m, none⟩) (World.block_lt_of_cell? _ _ hcm)).trans hcm
        have hoq : OwnsA wr w.heap.size (.slice (some ⟨g, 0, none⟩) m ocap) out := hown.kept (grownBy_of_below hbq none) (by simp [Value.ownBlock])
        have HD := Lib.hid (fun n => below_dn hbq n)
        by_cases hkm : k < m
        · have hck0 := HR0.out k hkm
          have hck : _ = _ := (hbq.cell (p := ⟨g, k, none⟩) (World.block_lt_of_cell? _ _ hck0)).trans hck0
          clear hck0
          have i2 : (k : Int) < (m : Int) := by omega
          by_cases hx : nth out k ≤ x
          · have hx' : decide (nth out k ≤ x) = true := decide_eq_true hx
            have HLE : Hid (∀ j, j < k + 1 → nth out j ≤ x) := fun j hj => by
              by_cases e : j = k
              · rw [e]; exact hx
              · exact hle.out j (by omega)
            clear hx
            go_wp2
            go_quiet (fail)
            go_wp2
            go_roundw
            case rel => exact ⟨k + 1, by go_num, by omega, HLE, HD.out _⟩
            case measure => simp [intOf]; omega
          · have hx' : decide (nth out k ≤ x) = false := decide_eq_false hx
            go_wp2
            go_quiet (fail)
            have HIN : Hid (insS x out = out.take k ++ [x] ++ out.drop k) := insS_at x out k (by rw [HSL.out]; exact hk) hle.out (.inr (by omega))
            have HTT : Hid (sortS [] (zs.take (m + 1)) = out.take k ++ [x] ++ out.drop k) := HT.out.trans HIN.out
            have hcd : (wr.drewN nq).cell? ⟨b, o + m, none⟩ = some (.int .i64 x) := hcq
            have hod : OwnsA (wr.drewN nq) w.heap.size _ out := hoq
            have hbd := HD.out nq
            clear hcq hoq HD hbq hcm hown
            generalize wr.drewN nq = wd at *
            have hrd : ∀ j, j < m → wd.cell? ⟨g, j, none⟩ = some (.int .i64 (nth out j)) := fun j hj => (hbd.cell (p := ⟨g, j, none⟩) (World.block_lt_of_cell? _ _ (HR0.out j hj))).trans (HR0.out j hj)
            have hB : w.heap.size ≤ wd.heap.size := Nat.le_trans hbel.size hbd.size
            have hdd : Below wd.heap.size wd wd.drew := (Below.refl _ _).drew
            have hS0 : wd.drew.cell? ⟨b, o + m, none⟩ = some (.int .i64 x) ∧ Below wd.heap.size wd wd.drew := ⟨hcd, hdd⟩
            have HLT : Hid ((out.take k).length = k) := by show _ = _; rw [List.length_take, HSL.out]; omega
            have HLD : Hid ((out.drop k).length = m - k) := by show _ = _; rw [List.length_drop, HSL.out]
            have HRD := Lib.hid hrd
            have i3 : (k : Int) ≤ (m : Int) := by omega
            have i4 : (k : Int) ≤ (ocap : Int) := by omega
            have i5 : (m : Int) ≤ (ocap : Int) := by omega
            clear hod hrd
            have i6 : ¬ ocap = k := by omega
            go_wp2_with fail
            go_region_held3 (fun w' => w'.cell? ⟨b, o + m, none⟩ = some (.int .i64 x) ∧ Below wd.heap.size wd w')
              (first | assumption | exact keepA (by assumption) _)
              (first
                | (refine step_app rfl (.tmp 30) (.tmp 33) (by rfl) ti Try.underlying36 hi hz0 hz1 hz2 ⟨b, o + m, none⟩ (.int .i64 x) hcd (by assumption) (.slice (some ⟨_, 0, none⟩) 0 0) [] rfl (by first | exact lit0 _ _ _ (by first | rfl | simp) (by simp) | exact World.ownsRow.alloc (lit0 _ _ _ (by first | rfl | simp) (by simp)) _) ⟨g, 0, none⟩ k ocap (out.take k) rfl HLT.out (newsT HRD.out (by assumption) k hk) (by simp; omega) ?_; intro v34 w34 o34 s34 g34)
                | (refine step_app rfl (.tmp 34) (.tmp 39) (by rfl) ti Try.underlying36 hi hz0 hz1 hz2 ⟨b, o + m, none⟩ (.int .i64 x) hcd (by assumption) v34 (out.take k) rfl (by first | exact o34 | exact World.ownsRow.alloc o34 _) ⟨_, 0, none⟩ 1 1 [x] rfl rfl (news1 (by first | exact cell_new1 _ _ _ (by first | rfl | simp) | exact grownBy_cell g34 (cell_new1 _ _ _ (by first | rfl | simp)) (by simp [Value.ownBlock]) | exact grownBy_cell g34 (cell_old1 _ (cell_new1 _ _ _ (by first | rfl | simp))) (by simp [Value.ownBlock]))) (by rw [HLT.out]; omega) ?_; intro v40 w40 o40 s40 g40)
                | (refine step_app rfl (.tmp 40) (.tmp 43) (by rfl) ti Try.underlying36 hi hz0 hz1 hz2 ⟨b, o + m, none⟩ (.int .i64 x) hcd (by assumption) v40 (out.take k ++ [x]) rfl o40 ⟨g, k, none⟩ (m - k) (ocap - k) (out.drop k) rfl HLD.out (newsD HRD.out (by assumption) k hk) (by rw [List.length_append, HLT.out]; simp; omega) ?_; intro v44 w44 o44 s44 g44))
            all_goals
              have hl44 : (out.take k ++ [x] ++ out.drop k).length = m + 1 := by rw [List.length_append, List.length_append, HLT.out, HLD.out]; show k + 1 + (m - k) = m + 1; omega
              obtain ⟨gz, cz, hv44⟩ := own_form o44 (by rw [hl44]; omega)
              rw [hl44] at hv44
              have ow := OwnsA.mono o44 hB
              rw [← HTT.out] at ow hl44
              have hbf := hbel.trans ((hbd.trans (s44.2.mono hbd.size)).mono hbel.size)
              have HF := Lib.hid (And.intro ow (And.intro hl44 hbf))
              clear ow hl44 hbf o44 s44 g44 o40 s40 g40 o34 s34 g34
              subst hv44
              go_wp2
              go_roundw
              case rel => exact ⟨m + 1, by omega, by go_num, HF.out.1, HF.out.2.1, ⟨_, _, rfl⟩, HF.out.2.2⟩
              case measure => simp [intOf]; omega
        · have i2 : ¬ (k : Int) < (m : Int) := by omega
          go_wp2
          go_quiet (fail)
          have HIN : Hid (insS x out = out.take k ++ [x] ++ out.drop k) := insS_at x out k (by rw [HSL.out]; exact hk) hle.out (.inl (by have := HSL.out; omega))
          have HTT : Hid (sortS [] (zs.take (m + 1)) = out.take k ++ [x] ++ out.drop k) := HT.out.trans HIN.out
          have hcd : (wr.drewN nq).cell? ⟨b, o + m, none⟩ = some (.int .i64 x) := hcq
          have hod : OwnsA (wr.drewN nq) w.heap.size _ out := hoq
          have hbd := HD.out nq
          clear hcq hoq HD hbq hcm hown
          generalize wr.drewN nq = wd at *
          have hrd : ∀ j, j < m → wd.cell? ⟨g, j, none⟩ = some (.int .i64 (nth out j)) := fun j hj => (hbd.cell (p := ⟨g, j, none⟩) (World.block_lt_of_cell? _ _ (HR0.out j hj))).trans (HR0.out j hj)
          have hB : w.heap.size ≤ wd.heap.size := Nat.le_trans hbel.size hbd.size
          have hdd : Below wd.heap.size wd wd.drew := (Below.refl _ _).drew
          have hS0 : wd.drew.cell? ⟨b, o + m, none⟩ = some (.int .i64 x) ∧ Below wd.heap.size wd wd.drew := ⟨hcd, hdd⟩
          have HLT : Hid ((out.take k).length = k) := by show _ = _; rw [List.length_take, HSL.out]; omega
          have HLD : Hid ((out.drop k).length = m - k) := by show _ = _; rw [List.length_drop, HSL.out]
          have HRD := Lib.hid hrd
          have i3 : (k : Int) ≤ (m : Int) := by omega
          have i4 : (k : Int) ≤ (ocap : Int) := by omega
          have i5 : (m : Int) ≤ (ocap : Int) := by omega
          clear hod hrd
          have ekm : k = m := by omega
          have HL0 : Hid ((out.drop k).length = 0) := by show _ = _; rw [HLD.out]; omega
          by_cases hcap : ocap = k
          · subst hcap
            have ekm2 : m = ocap := by omega
            subst ekm2
            clear ekm i2 i3 i4 i5
            go_wp2_with fail
            go_region_held3 (fun w' => w'.cell? ⟨b, o + m, none⟩ = some (.int .i64 x) ∧ Below wd.heap.size wd w')
              (first | assumption | exact keepA (by assumption) _)
              (first
                | (refine step_app rfl (.tmp 30) (.tmp 33) (by rfl) ti Try.underlying36 hi hz0 hz1 hz2 ⟨b, o + m, none⟩ (.int .i64 x) hcd (by assumption) (.slice (some ⟨_, 0, none⟩) 0 0) [] rfl (by first | exact lit0 _ _ _ (by first | rfl | simp) (by simp) | exact World.ownsRow.alloc (lit0 _ _ _ (by first | rfl | simp) (by simp)) _) ⟨g, 0, none⟩ m m (out.take m) rfl HLT.out (newsT HRD.out (by assumption) m hk) (by simp; omega) ?_; intro v34 w34 o34 s34 g34)
                | (refine step_app rfl (.tmp 34) (.tmp 39) (by rfl) ti Try.underlying36 hi hz0 hz1 hz2 ⟨b, o + m, none⟩ (.int .i64 x) hcd (by assumption) v34 (out.take m) rfl (by first | exact o34 | exact World.ownsRow.alloc o34 _) ⟨_, 0, none⟩ 1 1 [x] rfl rfl (news1 (by first | exact cell_new1 _ _ _ (by first | rfl | simp) | exact grownBy_cell g34 (cell_new1 _ _ _ (by first | rfl | simp)) (by simp [Value.ownBlock]) | exact grownBy_cell g34 (cell_old1 _ (cell_new1 _ _ _ (by first | rfl | simp))) (by simp [Value.ownBlock]))) (by rw [HLT.out]; omega) ?_; intro v40 w40 o40 s40 g40)
                | (refine step_app rfl (.tmp 40) (.tmp 43) (by rfl) ti Try.underlying36 hi hz0 hz1 hz2 ⟨b, o + m, none⟩ (.int .i64 x) hcd (by assumption) v40 (out.take m ++ [x]) rfl o40 _ 0 _ (out.drop m) rfl HL0.out newsZ (by rw [List.length_append, HLT.out]; simp; omega) ?_; intro v44 w44 o44 s44 g44))
            all_goals
              have hl44 : (out.take m ++ [x] ++ out.drop m).length = m + 1 := by rw [List.length_append, List.length_append, HLT.out, HLD.out]; show m + 1 + (m - m) = m + 1; omega
              obtain ⟨gz, cz, hv44⟩ := own_form o44 (by rw [hl44]; omega)
              rw [hl44] at hv44
              have ow := OwnsA.mono o44 hB
              rw [← HTT.out] at ow hl44
              have hbf := hbel.trans ((hbd.trans (s44.2.mono hbd.size)).mono hbel.size)
              have HF := Lib.hid (And.intro ow (And.intro hl44 hbf))
              clear ow hl44 hbf o44 s44 g44 o40 s40 g40 o34 s34 g34
              subst hv44
              go_wp2
              go_roundw
              case rel => exact ⟨m + 1, by omega, by go_num, HF.out.1, HF.out.2.1, ⟨_, _, rfl⟩, HF.out.2.2⟩
              case measure => simp [intOf]; omega
          · subst ekm
            have i6 : ¬ ocap = k := hcap
            go_wp2_with fail
            go_region_held3 (fun w' => w'.cell? ⟨b, o + k, none⟩ = some (.int .i64 x) ∧ Below wd.heap.size wd w')
              (first | assumption | exact keepA (by assumption) _)
              (first
                | (refine step_app rfl (.tmp 30) (.tmp 33) (by rfl) ti Try.underlying36 hi hz0 hz1 hz2 ⟨b, o + k, none⟩ (.int .i64 x) hcd (by assumption) (.slice (some ⟨_, 0, none⟩) 0 0) [] rfl (by first | exact lit0 _ _ _ (by first | rfl | simp) (by simp) | exact World.ownsRow.alloc (lit0 _ _ _ (by first | rfl | simp) (by simp)) _) ⟨g, 0, none⟩ k ocap (out.take k) rfl HLT.out (newsT HRD.out (by assumption) k hk) (by simp; omega) ?_; intro v34 w34 o34 s34 g34)
                | (refine step_app rfl (.tmp 34) (.tmp 39) (by rfl) ti Try.underlying36 hi hz0 hz1 hz2 ⟨b, o + k, none⟩ (.int .i64 x) hcd (by assumption) v34 (out.take k) rfl (by first | exact o34 | exact World.ownsRow.alloc o34 _) ⟨_, 0, none⟩ 1 1 [x] rfl rfl (news1 (by first | exact cell_new1 _ _ _ (by first | rfl | simp) | exact grownBy_cell g34 (cell_new1 _ _ _ (by first | rfl | simp)) (by simp [Value.ownBlock]) | exact grownBy_cell g34 (cell_old1 _ (cell_new1 _ _ _ (by first | rfl | simp))) (by simp [Value.ownBlock]))) (by rw [HLT.out]; omega) ?_; intro v40 w40 o40 s40 g40)
                | (refine step_app rfl (.tmp 40) (.tmp 43) (by rfl) ti Try.underlying36 hi hz0 hz1 hz2 ⟨b, o + k, none⟩ (.int .i64 x) hcd (by assumption) v40 (out.take k ++ [x]) rfl o40 _ 0 _ (out.drop k) rfl HL0.out newsZ (by rw [List.length_append, HLT.out]; simp; omega) ?_; intro v44 w44 o44 s44 g44))
            all_goals
              have hl44 : (out.take k ++ [x] ++ out.drop k).length = k + 1 := by rw [List.length_append, List.length_append, HLT.out, HLD.out]; show k + 1 + (k - k) = k + 1; omega
              obtain ⟨gz, cz, hv44⟩ := own_form o44 (by rw [hl44]; omega)
              rw [hl44] at hv44
              have ow := OwnsA.mono o44 hB
              rw [← HTT.out] at ow hl44
              have hbf := hbel.trans ((hbd.trans (s44.2.mono hbd.size)).mono hbel.size)
              have HF := Lib.hid (And.intro ow (And.intro hl44 hbf))
              clear ow hl44 hbf o44 s44 g44 o40 s40 g40 o34 s34 g34
              subst hv44
              go_wp2
              go_roundw
              case rel => exact ⟨k + 1, by omega, by go_num, HF.out.1, HF.out.2.1, ⟨_, _, rfl⟩, HF.out.2.2⟩
              case measure => simp [intOf]; omega
    · have e : m = zs.length := by omega
      have et : zs.take m = zs := List.take_of_length_le (by omega)
      rw [et] at hown
      clear e et
      go_wp2_with fail
      go_ret
      exact ⟨_, rfl, hown.weak, hbel⟩
end Go.Proofs.Ytcfeeobjllnofaa
