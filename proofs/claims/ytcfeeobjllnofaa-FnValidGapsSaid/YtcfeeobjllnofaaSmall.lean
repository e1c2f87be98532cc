/-
  The contract of spec.smallWays: it hands back a square of its own.
-/
import Derived.Test.YtcfeeobjllnofaaMat
import Derived.StillTailTactics
namespace Go.Proofs.Ytcfeeobjllnofaa
open Go.RowKit
set_option linter.unusedVariables false

/-- A square of the call's own. -/
def RetMat (w : World) (n : Nat) (e : Ending) (w' : World) : Prop := ∃ v G K Z, e = .returned v ∧ MatB w' w.heap.size v n n G K Z ∧ Below w.heap.size w w'

set_option maxHeartbeats 4000000 in
theorem spec_smallWays (v : Value) (n : Nat) (rs : List (List Int)) (w : World) (hr : ReadsM w v rs) (hn : rs.length = n) (h0 : 0 < n) (h6 : n ≤ 6) (hl : ∀ j, j < n → (rowR rs j).length = n) :
    Calls Try.prog 77 #[v] w (RetMat w n) := by
  obtain ⟨ti, hi, hz0, hz1, hz2⟩ := info_parts infoInt
  obtain ⟨tr, hri, hrz0, hrz1, hrz2⟩ := info_parts infoInts
  obtain ⟨ao, cap, rfl, hl1, hc, hcell⟩ := hr
  rw [hn] at *
  rcases hcell with h | ⟨b0, o0, rfl, hcell⟩
  · omega
  have HN := Lib.hid hn
  have HL := Lib.hid hl
  clear hn hl
  have hm0 := MatB.start w w.heap.size (Nat.le_refl _) n (fun _ => 0) (fun _ => 0) (fun _ => [])
  have hb0 := below_box1 w (.cells #[] 36)
  have hs0 := hb0.size
  go_enter Try.func77, Try.ntmps77
  go_wp2_with fail
  go_loopw [3, 4] (fun o i wr => ∃ (k : Nat) (G K : Nat → Nat) (Z : Nat → List Int), k ≤ n ∧ i = .int .i64 k ∧ MatB wr w.heap.size o k n G K Z ∧ Below w.heap.size w wr ∧ w.heap.size ≤ wr.heap.size) (fun _ i _ => n - (intOf i).toNat)
  case atStart => exact ⟨0, _, _, _, Nat.zero_le _, rfl, hm0, hb0, hs0⟩
  case round =>
    clear hm0 hb0 hs0
    obtain ⟨k, G, K, Z, hk, rfl, hmat, hbel, hsz⟩ := hrel
    by_cases hlt : k < n
    · obtain ⟨ak, ck, r1, r2⟩ := ((hcell k hlt).keep hbel).reads
      have hlk := HL.out k hlt
      obtain ⟨ak', ck', hv, g1, g2, g3⟩ := r2
      injection hv with e1 e2 e3
      subst e1 e3
      rcases g3 with g3 | ⟨gb, qb, rfl, g3⟩
      · rw [g3] at hlk; simp at hlk; omega
      have i1 : (k : Int) < (n : Int) := by omega
      rw [hlk] at g1 g3 r1
      generalize rowR rs k = row at *
      have oe : (wr.alloc (.cells #[] 3)).ownsRow w.heap.size 3 1 (.slice (some ⟨wr.heap.size, 0, none⟩) 0 0) 0 [] := World.ownsRow_lit (size := 1) wr #[] 0 hsz (by unfold maxLen; omega) rfl
      have hal := below_box1 wr (.cells #[] 3)
      have hmat2 := hmat.keep hal
      have hbel2 := hbel.trans (hal.mono hbel.size)
      have news : ∀ j u, (row.map (Value.int .i64))[j]? = some u → (wr.alloc (.cells #[] 3)).cell? ((⟨gb, qb, none⟩ : Addr).add j) = some u := by
        intro j u hj
        have hj' : j < n := by
          rcases Nat.lt_or_ge j row.length with h | h
          · omega
          · rw [List.getElem?_eq_none (by simpa using h)] at hj; cases hj
        have hu : u = .int .i64 (nth row j) := by
          have : j < row.length := by omega
          simp [this] at hj
          rw [← hj]; simp [nth, List.getD, this]
        subst hu
        rw [Addr.add_lit]
        exact (hal.cell (p := ⟨gb, qb + j, none⟩) (World.block_lt_of_cell? _ _ (g3 j hj'))).trans (g3 j hj')
      have ones : ∀ u ∈ row.map (Value.int .i64), u.oneCell' = true := by
        intro u hu; rw [List.mem_map] at hu; obtain ⟨x, _, rfl⟩ := hu; rfl
      have r1a := (hal.cell (p := ⟨b0, o0 + k, none⟩) (World.block_lt_of_cell? _ _ r1)).trans r1
      clear hmat2 hbel2 g3
      go_wp2_with (at_builtin; refine wpList_append_fresh rfl _ _ 36 rfl w.heap.size 3 ti (.int .i64 0) 1 8 Try.underlying36 hi hz0 hz1 hz2 rfl (by decide) _ _ _ rfl oe ⟨gb, qb, none⟩ n ck (row.map (Value.int .i64)) rfl (by rw [List.length_map, hlk, Nat.mul_one]) news ones h0 (by unfold maxLen; omega) (by omega) (by simp; omega) ?_)
      intro v1 w2 hown' hgrow hblk
      have hb12 : Below wr.heap.size wr w2 := hal.grown hgrow (by simp) (fun q hq => by simp [Value.ownBlock] at hq; omega)
      have hmat2 := hmat.keep hb12
      have hbel2 := hbel.trans (hb12.mono hbel.size)
      have hsz2 := Nat.le_trans hsz hb12.size
      have o2 : OwnsA w2 w.heap.size v1 row := by
        unfold OwnsA
        rw [hlk]
        simpa using hown'
      have hsh : ∃ q c, v1 = .slice (some ⟨q, 0, none⟩) n c ∧ wr.heap.size ≤ q ∧ c ≤ 9223372036854775807 := by
        rcases o2.weak.shape with ⟨rfl, e⟩ | ⟨q, c, rfl, _, _, _, hc2⟩
        · subst e; simp at hlk; omega
        · refine ⟨q, c, by rw [hlk], ?_, hc2⟩
          simp [Value.ownBlock] at hblk
          omega
      obtain ⟨q, c, rfl, hq, hc2⟩ := hsh
      have hGq : ∀ j, j < k → G j ≠ q := fun j hj e => by have := (hmat.lt j hj).2; omega
      have hoq : u3.ownBlock ≠ some q := fun e => by have := (World.ownsRow.lt hmat.outer q e).2; omega
      have HH := Lib.hid (And.intro hmat2 (And.intro hbel2 (And.intro o2.weak (And.intro hGq (And.intro hoq hsz2)))))
      have HO := Lib.hid (World.ownsRow.alloc hmat2.outer (.cells #[.slice (some ⟨q, 0, none⟩) n c] 36))
      clear hmat2 hbel2 o2 hGq hoq hsz2 hmat hbel hown' hgrow hblk hb12 oe hal r1 r1a news ones
      go_wp2_with (at_builtin; refine wpList_append_fresh rfl _ _ 31 rfl w.heap.size 36 tr (.slice none 0 0) 1 24 Try.underlying31 hri hrz0 hrz1 hrz2 rfl (by decide) _ _ _ rfl HO.out ⟨w2.heap.size, 0, none⟩ 1 1 [.slice (some ⟨q, 0, none⟩) n c] rfl rfl (new_cellsR _ _ _ rfl) (new_oneR _ _ _) (by omega) (by unfold maxLen; omega) (by omega) (by have := HH.out.2.2.2.2.2; simp; omega) ?_)
      intro v3 w3 hown' hgrow hblk
      obtain ⟨h1, h2, h3, h4, h5, h6⟩ := HH.out
      have hp := h1.push h3 hlk h4 h5 hown' hgrow (by simpa using hblk)
      have hbn : Below w.heap.size w w3 := (h2.alloc h2.size _).grown hgrow (by simp; omega) (fun p hp => (World.ownsRow.lt h1.outer p hp).1)
      have hsn : w.heap.size ≤ w3.heap.size := hbn.size
      clear hown' hgrow hblk h1 h2 h3 h4 h5 h6 HH HO
      go_wp2
      go_roundw
      case rel => exact ⟨k + 1, _, _, _, by omega, by go_num, hp, hbn, hsn⟩
      case measure => simp [intOf]; omega
    · have e : k = n := by omega
      rw [e] at hmat
      clear e hcell
      obtain ⟨g, cap', rfl, g1, g2, g3, g4⟩ := hmat.open_ h0
      have j0 : ¬ (k : Int) < (n : Int) := by omega
      go_wp2
      go_loopw [5] (fun c w1 => ∃ (m : Nat) (Z : Nat → List Int), m ≤ n ∧ c = .int .i64 m ∧ MatB w1 w.heap.size (.slice (some ⟨g, 0, none⟩) n cap') n n G K Z ∧ Below w.heap.size w w1) (fun c _ => n - (intOf c).toNat)
      case atStart => exact ⟨0, Z, Nat.zero_le _, rfl, hmat, hbel⟩
      case round =>
        clear hmat hbel hsz
        obtain ⟨m, Z1, hm, rfl, hmat, hbel⟩ := hrel
        by_cases hmn : m < n
        · have i1 : (m : Int) < (n : Int) := by omega
          go_wp2_with fail
          go_loopw [6] (fun c w2 => ∃ (p : Nat) (Z : Nat → List Int), p ≤ n ∧ c = .int .i64 p ∧ MatB w2 w.heap.size (.slice (some ⟨g, 0, none⟩) n cap') n n G K Z ∧ Below w.heap.size w w2) (fun c _ => n - (intOf c).toNat)
          case atStart => exact ⟨0, Z1, Nat.zero_le _, rfl, hmat, hbel⟩
          case round =>
            clear hmat hbel
            obtain ⟨p, Z2, hp, rfl, hmat, hbel⟩ := hrel
            by_cases hpn : p < n
            · have i2 : (p : Int) < (n : Int) := by omega
              go_wp2_with fail
              go_loopw [7] (fun c w3 => ∃ (q : Nat) (Z : Nat → List Int), q ≤ n ∧ c = .int .i64 q ∧ MatB w3 w.heap.size (.slice (some ⟨g, 0, none⟩) n cap') n n G K Z ∧ Below w.heap.size w w3) (fun c _ => n - (intOf c).toNat)
              case atStart => exact ⟨0, Z2, Nat.zero_le _, rfl, hmat, hbel⟩
              case round =>
                clear hmat hbel
                obtain ⟨q, Z3, hq, rfl, hmat, hbel⟩ := hrel
                by_cases hqn : q < n
                · have i3 : (q : Int) < (n : Int) := by omega
                  have ca := hmat.cell p hpn
                  have cb := hmat.cell m hmn
                  obtain ⟨v1, f1⟩ := hmat.at_ p q hpn hqn
                  obtain ⟨v2, _⟩ := hmat.at_ p m hpn hmn
                  obtain ⟨v3, _⟩ := hmat.at_ m q hmn hqn
                  have hd0 : Below wr.heap.size wr wr.drew := (Below.refl _ _).drew
                  have hmatd := hmat.keep hd0
                  obtain ⟨vd, fd⟩ := hmatd.at_ p q hpn hqn
                  have HST := Lib.hid (fun x => And.intro (hmatd.store p q hpn x) (hmatd.store_below p q hpn (.int .i64 x) (hbel.trans (hd0.mono hbel.size)) (Nat.le_refl _)))
                  clear hmatd hd0 hmat hbel
                  generalize nth (Z3 p) q = x1 at *
                  generalize nth (Z3 p) m = x2 at *
                  generalize nth (Z3 m) q = x3 at *
                  go_wp2_with fail
                  go_still_tail 29, (by kernel_rfl)
                  change wpList _ _ _ _ _ wr.drew
                  generalize wr.drew = wz at *
                  go_wp2
                  go_roundw
                  case rel => exact ⟨q + 1, _, by omega, by go_num, (HST.out _).1, (HST.out _).2⟩
                  case measure => simp [intOf]; omega
                · have j3 : ¬ (q : Int) < (n : Int) := by omega
                  go_wp2
                  go_roundw
                  case rel => exact ⟨p + 1, Z3, by omega, by go_num, hmat, hbel⟩
                  case measure => simp [intOf]; omega
            · have j2 : ¬ (p : Int) < (n : Int) := by omega
              go_wp2
              go_roundw
              case rel => exact ⟨m + 1, Z2, by omega, by go_num, hmat, hbel⟩
              case measure => simp [intOf]; omega
        · have j1 : ¬ (m : Int) < (n : Int) := by omega
          go_wp2
          go_ret
          exact ⟨_, G, K, Z1, rfl, hmat, hbel⟩
end Go.Proofs.Ytcfeeobjllnofaa
