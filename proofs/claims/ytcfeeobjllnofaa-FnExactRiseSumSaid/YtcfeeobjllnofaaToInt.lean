/-
  Contract of laws.toIntS: a copy of at most 1048576 numbers.
-/
import Derived.Test.YtcfeeobjllnofaaList
namespace Go.Proofs.Ytcfeeobjllnofaa
open Go.RowKit

set_option maxHeartbeats 400000 in
theorem laws_toIntS (v : Value) (zs : List Int) (w : World) (hr : Reads w v zs) (hn : zs.length ≤ 1048576) :
    Calls Try.prog 24 #[v] w (RetOwns w zs) := by
  obtain ⟨i, hi, hz0, hz1, hz2⟩ := info_parts infoInt
  obtain ⟨ao, cap, rfl, hl, hc, hcell⟩ := hr
  go_enter Try.func24, Try.ntmps24
  go_wp2_with (at_make; refine wpList_make_full _ rfl _ _ 36 rfl w.heap.size 3 i (.int .i64 0) 1 Try.underlying36 hi hz0 hz1 .i64 .i64 _ _ zs.length rfl rfl rfl rfl (by rw [hz2]; omega) (by unfold maxLen; omega) (Nat.le_refl _) ?_)
  intro w1 hown0 hgrow0
  have hown := Owns.made (zs := List.replicate zs.length 0) (by simpa using hown0) rfl rfl
  have hbel : Below w.heap.size w w1 := (Below.refl _ _).grown hgrow0 (Nat.le_refl _) (by simp)
  clear hown0 hgrow0
  go_wp2
  go_loopw [4] (fun i wr => ∃ k : Nat, k ≤ zs.length ∧ i = .int .i64 k ∧ Owns wr w.heap.size (.slice (some ⟨w.heap.size, 0, none⟩) zs.length zs.length) (zs.take k ++ List.replicate (zs.length - k) 0) ∧ Below w.heap.size w wr) (fun i _ => zs.length - (intOf i).toNat)
  case atStart => exact ⟨0, Nat.zero_le _, rfl, by simpa using hown, hbel⟩
  case round =>
    obtain ⟨k, hk, rfl, hown, hbel⟩ := hrel
    have hle := hn
    by_cases hlt : k < zs.length
    · rcases hcell with h0 | ⟨b, o, rfl, hcell⟩
      · subst h0; simp at hlt
      · have h1 := hcell k hlt
        have h2 := World.block_lt_of_cell? _ _ h1
        have hsrc : wr.cell? ⟨b, o + k, none⟩ = some (.int .i64 (nth zs k)) := (hbel.cell (p := ⟨b, o + k, none⟩) h2).trans h1
        have hdst := hown.cell k (by simp; omega)
        have hfree := hown.free k
        have hst := hown.store k (nth zs k)
        rw [copied_set zs k hlt] at hst
        have hbel2 := Owns.store_below hbel hown (Nat.le_refl _) k (.int .i64 (nth zs k))
        clear h1 h2 hown hbel hcell
        go_wp2
        go_roundw
        case rel => exact ⟨k + 1, by omega, by go_num, hst, hbel2⟩
        case measure => simp [intOf]; omega
    · have : k = zs.length := by omega
      have e : zs.take k ++ List.replicate (zs.length - k) 0 = zs := by rw [this]; simp
      rw [e] at hown
      clear e this
      go_wp2
      go_ret
      exact ⟨_, rfl, hown, hbel⟩

end Go.Proofs.Ytcfeeobjllnofaa
