/-
  Contracts of both TimesAll.
-/
import Derived.Test.YtmpbofjkhombaaaOdds
namespace Go.Proofs.Ytmpbofjkhombaaa
open Go.RowKit

theorem new_cells (w : World) (x : Int) : ∀ j u, ([Value.int .i64 x] : List Value)[j]? = some u → (w.alloc (.cells #[.int .i64 x] 3)).cell? ((⟨w.heap.size, 0, none⟩ : Addr).add j) = some u := by
  intro j u hj
  match j, hj with
  | 0, hj => simp at hj; subst hj; simp [Addr.add]
theorem new_one (x : Int) : ∀ u ∈ ([Value.int .i64 x] : List Value), u.oneCell' = true := by
  intro u hu; simp at hu; subst hu; rfl

theorem owns_lit0 (w : World) (B : Nat) (hB : B ≤ w.heap.size) : OwnsA (w.alloc (.cells #[] 3)) B (.slice (some ⟨w.heap.size, 0, none⟩) 0 0) [] :=
  World.ownsRow_lit (size := 1) w #[] 0 hB (by unfold maxLen; omega) rfl

theorem filled_set (f : List Int) (k n : Nat) (x : Int) (hf : f.length = n) (hk : k < n) (hx : nth f k = x) : (f.take k ++ List.replicate (n - k) 0).set k x = f.take (k + 1) ++ List.replicate (n - (k + 1)) 0 := by
  subst hf hx
  exact copied_set f k hk

end Go.Proofs.Ytmpbofjkhombaaa
