/-
  The walk of laws.FnExactValidData.
-/
import Derived.Test.YtolepfgabbmpdaaAll
import Derived.Test.YtolepfgabbmpdaaList
namespace Go.Proofs.Ytolepfgabbmpdaa
open Go.RowKit

set_option maxHeartbeats 400000 in
theorem walk_FnExactValidData (a0 : Option Addr) (len0 cap0 : Nat) (z0 : List Int) (w : World) (w0 : IsRow .i64 w a0 len0 cap0 z0) :
    Calls Try.prog 3 #[.slice a0 len0 cap0] w fun e w' => e = .returned (.bool true) ∧ Below w.heap.size w w' := by
  have hr := w0.reads
  have hlen := w0.len
  clear w0
  generalize z0.take len0 = zs at *
  by_cases hbig : 1048576 < len0
  · have hbig' : decide ((1048576 : Int) < (len0 : Int)) = true := by simp; omega
    go_enter Try.func3, Try.ntmps3
    go_wp2_with fail
    go_ret
    exact ⟨rfl, Below.refl _ _⟩
  · go_enter Try.func3, Try.ntmps3
    go_wp2_with fail
    refine (laws_toIntS _ zs _ hr (by omega)).mono ?_
    rintro e w1 ⟨v1, rfl, ho1, hb1⟩
    go_wp2_with fail
    refine (spec_ValidData _ zs _ ho1.reads).mono ?_
    rintro e w1' ⟨rfl, rfl⟩
    go_wp2_with fail
    refine (laws_toIntS _ zs _ (hr.keep hb1) (by omega)).mono ?_
    rintro e w2 ⟨v2, rfl, ho2, hb2⟩
    go_wp2_with fail
    refine (impl_ValidData _ zs _ ho2.reads).mono ?_
    rintro e w3 ⟨rfl, hb3⟩
    have hq : (dataB zs != dataB zs) = false := by simp
    go_wp2_with fail
    refine (laws_toIntS _ zs _ ((hr.keep hb1).keep (hb2.trans (hb3.mono hb2.size))) (by omega)).mono ?_
    rintro e w4 ⟨v4, rfl, ho4, hb4⟩
    go_wp2_with fail
    refine (laws_eqIntS _ _ zs zs _ ((ho2.keep hb3).keep hb4).reads ho4.reads).mono ?_
    rintro e w5 ⟨rfl, hb5⟩
    have ht : decide (zs = zs) = true := by simp
    go_wp2_with fail
    go_ret
    refine ⟨rfl, ?_⟩
    have s1 := hb1.size
    have s2 := hb2.size
    have s3 := hb3.size
    have s4 := hb4.size
    exact hb1.trans ((hb2.mono (by omega)).trans ((hb3.mono (by omega)).trans ((hb4.mono (by omega)).trans (hb5.mono (by omega)))))
end Go.Proofs.Ytolepfgabbmpdaa
