/-
  The statement of FnExactFourBoth: for every input the Go function laws.FnExactFourBoth returns true, and its arguments read afterwards as before. No condition.
-/
import Derived.Test.YtcfeeobjllnofaaRows
import Derived.Test.YtcfeeobjllnofaaExBothWalk
import Derived.WalkKit
import Derived.ProofKit
import Derived.OpenShut
import Derived.ShutString
import Derived.ChangeOld
import Derived.Below
import Derived.Lib.SmallJoins
namespace Go.Proofs.Ytcfeeobjllnofaa.fnExactFourBoth
open Go.ChangeShapes Go.WideShapes Go.ChangeAt Go.RowKit
open Go.ChangeMaps (open_string shut_string)
set_option linter.unusedVariables false

theorem cellsFour : Try.prog.cellsOf 23 = 4 := by kernel_rfl
theorem own : ownKnob Try.prog.godebug = none := by kernel_rfl
theorem laidOut : laidOutB Try.prog = true := by kernel_rfl

set_option maxRecDepth 100000 in
theorem lifted (os : Os) (started : os.Started) (H : Type) (enc : TypeId × Value → H) :
    ReturnsInHanded {} Try.checked os 8 .any (Rows.fnExactFourBothSpec.pre6 enc Try.prog Try.f8 Rows.fnExactFourBothRow.domain false) (Rows.fnExactFourBothSpec.post enc Try.prog Try.f8 false true false false) := by
  refine returnsInHanded_of_change (C := Try.checked) own started (by kernel_rfl) Try.func8
    (ChangeSpec.witness6 (enc := enc) (C := Try.checked) false ⟨#[], #[.agg #[.int .i64 0, .int .i64 0, .int .i64 0, .int .i64 0]], []⟩ 8 (by kernel_rfl) (by kernel_rfl) (by kernel_rfl) (by kernel_rfl)) ?_
  intro W base args ds gs before hval0 hW hcnd _
  have hval : ∀ (j : Nat) t v, Try.f8.params[j]? = some t → args[j]? = some v → Value.okWide Try.prog W .any base t v := hval0
  have hW' := hW
  obtain ⟨p, q, hA0, hV, rfl, hfz, hnd⟩ := hW
  have hA : DataW.TrodAll enc Try.prog W 0 (fun _ => true) true Try.f8.params.toList args.toList ds p := hA0
  rw [Try.params8] at hA hval
  obtain ⟨v0, vs0, d0, ds0, p0, q0, hargs, rfl, rfl, h0, r0⟩ := trodAll_cons hA
  obtain ⟨rfl, rfl, rfl⟩ := trodAll_nil r0
  obtain rfl : args = #[v0] := by cases args; simp_all
  obtain ⟨rfl, rfl⟩ := trodVars_none hV
  obtain ⟨u0, u1, u2, u3, y0, y1, y2, y3, m, rfl, rfl, rfl, hy0, hy1, hy2, hy3⟩ := Joins.open_agg4 Try.underlying23 (by kernel_rfl) cellsFour (hval 0 23 v0 rfl rfl) h0
  obtain ⟨a0, e0, rfl, w0a⟩ := DataW.trod_int Try.underlying3 hy0
  obtain ⟨b0, e1, rfl, w0b⟩ := DataW.trod_int Try.underlying3 hy1
  obtain ⟨g0, e2, rfl, w0g⟩ := DataW.trod_int Try.underlying3 hy2
  obtain ⟨k0, e3, rfl, w0k⟩ := DataW.trod_int Try.underlying3 hy3
  simp at e0 e1 e2 e3
  subst e0 e1 e2 e3
  clear hA0 hval0
  simp only [List.append_nil] at hW'
  refine (walk_FnExactFourBoth a0 b0 g0 k0 W w0a w0b w0g w0k).mono fun e W' ⟨he, bel⟩ => ?_
  subst he
  exact ⟨_, rfl, _, _, _, [], [], [], hW', trodAll_mk1 (shut_bool Try.underlying4 _), (trodAll_cons_mk (Joins.shut_agg4 (y0 := (.lit (.int .i64 a0), [])) (y1 := (.lit (.int .i64 b0), [])) (y2 := (.lit (.int .i64 g0), [])) (y3 := (.lit (.int .i64 k0), [])) Try.underlying23 (by kernel_rfl) cellsFour ⟨1, by simp [DataW.trod, Try.underlying3, w0a]⟩ ⟨1, by simp [DataW.trod, Try.underlying3, w0b]⟩ ⟨1, by simp [DataW.trod, Try.underlying3, w0g]⟩ ⟨1, by simp [DataW.trod, Try.underlying3, w0k]⟩) trodAll_mk0), rfl, bel.frame _, fun h => by cases h⟩

theorem over : Rows.fnExactFourBothRow.holds Try.pinned (OpenSpec.ofChange Rows.fnExactFourBothSpec) :=
  OpenClaim.holds_of_wide 8 Try.f8 rfl rfl rfl rfl rfl rfl rfl ⟨rfl, rfl, rfl, rfl, rfl⟩ rfl rfl rfl rfl rfl (by kernel_rfl) Try.func8 (by kernel_rfl)
    (of_decide_eq_true (by kernel_rfl)) (by unfold Func.isWrapper; first | (rw [if_pos (by decide +kernel)]; kernel_rfl) | (rw [if_neg (by decide +kernel)]; exact ⟨rfl, rfl⟩))
    (fun os started H enc _ => lifted os started H enc)

/-- The statement. -/
theorem proved : Rows.FnExactFourBothSaid := over
#print axioms proved
end Go.Proofs.Ytcfeeobjllnofaa.fnExactFourBoth
