/-
  No cell of these rows narrows 'for every input' (looked for: loops, veiled, ifaces, maps, wideKeys, modest, calm, conditions, laid).
  DERIVED. THE GIVEN ROWS OF THIS SEAT. 10 by the template 'for every input the law returns true; each argument reads behind the call as it read before'; 0 by the template 'total and deterministic' (their statements: YtcfeeobjllnofaaTotals.lean).
  GIVEN WITH THE SEED: the statements are not yours to turn. If you find one false, say at which input.
  Laid BY PROGRAM, IN A SANDBOX (cutbox-rows.mjs): the forced cells as the released guide's own fill.sh prints them over the translation abf7221868b64ab0… (all of the seat's roots in one cut). By AI agents, Wed Nov 11 2026. No macro, syntax, notation, axiom, sorry.
-/
import Derived.Test.YtcfeeobjllnofaaChecked
import GoSem.Claim
import GoSem.ClaimJoined
import GoSem.ClaimMapViews
import Derived.JoinedTies
import Derived.KernelRfl
namespace Go.Proofs.Ytcfeeobjllnofaa
/- THE CELL 'sum', in the pinned program and in every row, IS THE sha256 OF THE DUMP (.gsa) THAT YtcfeeobjllnofaaProg.lean LOADS. Nothing in Lean hashes anything: it is a label: what it is worth is what the hold of that sum in a sandbox is worth. -/
noncomputable def Try.pinned : Pinned := { name := "ytcfeeobjllnofaa", sum := "abf7221868b64ab05db84f75911f8a4be91858cf2a337dbd79bfea319b64086c", checked := Try.checked }
namespace Rows
def none {H : Type} : Left H := { results := [], args := [] }

/-- 'laws.FnExactFourWays': WHATEVER THE INPUT: true; the input reads as it did. -/
def fnExactFourWaysSpec : ChangeSpec := { name := "fnExactFourWays", fn := fun _ => fun
  | [d] => { results := [.lit (.bool true)], args := [d] }
  | _ => none }
def fnExactFourWaysRow : OpenClaim := { program := "ytcfeeobjllnofaa", sum := "abf7221868b64ab05db84f75911f8a4be91858cf2a337dbd79bfea319b64086c", func := "loop.example/countedchances/laws.FnExactFourWays", spec := "fnExactFourWays", unfollowed := true, recurses := true, apart := false }
def FnExactFourWaysSaid : Prop := fnExactFourWaysRow.holds Try.pinned (OpenSpec.ofChange fnExactFourWaysSpec)

/-- ITS FALSE NEIGHBOUR: 'it returns false'. Refute it at one input. -/
def fnExactFourWaysWrong : ChangeSpec := { name := "fnExactFourWays", fn := fun _ => fun
  | [d] => { results := [.lit (.bool false)], args := [d] }
  | _ => none }
def FnExactFourWaysWrongFalsely : Prop := fnExactFourWaysRow.holds Try.pinned (OpenSpec.ofChange fnExactFourWaysWrong)

/-- 'laws.FnExactMiddlePlaces': WHATEVER THE INPUT: true; the input reads as it did. -/
def fnExactMiddlePlacesSpec : ChangeSpec := { name := "fnExactMiddlePlaces", fn := fun _ => fun
  | [d1, d2, d3] => { results := [.lit (.bool true)], args := [d1, d2, d3] }
  | _ => none }
def fnExactMiddlePlacesRow : OpenClaim := { program := "ytcfeeobjllnofaa", sum := "abf7221868b64ab05db84f75911f8a4be91858cf2a337dbd79bfea319b64086c", func := "loop.example/countedchances/laws.FnExactMiddlePlaces", spec := "fnExactMiddlePlaces", unfollowed := true, recurses := true, apart := false }
def FnExactMiddlePlacesSaid : Prop := fnExactMiddlePlacesRow.holds Try.pinned (OpenSpec.ofChange fnExactMiddlePlacesSpec)

/-- ITS FALSE NEIGHBOUR: 'it returns false'. Refute it at one input. -/
def fnExactMiddlePlacesWrong : ChangeSpec := { name := "fnExactMiddlePlaces", fn := fun _ => fun
  | [d1, d2, d3] => { results := [.lit (.bool false)], args := [d1, d2, d3] }
  | _ => none }
def FnExactMiddlePlacesWrongFalsely : Prop := fnExactMiddlePlacesRow.holds Try.pinned (OpenSpec.ofChange fnExactMiddlePlacesWrong)

/-- 'laws.FnExactValidGaps': WHATEVER THE INPUT: true; the input reads as it did. -/
def fnExactValidGapsSpec : ChangeSpec := { name := "fnExactValidGaps", fn := fun _ => fun
  | [d] => { results := [.lit (.bool true)], args := [d] }
  | _ => none }
def fnExactValidGapsRow : OpenClaim := { program := "ytcfeeobjllnofaa", sum := "abf7221868b64ab05db84f75911f8a4be91858cf2a337dbd79bfea319b64086c", func := "loop.example/countedchances/laws.FnExactValidGaps", spec := "fnExactValidGaps", apart := false }
def FnExactValidGapsSaid : Prop := fnExactValidGapsRow.holds Try.pinned (OpenSpec.ofChange fnExactValidGapsSpec)

/-- ITS FALSE NEIGHBOUR: 'it returns false'. Refute it at one input. -/
def fnExactValidGapsWrong : ChangeSpec := { name := "fnExactValidGaps", fn := fun _ => fun
  | [d] => { results := [.lit (.bool false)], args := [d] }
  | _ => none }
def FnExactValidGapsWrongFalsely : Prop := fnExactValidGapsRow.holds Try.pinned (OpenSpec.ofChange fnExactValidGapsWrong)

/-- 'laws.FnExactRiseSum': WHATEVER THE INPUT: true; the input reads as it did. -/
def fnExactRiseSumSpec : ChangeSpec := { name := "fnExactRiseSum", fn := fun _ => fun
  | [d1, d2] => { results := [.lit (.bool true)], args := [d1, d2] }
  | _ => none }
def fnExactRiseSumRow : OpenClaim := { program := "ytcfeeobjllnofaa", sum := "abf7221868b64ab05db84f75911f8a4be91858cf2a337dbd79bfea319b64086c", func := "loop.example/countedchances/laws.FnExactRiseSum", spec := "fnExactRiseSum", unfollowed := true, recurses := true, apart := false }
def FnExactRiseSumSaid : Prop := fnExactRiseSumRow.holds Try.pinned (OpenSpec.ofChange fnExactRiseSumSpec)

/-- ITS FALSE NEIGHBOUR: 'it returns false'. Refute it at one input. -/
def fnExactRiseSumWrong : ChangeSpec := { name := "fnExactRiseSum", fn := fun _ => fun
  | [d1, d2] => { results := [.lit (.bool false)], args := [d1, d2] }
  | _ => none }
def FnExactRiseSumWrongFalsely : Prop := fnExactRiseSumRow.holds Try.pinned (OpenSpec.ofChange fnExactRiseSumWrong)

/-- 'laws.FnExactFoursLike': WHATEVER THE INPUT: true; the input reads as it did. -/
def fnExactFoursLikeSpec : ChangeSpec := { name := "fnExactFoursLike", fn := fun _ => fun
  | [d] => { results := [.lit (.bool true)], args := [d] }
  | _ => none }
def fnExactFoursLikeRow : OpenClaim := { program := "ytcfeeobjllnofaa", sum := "abf7221868b64ab05db84f75911f8a4be91858cf2a337dbd79bfea319b64086c", func := "loop.example/countedchances/laws.FnExactFoursLike", spec := "fnExactFoursLike", unfollowed := true, recurses := true, apart := false }
def FnExactFoursLikeSaid : Prop := fnExactFoursLikeRow.holds Try.pinned (OpenSpec.ofChange fnExactFoursLikeSpec)

/-- ITS FALSE NEIGHBOUR: 'it returns false'. Refute it at one input. -/
def fnExactFoursLikeWrong : ChangeSpec := { name := "fnExactFoursLike", fn := fun _ => fun
  | [d] => { results := [.lit (.bool false)], args := [d] }
  | _ => none }
def FnExactFoursLikeWrongFalsely : Prop := fnExactFoursLikeRow.holds Try.pinned (OpenSpec.ofChange fnExactFoursLikeWrong)

/-- 'laws.FnExactFourBoth': WHATEVER THE INPUT: true; the input reads as it did. -/
def fnExactFourBothSpec : ChangeSpec := { name := "fnExactFourBoth", fn := fun _ => fun
  | [d] => { results := [.lit (.bool true)], args := [d] }
  | _ => none }
def fnExactFourBothRow : OpenClaim := { program := "ytcfeeobjllnofaa", sum := "abf7221868b64ab05db84f75911f8a4be91858cf2a337dbd79bfea319b64086c", func := "loop.example/countedchances/laws.FnExactFourBoth", spec := "fnExactFourBoth", unfollowed := true, recurses := true, apart := false }
def FnExactFourBothSaid : Prop := fnExactFourBothRow.holds Try.pinned (OpenSpec.ofChange fnExactFourBothSpec)

/-- ITS FALSE NEIGHBOUR: 'it returns false'. Refute it at one input. -/
def fnExactFourBothWrong : ChangeSpec := { name := "fnExactFourBoth", fn := fun _ => fun
  | [d] => { results := [.lit (.bool false)], args := [d] }
  | _ => none }
def FnExactFourBothWrongFalsely : Prop := fnExactFourBothRow.holds Try.pinned (OpenSpec.ofChange fnExactFourBothWrong)

/-- 'laws.FnExactFourChance': WHATEVER THE INPUT: true; the input reads as it did. -/
def fnExactFourChanceSpec : ChangeSpec := { name := "fnExactFourChance", fn := fun _ => fun
  | [d] => { results := [.lit (.bool true)], args := [d] }
  | _ => none }
def fnExactFourChanceRow : OpenClaim := { program := "ytcfeeobjllnofaa", sum := "abf7221868b64ab05db84f75911f8a4be91858cf2a337dbd79bfea319b64086c", func := "loop.example/countedchances/laws.FnExactFourChance", spec := "fnExactFourChance", unfollowed := true, recurses := true, apart := false }
def FnExactFourChanceSaid : Prop := fnExactFourChanceRow.holds Try.pinned (OpenSpec.ofChange fnExactFourChanceSpec)

/-- ITS FALSE NEIGHBOUR: 'it returns false'. Refute it at one input. -/
def fnExactFourChanceWrong : ChangeSpec := { name := "fnExactFourChance", fn := fun _ => fun
  | [d] => { results := [.lit (.bool false)], args := [d] }
  | _ => none }
def FnExactFourChanceWrongFalsely : Prop := fnExactFourChanceRow.holds Try.pinned (OpenSpec.ofChange fnExactFourChanceWrong)

/-- 'laws.FnFourWays': WHATEVER THE INPUT: true; the input reads as it did. -/
def fnFourWaysSpec : ChangeSpec := { name := "fnFourWays", fn := fun _ => fun
  | [d] => { results := [.lit (.bool true)], args := [d] }
  | _ => none }
def fnFourWaysRow : OpenClaim := { program := "ytcfeeobjllnofaa", sum := "abf7221868b64ab05db84f75911f8a4be91858cf2a337dbd79bfea319b64086c", func := "loop.example/countedchances/laws.FnFourWays", spec := "fnFourWays", unfollowed := true, recurses := true, apart := false }
def FnFourWaysSaid : Prop := fnFourWaysRow.holds Try.pinned (OpenSpec.ofChange fnFourWaysSpec)

/-- ITS FALSE NEIGHBOUR: 'it returns false'. Refute it at one input. -/
def fnFourWaysWrong : ChangeSpec := { name := "fnFourWays", fn := fun _ => fun
  | [d] => { results := [.lit (.bool false)], args := [d] }
  | _ => none }
def FnFourWaysWrongFalsely : Prop := fnFourWaysRow.holds Try.pinned (OpenSpec.ofChange fnFourWaysWrong)

/-- 'laws.FnValidLoads': WHATEVER THE INPUT: true; the input reads as it did. -/
def fnValidLoadsSpec : ChangeSpec := { name := "fnValidLoads", fn := fun _ => fun
  | [d] => { results := [.lit (.bool true)], args := [d] }
  | _ => none }
def fnValidLoadsRow : OpenClaim := { program := "ytcfeeobjllnofaa", sum := "abf7221868b64ab05db84f75911f8a4be91858cf2a337dbd79bfea319b64086c", func := "loop.example/countedchances/laws.FnValidLoads", spec := "fnValidLoads", unfollowed := true, recurses := true, apart := false }
def FnValidLoadsSaid : Prop := fnValidLoadsRow.holds Try.pinned (OpenSpec.ofChange fnValidLoadsSpec)

/-- ITS FALSE NEIGHBOUR: 'it returns false'. Refute it at one input. -/
def fnValidLoadsWrong : ChangeSpec := { name := "fnValidLoads", fn := fun _ => fun
  | [d] => { results := [.lit (.bool false)], args := [d] }
  | _ => none }
def FnValidLoadsWrongFalsely : Prop := fnValidLoadsRow.holds Try.pinned (OpenSpec.ofChange fnValidLoadsWrong)

/-- 'laws.FnValidGaps': WHATEVER THE INPUT: true; the input reads as it did. -/
def fnValidGapsSpec : ChangeSpec := { name := "fnValidGaps", fn := fun _ => fun
  | [d] => { results := [.lit (.bool true)], args := [d] }
  | _ => none }
def fnValidGapsRow : OpenClaim := { program := "ytcfeeobjllnofaa", sum := "abf7221868b64ab05db84f75911f8a4be91858cf2a337dbd79bfea319b64086c", func := "loop.example/countedchances/laws.FnValidGaps", spec := "fnValidGaps", apart := false }
def FnValidGapsSaid : Prop := fnValidGapsRow.holds Try.pinned (OpenSpec.ofChange fnValidGapsSpec)

/-- ITS FALSE NEIGHBOUR: 'it returns false'. Refute it at one input. -/
def fnValidGapsWrong : ChangeSpec := { name := "fnValidGaps", fn := fun _ => fun
  | [d] => { results := [.lit (.bool false)], args := [d] }
  | _ => none }
def FnValidGapsWrongFalsely : Prop := fnValidGapsRow.holds Try.pinned (OpenSpec.ofChange fnValidGapsWrong)

/- THE SECOND FORM. 'bulk': how many values and letters a reading holds, each counted each time it is reached (what is shared counts as often as it is met; a slice's spare places count too). A statement '..UptoSaid' is the law's where the arguments, and the package variables that the reading takes, are together of bulk at most 1048576: NARROWER than '..Said'. Prove '..Said' where nothing that the law and all that it calls make is longer than what came in: it says more and counts as full. Else prove '..UptoSaid'. A law counts once. -/
mutual
def uptoBulk {H : Type} : DataW H → Nat
  | .lit (.string bytes) => bytes.length + 1
  | .lit _ => 1
  | .nil => 1
  | .ptr d => uptoBulk d + 1
  | .slice elems spare => uptoBulkAll elems + uptoBulkAll spare + 1
  | .agg parts => uptoBulkAll parts + 1
  | .iface _ d => uptoBulk d + 1
  | .map entries => uptoBulkEntries entries + 1
  | .held _ => 1
def uptoBulkAll {H : Type} : List (DataW H) → Nat
  | [] => 0
  | d :: r => uptoBulk d + uptoBulkAll r
def uptoBulkEntries {H : Type} : List (Lit × DataW H) → Nat
  | [] => 0
  | x :: r => uptoBulkEntry x + uptoBulkEntries r
def uptoBulkEntry {H : Type} : Lit × DataW H → Nat
  | (.string bytes, d) => bytes.length + uptoBulk d + 1
  | (_, d) => uptoBulk d + 1
 end
def uptoSmall : (H : Type) → List (DataW H) → Bool := fun _ ds => decide (uptoBulkAll ds ≤ 1048576)
def OpenSpec.upto (s : _root_.Go.ChangeSpec) : _root_.Go.OpenSpec := { _root_.Go.OpenSpec.ofChange s with cond := some uptoSmall }

/-- 'laws.FnExactFourWays', WHERE WHAT IT READS IS OF BULK AT MOST 1048576: true; the input reads as it did. -/
def fnExactFourWaysUptoRow : OpenClaim := { program := "ytcfeeobjllnofaa", sum := "abf7221868b64ab05db84f75911f8a4be91858cf2a337dbd79bfea319b64086c", func := "loop.example/countedchances/laws.FnExactFourWays", spec := "fnExactFourWays", unfollowed := true, recurses := true, apart := false, narrowed := true }
def FnExactFourWaysUptoSaid : Prop := fnExactFourWaysUptoRow.holds Try.pinned (OpenSpec.upto fnExactFourWaysSpec)

/-- 'laws.FnExactMiddlePlaces', WHERE WHAT IT READS IS OF BULK AT MOST 1048576: true; the input reads as it did. -/
def fnExactMiddlePlacesUptoRow : OpenClaim := { program := "ytcfeeobjllnofaa", sum := "abf7221868b64ab05db84f75911f8a4be91858cf2a337dbd79bfea319b64086c", func := "loop.example/countedchances/laws.FnExactMiddlePlaces", spec := "fnExactMiddlePlaces", unfollowed := true, recurses := true, apart := false, narrowed := true }
def FnExactMiddlePlacesUptoSaid : Prop := fnExactMiddlePlacesUptoRow.holds Try.pinned (OpenSpec.upto fnExactMiddlePlacesSpec)

/-- 'laws.FnExactValidGaps', WHERE WHAT IT READS IS OF BULK AT MOST 1048576: true; the input reads as it did. -/
def fnExactValidGapsUptoRow : OpenClaim := { program := "ytcfeeobjllnofaa", sum := "abf7221868b64ab05db84f75911f8a4be91858cf2a337dbd79bfea319b64086c", func := "loop.example/countedchances/laws.FnExactValidGaps", spec := "fnExactValidGaps", apart := false, narrowed := true }
def FnExactValidGapsUptoSaid : Prop := fnExactValidGapsUptoRow.holds Try.pinned (OpenSpec.upto fnExactValidGapsSpec)

/-- 'laws.FnExactRiseSum', WHERE WHAT IT READS IS OF BULK AT MOST 1048576: true; the input reads as it did. -/
def fnExactRiseSumUptoRow : OpenClaim := { program := "ytcfeeobjllnofaa", sum := "abf7221868b64ab05db84f75911f8a4be91858cf2a337dbd79bfea319b64086c", func := "loop.example/countedchances/laws.FnExactRiseSum", spec := "fnExactRiseSum", unfollowed := true, recurses := true, apart := false, narrowed := true }
def FnExactRiseSumUptoSaid : Prop := fnExactRiseSumUptoRow.holds Try.pinned (OpenSpec.upto fnExactRiseSumSpec)

/-- 'laws.FnExactFoursLike', WHERE WHAT IT READS IS OF BULK AT MOST 1048576: true; the input reads as it did. -/
def fnExactFoursLikeUptoRow : OpenClaim := { program := "ytcfeeobjllnofaa", sum := "abf7221868b64ab05db84f75911f8a4be91858cf2a337dbd79bfea319b64086c", func := "loop.example/countedchances/laws.FnExactFoursLike", spec := "fnExactFoursLike", unfollowed := true, recurses := true, apart := false, narrowed := true }
def FnExactFoursLikeUptoSaid : Prop := fnExactFoursLikeUptoRow.holds Try.pinned (OpenSpec.upto fnExactFoursLikeSpec)

/-- 'laws.FnExactFourBoth', WHERE WHAT IT READS IS OF BULK AT MOST 1048576: true; the input reads as it did. -/
def fnExactFourBothUptoRow : OpenClaim := { program := "ytcfeeobjllnofaa", sum := "abf7221868b64ab05db84f75911f8a4be91858cf2a337dbd79bfea319b64086c", func := "loop.example/countedchances/laws.FnExactFourBoth", spec := "fnExactFourBoth", unfollowed := true, recurses := true, apart := false, narrowed := true }
def FnExactFourBothUptoSaid : Prop := fnExactFourBothUptoRow.holds Try.pinned (OpenSpec.upto fnExactFourBothSpec)

/-- 'laws.FnExactFourChance', WHERE WHAT IT READS IS OF BULK AT MOST 1048576: true; the input reads as it did. -/
def fnExactFourChanceUptoRow : OpenClaim := { program := "ytcfeeobjllnofaa", sum := "abf7221868b64ab05db84f75911f8a4be91858cf2a337dbd79bfea319b64086c", func := "loop.example/countedchances/laws.FnExactFourChance", spec := "fnExactFourChance", unfollowed := true, recurses := true, apart := false, narrowed := true }
def FnExactFourChanceUptoSaid : Prop := fnExactFourChanceUptoRow.holds Try.pinned (OpenSpec.upto fnExactFourChanceSpec)

/-- 'laws.FnFourWays', WHERE WHAT IT READS IS OF BULK AT MOST 1048576: true; the input reads as it did. -/
def fnFourWaysUptoRow : OpenClaim := { program := "ytcfeeobjllnofaa", sum := "abf7221868b64ab05db84f75911f8a4be91858cf2a337dbd79bfea319b64086c", func := "loop.example/countedchances/laws.FnFourWays", spec := "fnFourWays", unfollowed := true, recurses := true, apart := false, narrowed := true }
def FnFourWaysUptoSaid : Prop := fnFourWaysUptoRow.holds Try.pinned (OpenSpec.upto fnFourWaysSpec)

/-- 'laws.FnValidLoads', WHERE WHAT IT READS IS OF BULK AT MOST 1048576: true; the input reads as it did. -/
def fnValidLoadsUptoRow : OpenClaim := { program := "ytcfeeobjllnofaa", sum := "abf7221868b64ab05db84f75911f8a4be91858cf2a337dbd79bfea319b64086c", func := "loop.example/countedchances/laws.FnValidLoads", spec := "fnValidLoads", unfollowed := true, recurses := true, apart := false, narrowed := true }
def FnValidLoadsUptoSaid : Prop := fnValidLoadsUptoRow.holds Try.pinned (OpenSpec.upto fnValidLoadsSpec)

/-- 'laws.FnValidGaps', WHERE WHAT IT READS IS OF BULK AT MOST 1048576: true; the input reads as it did. -/
def fnValidGapsUptoRow : OpenClaim := { program := "ytcfeeobjllnofaa", sum := "abf7221868b64ab05db84f75911f8a4be91858cf2a337dbd79bfea319b64086c", func := "loop.example/countedchances/laws.FnValidGaps", spec := "fnValidGaps", apart := false, narrowed := true }
def FnValidGapsUptoSaid : Prop := fnValidGapsUptoRow.holds Try.pinned (OpenSpec.upto fnValidGapsSpec)

end Rows
end Go.Proofs.Ytcfeeobjllnofaa
