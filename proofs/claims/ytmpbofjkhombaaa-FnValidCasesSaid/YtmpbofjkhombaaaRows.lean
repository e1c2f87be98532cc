/-
  No cell of these rows narrows 'for every input' (looked for: loops, veiled, ifaces, maps, wideKeys, modest, calm, conditions, laid).
  DERIVED. THE GIVEN ROWS OF THIS SEAT. 6 by the template 'for every input the law returns true; each argument reads behind the call as it read before'; 0 by the template 'total and deterministic' (their statements: YtmpbofjkhombaaaTotals.lean).
  GIVEN WITH THE SEED: the statements are not yours to turn. If you find one false, say at which input.
  Laid BY PROGRAM, IN A SANDBOX (cutbox-rows.mjs): the forced cells as the released guide's own fill.sh prints them over the translation c232a844bef513ef… (all of the seat's roots in one cut). By AI agents, Wed Nov 11 2026. No macro, syntax, notation, axiom, sorry.
-/
import Derived.Test.YtmpbofjkhombaaaChecked
import GoSem.Claim
import GoSem.ClaimJoined
import GoSem.ClaimMapViews
import Derived.JoinedTies
import Derived.KernelRfl
namespace Go.Proofs.Ytmpbofjkhombaaa
/- THE CELL 'sum', in the pinned program and in every row, IS THE sha256 OF THE DUMP (.gsa) THAT YtmpbofjkhombaaaProg.lean LOADS. Nothing in Lean hashes anything: it is a label: what it is worth is what the hold of that sum in a sandbox is worth. -/
noncomputable def Try.pinned : Pinned := { name := "ytmpbofjkhombaaa", sum := "c232a844bef513ef0e9be6e0cede5c95d6fca5abe66624490444b2cad9de927d", checked := Try.checked }
namespace Rows
def none {H : Type} : Left H := { results := [], args := [] }

/-- 'laws.FnFoundAt': WHATEVER THE INPUT: true; the input reads as it did. -/
def fnFoundAtSpec : ChangeSpec := { name := "fnFoundAt", fn := fun _ => fun
  | [d] => { results := [.lit (.bool true)], args := [d] }
  | _ => none }
def fnFoundAtRow : OpenClaim := { program := "ytmpbofjkhombaaa", sum := "c232a844bef513ef0e9be6e0cede5c95d6fca5abe66624490444b2cad9de927d", func := "loop.example/countedchances/laws.FnFoundAt", spec := "fnFoundAt", unfollowed := true, recurses := true, apart := false }
def FnFoundAtSaid : Prop := fnFoundAtRow.holds Try.pinned (OpenSpec.ofChange fnFoundAtSpec)

/-- ITS FALSE NEIGHBOUR: 'it returns false'. Refute it at one input. -/
def fnFoundAtWrong : ChangeSpec := { name := "fnFoundAt", fn := fun _ => fun
  | [d] => { results := [.lit (.bool false)], args := [d] }
  | _ => none }
def FnFoundAtWrongFalsely : Prop := fnFoundAtRow.holds Try.pinned (OpenSpec.ofChange fnFoundAtWrong)

/-- 'laws.FnValidOdds': WHATEVER THE INPUT: true; the input reads as it did. -/
def fnValidOddsSpec : ChangeSpec := { name := "fnValidOdds", fn := fun _ => fun
  | [d] => { results := [.lit (.bool true)], args := [d] }
  | _ => none }
def fnValidOddsRow : OpenClaim := { program := "ytmpbofjkhombaaa", sum := "c232a844bef513ef0e9be6e0cede5c95d6fca5abe66624490444b2cad9de927d", func := "loop.example/countedchances/laws.FnValidOdds", spec := "fnValidOdds", unfollowed := true, recurses := true, apart := false }
def FnValidOddsSaid : Prop := fnValidOddsRow.holds Try.pinned (OpenSpec.ofChange fnValidOddsSpec)

/-- ITS FALSE NEIGHBOUR: 'it returns false'. Refute it at one input. -/
def fnValidOddsWrong : ChangeSpec := { name := "fnValidOdds", fn := fun _ => fun
  | [d] => { results := [.lit (.bool false)], args := [d] }
  | _ => none }
def FnValidOddsWrongFalsely : Prop := fnValidOddsRow.holds Try.pinned (OpenSpec.ofChange fnValidOddsWrong)

/-- 'laws.FnValidData': WHATEVER THE INPUT: true; the input reads as it did. -/
def fnValidDataSpec : ChangeSpec := { name := "fnValidData", fn := fun _ => fun
  | [d] => { results := [.lit (.bool true)], args := [d] }
  | _ => none }
def fnValidDataRow : OpenClaim := { program := "ytmpbofjkhombaaa", sum := "c232a844bef513ef0e9be6e0cede5c95d6fca5abe66624490444b2cad9de927d", func := "loop.example/countedchances/laws.FnValidData", spec := "fnValidData", unfollowed := true, recurses := true, apart := false }
def FnValidDataSaid : Prop := fnValidDataRow.holds Try.pinned (OpenSpec.ofChange fnValidDataSpec)

/-- ITS FALSE NEIGHBOUR: 'it returns false'. Refute it at one input. -/
def fnValidDataWrong : ChangeSpec := { name := "fnValidData", fn := fun _ => fun
  | [d] => { results := [.lit (.bool false)], args := [d] }
  | _ => none }
def FnValidDataWrongFalsely : Prop := fnValidDataRow.holds Try.pinned (OpenSpec.ofChange fnValidDataWrong)

/-- 'laws.FnValidLoads': WHATEVER THE INPUT: true; the input reads as it did. -/
def fnValidLoadsSpec : ChangeSpec := { name := "fnValidLoads", fn := fun _ => fun
  | [d] => { results := [.lit (.bool true)], args := [d] }
  | _ => none }
def fnValidLoadsRow : OpenClaim := { program := "ytmpbofjkhombaaa", sum := "c232a844bef513ef0e9be6e0cede5c95d6fca5abe66624490444b2cad9de927d", func := "loop.example/countedchances/laws.FnValidLoads", spec := "fnValidLoads", unfollowed := true, recurses := true, apart := false }
def FnValidLoadsSaid : Prop := fnValidLoadsRow.holds Try.pinned (OpenSpec.ofChange fnValidLoadsSpec)

/-- ITS FALSE NEIGHBOUR: 'it returns false'. Refute it at one input. -/
def fnValidLoadsWrong : ChangeSpec := { name := "fnValidLoads", fn := fun _ => fun
  | [d] => { results := [.lit (.bool false)], args := [d] }
  | _ => none }
def FnValidLoadsWrongFalsely : Prop := fnValidLoadsRow.holds Try.pinned (OpenSpec.ofChange fnValidLoadsWrong)

/-- 'laws.FnValidCases': WHATEVER THE INPUT: true; the input reads as it did. -/
def fnValidCasesSpec : ChangeSpec := { name := "fnValidCases", fn := fun _ => fun
  | [d] => { results := [.lit (.bool true)], args := [d] }
  | _ => none }
def fnValidCasesRow : OpenClaim := { program := "ytmpbofjkhombaaa", sum := "c232a844bef513ef0e9be6e0cede5c95d6fca5abe66624490444b2cad9de927d", func := "loop.example/countedchances/laws.FnValidCases", spec := "fnValidCases", unfollowed := true, recurses := true, apart := false }
def FnValidCasesSaid : Prop := fnValidCasesRow.holds Try.pinned (OpenSpec.ofChange fnValidCasesSpec)

/-- ITS FALSE NEIGHBOUR: 'it returns false'. Refute it at one input. -/
def fnValidCasesWrong : ChangeSpec := { name := "fnValidCases", fn := fun _ => fun
  | [d] => { results := [.lit (.bool false)], args := [d] }
  | _ => none }
def FnValidCasesWrongFalsely : Prop := fnValidCasesRow.holds Try.pinned (OpenSpec.ofChange fnValidCasesWrong)

/-- 'laws.FnValidGaps': WHATEVER THE INPUT: true; the input reads as it did. -/
def fnValidGapsSpec : ChangeSpec := { name := "fnValidGaps", fn := fun _ => fun
  | [d] => { results := [.lit (.bool true)], args := [d] }
  | _ => none }
def fnValidGapsRow : OpenClaim := { program := "ytmpbofjkhombaaa", sum := "c232a844bef513ef0e9be6e0cede5c95d6fca5abe66624490444b2cad9de927d", func := "loop.example/countedchances/laws.FnValidGaps", spec := "fnValidGaps", apart := false }
def FnValidGapsSaid : Prop := fnValidGapsRow.holds Try.pinned (OpenSpec.ofChange fnValidGapsSpec)

/-- ITS FALSE NEIGHBOUR: 'it returns false'. Refute it at one input. -/
def fnValidGapsWrong : ChangeSpec := { name := "fnValidGaps", fn := fun _ => fun
  | [d] => { results := [.lit (.bool false)], args := [d] }
  | _ => none }
def FnValidGapsWrongFalsely : Prop := fnValidGapsRow.holds Try.pinned (OpenSpec.ofChange fnValidGapsWrong)

/- THE SECOND FORM. 'bulk': how many values and letters a reading holds, each counted each time it is reached (what is shared counts as often as it is met; a slice's spare places count too). A statement '..UptoSaid' is the law's where the arguments, and the package variables that the reading takes, are together of bulk at most 1048576: NARROWER than '..Said'. Prove '..Said' where nothing that the law and all that it calls make is longer than what came in: it says more and counts as full. Else prove '..UptoSaid'. A law counts once. -/
mutual
def uptoBulk {H : Type} : DataW H → Nat
  | .lit (.string bytes) => bytes.length + 1
  | .lit _ => 1
  | .nil => 1
  | .ptr d => uptoBulk d + 1
  | .slice elems spare => uptoBulkAll elems + uptoBulkAll spare + 1
  | .agg parts => uptoBulkAll parts + 1
  | .iface _ d => uptoBulk d + 1
  | .map entries => uptoBulkEntries entries + 1
  | .held _ => 1
def uptoBulkAll {H : Type} : List (DataW H) → Nat
  | [] => 0
  | d :: r => uptoBulk d + uptoBulkAll r
def uptoBulkEntries {H : Type} : List (Lit × DataW H) → Nat
  | [] => 0
  | x :: r => uptoBulkEntry x + uptoBulkEntries r
def uptoBulkEntry {H : Type} : Lit × DataW H → Nat
  | (.string bytes, d) => bytes.length + uptoBulk d + 1
  | (_, d) => uptoBulk d + 1
 end
def uptoSmall : (H : Type) → List (DataW H) → Bool := fun _ ds => decide (uptoBulkAll ds ≤ 1048576)
def OpenSpec.upto (s : _root_.Go.ChangeSpec) : _root_.Go.OpenSpec := { _root_.Go.OpenSpec.ofChange s with cond := some uptoSmall }

/-- 'laws.FnFoundAt', WHERE WHAT IT READS IS OF BULK AT MOST 1048576: true; the input reads as it did. -/
def fnFoundAtUptoRow : OpenClaim := { program := "ytmpbofjkhombaaa", sum := "c232a844bef513ef0e9be6e0cede5c95d6fca5abe66624490444b2cad9de927d", func := "loop.example/countedchances/laws.FnFoundAt", spec := "fnFoundAt", unfollowed := true, recurses := true, apart := false, narrowed := true }
def FnFoundAtUptoSaid : Prop := fnFoundAtUptoRow.holds Try.pinned (OpenSpec.upto fnFoundAtSpec)

/-- 'laws.FnValidOdds', WHERE WHAT IT READS IS OF BULK AT MOST 1048576: true; the input reads as it did. -/
def fnValidOddsUptoRow : OpenClaim := { program := "ytmpbofjkhombaaa", sum := "c232a844bef513ef0e9be6e0cede5c95d6fca5abe66624490444b2cad9de927d", func := "loop.example/countedchances/laws.FnValidOdds", spec := "fnValidOdds", unfollowed := true, recurses := true, apart := false, narrowed := true }
def FnValidOddsUptoSaid : Prop := fnValidOddsUptoRow.holds Try.pinned (OpenSpec.upto fnValidOddsSpec)

/-- 'laws.FnValidData', WHERE WHAT IT READS IS OF BULK AT MOST 1048576: true; the input reads as it did. -/
def fnValidDataUptoRow : OpenClaim := { program := "ytmpbofjkhombaaa", sum := "c232a844bef513ef0e9be6e0cede5c95d6fca5abe66624490444b2cad9de927d", func := "loop.example/countedchances/laws.FnValidData", spec := "fnValidData", unfollowed := true, recurses := true, apart := false, narrowed := true }
def FnValidDataUptoSaid : Prop := fnValidDataUptoRow.holds Try.pinned (OpenSpec.upto fnValidDataSpec)

/-- 'laws.FnValidLoads', WHERE WHAT IT READS IS OF BULK AT MOST 1048576: true; the input reads as it did. -/
def fnValidLoadsUptoRow : OpenClaim := { program := "ytmpbofjkhombaaa", sum := "c232a844bef513ef0e9be6e0cede5c95d6fca5abe66624490444b2cad9de927d", func := "loop.example/countedchances/laws.FnValidLoads", spec := "fnValidLoads", unfollowed := true, recurses := true, apart := false, narrowed := true }
def FnValidLoadsUptoSaid : Prop := fnValidLoadsUptoRow.holds Try.pinned (OpenSpec.upto fnValidLoadsSpec)

/-- 'laws.FnValidCases', WHERE WHAT IT READS IS OF BULK AT MOST 1048576: true; the input reads as it did. -/
def fnValidCasesUptoRow : OpenClaim := { program := "ytmpbofjkhombaaa", sum := "c232a844bef513ef0e9be6e0cede5c95d6fca5abe66624490444b2cad9de927d", func := "loop.example/countedchances/laws.FnValidCases", spec := "fnValidCases", unfollowed := true, recurses := true, apart := false, narrowed := true }
def FnValidCasesUptoSaid : Prop := fnValidCasesUptoRow.holds Try.pinned (OpenSpec.upto fnValidCasesSpec)

/-- 'laws.FnValidGaps', WHERE WHAT IT READS IS OF BULK AT MOST 1048576: true; the input reads as it did. -/
def fnValidGapsUptoRow : OpenClaim := { program := "ytmpbofjkhombaaa", sum := "c232a844bef513ef0e9be6e0cede5c95d6fca5abe66624490444b2cad9de927d", func := "loop.example/countedchances/laws.FnValidGaps", spec := "fnValidGaps", apart := false, narrowed := true }
def FnValidGapsUptoSaid : Prop := fnValidGapsUptoRow.holds Try.pinned (OpenSpec.upto fnValidGapsSpec)

end Rows
end Go.Proofs.Ytmpbofjkhombaaa
