/-
  No cell of these rows narrows 'for every input' (looked for: loops, veiled, ifaces, maps, wideKeys, modest, calm, conditions, laid).
  DERIVED. THE GIVEN ROWS OF THIS SEAT. 10 by the template 'for every input the law returns true; each argument reads behind the call as it read before'; 0 by the template 'total and deterministic' (their statements: YtohdbbdolmgaaaaTotals.lean).
  GIVEN WITH THE SEED: the statements are not yours to turn. If you find one false, say at which input.
  Laid BY PROGRAM, IN A SANDBOX (cutbox-rows.mjs): the forced cells as the released guide's own fill.sh prints them over the translation 44c8e2e148b66b9c… (all of the seat's roots in one cut). By AI agents, Wed Nov 11 2026. No macro, syntax, notation, axiom, sorry.
-/
import Derived.Test.YtohdbbdolmgaaaaChecked
import GoSem.Claim
import GoSem.ClaimJoined
import GoSem.ClaimMapViews
import Derived.JoinedTies
import Derived.KernelRfl
namespace Go.Proofs.Ytohdbbdolmgaaaa
/- THE CELL 'sum', in the pinned program and in every row, IS THE sha256 OF THE DUMP (.gsa) THAT YtohdbbdolmgaaaaProg.lean LOADS. Nothing in Lean hashes anything: it is a label: what it is worth is what the hold of that sum in a sandbox is worth. -/
noncomputable def Try.pinned : Pinned := { name := "ytohdbbdolmgaaaa", sum := "44c8e2e148b66b9c287ef22d601ad04ad69e83525d7b2adc6d4dbab006ab0127", checked := Try.checked }
namespace Rows
def none {H : Type} : Left H := { results := [], args := [] }

/-- 'laws.FnWinCounts': WHATEVER THE INPUT: true; the input reads as it did. -/
def fnWinCountsSpec : ChangeSpec := { name := "fnWinCounts", fn := fun _ => fun
  | [d] => { results := [.lit (.bool true)], args := [d] }
  | _ => none }
def fnWinCountsRow : OpenClaim := { program := "ytohdbbdolmgaaaa", sum := "44c8e2e148b66b9c287ef22d601ad04ad69e83525d7b2adc6d4dbab006ab0127", func := "loop.example/countedchances/laws.FnWinCounts", spec := "fnWinCounts", unfollowed := true, recurses := true, apart := false }
def FnWinCountsSaid : Prop := fnWinCountsRow.holds Try.pinned (OpenSpec.ofChange fnWinCountsSpec)

/-- ITS FALSE NEIGHBOUR: 'it returns false'. Refute it at one input. -/
def fnWinCountsWrong : ChangeSpec := { name := "fnWinCounts", fn := fun _ => fun
  | [d] => { results := [.lit (.bool false)], args := [d] }
  | _ => none }
def FnWinCountsWrongFalsely : Prop := fnWinCountsRow.holds Try.pinned (OpenSpec.ofChange fnWinCountsWrong)

/-- 'laws.FnFracOf': WHATEVER THE INPUT: true; the input reads as it did. -/
def fnFracOfSpec : ChangeSpec := { name := "fnFracOf", fn := fun _ => fun
  | [d] => { results := [.lit (.bool true)], args := [d] }
  | _ => none }
def fnFracOfRow : OpenClaim := { program := "ytohdbbdolmgaaaa", sum := "44c8e2e148b66b9c287ef22d601ad04ad69e83525d7b2adc6d4dbab006ab0127", func := "loop.example/countedchances/laws.FnFracOf", spec := "fnFracOf", apart := false }
def FnFracOfSaid : Prop := fnFracOfRow.holds Try.pinned (OpenSpec.ofChange fnFracOfSpec)

/-- ITS FALSE NEIGHBOUR: 'it returns false'. Refute it at one input. -/
def fnFracOfWrong : ChangeSpec := { name := "fnFracOf", fn := fun _ => fun
  | [d] => { results := [.lit (.bool false)], args := [d] }
  | _ => none }
def FnFracOfWrongFalsely : Prop := fnFracOfRow.holds Try.pinned (OpenSpec.ofChange fnFracOfWrong)

/-- 'laws.FnPathsWithin': WHATEVER THE INPUT: true; the input reads as it did. -/
def fnPathsWithinSpec : ChangeSpec := { name := "fnPathsWithin", fn := fun _ => fun
  | [d] => { results := [.lit (.bool true)], args := [d] }
  | _ => none }
def fnPathsWithinRow : OpenClaim := { program := "ytohdbbdolmgaaaa", sum := "44c8e2e148b66b9c287ef22d601ad04ad69e83525d7b2adc6d4dbab006ab0127", func := "loop.example/countedchances/laws.FnPathsWithin", spec := "fnPathsWithin", recurses := true, apart := false }
def FnPathsWithinSaid : Prop := fnPathsWithinRow.holds Try.pinned (OpenSpec.ofChange fnPathsWithinSpec)

/-- ITS FALSE NEIGHBOUR: 'it returns false'. Refute it at one input. -/
def fnPathsWithinWrong : ChangeSpec := { name := "fnPathsWithin", fn := fun _ => fun
  | [d] => { results := [.lit (.bool false)], args := [d] }
  | _ => none }
def FnPathsWithinWrongFalsely : Prop := fnPathsWithinRow.holds Try.pinned (OpenSpec.ofChange fnPathsWithinWrong)

/-- 'laws.FnChangeChance': WHATEVER THE INPUT: true; the input reads as it did. -/
def fnChangeChanceSpec : ChangeSpec := { name := "fnChangeChance", fn := fun _ => fun
  | [d] => { results := [.lit (.bool true)], args := [d] }
  | _ => none }
def fnChangeChanceRow : OpenClaim := { program := "ytohdbbdolmgaaaa", sum := "44c8e2e148b66b9c287ef22d601ad04ad69e83525d7b2adc6d4dbab006ab0127", func := "loop.example/countedchances/laws.FnChangeChance", spec := "fnChangeChance", apart := false }
def FnChangeChanceSaid : Prop := fnChangeChanceRow.holds Try.pinned (OpenSpec.ofChange fnChangeChanceSpec)

/-- ITS FALSE NEIGHBOUR: 'it returns false'. Refute it at one input. -/
def fnChangeChanceWrong : ChangeSpec := { name := "fnChangeChance", fn := fun _ => fun
  | [d] => { results := [.lit (.bool false)], args := [d] }
  | _ => none }
def FnChangeChanceWrongFalsely : Prop := fnChangeChanceRow.holds Try.pinned (OpenSpec.ofChange fnChangeChanceWrong)

/-- 'laws.FnFourWays': WHATEVER THE INPUT: true; the input reads as it did. -/
def fnFourWaysSpec : ChangeSpec := { name := "fnFourWays", fn := fun _ => fun
  | [d] => { results := [.lit (.bool true)], args := [d] }
  | _ => none }
def fnFourWaysRow : OpenClaim := { program := "ytohdbbdolmgaaaa", sum := "44c8e2e148b66b9c287ef22d601ad04ad69e83525d7b2adc6d4dbab006ab0127", func := "loop.example/countedchances/laws.FnFourWays", spec := "fnFourWays", unfollowed := true, recurses := true, apart := false }
def FnFourWaysSaid : Prop := fnFourWaysRow.holds Try.pinned (OpenSpec.ofChange fnFourWaysSpec)

/-- ITS FALSE NEIGHBOUR: 'it returns false'. Refute it at one input. -/
def fnFourWaysWrong : ChangeSpec := { name := "fnFourWays", fn := fun _ => fun
  | [d] => { results := [.lit (.bool false)], args := [d] }
  | _ => none }
def FnFourWaysWrongFalsely : Prop := fnFourWaysRow.holds Try.pinned (OpenSpec.ofChange fnFourWaysWrong)

/-- 'laws.FnRunCount': WHATEVER THE INPUT: true; the input reads as it did. -/
def fnRunCountSpec : ChangeSpec := { name := "fnRunCount", fn := fun _ => fun
  | [d] => { results := [.lit (.bool true)], args := [d] }
  | _ => none }
def fnRunCountRow : OpenClaim := { program := "ytohdbbdolmgaaaa", sum := "44c8e2e148b66b9c287ef22d601ad04ad69e83525d7b2adc6d4dbab006ab0127", func := "loop.example/countedchances/laws.FnRunCount", spec := "fnRunCount", unfollowed := true, recurses := true, apart := false }
def FnRunCountSaid : Prop := fnRunCountRow.holds Try.pinned (OpenSpec.ofChange fnRunCountSpec)

/-- ITS FALSE NEIGHBOUR: 'it returns false'. Refute it at one input. -/
def fnRunCountWrong : ChangeSpec := { name := "fnRunCount", fn := fun _ => fun
  | [d] => { results := [.lit (.bool false)], args := [d] }
  | _ => none }
def FnRunCountWrongFalsely : Prop := fnRunCountRow.holds Try.pinned (OpenSpec.ofChange fnRunCountWrong)

/-- 'laws.FnRankSums': WHATEVER THE INPUT: true; the input reads as it did. -/
def fnRankSumsSpec : ChangeSpec := { name := "fnRankSums", fn := fun _ => fun
  | [d] => { results := [.lit (.bool true)], args := [d] }
  | _ => none }
def fnRankSumsRow : OpenClaim := { program := "ytohdbbdolmgaaaa", sum := "44c8e2e148b66b9c287ef22d601ad04ad69e83525d7b2adc6d4dbab006ab0127", func := "loop.example/countedchances/laws.FnRankSums", spec := "fnRankSums", apart := false }
def FnRankSumsSaid : Prop := fnRankSumsRow.holds Try.pinned (OpenSpec.ofChange fnRankSumsSpec)

/-- ITS FALSE NEIGHBOUR: 'it returns false'. Refute it at one input. -/
def fnRankSumsWrong : ChangeSpec := { name := "fnRankSums", fn := fun _ => fun
  | [d] => { results := [.lit (.bool false)], args := [d] }
  | _ => none }
def FnRankSumsWrongFalsely : Prop := fnRankSumsRow.holds Try.pinned (OpenSpec.ofChange fnRankSumsWrong)

/-- 'laws.FnFallCounts': WHATEVER THE INPUT: true; the input reads as it did. -/
def fnFallCountsSpec : ChangeSpec := { name := "fnFallCounts", fn := fun _ => fun
  | [d] => { results := [.lit (.bool true)], args := [d] }
  | _ => none }
def fnFallCountsRow : OpenClaim := { program := "ytohdbbdolmgaaaa", sum := "44c8e2e148b66b9c287ef22d601ad04ad69e83525d7b2adc6d4dbab006ab0127", func := "loop.example/countedchances/laws.FnFallCounts", spec := "fnFallCounts", apart := false }
def FnFallCountsSaid : Prop := fnFallCountsRow.holds Try.pinned (OpenSpec.ofChange fnFallCountsSpec)

/-- ITS FALSE NEIGHBOUR: 'it returns false'. Refute it at one input. -/
def fnFallCountsWrong : ChangeSpec := { name := "fnFallCounts", fn := fun _ => fun
  | [d] => { results := [.lit (.bool false)], args := [d] }
  | _ => none }
def FnFallCountsWrongFalsely : Prop := fnFallCountsRow.holds Try.pinned (OpenSpec.ofChange fnFallCountsWrong)

/-- 'laws.FnAgreeChance': WHATEVER THE INPUT: true; the input reads as it did. -/
def fnAgreeChanceSpec : ChangeSpec := { name := "fnAgreeChance", fn := fun _ => fun
  | [d] => { results := [.lit (.bool true)], args := [d] }
  | _ => none }
def fnAgreeChanceRow : OpenClaim := { program := "ytohdbbdolmgaaaa", sum := "44c8e2e148b66b9c287ef22d601ad04ad69e83525d7b2adc6d4dbab006ab0127", func := "loop.example/countedchances/laws.FnAgreeChance", spec := "fnAgreeChance", recurses := true, apart := false }
def FnAgreeChanceSaid : Prop := fnAgreeChanceRow.holds Try.pinned (OpenSpec.ofChange fnAgreeChanceSpec)

/-- ITS FALSE NEIGHBOUR: 'it returns false'. Refute it at one input. -/
def fnAgreeChanceWrong : ChangeSpec := { name := "fnAgreeChance", fn := fun _ => fun
  | [d] => { results := [.lit (.bool false)], args := [d] }
  | _ => none }
def FnAgreeChanceWrongFalsely : Prop := fnAgreeChanceRow.holds Try.pinned (OpenSpec.ofChange fnAgreeChanceWrong)

/-- 'laws.FnTailChance': WHATEVER THE INPUT: true; the input reads as it did. -/
def fnTailChanceSpec : ChangeSpec := { name := "fnTailChance", fn := fun _ => fun
  | [d] => { results := [.lit (.bool true)], args := [d] }
  | _ => none }
def fnTailChanceRow : OpenClaim := { program := "ytohdbbdolmgaaaa", sum := "44c8e2e148b66b9c287ef22d601ad04ad69e83525d7b2adc6d4dbab006ab0127", func := "loop.example/countedchances/laws.FnTailChance", spec := "fnTailChance", unfollowed := true, recurses := true, apart := false }
def FnTailChanceSaid : Prop := fnTailChanceRow.holds Try.pinned (OpenSpec.ofChange fnTailChanceSpec)

/-- ITS FALSE NEIGHBOUR: 'it returns false'. Refute it at one input. -/
def fnTailChanceWrong : ChangeSpec := { name := "fnTailChance", fn := fun _ => fun
  | [d] => { results := [.lit (.bool false)], args := [d] }
  | _ => none }
def FnTailChanceWrongFalsely : Prop := fnTailChanceRow.holds Try.pinned (OpenSpec.ofChange fnTailChanceWrong)

/- THE SECOND FORM. 'bulk': how many values and letters a reading holds, each counted each time it is reached (what is shared counts as often as it is met; a slice's spare places count too). A statement '..UptoSaid' is the law's where the arguments, and the package variables that the reading takes, are together of bulk at most 1048576: NARROWER than '..Said'. Prove '..Said' where nothing that the law and all that it calls make is longer than what came in: it says more and counts as full. Else prove '..UptoSaid'. A law counts once. -/
mutual
def uptoBulk {H : Type} : DataW H → Nat
  | .lit (.string bytes) => bytes.length + 1
  | .lit _ => 1
  | .nil => 1
  | .ptr d => uptoBulk d + 1
  | .slice elems spare => uptoBulkAll elems + uptoBulkAll spare + 1
  | .agg parts => uptoBulkAll parts + 1
  | .iface _ d => uptoBulk d + 1
  | .map entries => uptoBulkEntries entries + 1
  | .held _ => 1
def uptoBulkAll {H : Type} : List (DataW H) → Nat
  | [] => 0
  | d :: r => uptoBulk d + uptoBulkAll r
def uptoBulkEntries {H : Type} : List (Lit × DataW H) → Nat
  | [] => 0
  | x :: r => uptoBulkEntry x + uptoBulkEntries r
def uptoBulkEntry {H : Type} : Lit × DataW H → Nat
  | (.string bytes, d) => bytes.length + uptoBulk d + 1
  | (_, d) => uptoBulk d + 1
 end
def uptoSmall : (H : Type) → List (DataW H) → Bool := fun _ ds => decide (uptoBulkAll ds ≤ 1048576)
def OpenSpec.upto (s : _root_.Go.ChangeSpec) : _root_.Go.OpenSpec := { _root_.Go.OpenSpec.ofChange s with cond := some uptoSmall }

/-- 'laws.FnWinCounts', WHERE WHAT IT READS IS OF BULK AT MOST 1048576: true; the input reads as it did. -/
def fnWinCountsUptoRow : OpenClaim := { program := "ytohdbbdolmgaaaa", sum := "44c8e2e148b66b9c287ef22d601ad04ad69e83525d7b2adc6d4dbab006ab0127", func := "loop.example/countedchances/laws.FnWinCounts", spec := "fnWinCounts", unfollowed := true, recurses := true, apart := false, narrowed := true }
def FnWinCountsUptoSaid : Prop := fnWinCountsUptoRow.holds Try.pinned (OpenSpec.upto fnWinCountsSpec)

/-- 'laws.FnFracOf', WHERE WHAT IT READS IS OF BULK AT MOST 1048576: true; the input reads as it did. -/
def fnFracOfUptoRow : OpenClaim := { program := "ytohdbbdolmgaaaa", sum := "44c8e2e148b66b9c287ef22d601ad04ad69e83525d7b2adc6d4dbab006ab0127", func := "loop.example/countedchances/laws.FnFracOf", spec := "fnFracOf", apart := false, narrowed := true }
def FnFracOfUptoSaid : Prop := fnFracOfUptoRow.holds Try.pinned (OpenSpec.upto fnFracOfSpec)

/-- 'laws.FnPathsWithin', WHERE WHAT IT READS IS OF BULK AT MOST 1048576: true; the input reads as it did. -/
def fnPathsWithinUptoRow : OpenClaim := { program := "ytohdbbdolmgaaaa", sum := "44c8e2e148b66b9c287ef22d601ad04ad69e83525d7b2adc6d4dbab006ab0127", func := "loop.example/countedchances/laws.FnPathsWithin", spec := "fnPathsWithin", recurses := true, apart := false, narrowed := true }
def FnPathsWithinUptoSaid : Prop := fnPathsWithinUptoRow.holds Try.pinned (OpenSpec.upto fnPathsWithinSpec)

/-- 'laws.FnChangeChance', WHERE WHAT IT READS IS OF BULK AT MOST 1048576: true; the input reads as it did. -/
def fnChangeChanceUptoRow : OpenClaim := { program := "ytohdbbdolmgaaaa", sum := "44c8e2e148b66b9c287ef22d601ad04ad69e83525d7b2adc6d4dbab006ab0127", func := "loop.example/countedchances/laws.FnChangeChance", spec := "fnChangeChance", apart := false, narrowed := true }
def FnChangeChanceUptoSaid : Prop := fnChangeChanceUptoRow.holds Try.pinned (OpenSpec.upto fnChangeChanceSpec)

/-- 'laws.FnFourWays', WHERE WHAT IT READS IS OF BULK AT MOST 1048576: true; the input reads as it did. -/
def fnFourWaysUptoRow : OpenClaim := { program := "ytohdbbdolmgaaaa", sum := "44c8e2e148b66b9c287ef22d601ad04ad69e83525d7b2adc6d4dbab006ab0127", func := "loop.example/countedchances/laws.FnFourWays", spec := "fnFourWays", unfollowed := true, recurses := true, apart := false, narrowed := true }
def FnFourWaysUptoSaid : Prop := fnFourWaysUptoRow.holds Try.pinned (OpenSpec.upto fnFourWaysSpec)

/-- 'laws.FnRunCount', WHERE WHAT IT READS IS OF BULK AT MOST 1048576: true; the input reads as it did. -/
def fnRunCountUptoRow : OpenClaim := { program := "ytohdbbdolmgaaaa", sum := "44c8e2e148b66b9c287ef22d601ad04ad69e83525d7b2adc6d4dbab006ab0127", func := "loop.example/countedchances/laws.FnRunCount", spec := "fnRunCount", unfollowed := true, recurses := true, apart := false, narrowed := true }
def FnRunCountUptoSaid : Prop := fnRunCountUptoRow.holds Try.pinned (OpenSpec.upto fnRunCountSpec)

/-- 'laws.FnRankSums', WHERE WHAT IT READS IS OF BULK AT MOST 1048576: true; the input reads as it did. -/
def fnRankSumsUptoRow : OpenClaim := { program := "ytohdbbdolmgaaaa", sum := "44c8e2e148b66b9c287ef22d601ad04ad69e83525d7b2adc6d4dbab006ab0127", func := "loop.example/countedchances/laws.FnRankSums", spec := "fnRankSums", apart := false, narrowed := true }
def FnRankSumsUptoSaid : Prop := fnRankSumsUptoRow.holds Try.pinned (OpenSpec.upto fnRankSumsSpec)

/-- 'laws.FnFallCounts', WHERE WHAT IT READS IS OF BULK AT MOST 1048576: true; the input reads as it did. -/
def fnFallCountsUptoRow : OpenClaim := { program := "ytohdbbdolmgaaaa", sum := "44c8e2e148b66b9c287ef22d601ad04ad69e83525d7b2adc6d4dbab006ab0127", func := "loop.example/countedchances/laws.FnFallCounts", spec := "fnFallCounts", apart := false, narrowed := true }
def FnFallCountsUptoSaid : Prop := fnFallCountsUptoRow.holds Try.pinned (OpenSpec.upto fnFallCountsSpec)

/-- 'laws.FnAgreeChance', WHERE WHAT IT READS IS OF BULK AT MOST 1048576: true; the input reads as it did. -/
def fnAgreeChanceUptoRow : OpenClaim := { program := "ytohdbbdolmgaaaa", sum := "44c8e2e148b66b9c287ef22d601ad04ad69e83525d7b2adc6d4dbab006ab0127", func := "loop.example/countedchances/laws.FnAgreeChance", spec := "fnAgreeChance", recurses := true, apart := false, narrowed := true }
def FnAgreeChanceUptoSaid : Prop := fnAgreeChanceUptoRow.holds Try.pinned (OpenSpec.upto fnAgreeChanceSpec)

/-- 'laws.FnTailChance', WHERE WHAT IT READS IS OF BULK AT MOST 1048576: true; the input reads as it did. -/
def fnTailChanceUptoRow : OpenClaim := { program := "ytohdbbdolmgaaaa", sum := "44c8e2e148b66b9c287ef22d601ad04ad69e83525d7b2adc6d4dbab006ab0127", func := "loop.example/countedchances/laws.FnTailChance", spec := "fnTailChance", unfollowed := true, recurses := true, apart := false, narrowed := true }
def FnTailChanceUptoSaid : Prop := fnTailChanceUptoRow.holds Try.pinned (OpenSpec.upto fnTailChanceSpec)

end Rows
end Go.Proofs.Ytohdbbdolmgaaaa
