/-
  No cell of these rows narrows 'for every input' (looked for: loops, veiled, ifaces, maps, wideKeys, modest, calm, conditions, laid).
  DERIVED. THE GIVEN ROWS OF THIS SEAT. 12 by the template 'for every input the law returns true; each argument reads behind the call as it read before'; 0 by the template 'total and deterministic' (their statements: YtolepfgabbmpdaaTotals.lean).
  GIVEN WITH THE SEED: the statements are not yours to turn. If you find one false, say at which input.
  Laid BY PROGRAM, IN A SANDBOX (cutbox-rows.mjs): the forced cells as the released guide's own fill.sh prints them over the translation 99ffc7dda0abd147… (all of the seat's roots in one cut). By AI agents, Wed Nov 11 2026. No macro, syntax, notation, axiom, sorry.
-/
import Derived.Test.YtolepfgabbmpdaaChecked
import GoSem.Claim
import GoSem.ClaimJoined
import GoSem.ClaimMapViews
import Derived.JoinedTies
import Derived.KernelRfl
namespace Go.Proofs.Ytolepfgabbmpdaa
/- THE CELL 'sum', in the pinned program and in every row, IS THE sha256 OF THE DUMP (.gsa) THAT YtolepfgabbmpdaaProg.lean LOADS. Nothing in Lean hashes anything: it is a label: what it is worth is what the hold of that sum in a sandbox is worth. -/
noncomputable def Try.pinned : Pinned := { name := "ytolepfgabbmpdaa", sum := "99ffc7dda0abd14727042a1d7942e60ff6ec93f4028b2575a571453417a8ae57", checked := Try.checked }
namespace Rows
def none {H : Type} : Left H := { results := [], args := [] }

/-- 'laws.FnExactValidData': WHATEVER THE INPUT: true; the input reads as it did. -/
def fnExactValidDataSpec : ChangeSpec := { name := "fnExactValidData", fn := fun _ => fun
  | [d] => { results := [.lit (.bool true)], args := [d] }
  | _ => none }
def fnExactValidDataRow : OpenClaim := { program := "ytolepfgabbmpdaa", sum := "99ffc7dda0abd14727042a1d7942e60ff6ec93f4028b2575a571453417a8ae57", func := "loop.example/countedchances/laws.FnExactValidData", spec := "fnExactValidData", unfollowed := true, recurses := true, apart := false }
def FnExactValidDataSaid : Prop := fnExactValidDataRow.holds Try.pinned (OpenSpec.ofChange fnExactValidDataSpec)

/-- ITS FALSE NEIGHBOUR: 'it returns false'. Refute it at one input. -/
def fnExactValidDataWrong : ChangeSpec := { name := "fnExactValidData", fn := fun _ => fun
  | [d] => { results := [.lit (.bool false)], args := [d] }
  | _ => none }
def FnExactValidDataWrongFalsely : Prop := fnExactValidDataRow.holds Try.pinned (OpenSpec.ofChange fnExactValidDataWrong)

/-- 'laws.FnExactValidOdds': WHATEVER THE INPUT: true; the input reads as it did. -/
def fnExactValidOddsSpec : ChangeSpec := { name := "fnExactValidOdds", fn := fun _ => fun
  | [d] => { results := [.lit (.bool true)], args := [d] }
  | _ => none }
def fnExactValidOddsRow : OpenClaim := { program := "ytolepfgabbmpdaa", sum := "99ffc7dda0abd14727042a1d7942e60ff6ec93f4028b2575a571453417a8ae57", func := "loop.example/countedchances/laws.FnExactValidOdds", spec := "fnExactValidOdds", unfollowed := true, recurses := true, apart := false }
def FnExactValidOddsSaid : Prop := fnExactValidOddsRow.holds Try.pinned (OpenSpec.ofChange fnExactValidOddsSpec)

/-- ITS FALSE NEIGHBOUR: 'it returns false'. Refute it at one input. -/
def fnExactValidOddsWrong : ChangeSpec := { name := "fnExactValidOdds", fn := fun _ => fun
  | [d] => { results := [.lit (.bool false)], args := [d] }
  | _ => none }
def FnExactValidOddsWrongFalsely : Prop := fnExactValidOddsRow.holds Try.pinned (OpenSpec.ofChange fnExactValidOddsWrong)

/-- 'laws.FnExactValidLoads': WHATEVER THE INPUT: true; the input reads as it did. -/
def fnExactValidLoadsSpec : ChangeSpec := { name := "fnExactValidLoads", fn := fun _ => fun
  | [d1, d2] => { results := [.lit (.bool true)], args := [d1, d2] }
  | _ => none }
def fnExactValidLoadsRow : OpenClaim := { program := "ytolepfgabbmpdaa", sum := "99ffc7dda0abd14727042a1d7942e60ff6ec93f4028b2575a571453417a8ae57", func := "loop.example/countedchances/laws.FnExactValidLoads", spec := "fnExactValidLoads", unfollowed := true, recurses := true, apart := false }
def FnExactValidLoadsSaid : Prop := fnExactValidLoadsRow.holds Try.pinned (OpenSpec.ofChange fnExactValidLoadsSpec)

/-- ITS FALSE NEIGHBOUR: 'it returns false'. Refute it at one input. -/
def fnExactValidLoadsWrong : ChangeSpec := { name := "fnExactValidLoads", fn := fun _ => fun
  | [d1, d2] => { results := [.lit (.bool false)], args := [d1, d2] }
  | _ => none }
def FnExactValidLoadsWrongFalsely : Prop := fnExactValidLoadsRow.holds Try.pinned (OpenSpec.ofChange fnExactValidLoadsWrong)

/-- 'laws.FnExactValidCases': WHATEVER THE INPUT: true; the input reads as it did. -/
def fnExactValidCasesSpec : ChangeSpec := { name := "fnExactValidCases", fn := fun _ => fun
  | [d1, d2] => { results := [.lit (.bool true)], args := [d1, d2] }
  | _ => none }
def fnExactValidCasesRow : OpenClaim := { program := "ytolepfgabbmpdaa", sum := "99ffc7dda0abd14727042a1d7942e60ff6ec93f4028b2575a571453417a8ae57", func := "loop.example/countedchances/laws.FnExactValidCases", spec := "fnExactValidCases", unfollowed := true, recurses := true, apart := false }
def FnExactValidCasesSaid : Prop := fnExactValidCasesRow.holds Try.pinned (OpenSpec.ofChange fnExactValidCasesSpec)

/-- ITS FALSE NEIGHBOUR: 'it returns false'. Refute it at one input. -/
def fnExactValidCasesWrong : ChangeSpec := { name := "fnExactValidCases", fn := fun _ => fun
  | [d1, d2] => { results := [.lit (.bool false)], args := [d1, d2] }
  | _ => none }
def FnExactValidCasesWrongFalsely : Prop := fnExactValidCasesRow.holds Try.pinned (OpenSpec.ofChange fnExactValidCasesWrong)

/-- 'laws.FnExactValidCloud': WHATEVER THE INPUT: true; the input reads as it did. -/
def fnExactValidCloudSpec : ChangeSpec := { name := "fnExactValidCloud", fn := fun _ => fun
  | [d1, d2] => { results := [.lit (.bool true)], args := [d1, d2] }
  | _ => none }
def fnExactValidCloudRow : OpenClaim := { program := "ytolepfgabbmpdaa", sum := "99ffc7dda0abd14727042a1d7942e60ff6ec93f4028b2575a571453417a8ae57", func := "loop.example/countedchances/laws.FnExactValidCloud", spec := "fnExactValidCloud", unfollowed := true, recurses := true, apart := false }
def FnExactValidCloudSaid : Prop := fnExactValidCloudRow.holds Try.pinned (OpenSpec.ofChange fnExactValidCloudSpec)

/-- ITS FALSE NEIGHBOUR: 'it returns false'. Refute it at one input. -/
def fnExactValidCloudWrong : ChangeSpec := { name := "fnExactValidCloud", fn := fun _ => fun
  | [d1, d2] => { results := [.lit (.bool false)], args := [d1, d2] }
  | _ => none }
def FnExactValidCloudWrongFalsely : Prop := fnExactValidCloudRow.holds Try.pinned (OpenSpec.ofChange fnExactValidCloudWrong)

/-- 'laws.FnExactTimesAll': WHATEVER THE INPUT: true; the input reads as it did. -/
def fnExactTimesAllSpec : ChangeSpec := { name := "fnExactTimesAll", fn := fun _ => fun
  | [d] => { results := [.lit (.bool true)], args := [d] }
  | _ => none }
def fnExactTimesAllRow : OpenClaim := { program := "ytolepfgabbmpdaa", sum := "99ffc7dda0abd14727042a1d7942e60ff6ec93f4028b2575a571453417a8ae57", func := "loop.example/countedchances/laws.FnExactTimesAll", spec := "fnExactTimesAll", unfollowed := true, recurses := true, apart := false }
def FnExactTimesAllSaid : Prop := fnExactTimesAllRow.holds Try.pinned (OpenSpec.ofChange fnExactTimesAllSpec)

/-- ITS FALSE NEIGHBOUR: 'it returns false'. Refute it at one input. -/
def fnExactTimesAllWrong : ChangeSpec := { name := "fnExactTimesAll", fn := fun _ => fun
  | [d] => { results := [.lit (.bool false)], args := [d] }
  | _ => none }
def FnExactTimesAllWrongFalsely : Prop := fnExactTimesAllRow.holds Try.pinned (OpenSpec.ofChange fnExactTimesAllWrong)

/-- 'laws.FnExactFoundAt': WHATEVER THE INPUT: true; the input reads as it did. -/
def fnExactFoundAtSpec : ChangeSpec := { name := "fnExactFoundAt", fn := fun _ => fun
  | [d1, d2] => { results := [.lit (.bool true)], args := [d1, d2] }
  | _ => none }
def fnExactFoundAtRow : OpenClaim := { program := "ytolepfgabbmpdaa", sum := "99ffc7dda0abd14727042a1d7942e60ff6ec93f4028b2575a571453417a8ae57", func := "loop.example/countedchances/laws.FnExactFoundAt", spec := "fnExactFoundAt", unfollowed := true, recurses := true, apart := false }
def FnExactFoundAtSaid : Prop := fnExactFoundAtRow.holds Try.pinned (OpenSpec.ofChange fnExactFoundAtSpec)

/-- ITS FALSE NEIGHBOUR: 'it returns false'. Refute it at one input. -/
def fnExactFoundAtWrong : ChangeSpec := { name := "fnExactFoundAt", fn := fun _ => fun
  | [d1, d2] => { results := [.lit (.bool false)], args := [d1, d2] }
  | _ => none }
def FnExactFoundAtWrongFalsely : Prop := fnExactFoundAtRow.holds Try.pinned (OpenSpec.ofChange fnExactFoundAtWrong)

/-- 'laws.FnExactAgreeOf': WHATEVER THE INPUT: true; the input reads as it did. -/
def fnExactAgreeOfSpec : ChangeSpec := { name := "fnExactAgreeOf", fn := fun _ => fun
  | [d1, d2] => { results := [.lit (.bool true)], args := [d1, d2] }
  | _ => none }
def fnExactAgreeOfRow : OpenClaim := { program := "ytolepfgabbmpdaa", sum := "99ffc7dda0abd14727042a1d7942e60ff6ec93f4028b2575a571453417a8ae57", func := "loop.example/countedchances/laws.FnExactAgreeOf", spec := "fnExactAgreeOf", unfollowed := true, recurses := true, apart := false }
def FnExactAgreeOfSaid : Prop := fnExactAgreeOfRow.holds Try.pinned (OpenSpec.ofChange fnExactAgreeOfSpec)

/-- ITS FALSE NEIGHBOUR: 'it returns false'. Refute it at one input. -/
def fnExactAgreeOfWrong : ChangeSpec := { name := "fnExactAgreeOf", fn := fun _ => fun
  | [d1, d2] => { results := [.lit (.bool false)], args := [d1, d2] }
  | _ => none }
def FnExactAgreeOfWrongFalsely : Prop := fnExactAgreeOfRow.holds Try.pinned (OpenSpec.ofChange fnExactAgreeOfWrong)

/-- 'laws.FnExactWinsOf': WHATEVER THE INPUT: true; the input reads as it did. -/
def fnExactWinsOfSpec : ChangeSpec := { name := "fnExactWinsOf", fn := fun _ => fun
  | [d1, d2] => { results := [.lit (.bool true)], args := [d1, d2] }
  | _ => none }
def fnExactWinsOfRow : OpenClaim := { program := "ytolepfgabbmpdaa", sum := "99ffc7dda0abd14727042a1d7942e60ff6ec93f4028b2575a571453417a8ae57", func := "loop.example/countedchances/laws.FnExactWinsOf", spec := "fnExactWinsOf", unfollowed := true, recurses := true, apart := false }
def FnExactWinsOfSaid : Prop := fnExactWinsOfRow.holds Try.pinned (OpenSpec.ofChange fnExactWinsOfSpec)

/-- ITS FALSE NEIGHBOUR: 'it returns false'. Refute it at one input. -/
def fnExactWinsOfWrong : ChangeSpec := { name := "fnExactWinsOf", fn := fun _ => fun
  | [d1, d2] => { results := [.lit (.bool false)], args := [d1, d2] }
  | _ => none }
def FnExactWinsOfWrongFalsely : Prop := fnExactWinsOfRow.holds Try.pinned (OpenSpec.ofChange fnExactWinsOfWrong)

/-- 'laws.FnExactRankGap': WHATEVER THE INPUT: true; the input reads as it did. -/
def fnExactRankGapSpec : ChangeSpec := { name := "fnExactRankGap", fn := fun _ => fun
  | [d1, d2] => { results := [.lit (.bool true)], args := [d1, d2] }
  | _ => none }
def fnExactRankGapRow : OpenClaim := { program := "ytolepfgabbmpdaa", sum := "99ffc7dda0abd14727042a1d7942e60ff6ec93f4028b2575a571453417a8ae57", func := "loop.example/countedchances/laws.FnExactRankGap", spec := "fnExactRankGap", unfollowed := true, recurses := true, apart := false }
def FnExactRankGapSaid : Prop := fnExactRankGapRow.holds Try.pinned (OpenSpec.ofChange fnExactRankGapSpec)

/-- ITS FALSE NEIGHBOUR: 'it returns false'. Refute it at one input. -/
def fnExactRankGapWrong : ChangeSpec := { name := "fnExactRankGap", fn := fun _ => fun
  | [d1, d2] => { results := [.lit (.bool false)], args := [d1, d2] }
  | _ => none }
def FnExactRankGapWrongFalsely : Prop := fnExactRankGapRow.holds Try.pinned (OpenSpec.ofChange fnExactRankGapWrong)

/-- 'laws.FnExactRanksOf': WHATEVER THE INPUT: true; the input reads as it did. -/
def fnExactRanksOfSpec : ChangeSpec := { name := "fnExactRanksOf", fn := fun _ => fun
  | [d] => { results := [.lit (.bool true)], args := [d] }
  | _ => none }
def fnExactRanksOfRow : OpenClaim := { program := "ytolepfgabbmpdaa", sum := "99ffc7dda0abd14727042a1d7942e60ff6ec93f4028b2575a571453417a8ae57", func := "loop.example/countedchances/laws.FnExactRanksOf", spec := "fnExactRanksOf", unfollowed := true, recurses := true, apart := false }
def FnExactRanksOfSaid : Prop := fnExactRanksOfRow.holds Try.pinned (OpenSpec.ofChange fnExactRanksOfSpec)

/-- ITS FALSE NEIGHBOUR: 'it returns false'. Refute it at one input. -/
def fnExactRanksOfWrong : ChangeSpec := { name := "fnExactRanksOf", fn := fun _ => fun
  | [d] => { results := [.lit (.bool false)], args := [d] }
  | _ => none }
def FnExactRanksOfWrongFalsely : Prop := fnExactRanksOfRow.holds Try.pinned (OpenSpec.ofChange fnExactRanksOfWrong)

/-- 'laws.FnExactFlipChance': WHATEVER THE INPUT: true; the input reads as it did. -/
def fnExactFlipChanceSpec : ChangeSpec := { name := "fnExactFlipChance", fn := fun _ => fun
  | [d] => { results := [.lit (.bool true)], args := [d] }
  | _ => none }
def fnExactFlipChanceRow : OpenClaim := { program := "ytolepfgabbmpdaa", sum := "99ffc7dda0abd14727042a1d7942e60ff6ec93f4028b2575a571453417a8ae57", func := "loop.example/countedchances/laws.FnExactFlipChance", spec := "fnExactFlipChance", unfollowed := true, recurses := true, apart := false }
def FnExactFlipChanceSaid : Prop := fnExactFlipChanceRow.holds Try.pinned (OpenSpec.ofChange fnExactFlipChanceSpec)

/-- ITS FALSE NEIGHBOUR: 'it returns false'. Refute it at one input. -/
def fnExactFlipChanceWrong : ChangeSpec := { name := "fnExactFlipChance", fn := fun _ => fun
  | [d] => { results := [.lit (.bool false)], args := [d] }
  | _ => none }
def FnExactFlipChanceWrongFalsely : Prop := fnExactFlipChanceRow.holds Try.pinned (OpenSpec.ofChange fnExactFlipChanceWrong)

/- THE SECOND FORM. 'bulk': how many values and letters a reading holds, each counted each time it is reached (what is shared counts as often as it is met; a slice's spare places count too). A statement '..UptoSaid' is the law's where the arguments, and the package variables that the reading takes, are together of bulk at most 1048576: NARROWER than '..Said'. Prove '..Said' where nothing that the law and all that it calls make is longer than what came in: it says more and counts as full. Else prove '..UptoSaid'. A law counts once. -/
mutual
def uptoBulk {H : Type} : DataW H → Nat
  | .lit (.string bytes) => bytes.length + 1
  | .lit _ => 1
  | .nil => 1
  | .ptr d => uptoBulk d + 1
  | .slice elems spare => uptoBulkAll elems + uptoBulkAll spare + 1
  | .agg parts => uptoBulkAll parts + 1
  | .iface _ d => uptoBulk d + 1
  | .map entries => uptoBulkEntries entries + 1
  | .held _ => 1
def uptoBulkAll {H : Type} : List (DataW H) → Nat
  | [] => 0
  | d :: r => uptoBulk d + uptoBulkAll r
def uptoBulkEntries {H : Type} : List (Lit × DataW H) → Nat
  | [] => 0
  | x :: r => uptoBulkEntry x + uptoBulkEntries r
def uptoBulkEntry {H : Type} : Lit × DataW H → Nat
  | (.string bytes, d) => bytes.length + uptoBulk d + 1
  | (_, d) => uptoBulk d + 1
 end
def uptoSmall : (H : Type) → List (DataW H) → Bool := fun _ ds => decide (uptoBulkAll ds ≤ 1048576)
def OpenSpec.upto (s : _root_.Go.ChangeSpec) : _root_.Go.OpenSpec := { _root_.Go.OpenSpec.ofChange s with cond := some uptoSmall }

/-- 'laws.FnExactValidData', WHERE WHAT IT READS IS OF BULK AT MOST 1048576: true; the input reads as it did. -/
def fnExactValidDataUptoRow : OpenClaim := { program := "ytolepfgabbmpdaa", sum := "99ffc7dda0abd14727042a1d7942e60ff6ec93f4028b2575a571453417a8ae57", func := "loop.example/countedchances/laws.FnExactValidData", spec := "fnExactValidData", unfollowed := true, recurses := true, apart := false, narrowed := true }
def FnExactValidDataUptoSaid : Prop := fnExactValidDataUptoRow.holds Try.pinned (OpenSpec.upto fnExactValidDataSpec)

/-- 'laws.FnExactValidOdds', WHERE WHAT IT READS IS OF BULK AT MOST 1048576: true; the input reads as it did. -/
def fnExactValidOddsUptoRow : OpenClaim := { program := "ytolepfgabbmpdaa", sum := "99ffc7dda0abd14727042a1d7942e60ff6ec93f4028b2575a571453417a8ae57", func := "loop.example/countedchances/laws.FnExactValidOdds", spec := "fnExactValidOdds", unfollowed := true, recurses := true, apart := false, narrowed := true }
def FnExactValidOddsUptoSaid : Prop := fnExactValidOddsUptoRow.holds Try.pinned (OpenSpec.upto fnExactValidOddsSpec)

/-- 'laws.FnExactValidLoads', WHERE WHAT IT READS IS OF BULK AT MOST 1048576: true; the input reads as it did. -/
def fnExactValidLoadsUptoRow : OpenClaim := { program := "ytolepfgabbmpdaa", sum := "99ffc7dda0abd14727042a1d7942e60ff6ec93f4028b2575a571453417a8ae57", func := "loop.example/countedchances/laws.FnExactValidLoads", spec := "fnExactValidLoads", unfollowed := true, recurses := true, apart := false, narrowed := true }
def FnExactValidLoadsUptoSaid : Prop := fnExactValidLoadsUptoRow.holds Try.pinned (OpenSpec.upto fnExactValidLoadsSpec)

/-- 'laws.FnExactValidCases', WHERE WHAT IT READS IS OF BULK AT MOST 1048576: true; the input reads as it did. -/
def fnExactValidCasesUptoRow : OpenClaim := { program := "ytolepfgabbmpdaa", sum := "99ffc7dda0abd14727042a1d7942e60ff6ec93f4028b2575a571453417a8ae57", func := "loop.example/countedchances/laws.FnExactValidCases", spec := "fnExactValidCases", unfollowed := true, recurses := true, apart := false, narrowed := true }
def FnExactValidCasesUptoSaid : Prop := fnExactValidCasesUptoRow.holds Try.pinned (OpenSpec.upto fnExactValidCasesSpec)

/-- 'laws.FnExactValidCloud', WHERE WHAT IT READS IS OF BULK AT MOST 1048576: true; the input reads as it did. -/
def fnExactValidCloudUptoRow : OpenClaim := { program := "ytolepfgabbmpdaa", sum := "99ffc7dda0abd14727042a1d7942e60ff6ec93f4028b2575a571453417a8ae57", func := "loop.example/countedchances/laws.FnExactValidCloud", spec := "fnExactValidCloud", unfollowed := true, recurses := true, apart := false, narrowed := true }
def FnExactValidCloudUptoSaid : Prop := fnExactValidCloudUptoRow.holds Try.pinned (OpenSpec.upto fnExactValidCloudSpec)

/-- 'laws.FnExactTimesAll', WHERE WHAT IT READS IS OF BULK AT MOST 1048576: true; the input reads as it did. -/
def fnExactTimesAllUptoRow : OpenClaim := { program := "ytolepfgabbmpdaa", sum := "99ffc7dda0abd14727042a1d7942e60ff6ec93f4028b2575a571453417a8ae57", func := "loop.example/countedchances/laws.FnExactTimesAll", spec := "fnExactTimesAll", unfollowed := true, recurses := true, apart := false, narrowed := true }
def FnExactTimesAllUptoSaid : Prop := fnExactTimesAllUptoRow.holds Try.pinned (OpenSpec.upto fnExactTimesAllSpec)

/-- 'laws.FnExactFoundAt', WHERE WHAT IT READS IS OF BULK AT MOST 1048576: true; the input reads as it did. -/
def fnExactFoundAtUptoRow : OpenClaim := { program := "ytolepfgabbmpdaa", sum := "99ffc7dda0abd14727042a1d7942e60ff6ec93f4028b2575a571453417a8ae57", func := "loop.example/countedchances/laws.FnExactFoundAt", spec := "fnExactFoundAt", unfollowed := true, recurses := true, apart := false, narrowed := true }
def FnExactFoundAtUptoSaid : Prop := fnExactFoundAtUptoRow.holds Try.pinned (OpenSpec.upto fnExactFoundAtSpec)

/-- 'laws.FnExactAgreeOf', WHERE WHAT IT READS IS OF BULK AT MOST 1048576: true; the input reads as it did. -/
def fnExactAgreeOfUptoRow : OpenClaim := { program := "ytolepfgabbmpdaa", sum := "99ffc7dda0abd14727042a1d7942e60ff6ec93f4028b2575a571453417a8ae57", func := "loop.example/countedchances/laws.FnExactAgreeOf", spec := "fnExactAgreeOf", unfollowed := true, recurses := true, apart := false, narrowed := true }
def FnExactAgreeOfUptoSaid : Prop := fnExactAgreeOfUptoRow.holds Try.pinned (OpenSpec.upto fnExactAgreeOfSpec)

/-- 'laws.FnExactWinsOf', WHERE WHAT IT READS IS OF BULK AT MOST 1048576: true; the input reads as it did. -/
def fnExactWinsOfUptoRow : OpenClaim := { program := "ytolepfgabbmpdaa", sum := "99ffc7dda0abd14727042a1d7942e60ff6ec93f4028b2575a571453417a8ae57", func := "loop.example/countedchances/laws.FnExactWinsOf", spec := "fnExactWinsOf", unfollowed := true, recurses := true, apart := false, narrowed := true }
def FnExactWinsOfUptoSaid : Prop := fnExactWinsOfUptoRow.holds Try.pinned (OpenSpec.upto fnExactWinsOfSpec)

/-- 'laws.FnExactRankGap', WHERE WHAT IT READS IS OF BULK AT MOST 1048576: true; the input reads as it did. -/
def fnExactRankGapUptoRow : OpenClaim := { program := "ytolepfgabbmpdaa", sum := "99ffc7dda0abd14727042a1d7942e60ff6ec93f4028b2575a571453417a8ae57", func := "loop.example/countedchances/laws.FnExactRankGap", spec := "fnExactRankGap", unfollowed := true, recurses := true, apart := false, narrowed := true }
def FnExactRankGapUptoSaid : Prop := fnExactRankGapUptoRow.holds Try.pinned (OpenSpec.upto fnExactRankGapSpec)

/-- 'laws.FnExactRanksOf', WHERE WHAT IT READS IS OF BULK AT MOST 1048576: true; the input reads as it did. -/
def fnExactRanksOfUptoRow : OpenClaim := { program := "ytolepfgabbmpdaa", sum := "99ffc7dda0abd14727042a1d7942e60ff6ec93f4028b2575a571453417a8ae57", func := "loop.example/countedchances/laws.FnExactRanksOf", spec := "fnExactRanksOf", unfollowed := true, recurses := true, apart := false, narrowed := true }
def FnExactRanksOfUptoSaid : Prop := fnExactRanksOfUptoRow.holds Try.pinned (OpenSpec.upto fnExactRanksOfSpec)

/-- 'laws.FnExactFlipChance', WHERE WHAT IT READS IS OF BULK AT MOST 1048576: true; the input reads as it did. -/
def fnExactFlipChanceUptoRow : OpenClaim := { program := "ytolepfgabbmpdaa", sum := "99ffc7dda0abd14727042a1d7942e60ff6ec93f4028b2575a571453417a8ae57", func := "loop.example/countedchances/laws.FnExactFlipChance", spec := "fnExactFlipChance", unfollowed := true, recurses := true, apart := false, narrowed := true }
def FnExactFlipChanceUptoSaid : Prop := fnExactFlipChanceUptoRow.holds Try.pinned (OpenSpec.upto fnExactFlipChanceSpec)

end Rows
end Go.Proofs.Ytolepfgabbmpdaa
