/-
  No cell of these rows narrows 'for every input' (looked for: loops, veiled, ifaces, maps, wideKeys, modest, calm, conditions, laid).
  DERIVED. THE GIVEN ROWS OF THIS SEAT. 12 by the template 'for every input the law returns true; each argument reads behind the call as it read before'; 0 by the template 'total and deterministic' (their statements: YtdcjmhajbdbpmaaTotals.lean).
  GIVEN WITH THE SEED: the statements are not yours to turn. If you find one false, say at which input.
  Laid BY PROGRAM, IN A SANDBOX (cutbox-rows.mjs): the forced cells as the released guide's own fill.sh prints them over the translation ffa6d6a42f882315… (all of the seat's roots in one cut). By AI agents, Wed Nov 11 2026. No macro, syntax, notation, axiom, sorry.
-/
import Derived.Test.YtdcjmhajbdbpmaaChecked
import GoSem.Claim
import GoSem.ClaimJoined
import GoSem.ClaimMapViews
import Derived.JoinedTies
import Derived.KernelRfl
namespace Go.Proofs.Ytdcjmhajbdbpmaa
/- THE CELL 'sum', in the pinned program and in every row, IS THE sha256 OF THE DUMP (.gsa) THAT YtdcjmhajbdbpmaaProg.lean LOADS. Nothing in Lean hashes anything: it is a label: what it is worth is what the hold of that sum in a sandbox is worth. -/
noncomputable def Try.pinned : Pinned := { name := "ytdcjmhajbdbpmaa", sum := "ffa6d6a42f8823151cc268d18bfab492ad175898cd90cc1772d9bd9fceea0e63", checked := Try.checked }
namespace Rows
def none {H : Type} : Left H := { results := [], args := [] }

/-- 'laws.FnExactConstants': WHATEVER THE INPUT: true; the input reads as it did. -/
def fnExactConstantsSpec : ChangeSpec := { name := "fnExactConstants", fn := fun _ => fun
  | [] => { results := [.lit (.bool true)], args := [] }
  | _ => none }
def fnExactConstantsRow : OpenClaim := { program := "ytdcjmhajbdbpmaa", sum := "ffa6d6a42f8823151cc268d18bfab492ad175898cd90cc1772d9bd9fceea0e63", func := "loop.example/countedchances/laws.FnExactConstants", spec := "fnExactConstants", apart := false }
def FnExactConstantsSaid : Prop := fnExactConstantsRow.holds Try.pinned (OpenSpec.ofChange fnExactConstantsSpec)

/-- ITS FALSE NEIGHBOUR: 'it returns false'. Refute it at one input. -/
def fnExactConstantsWrong : ChangeSpec := { name := "fnExactConstants", fn := fun _ => fun
  | [] => { results := [.lit (.bool false)], args := [] }
  | _ => none }
def FnExactConstantsWrongFalsely : Prop := fnExactConstantsRow.holds Try.pinned (OpenSpec.ofChange fnExactConstantsWrong)

/-- 'laws.FnExactPathsWithin': WHATEVER THE INPUT: true; the input reads as it did. -/
def fnExactPathsWithinSpec : ChangeSpec := { name := "fnExactPathsWithin", fn := fun _ => fun
  | [d1, d2, d3] => { results := [.lit (.bool true)], args := [d1, d2, d3] }
  | _ => none }
def fnExactPathsWithinRow : OpenClaim := { program := "ytdcjmhajbdbpmaa", sum := "ffa6d6a42f8823151cc268d18bfab492ad175898cd90cc1772d9bd9fceea0e63", func := "loop.example/countedchances/laws.FnExactPathsWithin", spec := "fnExactPathsWithin", recurses := true, apart := false }
def FnExactPathsWithinSaid : Prop := fnExactPathsWithinRow.holds Try.pinned (OpenSpec.ofChange fnExactPathsWithinSpec)

/-- ITS FALSE NEIGHBOUR: 'it returns false'. Refute it at one input. -/
def fnExactPathsWithinWrong : ChangeSpec := { name := "fnExactPathsWithin", fn := fun _ => fun
  | [d1, d2, d3] => { results := [.lit (.bool false)], args := [d1, d2, d3] }
  | _ => none }
def FnExactPathsWithinWrongFalsely : Prop := fnExactPathsWithinRow.holds Try.pinned (OpenSpec.ofChange fnExactPathsWithinWrong)

/-- 'laws.FnExactFracOf': WHATEVER THE INPUT: true; the input reads as it did. -/
def fnExactFracOfSpec : ChangeSpec := { name := "fnExactFracOf", fn := fun _ => fun
  | [d1, d2] => { results := [.lit (.bool true)], args := [d1, d2] }
  | _ => none }
def fnExactFracOfRow : OpenClaim := { program := "ytdcjmhajbdbpmaa", sum := "ffa6d6a42f8823151cc268d18bfab492ad175898cd90cc1772d9bd9fceea0e63", func := "loop.example/countedchances/laws.FnExactFracOf", spec := "fnExactFracOf", apart := false }
def FnExactFracOfSaid : Prop := fnExactFracOfRow.holds Try.pinned (OpenSpec.ofChange fnExactFracOfSpec)

/-- ITS FALSE NEIGHBOUR: 'it returns false'. Refute it at one input. -/
def fnExactFracOfWrong : ChangeSpec := { name := "fnExactFracOf", fn := fun _ => fun
  | [d1, d2] => { results := [.lit (.bool false)], args := [d1, d2] }
  | _ => none }
def FnExactFracOfWrongFalsely : Prop := fnExactFracOfRow.holds Try.pinned (OpenSpec.ofChange fnExactFracOfWrong)

/-- 'laws.FnExactChangeChance': WHATEVER THE INPUT: true; the input reads as it did. -/
def fnExactChangeChanceSpec : ChangeSpec := { name := "fnExactChangeChance", fn := fun _ => fun
  | [d1, d2] => { results := [.lit (.bool true)], args := [d1, d2] }
  | _ => none }
def fnExactChangeChanceRow : OpenClaim := { program := "ytdcjmhajbdbpmaa", sum := "ffa6d6a42f8823151cc268d18bfab492ad175898cd90cc1772d9bd9fceea0e63", func := "loop.example/countedchances/laws.FnExactChangeChance", spec := "fnExactChangeChance", apart := false }
def FnExactChangeChanceSaid : Prop := fnExactChangeChanceRow.holds Try.pinned (OpenSpec.ofChange fnExactChangeChanceSpec)

/-- ITS FALSE NEIGHBOUR: 'it returns false'. Refute it at one input. -/
def fnExactChangeChanceWrong : ChangeSpec := { name := "fnExactChangeChance", fn := fun _ => fun
  | [d1, d2] => { results := [.lit (.bool false)], args := [d1, d2] }
  | _ => none }
def FnExactChangeChanceWrongFalsely : Prop := fnExactChangeChanceRow.holds Try.pinned (OpenSpec.ofChange fnExactChangeChanceWrong)

/-- 'laws.FnExactRunCount': WHATEVER THE INPUT: true; the input reads as it did. -/
def fnExactRunCountSpec : ChangeSpec := { name := "fnExactRunCount", fn := fun _ => fun
  | [d1, d2, d3] => { results := [.lit (.bool true)], args := [d1, d2, d3] }
  | _ => none }
def fnExactRunCountRow : OpenClaim := { program := "ytdcjmhajbdbpmaa", sum := "ffa6d6a42f8823151cc268d18bfab492ad175898cd90cc1772d9bd9fceea0e63", func := "loop.example/countedchances/laws.FnExactRunCount", spec := "fnExactRunCount", unfollowed := true, recurses := true, apart := false }
def FnExactRunCountSaid : Prop := fnExactRunCountRow.holds Try.pinned (OpenSpec.ofChange fnExactRunCountSpec)

/-- ITS FALSE NEIGHBOUR: 'it returns false'. Refute it at one input. -/
def fnExactRunCountWrong : ChangeSpec := { name := "fnExactRunCount", fn := fun _ => fun
  | [d1, d2, d3] => { results := [.lit (.bool false)], args := [d1, d2, d3] }
  | _ => none }
def FnExactRunCountWrongFalsely : Prop := fnExactRunCountRow.holds Try.pinned (OpenSpec.ofChange fnExactRunCountWrong)

/-- 'laws.FnExactRankSums': WHATEVER THE INPUT: true; the input reads as it did. -/
def fnExactRankSumsSpec : ChangeSpec := { name := "fnExactRankSums", fn := fun _ => fun
  | [d] => { results := [.lit (.bool true)], args := [d] }
  | _ => none }
def fnExactRankSumsRow : OpenClaim := { program := "ytdcjmhajbdbpmaa", sum := "ffa6d6a42f8823151cc268d18bfab492ad175898cd90cc1772d9bd9fceea0e63", func := "loop.example/countedchances/laws.FnExactRankSums", spec := "fnExactRankSums", apart := false }
def FnExactRankSumsSaid : Prop := fnExactRankSumsRow.holds Try.pinned (OpenSpec.ofChange fnExactRankSumsSpec)

/-- ITS FALSE NEIGHBOUR: 'it returns false'. Refute it at one input. -/
def fnExactRankSumsWrong : ChangeSpec := { name := "fnExactRankSums", fn := fun _ => fun
  | [d] => { results := [.lit (.bool false)], args := [d] }
  | _ => none }
def FnExactRankSumsWrongFalsely : Prop := fnExactRankSumsRow.holds Try.pinned (OpenSpec.ofChange fnExactRankSumsWrong)

/-- 'laws.FnExactAgreeChance': WHATEVER THE INPUT: true; the input reads as it did. -/
def fnExactAgreeChanceSpec : ChangeSpec := { name := "fnExactAgreeChance", fn := fun _ => fun
  | [d1, d2] => { results := [.lit (.bool true)], args := [d1, d2] }
  | _ => none }
def fnExactAgreeChanceRow : OpenClaim := { program := "ytdcjmhajbdbpmaa", sum := "ffa6d6a42f8823151cc268d18bfab492ad175898cd90cc1772d9bd9fceea0e63", func := "loop.example/countedchances/laws.FnExactAgreeChance", spec := "fnExactAgreeChance", recurses := true, apart := false }
def FnExactAgreeChanceSaid : Prop := fnExactAgreeChanceRow.holds Try.pinned (OpenSpec.ofChange fnExactAgreeChanceSpec)

/-- ITS FALSE NEIGHBOUR: 'it returns false'. Refute it at one input. -/
def fnExactAgreeChanceWrong : ChangeSpec := { name := "fnExactAgreeChance", fn := fun _ => fun
  | [d1, d2] => { results := [.lit (.bool false)], args := [d1, d2] }
  | _ => none }
def FnExactAgreeChanceWrongFalsely : Prop := fnExactAgreeChanceRow.holds Try.pinned (OpenSpec.ofChange fnExactAgreeChanceWrong)

/-- 'laws.FnExactFallCounts': WHATEVER THE INPUT: true; the input reads as it did. -/
def fnExactFallCountsSpec : ChangeSpec := { name := "fnExactFallCounts", fn := fun _ => fun
  | [d] => { results := [.lit (.bool true)], args := [d] }
  | _ => none }
def fnExactFallCountsRow : OpenClaim := { program := "ytdcjmhajbdbpmaa", sum := "ffa6d6a42f8823151cc268d18bfab492ad175898cd90cc1772d9bd9fceea0e63", func := "loop.example/countedchances/laws.FnExactFallCounts", spec := "fnExactFallCounts", apart := false }
def FnExactFallCountsSaid : Prop := fnExactFallCountsRow.holds Try.pinned (OpenSpec.ofChange fnExactFallCountsSpec)

/-- ITS FALSE NEIGHBOUR: 'it returns false'. Refute it at one input. -/
def fnExactFallCountsWrong : ChangeSpec := { name := "fnExactFallCounts", fn := fun _ => fun
  | [d] => { results := [.lit (.bool false)], args := [d] }
  | _ => none }
def FnExactFallCountsWrongFalsely : Prop := fnExactFallCountsRow.holds Try.pinned (OpenSpec.ofChange fnExactFallCountsWrong)

/-- 'laws.FnExactWinCounts': WHATEVER THE INPUT: true; the input reads as it did. -/
def fnExactWinCountsSpec : ChangeSpec := { name := "fnExactWinCounts", fn := fun _ => fun
  | [d1, d2] => { results := [.lit (.bool true)], args := [d1, d2] }
  | _ => none }
def fnExactWinCountsRow : OpenClaim := { program := "ytdcjmhajbdbpmaa", sum := "ffa6d6a42f8823151cc268d18bfab492ad175898cd90cc1772d9bd9fceea0e63", func := "loop.example/countedchances/laws.FnExactWinCounts", spec := "fnExactWinCounts", unfollowed := true, recurses := true, apart := false }
def FnExactWinCountsSaid : Prop := fnExactWinCountsRow.holds Try.pinned (OpenSpec.ofChange fnExactWinCountsSpec)

/-- ITS FALSE NEIGHBOUR: 'it returns false'. Refute it at one input. -/
def fnExactWinCountsWrong : ChangeSpec := { name := "fnExactWinCounts", fn := fun _ => fun
  | [d1, d2] => { results := [.lit (.bool false)], args := [d1, d2] }
  | _ => none }
def FnExactWinCountsWrongFalsely : Prop := fnExactWinCountsRow.holds Try.pinned (OpenSpec.ofChange fnExactWinCountsWrong)

/-- 'laws.FnExactTailChance': WHATEVER THE INPUT: true; the input reads as it did. -/
def fnExactTailChanceSpec : ChangeSpec := { name := "fnExactTailChance", fn := fun _ => fun
  | [d1, d2, d3, d4] => { results := [.lit (.bool true)], args := [d1, d2, d3, d4] }
  | _ => none }
def fnExactTailChanceRow : OpenClaim := { program := "ytdcjmhajbdbpmaa", sum := "ffa6d6a42f8823151cc268d18bfab492ad175898cd90cc1772d9bd9fceea0e63", func := "loop.example/countedchances/laws.FnExactTailChance", spec := "fnExactTailChance", unfollowed := true, recurses := true, apart := false }
def FnExactTailChanceSaid : Prop := fnExactTailChanceRow.holds Try.pinned (OpenSpec.ofChange fnExactTailChanceSpec)

/-- ITS FALSE NEIGHBOUR: 'it returns false'. Refute it at one input. -/
def fnExactTailChanceWrong : ChangeSpec := { name := "fnExactTailChance", fn := fun _ => fun
  | [d1, d2, d3, d4] => { results := [.lit (.bool false)], args := [d1, d2, d3, d4] }
  | _ => none }
def FnExactTailChanceWrongFalsely : Prop := fnExactTailChanceRow.holds Try.pinned (OpenSpec.ofChange fnExactTailChanceWrong)

/-- 'laws.FnExactMiddlePlaces': WHATEVER THE INPUT: true; the input reads as it did. -/
def fnExactMiddlePlacesSpec : ChangeSpec := { name := "fnExactMiddlePlaces", fn := fun _ => fun
  | [d1, d2, d3] => { results := [.lit (.bool true)], args := [d1, d2, d3] }
  | _ => none }
def fnExactMiddlePlacesRow : OpenClaim := { program := "ytdcjmhajbdbpmaa", sum := "ffa6d6a42f8823151cc268d18bfab492ad175898cd90cc1772d9bd9fceea0e63", func := "loop.example/countedchances/laws.FnExactMiddlePlaces", spec := "fnExactMiddlePlaces", unfollowed := true, recurses := true, apart := false }
def FnExactMiddlePlacesSaid : Prop := fnExactMiddlePlacesRow.holds Try.pinned (OpenSpec.ofChange fnExactMiddlePlacesSpec)

/-- ITS FALSE NEIGHBOUR: 'it returns false'. Refute it at one input. -/
def fnExactMiddlePlacesWrong : ChangeSpec := { name := "fnExactMiddlePlaces", fn := fun _ => fun
  | [d1, d2, d3] => { results := [.lit (.bool false)], args := [d1, d2, d3] }
  | _ => none }
def FnExactMiddlePlacesWrongFalsely : Prop := fnExactMiddlePlacesRow.holds Try.pinned (OpenSpec.ofChange fnExactMiddlePlacesWrong)

/-- 'laws.FnExactFourWays': WHATEVER THE INPUT: true; the input reads as it did. -/
def fnExactFourWaysSpec : ChangeSpec := { name := "fnExactFourWays", fn := fun _ => fun
  | [d] => { results := [.lit (.bool true)], args := [d] }
  | _ => none }
def fnExactFourWaysRow : OpenClaim := { program := "ytdcjmhajbdbpmaa", sum := "ffa6d6a42f8823151cc268d18bfab492ad175898cd90cc1772d9bd9fceea0e63", func := "loop.example/countedchances/laws.FnExactFourWays", spec := "fnExactFourWays", unfollowed := true, recurses := true, apart := false }
def FnExactFourWaysSaid : Prop := fnExactFourWaysRow.holds Try.pinned (OpenSpec.ofChange fnExactFourWaysSpec)

/-- ITS FALSE NEIGHBOUR: 'it returns false'. Refute it at one input. -/
def fnExactFourWaysWrong : ChangeSpec := { name := "fnExactFourWays", fn := fun _ => fun
  | [d] => { results := [.lit (.bool false)], args := [d] }
  | _ => none }
def FnExactFourWaysWrongFalsely : Prop := fnExactFourWaysRow.holds Try.pinned (OpenSpec.ofChange fnExactFourWaysWrong)

/- THE SECOND FORM. 'bulk': how many values and letters a reading holds, each counted each time it is reached (what is shared counts as often as it is met; a slice's spare places count too). A statement '..UptoSaid' is the law's where the arguments, and the package variables that the reading takes, are together of bulk at most 1048576: NARROWER than '..Said'. Prove '..Said' where nothing that the law and all that it calls make is longer than what came in: it says more and counts as full. Else prove '..UptoSaid'. A law counts once. -/
mutual
def uptoBulk {H : Type} : DataW H → Nat
  | .lit (.string bytes) => bytes.length + 1
  | .lit _ => 1
  | .nil => 1
  | .ptr d => uptoBulk d + 1
  | .slice elems spare => uptoBulkAll elems + uptoBulkAll spare + 1
  | .agg parts => uptoBulkAll parts + 1
  | .iface _ d => uptoBulk d + 1
  | .map entries => uptoBulkEntries entries + 1
  | .held _ => 1
def uptoBulkAll {H : Type} : List (DataW H) → Nat
  | [] => 0
  | d :: r => uptoBulk d + uptoBulkAll r
def uptoBulkEntries {H : Type} : List (Lit × DataW H) → Nat
  | [] => 0
  | x :: r => uptoBulkEntry x + uptoBulkEntries r
def uptoBulkEntry {H : Type} : Lit × DataW H → Nat
  | (.string bytes, d) => bytes.length + uptoBulk d + 1
  | (_, d) => uptoBulk d + 1
 end
def uptoSmall : (H : Type) → List (DataW H) → Bool := fun _ ds => decide (uptoBulkAll ds ≤ 1048576)
def OpenSpec.upto (s : _root_.Go.ChangeSpec) : _root_.Go.OpenSpec := { _root_.Go.OpenSpec.ofChange s with cond := some uptoSmall }

/-- 'laws.FnExactConstants', WHERE WHAT IT READS IS OF BULK AT MOST 1048576: true; the input reads as it did. -/
def fnExactConstantsUptoRow : OpenClaim := { program := "ytdcjmhajbdbpmaa", sum := "ffa6d6a42f8823151cc268d18bfab492ad175898cd90cc1772d9bd9fceea0e63", func := "loop.example/countedchances/laws.FnExactConstants", spec := "fnExactConstants", apart := false, narrowed := true }
def FnExactConstantsUptoSaid : Prop := fnExactConstantsUptoRow.holds Try.pinned (OpenSpec.upto fnExactConstantsSpec)

/-- 'laws.FnExactPathsWithin', WHERE WHAT IT READS IS OF BULK AT MOST 1048576: true; the input reads as it did. -/
def fnExactPathsWithinUptoRow : OpenClaim := { program := "ytdcjmhajbdbpmaa", sum := "ffa6d6a42f8823151cc268d18bfab492ad175898cd90cc1772d9bd9fceea0e63", func := "loop.example/countedchances/laws.FnExactPathsWithin", spec := "fnExactPathsWithin", recurses := true, apart := false, narrowed := true }
def FnExactPathsWithinUptoSaid : Prop := fnExactPathsWithinUptoRow.holds Try.pinned (OpenSpec.upto fnExactPathsWithinSpec)

/-- 'laws.FnExactFracOf', WHERE WHAT IT READS IS OF BULK AT MOST 1048576: true; the input reads as it did. -/
def fnExactFracOfUptoRow : OpenClaim := { program := "ytdcjmhajbdbpmaa", sum := "ffa6d6a42f8823151cc268d18bfab492ad175898cd90cc1772d9bd9fceea0e63", func := "loop.example/countedchances/laws.FnExactFracOf", spec := "fnExactFracOf", apart := false, narrowed := true }
def FnExactFracOfUptoSaid : Prop := fnExactFracOfUptoRow.holds Try.pinned (OpenSpec.upto fnExactFracOfSpec)

/-- 'laws.FnExactChangeChance', WHERE WHAT IT READS IS OF BULK AT MOST 1048576: true; the input reads as it did. -/
def fnExactChangeChanceUptoRow : OpenClaim := { program := "ytdcjmhajbdbpmaa", sum := "ffa6d6a42f8823151cc268d18bfab492ad175898cd90cc1772d9bd9fceea0e63", func := "loop.example/countedchances/laws.FnExactChangeChance", spec := "fnExactChangeChance", apart := false, narrowed := true }
def FnExactChangeChanceUptoSaid : Prop := fnExactChangeChanceUptoRow.holds Try.pinned (OpenSpec.upto fnExactChangeChanceSpec)

/-- 'laws.FnExactRunCount', WHERE WHAT IT READS IS OF BULK AT MOST 1048576: true; the input reads as it did. -/
def fnExactRunCountUptoRow : OpenClaim := { program := "ytdcjmhajbdbpmaa", sum := "ffa6d6a42f8823151cc268d18bfab492ad175898cd90cc1772d9bd9fceea0e63", func := "loop.example/countedchances/laws.FnExactRunCount", spec := "fnExactRunCount", unfollowed := true, recurses := true, apart := false, narrowed := true }
def FnExactRunCountUptoSaid : Prop := fnExactRunCountUptoRow.holds Try.pinned (OpenSpec.upto fnExactRunCountSpec)

/-- 'laws.FnExactRankSums', WHERE WHAT IT READS IS OF BULK AT MOST 1048576: true; the input reads as it did. -/
def fnExactRankSumsUptoRow : OpenClaim := { program := "ytdcjmhajbdbpmaa", sum := "ffa6d6a42f8823151cc268d18bfab492ad175898cd90cc1772d9bd9fceea0e63", func := "loop.example/countedchances/laws.FnExactRankSums", spec := "fnExactRankSums", apart := false, narrowed := true }
def FnExactRankSumsUptoSaid : Prop := fnExactRankSumsUptoRow.holds Try.pinned (OpenSpec.upto fnExactRankSumsSpec)

/-- 'laws.FnExactAgreeChance', WHERE WHAT IT READS IS OF BULK AT MOST 1048576: true; the input reads as it did. -/
def fnExactAgreeChanceUptoRow : OpenClaim := { program := "ytdcjmhajbdbpmaa", sum := "ffa6d6a42f8823151cc268d18bfab492ad175898cd90cc1772d9bd9fceea0e63", func := "loop.example/countedchances/laws.FnExactAgreeChance", spec := "fnExactAgreeChance", recurses := true, apart := false, narrowed := true }
def FnExactAgreeChanceUptoSaid : Prop := fnExactAgreeChanceUptoRow.holds Try.pinned (OpenSpec.upto fnExactAgreeChanceSpec)

/-- 'laws.FnExactFallCounts', WHERE WHAT IT READS IS OF BULK AT MOST 1048576: true; the input reads as it did. -/
def fnExactFallCountsUptoRow : OpenClaim := { program := "ytdcjmhajbdbpmaa", sum := "ffa6d6a42f8823151cc268d18bfab492ad175898cd90cc1772d9bd9fceea0e63", func := "loop.example/countedchances/laws.FnExactFallCounts", spec := "fnExactFallCounts", apart := false, narrowed := true }
def FnExactFallCountsUptoSaid : Prop := fnExactFallCountsUptoRow.holds Try.pinned (OpenSpec.upto fnExactFallCountsSpec)

/-- 'laws.FnExactWinCounts', WHERE WHAT IT READS IS OF BULK AT MOST 1048576: true; the input reads as it did. -/
def fnExactWinCountsUptoRow : OpenClaim := { program := "ytdcjmhajbdbpmaa", sum := "ffa6d6a42f8823151cc268d18bfab492ad175898cd90cc1772d9bd9fceea0e63", func := "loop.example/countedchances/laws.FnExactWinCounts", spec := "fnExactWinCounts", unfollowed := true, recurses := true, apart := false, narrowed := true }
def FnExactWinCountsUptoSaid : Prop := fnExactWinCountsUptoRow.holds Try.pinned (OpenSpec.upto fnExactWinCountsSpec)

/-- 'laws.FnExactTailChance', WHERE WHAT IT READS IS OF BULK AT MOST 1048576: true; the input reads as it did. -/
def fnExactTailChanceUptoRow : OpenClaim := { program := "ytdcjmhajbdbpmaa", sum := "ffa6d6a42f8823151cc268d18bfab492ad175898cd90cc1772d9bd9fceea0e63", func := "loop.example/countedchances/laws.FnExactTailChance", spec := "fnExactTailChance", unfollowed := true, recurses := true, apart := false, narrowed := true }
def FnExactTailChanceUptoSaid : Prop := fnExactTailChanceUptoRow.holds Try.pinned (OpenSpec.upto fnExactTailChanceSpec)

/-- 'laws.FnExactMiddlePlaces', WHERE WHAT IT READS IS OF BULK AT MOST 1048576: true; the input reads as it did. -/
def fnExactMiddlePlacesUptoRow : OpenClaim := { program := "ytdcjmhajbdbpmaa", sum := "ffa6d6a42f8823151cc268d18bfab492ad175898cd90cc1772d9bd9fceea0e63", func := "loop.example/countedchances/laws.FnExactMiddlePlaces", spec := "fnExactMiddlePlaces", unfollowed := true, recurses := true, apart := false, narrowed := true }
def FnExactMiddlePlacesUptoSaid : Prop := fnExactMiddlePlacesUptoRow.holds Try.pinned (OpenSpec.upto fnExactMiddlePlacesSpec)

/-- 'laws.FnExactFourWays', WHERE WHAT IT READS IS OF BULK AT MOST 1048576: true; the input reads as it did. -/
def fnExactFourWaysUptoRow : OpenClaim := { program := "ytdcjmhajbdbpmaa", sum := "ffa6d6a42f8823151cc268d18bfab492ad175898cd90cc1772d9bd9fceea0e63", func := "loop.example/countedchances/laws.FnExactFourWays", spec := "fnExactFourWays", unfollowed := true, recurses := true, apart := false, narrowed := true }
def FnExactFourWaysUptoSaid : Prop := fnExactFourWaysUptoRow.holds Try.pinned (OpenSpec.upto fnExactFourWaysSpec)

end Rows
end Go.Proofs.Ytdcjmhajbdbpmaa
