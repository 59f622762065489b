/-
  No cell of these rows narrows 'for every input' (looked for: loops, veiled, ifaces, maps, wideKeys, modest, calm, conditions, laid).
  DERIVED. THE GIVEN ROWS OF THIS SEAT. 12 by the template 'for every input the law returns true; each argument reads behind the call as it read before'; 0 by the template 'total and deterministic' (their statements: YtfjofnmdmdejpaaTotals.lean).
  GIVEN WITH THE SEED: the statements are not yours to turn. If you find one false, say at which input.
  Laid BY PROGRAM, IN A SANDBOX (cutbox-rows.mjs): the forced cells as the released guide's own fill.sh prints them over the translation 7a906878de1d9871… (all of the seat's roots in one cut). By AI agents, Wed Nov 11 2026. No macro, syntax, notation, axiom, sorry.
-/
import Derived.Test.YtfjofnmdmdejpaaChecked
import GoSem.Claim
import GoSem.ClaimJoined
import GoSem.ClaimMapViews
import Derived.JoinedTies
import Derived.KernelRfl
namespace Go.Proofs.Ytfjofnmdmdejpaa
/- THE CELL 'sum', in the pinned program and in every row, IS THE sha256 OF THE DUMP (.gsa) THAT YtfjofnmdmdejpaaProg.lean LOADS. Nothing in Lean hashes anything: it is a label: what it is worth is what the hold of that sum in a sandbox is worth. -/
noncomputable def Try.pinned : Pinned := { name := "ytfjofnmdmdejpaa", sum := "7a906878de1d9871bc5b292117b29f5f95b9a00be2083c996819da8d9ec58378", checked := Try.checked }
namespace Rows
def none {H : Type} : Left H := { results := [], args := [] }

/-- 'laws.FnExactCountFullCycles': WHATEVER THE INPUT: true; the input reads as it did. -/
def fnExactCountFullCyclesSpec : ChangeSpec := { name := "fnExactCountFullCycles", fn := fun _ => fun
  | [d] => { results := [.lit (.bool true)], args := [d] }
  | _ => none }
def fnExactCountFullCyclesRow : OpenClaim := { program := "ytfjofnmdmdejpaa", sum := "7a906878de1d9871bc5b292117b29f5f95b9a00be2083c996819da8d9ec58378", func := "loop.example/g03205/laws.FnExactCountFullCycles", spec := "fnExactCountFullCycles", unfollowed := true, recurses := true, apart := false }
def FnExactCountFullCyclesSaid : Prop := fnExactCountFullCyclesRow.holds Try.pinned (OpenSpec.ofChange fnExactCountFullCyclesSpec)

/-- ITS FALSE NEIGHBOUR: 'it returns false'. Refute it at one input. -/
def fnExactCountFullCyclesWrong : ChangeSpec := { name := "fnExactCountFullCycles", fn := fun _ => fun
  | [d] => { results := [.lit (.bool false)], args := [d] }
  | _ => none }
def FnExactCountFullCyclesWrongFalsely : Prop := fnExactCountFullCyclesRow.holds Try.pinned (OpenSpec.ofChange fnExactCountFullCyclesWrong)

/-- 'laws.FnExactCountFullWays': WHATEVER THE INPUT: true; the input reads as it did. -/
def fnExactCountFullWaysSpec : ChangeSpec := { name := "fnExactCountFullWays", fn := fun _ => fun
  | [d] => { results := [.lit (.bool true)], args := [d] }
  | _ => none }
def fnExactCountFullWaysRow : OpenClaim := { program := "ytfjofnmdmdejpaa", sum := "7a906878de1d9871bc5b292117b29f5f95b9a00be2083c996819da8d9ec58378", func := "loop.example/g03205/laws.FnExactCountFullWays", spec := "fnExactCountFullWays", unfollowed := true, recurses := true, apart := false }
def FnExactCountFullWaysSaid : Prop := fnExactCountFullWaysRow.holds Try.pinned (OpenSpec.ofChange fnExactCountFullWaysSpec)

/-- ITS FALSE NEIGHBOUR: 'it returns false'. Refute it at one input. -/
def fnExactCountFullWaysWrong : ChangeSpec := { name := "fnExactCountFullWays", fn := fun _ => fun
  | [d] => { results := [.lit (.bool false)], args := [d] }
  | _ => none }
def FnExactCountFullWaysWrongFalsely : Prop := fnExactCountFullWaysRow.holds Try.pinned (OpenSpec.ofChange fnExactCountFullWaysWrong)

/-- 'laws.FnExactCountReversals': WHATEVER THE INPUT: true; the input reads as it did. -/
def fnExactCountReversalsSpec : ChangeSpec := { name := "fnExactCountReversals", fn := fun _ => fun
  | [d1, d2] => { results := [.lit (.bool true)], args := [d1, d2] }
  | _ => none }
def fnExactCountReversalsRow : OpenClaim := { program := "ytfjofnmdmdejpaa", sum := "7a906878de1d9871bc5b292117b29f5f95b9a00be2083c996819da8d9ec58378", func := "loop.example/g03205/laws.FnExactCountReversals", spec := "fnExactCountReversals", unfollowed := true, recurses := true, apart := false }
def FnExactCountReversalsSaid : Prop := fnExactCountReversalsRow.holds Try.pinned (OpenSpec.ofChange fnExactCountReversalsSpec)

/-- ITS FALSE NEIGHBOUR: 'it returns false'. Refute it at one input. -/
def fnExactCountReversalsWrong : ChangeSpec := { name := "fnExactCountReversals", fn := fun _ => fun
  | [d1, d2] => { results := [.lit (.bool false)], args := [d1, d2] }
  | _ => none }
def FnExactCountReversalsWrongFalsely : Prop := fnExactCountReversalsRow.holds Try.pinned (OpenSpec.ofChange fnExactCountReversalsWrong)

/-- 'laws.FnExactSumOfSquares': WHATEVER THE INPUT: true; the input reads as it did. -/
def fnExactSumOfSquaresSpec : ChangeSpec := { name := "fnExactSumOfSquares", fn := fun _ => fun
  | [d] => { results := [.lit (.bool true)], args := [d] }
  | _ => none }
def fnExactSumOfSquaresRow : OpenClaim := { program := "ytfjofnmdmdejpaa", sum := "7a906878de1d9871bc5b292117b29f5f95b9a00be2083c996819da8d9ec58378", func := "loop.example/g03205/laws.FnExactSumOfSquares", spec := "fnExactSumOfSquares", unfollowed := true, recurses := true, apart := false }
def FnExactSumOfSquaresSaid : Prop := fnExactSumOfSquaresRow.holds Try.pinned (OpenSpec.ofChange fnExactSumOfSquaresSpec)

/-- ITS FALSE NEIGHBOUR: 'it returns false'. Refute it at one input. -/
def fnExactSumOfSquaresWrong : ChangeSpec := { name := "fnExactSumOfSquares", fn := fun _ => fun
  | [d] => { results := [.lit (.bool false)], args := [d] }
  | _ => none }
def FnExactSumOfSquaresWrongFalsely : Prop := fnExactSumOfSquaresRow.holds Try.pinned (OpenSpec.ofChange fnExactSumOfSquaresWrong)

/-- 'laws.FnExactSovereignOf': WHATEVER THE INPUT: true; the input reads as it did. -/
def fnExactSovereignOfSpec : ChangeSpec := { name := "fnExactSovereignOf", fn := fun _ => fun
  | [d] => { results := [.lit (.bool true)], args := [d] }
  | _ => none }
def fnExactSovereignOfRow : OpenClaim := { program := "ytfjofnmdmdejpaa", sum := "7a906878de1d9871bc5b292117b29f5f95b9a00be2083c996819da8d9ec58378", func := "loop.example/g03205/laws.FnExactSovereignOf", spec := "fnExactSovereignOf", unfollowed := true, recurses := true, apart := false }
def FnExactSovereignOfSaid : Prop := fnExactSovereignOfRow.holds Try.pinned (OpenSpec.ofChange fnExactSovereignOfSpec)

/-- ITS FALSE NEIGHBOUR: 'it returns false'. Refute it at one input. -/
def fnExactSovereignOfWrong : ChangeSpec := { name := "fnExactSovereignOf", fn := fun _ => fun
  | [d] => { results := [.lit (.bool false)], args := [d] }
  | _ => none }
def FnExactSovereignOfWrongFalsely : Prop := fnExactSovereignOfRow.holds Try.pinned (OpenSpec.ofChange fnExactSovereignOfWrong)

/-- 'laws.FnExactPartTour': WHATEVER THE INPUT: true; the input reads as it did. -/
def fnExactPartTourSpec : ChangeSpec := { name := "fnExactPartTour", fn := fun _ => fun
  | [d1, d2] => { results := [.lit (.bool true)], args := [d1, d2] }
  | _ => none }
def fnExactPartTourRow : OpenClaim := { program := "ytfjofnmdmdejpaa", sum := "7a906878de1d9871bc5b292117b29f5f95b9a00be2083c996819da8d9ec58378", func := "loop.example/g03205/laws.FnExactPartTour", spec := "fnExactPartTour", unfollowed := true, recurses := true, apart := false }
def FnExactPartTourSaid : Prop := fnExactPartTourRow.holds Try.pinned (OpenSpec.ofChange fnExactPartTourSpec)

/-- ITS FALSE NEIGHBOUR: 'it returns false'. Refute it at one input. -/
def fnExactPartTourWrong : ChangeSpec := { name := "fnExactPartTour", fn := fun _ => fun
  | [d1, d2] => { results := [.lit (.bool false)], args := [d1, d2] }
  | _ => none }
def FnExactPartTourWrongFalsely : Prop := fnExactPartTourRow.holds Try.pinned (OpenSpec.ofChange fnExactPartTourWrong)

/-- 'laws.FnExactCountKings': WHATEVER THE INPUT: true; the input reads as it did. -/
def fnExactCountKingsSpec : ChangeSpec := { name := "fnExactCountKings", fn := fun _ => fun
  | [d1, d2] => { results := [.lit (.bool true)], args := [d1, d2] }
  | _ => none }
def fnExactCountKingsRow : OpenClaim := { program := "ytfjofnmdmdejpaa", sum := "7a906878de1d9871bc5b292117b29f5f95b9a00be2083c996819da8d9ec58378", func := "loop.example/g03205/laws.FnExactCountKings", spec := "fnExactCountKings", unfollowed := true, recurses := true, apart := false }
def FnExactCountKingsSaid : Prop := fnExactCountKingsRow.holds Try.pinned (OpenSpec.ofChange fnExactCountKingsSpec)

/-- ITS FALSE NEIGHBOUR: 'it returns false'. Refute it at one input. -/
def fnExactCountKingsWrong : ChangeSpec := { name := "fnExactCountKings", fn := fun _ => fun
  | [d1, d2] => { results := [.lit (.bool false)], args := [d1, d2] }
  | _ => none }
def FnExactCountKingsWrongFalsely : Prop := fnExactCountKingsRow.holds Try.pinned (OpenSpec.ofChange fnExactCountKingsWrong)

/-- 'laws.FnExactCountTriangles': WHATEVER THE INPUT: true; the input reads as it did. -/
def fnExactCountTrianglesSpec : ChangeSpec := { name := "fnExactCountTriangles", fn := fun _ => fun
  | [d] => { results := [.lit (.bool true)], args := [d] }
  | _ => none }
def fnExactCountTrianglesRow : OpenClaim := { program := "ytfjofnmdmdejpaa", sum := "7a906878de1d9871bc5b292117b29f5f95b9a00be2083c996819da8d9ec58378", func := "loop.example/g03205/laws.FnExactCountTriangles", spec := "fnExactCountTriangles", unfollowed := true, recurses := true, apart := false }
def FnExactCountTrianglesSaid : Prop := fnExactCountTrianglesRow.holds Try.pinned (OpenSpec.ofChange fnExactCountTrianglesSpec)

/-- ITS FALSE NEIGHBOUR: 'it returns false'. Refute it at one input. -/
def fnExactCountTrianglesWrong : ChangeSpec := { name := "fnExactCountTriangles", fn := fun _ => fun
  | [d] => { results := [.lit (.bool false)], args := [d] }
  | _ => none }
def FnExactCountTrianglesWrongFalsely : Prop := fnExactCountTrianglesRow.holds Try.pinned (OpenSpec.ofChange fnExactCountTrianglesWrong)

/-- 'laws.FnExactReverseTriangle': WHATEVER THE INPUT: true; the input reads as it did. -/
def fnExactReverseTriangleSpec : ChangeSpec := { name := "fnExactReverseTriangle", fn := fun _ => fun
  | [d1, d2] => { results := [.lit (.bool true)], args := [d1, d2] }
  | _ => none }
def fnExactReverseTriangleRow : OpenClaim := { program := "ytfjofnmdmdejpaa", sum := "7a906878de1d9871bc5b292117b29f5f95b9a00be2083c996819da8d9ec58378", func := "loop.example/g03205/laws.FnExactReverseTriangle", spec := "fnExactReverseTriangle", unfollowed := true, recurses := true, apart := false }
def FnExactReverseTriangleSaid : Prop := fnExactReverseTriangleRow.holds Try.pinned (OpenSpec.ofChange fnExactReverseTriangleSpec)

/-- ITS FALSE NEIGHBOUR: 'it returns false'. Refute it at one input. -/
def fnExactReverseTriangleWrong : ChangeSpec := { name := "fnExactReverseTriangle", fn := fun _ => fun
  | [d1, d2] => { results := [.lit (.bool false)], args := [d1, d2] }
  | _ => none }
def FnExactReverseTriangleWrongFalsely : Prop := fnExactReverseTriangleRow.holds Try.pinned (OpenSpec.ofChange fnExactReverseTriangleWrong)

/-- 'laws.FnExactScoresOf': WHATEVER THE INPUT: true; the input reads as it did. -/
def fnExactScoresOfSpec : ChangeSpec := { name := "fnExactScoresOf", fn := fun _ => fun
  | [d] => { results := [.lit (.bool true)], args := [d] }
  | _ => none }
def fnExactScoresOfRow : OpenClaim := { program := "ytfjofnmdmdejpaa", sum := "7a906878de1d9871bc5b292117b29f5f95b9a00be2083c996819da8d9ec58378", func := "loop.example/g03205/laws.FnExactScoresOf", spec := "fnExactScoresOf", unfollowed := true, recurses := true, apart := false }
def FnExactScoresOfSaid : Prop := fnExactScoresOfRow.holds Try.pinned (OpenSpec.ofChange fnExactScoresOfSpec)

/-- ITS FALSE NEIGHBOUR: 'it returns false'. Refute it at one input. -/
def fnExactScoresOfWrong : ChangeSpec := { name := "fnExactScoresOf", fn := fun _ => fun
  | [d] => { results := [.lit (.bool false)], args := [d] }
  | _ => none }
def FnExactScoresOfWrongFalsely : Prop := fnExactScoresOfRow.holds Try.pinned (OpenSpec.ofChange fnExactScoresOfWrong)

/-- 'laws.FnExactTrianglesOf': WHATEVER THE INPUT: true; the input reads as it did. -/
def fnExactTrianglesOfSpec : ChangeSpec := { name := "fnExactTrianglesOf", fn := fun _ => fun
  | [d] => { results := [.lit (.bool true)], args := [d] }
  | _ => none }
def fnExactTrianglesOfRow : OpenClaim := { program := "ytfjofnmdmdejpaa", sum := "7a906878de1d9871bc5b292117b29f5f95b9a00be2083c996819da8d9ec58378", func := "loop.example/g03205/laws.FnExactTrianglesOf", spec := "fnExactTrianglesOf", unfollowed := true, recurses := true, apart := false }
def FnExactTrianglesOfSaid : Prop := fnExactTrianglesOfRow.holds Try.pinned (OpenSpec.ofChange fnExactTrianglesOfSpec)

/-- ITS FALSE NEIGHBOUR: 'it returns false'. Refute it at one input. -/
def fnExactTrianglesOfWrong : ChangeSpec := { name := "fnExactTrianglesOf", fn := fun _ => fun
  | [d] => { results := [.lit (.bool false)], args := [d] }
  | _ => none }
def FnExactTrianglesOfWrongFalsely : Prop := fnExactTrianglesOfRow.holds Try.pinned (OpenSpec.ofChange fnExactTrianglesOfWrong)

/-- 'laws.FnExactRenameTour': WHATEVER THE INPUT: true; the input reads as it did. -/
def fnExactRenameTourSpec : ChangeSpec := { name := "fnExactRenameTour", fn := fun _ => fun
  | [d1, d2] => { results := [.lit (.bool true)], args := [d1, d2] }
  | _ => none }
def fnExactRenameTourRow : OpenClaim := { program := "ytfjofnmdmdejpaa", sum := "7a906878de1d9871bc5b292117b29f5f95b9a00be2083c996819da8d9ec58378", func := "loop.example/g03205/laws.FnExactRenameTour", spec := "fnExactRenameTour", unfollowed := true, recurses := true, apart := false }
def FnExactRenameTourSaid : Prop := fnExactRenameTourRow.holds Try.pinned (OpenSpec.ofChange fnExactRenameTourSpec)

/-- ITS FALSE NEIGHBOUR: 'it returns false'. Refute it at one input. -/
def fnExactRenameTourWrong : ChangeSpec := { name := "fnExactRenameTour", fn := fun _ => fun
  | [d1, d2] => { results := [.lit (.bool false)], args := [d1, d2] }
  | _ => none }
def FnExactRenameTourWrongFalsely : Prop := fnExactRenameTourRow.holds Try.pinned (OpenSpec.ofChange fnExactRenameTourWrong)

/- THE SECOND FORM. 'bulk': how many values and letters a reading holds, each counted each time it is reached (what is shared counts as often as it is met; a slice's spare places count too). A statement '..UptoSaid' is the law's where the arguments, and the package variables that the reading takes, are together of bulk at most 1048576: NARROWER than '..Said'. Prove '..Said' where nothing that the law and all that it calls make is longer than what came in: it says more and counts as full. Else prove '..UptoSaid'. A law counts once. -/
mutual
def uptoBulk {H : Type} : DataW H → Nat
  | .lit (.string bytes) => bytes.length + 1
  | .lit _ => 1
  | .nil => 1
  | .ptr d => uptoBulk d + 1
  | .slice elems spare => uptoBulkAll elems + uptoBulkAll spare + 1
  | .agg parts => uptoBulkAll parts + 1
  | .iface _ d => uptoBulk d + 1
  | .map entries => uptoBulkEntries entries + 1
  | .held _ => 1
def uptoBulkAll {H : Type} : List (DataW H) → Nat
  | [] => 0
  | d :: r => uptoBulk d + uptoBulkAll r
def uptoBulkEntries {H : Type} : List (Lit × DataW H) → Nat
  | [] => 0
  | x :: r => uptoBulkEntry x + uptoBulkEntries r
def uptoBulkEntry {H : Type} : Lit × DataW H → Nat
  | (.string bytes, d) => bytes.length + uptoBulk d + 1
  | (_, d) => uptoBulk d + 1
 end
def uptoSmall : (H : Type) → List (DataW H) → Bool := fun _ ds => decide (uptoBulkAll ds ≤ 1048576)
def OpenSpec.upto (s : _root_.Go.ChangeSpec) : _root_.Go.OpenSpec := { _root_.Go.OpenSpec.ofChange s with cond := some uptoSmall }

/-- 'laws.FnExactCountFullCycles', WHERE WHAT IT READS IS OF BULK AT MOST 1048576: true; the input reads as it did. -/
def fnExactCountFullCyclesUptoRow : OpenClaim := { program := "ytfjofnmdmdejpaa", sum := "7a906878de1d9871bc5b292117b29f5f95b9a00be2083c996819da8d9ec58378", func := "loop.example/g03205/laws.FnExactCountFullCycles", spec := "fnExactCountFullCycles", unfollowed := true, recurses := true, apart := false, narrowed := true }
def FnExactCountFullCyclesUptoSaid : Prop := fnExactCountFullCyclesUptoRow.holds Try.pinned (OpenSpec.upto fnExactCountFullCyclesSpec)

/-- 'laws.FnExactCountFullWays', WHERE WHAT IT READS IS OF BULK AT MOST 1048576: true; the input reads as it did. -/
def fnExactCountFullWaysUptoRow : OpenClaim := { program := "ytfjofnmdmdejpaa", sum := "7a906878de1d9871bc5b292117b29f5f95b9a00be2083c996819da8d9ec58378", func := "loop.example/g03205/laws.FnExactCountFullWays", spec := "fnExactCountFullWays", unfollowed := true, recurses := true, apart := false, narrowed := true }
def FnExactCountFullWaysUptoSaid : Prop := fnExactCountFullWaysUptoRow.holds Try.pinned (OpenSpec.upto fnExactCountFullWaysSpec)

/-- 'laws.FnExactCountReversals', WHERE WHAT IT READS IS OF BULK AT MOST 1048576: true; the input reads as it did. -/
def fnExactCountReversalsUptoRow : OpenClaim := { program := "ytfjofnmdmdejpaa", sum := "7a906878de1d9871bc5b292117b29f5f95b9a00be2083c996819da8d9ec58378", func := "loop.example/g03205/laws.FnExactCountReversals", spec := "fnExactCountReversals", unfollowed := true, recurses := true, apart := false, narrowed := true }
def FnExactCountReversalsUptoSaid : Prop := fnExactCountReversalsUptoRow.holds Try.pinned (OpenSpec.upto fnExactCountReversalsSpec)

/-- 'laws.FnExactSumOfSquares', WHERE WHAT IT READS IS OF BULK AT MOST 1048576: true; the input reads as it did. -/
def fnExactSumOfSquaresUptoRow : OpenClaim := { program := "ytfjofnmdmdejpaa", sum := "7a906878de1d9871bc5b292117b29f5f95b9a00be2083c996819da8d9ec58378", func := "loop.example/g03205/laws.FnExactSumOfSquares", spec := "fnExactSumOfSquares", unfollowed := true, recurses := true, apart := false, narrowed := true }
def FnExactSumOfSquaresUptoSaid : Prop := fnExactSumOfSquaresUptoRow.holds Try.pinned (OpenSpec.upto fnExactSumOfSquaresSpec)

/-- 'laws.FnExactSovereignOf', WHERE WHAT IT READS IS OF BULK AT MOST 1048576: true; the input reads as it did. -/
def fnExactSovereignOfUptoRow : OpenClaim := { program := "ytfjofnmdmdejpaa", sum := "7a906878de1d9871bc5b292117b29f5f95b9a00be2083c996819da8d9ec58378", func := "loop.example/g03205/laws.FnExactSovereignOf", spec := "fnExactSovereignOf", unfollowed := true, recurses := true, apart := false, narrowed := true }
def FnExactSovereignOfUptoSaid : Prop := fnExactSovereignOfUptoRow.holds Try.pinned (OpenSpec.upto fnExactSovereignOfSpec)

/-- 'laws.FnExactPartTour', WHERE WHAT IT READS IS OF BULK AT MOST 1048576: true; the input reads as it did. -/
def fnExactPartTourUptoRow : OpenClaim := { program := "ytfjofnmdmdejpaa", sum := "7a906878de1d9871bc5b292117b29f5f95b9a00be2083c996819da8d9ec58378", func := "loop.example/g03205/laws.FnExactPartTour", spec := "fnExactPartTour", unfollowed := true, recurses := true, apart := false, narrowed := true }
def FnExactPartTourUptoSaid : Prop := fnExactPartTourUptoRow.holds Try.pinned (OpenSpec.upto fnExactPartTourSpec)

/-- 'laws.FnExactCountKings', WHERE WHAT IT READS IS OF BULK AT MOST 1048576: true; the input reads as it did. -/
def fnExactCountKingsUptoRow : OpenClaim := { program := "ytfjofnmdmdejpaa", sum := "7a906878de1d9871bc5b292117b29f5f95b9a00be2083c996819da8d9ec58378", func := "loop.example/g03205/laws.FnExactCountKings", spec := "fnExactCountKings", unfollowed := true, recurses := true, apart := false, narrowed := true }
def FnExactCountKingsUptoSaid : Prop := fnExactCountKingsUptoRow.holds Try.pinned (OpenSpec.upto fnExactCountKingsSpec)

/-- 'laws.FnExactCountTriangles', WHERE WHAT IT READS IS OF BULK AT MOST 1048576: true; the input reads as it did. -/
def fnExactCountTrianglesUptoRow : OpenClaim := { program := "ytfjofnmdmdejpaa", sum := "7a906878de1d9871bc5b292117b29f5f95b9a00be2083c996819da8d9ec58378", func := "loop.example/g03205/laws.FnExactCountTriangles", spec := "fnExactCountTriangles", unfollowed := true, recurses := true, apart := false, narrowed := true }
def FnExactCountTrianglesUptoSaid : Prop := fnExactCountTrianglesUptoRow.holds Try.pinned (OpenSpec.upto fnExactCountTrianglesSpec)

/-- 'laws.FnExactReverseTriangle', WHERE WHAT IT READS IS OF BULK AT MOST 1048576: true; the input reads as it did. -/
def fnExactReverseTriangleUptoRow : OpenClaim := { program := "ytfjofnmdmdejpaa", sum := "7a906878de1d9871bc5b292117b29f5f95b9a00be2083c996819da8d9ec58378", func := "loop.example/g03205/laws.FnExactReverseTriangle", spec := "fnExactReverseTriangle", unfollowed := true, recurses := true, apart := false, narrowed := true }
def FnExactReverseTriangleUptoSaid : Prop := fnExactReverseTriangleUptoRow.holds Try.pinned (OpenSpec.upto fnExactReverseTriangleSpec)

/-- 'laws.FnExactScoresOf', WHERE WHAT IT READS IS OF BULK AT MOST 1048576: true; the input reads as it did. -/
def fnExactScoresOfUptoRow : OpenClaim := { program := "ytfjofnmdmdejpaa", sum := "7a906878de1d9871bc5b292117b29f5f95b9a00be2083c996819da8d9ec58378", func := "loop.example/g03205/laws.FnExactScoresOf", spec := "fnExactScoresOf", unfollowed := true, recurses := true, apart := false, narrowed := true }
def FnExactScoresOfUptoSaid : Prop := fnExactScoresOfUptoRow.holds Try.pinned (OpenSpec.upto fnExactScoresOfSpec)

/-- 'laws.FnExactTrianglesOf', WHERE WHAT IT READS IS OF BULK AT MOST 1048576: true; the input reads as it did. -/
def fnExactTrianglesOfUptoRow : OpenClaim := { program := "ytfjofnmdmdejpaa", sum := "7a906878de1d9871bc5b292117b29f5f95b9a00be2083c996819da8d9ec58378", func := "loop.example/g03205/laws.FnExactTrianglesOf", spec := "fnExactTrianglesOf", unfollowed := true, recurses := true, apart := false, narrowed := true }
def FnExactTrianglesOfUptoSaid : Prop := fnExactTrianglesOfUptoRow.holds Try.pinned (OpenSpec.upto fnExactTrianglesOfSpec)

/-- 'laws.FnExactRenameTour', WHERE WHAT IT READS IS OF BULK AT MOST 1048576: true; the input reads as it did. -/
def fnExactRenameTourUptoRow : OpenClaim := { program := "ytfjofnmdmdejpaa", sum := "7a906878de1d9871bc5b292117b29f5f95b9a00be2083c996819da8d9ec58378", func := "loop.example/g03205/laws.FnExactRenameTour", spec := "fnExactRenameTour", unfollowed := true, recurses := true, apart := false, narrowed := true }
def FnExactRenameTourUptoSaid : Prop := fnExactRenameTourUptoRow.holds Try.pinned (OpenSpec.upto fnExactRenameTourSpec)

end Rows
end Go.Proofs.Ytfjofnmdmdejpaa
