/-
  No cell of these rows narrows 'for every input' (looked for: loops, veiled, ifaces, maps, wideKeys, modest, calm, conditions, laid).
  DERIVED. THE GIVEN ROWS OF THIS SEAT. 12 by the template 'for every input the law returns true; each argument reads behind the call as it read before'; 0 by the template 'total and deterministic' (their statements: YtbgcpobomafiaaaTotals.lean).
  GIVEN WITH THE SEED: the statements are not yours to turn. If you find one false, say at which input.
  Laid BY PROGRAM, IN A SANDBOX (cutbox-rows.mjs): the forced cells as the released guide's own fill.sh prints them over the translation bdf2689e3e46b0cf… (all of the seat's roots in one cut). By AI agents, Wed Nov 11 2026. No macro, syntax, notation, axiom, sorry.
-/
import Derived.Test.YtbgcpobomafiaaaChecked
import GoSem.Claim
import GoSem.ClaimJoined
import GoSem.ClaimMapViews
import Derived.JoinedTies
import Derived.KernelRfl
namespace Go.Proofs.Ytbgcpobomafiaaa
/- THE CELL 'sum', in the pinned program and in every row, IS THE sha256 OF THE DUMP (.gsa) THAT YtbgcpobomafiaaaProg.lean LOADS. Nothing in Lean hashes anything: it is a label: what it is worth is what the hold of that sum in a sandbox is worth. -/
noncomputable def Try.pinned : Pinned := { name := "ytbgcpobomafiaaa", sum := "bdf2689e3e46b0cff4597d91e381c3787120f83afd7c86cf1e86fd02cabd38f3", checked := Try.checked }
namespace Rows
def none {H : Type} : Left H := { results := [], args := [] }

/-- 'laws.FnExactMostTriangles': WHATEVER THE INPUT: true; the input reads as it did. -/
def fnExactMostTrianglesSpec : ChangeSpec := { name := "fnExactMostTriangles", fn := fun _ => fun
  | [d] => { results := [.lit (.bool true)], args := [d] }
  | _ => none }
def fnExactMostTrianglesRow : OpenClaim := { program := "ytbgcpobomafiaaa", sum := "bdf2689e3e46b0cff4597d91e381c3787120f83afd7c86cf1e86fd02cabd38f3", func := "loop.example/g03205/laws.FnExactMostTriangles", spec := "fnExactMostTriangles", apart := false }
def FnExactMostTrianglesSaid : Prop := fnExactMostTrianglesRow.holds Try.pinned (OpenSpec.ofChange fnExactMostTrianglesSpec)

/-- ITS FALSE NEIGHBOUR: 'it returns false'. Refute it at one input. -/
def fnExactMostTrianglesWrong : ChangeSpec := { name := "fnExactMostTriangles", fn := fun _ => fun
  | [d] => { results := [.lit (.bool false)], args := [d] }
  | _ => none }
def FnExactMostTrianglesWrongFalsely : Prop := fnExactMostTrianglesRow.holds Try.pinned (OpenSpec.ofChange fnExactMostTrianglesWrong)

/-- 'laws.FnExactSlackOf': WHATEVER THE INPUT: true; the input reads as it did. -/
def fnExactSlackOfSpec : ChangeSpec := { name := "fnExactSlackOf", fn := fun _ => fun
  | [d] => { results := [.lit (.bool true)], args := [d] }
  | _ => none }
def fnExactSlackOfRow : OpenClaim := { program := "ytbgcpobomafiaaa", sum := "bdf2689e3e46b0cff4597d91e381c3787120f83afd7c86cf1e86fd02cabd38f3", func := "loop.example/g03205/laws.FnExactSlackOf", spec := "fnExactSlackOf", unfollowed := true, recurses := true, apart := false }
def FnExactSlackOfSaid : Prop := fnExactSlackOfRow.holds Try.pinned (OpenSpec.ofChange fnExactSlackOfSpec)

/-- ITS FALSE NEIGHBOUR: 'it returns false'. Refute it at one input. -/
def fnExactSlackOfWrong : ChangeSpec := { name := "fnExactSlackOf", fn := fun _ => fun
  | [d] => { results := [.lit (.bool false)], args := [d] }
  | _ => none }
def FnExactSlackOfWrongFalsely : Prop := fnExactSlackOfRow.holds Try.pinned (OpenSpec.ofChange fnExactSlackOfWrong)

/-- 'laws.FnExactIsLandau': WHATEVER THE INPUT: true; the input reads as it did. -/
def fnExactIsLandauSpec : ChangeSpec := { name := "fnExactIsLandau", fn := fun _ => fun
  | [d] => { results := [.lit (.bool true)], args := [d] }
  | _ => none }
def fnExactIsLandauRow : OpenClaim := { program := "ytbgcpobomafiaaa", sum := "bdf2689e3e46b0cff4597d91e381c3787120f83afd7c86cf1e86fd02cabd38f3", func := "loop.example/g03205/laws.FnExactIsLandau", spec := "fnExactIsLandau", unfollowed := true, recurses := true, apart := false }
def FnExactIsLandauSaid : Prop := fnExactIsLandauRow.holds Try.pinned (OpenSpec.ofChange fnExactIsLandauSpec)

/-- ITS FALSE NEIGHBOUR: 'it returns false'. Refute it at one input. -/
def fnExactIsLandauWrong : ChangeSpec := { name := "fnExactIsLandau", fn := fun _ => fun
  | [d] => { results := [.lit (.bool false)], args := [d] }
  | _ => none }
def FnExactIsLandauWrongFalsely : Prop := fnExactIsLandauRow.holds Try.pinned (OpenSpec.ofChange fnExactIsLandauWrong)

/-- 'laws.FnExactTourOk': WHATEVER THE INPUT: true; the input reads as it did. -/
def fnExactTourOkSpec : ChangeSpec := { name := "fnExactTourOk", fn := fun _ => fun
  | [d] => { results := [.lit (.bool true)], args := [d] }
  | _ => none }
def fnExactTourOkRow : OpenClaim := { program := "ytbgcpobomafiaaa", sum := "bdf2689e3e46b0cff4597d91e381c3787120f83afd7c86cf1e86fd02cabd38f3", func := "loop.example/g03205/laws.FnExactTourOk", spec := "fnExactTourOk", unfollowed := true, recurses := true, apart := false }
def FnExactTourOkSaid : Prop := fnExactTourOkRow.holds Try.pinned (OpenSpec.ofChange fnExactTourOkSpec)

/-- ITS FALSE NEIGHBOUR: 'it returns false'. Refute it at one input. -/
def fnExactTourOkWrong : ChangeSpec := { name := "fnExactTourOk", fn := fun _ => fun
  | [d] => { results := [.lit (.bool false)], args := [d] }
  | _ => none }
def FnExactTourOkWrongFalsely : Prop := fnExactTourOkRow.holds Try.pinned (OpenSpec.ofChange fnExactTourOkWrong)

/-- 'laws.FnExactCountSequences': WHATEVER THE INPUT: true; the input reads as it did. -/
def fnExactCountSequencesSpec : ChangeSpec := { name := "fnExactCountSequences", fn := fun _ => fun
  | [d] => { results := [.lit (.bool true)], args := [d] }
  | _ => none }
def fnExactCountSequencesRow : OpenClaim := { program := "ytbgcpobomafiaaa", sum := "bdf2689e3e46b0cff4597d91e381c3787120f83afd7c86cf1e86fd02cabd38f3", func := "loop.example/g03205/laws.FnExactCountSequences", spec := "fnExactCountSequences", unfollowed := true, recurses := true, apart := false }
def FnExactCountSequencesSaid : Prop := fnExactCountSequencesRow.holds Try.pinned (OpenSpec.ofChange fnExactCountSequencesSpec)

/-- ITS FALSE NEIGHBOUR: 'it returns false'. Refute it at one input. -/
def fnExactCountSequencesWrong : ChangeSpec := { name := "fnExactCountSequences", fn := fun _ => fun
  | [d] => { results := [.lit (.bool false)], args := [d] }
  | _ => none }
def FnExactCountSequencesWrongFalsely : Prop := fnExactCountSequencesRow.holds Try.pinned (OpenSpec.ofChange fnExactCountSequencesWrong)

/-- 'laws.FnExactIsTriangle': WHATEVER THE INPUT: true; the input reads as it did. -/
def fnExactIsTriangleSpec : ChangeSpec := { name := "fnExactIsTriangle", fn := fun _ => fun
  | [d1, d2] => { results := [.lit (.bool true)], args := [d1, d2] }
  | _ => none }
def fnExactIsTriangleRow : OpenClaim := { program := "ytbgcpobomafiaaa", sum := "bdf2689e3e46b0cff4597d91e381c3787120f83afd7c86cf1e86fd02cabd38f3", func := "loop.example/g03205/laws.FnExactIsTriangle", spec := "fnExactIsTriangle", unfollowed := true, recurses := true, apart := false }
def FnExactIsTriangleSaid : Prop := fnExactIsTriangleRow.holds Try.pinned (OpenSpec.ofChange fnExactIsTriangleSpec)

/-- ITS FALSE NEIGHBOUR: 'it returns false'. Refute it at one input. -/
def fnExactIsTriangleWrong : ChangeSpec := { name := "fnExactIsTriangle", fn := fun _ => fun
  | [d1, d2] => { results := [.lit (.bool false)], args := [d1, d2] }
  | _ => none }
def FnExactIsTriangleWrongFalsely : Prop := fnExactIsTriangleRow.holds Try.pinned (OpenSpec.ofChange fnExactIsTriangleWrong)

/-- 'laws.FnExactOrderOk': WHATEVER THE INPUT: true; the input reads as it did. -/
def fnExactOrderOkSpec : ChangeSpec := { name := "fnExactOrderOk", fn := fun _ => fun
  | [d1, d2] => { results := [.lit (.bool true)], args := [d1, d2] }
  | _ => none }
def fnExactOrderOkRow : OpenClaim := { program := "ytbgcpobomafiaaa", sum := "bdf2689e3e46b0cff4597d91e381c3787120f83afd7c86cf1e86fd02cabd38f3", func := "loop.example/g03205/laws.FnExactOrderOk", spec := "fnExactOrderOk", unfollowed := true, recurses := true, apart := false }
def FnExactOrderOkSaid : Prop := fnExactOrderOkRow.holds Try.pinned (OpenSpec.ofChange fnExactOrderOkSpec)

/-- ITS FALSE NEIGHBOUR: 'it returns false'. Refute it at one input. -/
def fnExactOrderOkWrong : ChangeSpec := { name := "fnExactOrderOk", fn := fun _ => fun
  | [d1, d2] => { results := [.lit (.bool false)], args := [d1, d2] }
  | _ => none }
def FnExactOrderOkWrongFalsely : Prop := fnExactOrderOkRow.holds Try.pinned (OpenSpec.ofChange fnExactOrderOkWrong)

/-- 'laws.FnExactSameTour': WHATEVER THE INPUT: true; the input reads as it did. -/
def fnExactSameTourSpec : ChangeSpec := { name := "fnExactSameTour", fn := fun _ => fun
  | [d1, d2] => { results := [.lit (.bool true)], args := [d1, d2] }
  | _ => none }
def fnExactSameTourRow : OpenClaim := { program := "ytbgcpobomafiaaa", sum := "bdf2689e3e46b0cff4597d91e381c3787120f83afd7c86cf1e86fd02cabd38f3", func := "loop.example/g03205/laws.FnExactSameTour", spec := "fnExactSameTour", unfollowed := true, recurses := true, apart := false }
def FnExactSameTourSaid : Prop := fnExactSameTourRow.holds Try.pinned (OpenSpec.ofChange fnExactSameTourSpec)

/-- ITS FALSE NEIGHBOUR: 'it returns false'. Refute it at one input. -/
def fnExactSameTourWrong : ChangeSpec := { name := "fnExactSameTour", fn := fun _ => fun
  | [d1, d2] => { results := [.lit (.bool false)], args := [d1, d2] }
  | _ => none }
def FnExactSameTourWrongFalsely : Prop := fnExactSameTourRow.holds Try.pinned (OpenSpec.ofChange fnExactSameTourWrong)

/-- 'laws.FnExactIsDominating': WHATEVER THE INPUT: true; the input reads as it did. -/
def fnExactIsDominatingSpec : ChangeSpec := { name := "fnExactIsDominating", fn := fun _ => fun
  | [d1, d2] => { results := [.lit (.bool true)], args := [d1, d2] }
  | _ => none }
def fnExactIsDominatingRow : OpenClaim := { program := "ytbgcpobomafiaaa", sum := "bdf2689e3e46b0cff4597d91e381c3787120f83afd7c86cf1e86fd02cabd38f3", func := "loop.example/g03205/laws.FnExactIsDominating", spec := "fnExactIsDominating", unfollowed := true, recurses := true, apart := false }
def FnExactIsDominatingSaid : Prop := fnExactIsDominatingRow.holds Try.pinned (OpenSpec.ofChange fnExactIsDominatingSpec)

/-- ITS FALSE NEIGHBOUR: 'it returns false'. Refute it at one input. -/
def fnExactIsDominatingWrong : ChangeSpec := { name := "fnExactIsDominating", fn := fun _ => fun
  | [d1, d2] => { results := [.lit (.bool false)], args := [d1, d2] }
  | _ => none }
def FnExactIsDominatingWrongFalsely : Prop := fnExactIsDominatingRow.holds Try.pinned (OpenSpec.ofChange fnExactIsDominatingWrong)

/-- 'laws.FnExactTurnTour': WHATEVER THE INPUT: true; the input reads as it did. -/
def fnExactTurnTourSpec : ChangeSpec := { name := "fnExactTurnTour", fn := fun _ => fun
  | [d] => { results := [.lit (.bool true)], args := [d] }
  | _ => none }
def fnExactTurnTourRow : OpenClaim := { program := "ytbgcpobomafiaaa", sum := "bdf2689e3e46b0cff4597d91e381c3787120f83afd7c86cf1e86fd02cabd38f3", func := "loop.example/g03205/laws.FnExactTurnTour", spec := "fnExactTurnTour", unfollowed := true, recurses := true, apart := false }
def FnExactTurnTourSaid : Prop := fnExactTurnTourRow.holds Try.pinned (OpenSpec.ofChange fnExactTurnTourSpec)

/-- ITS FALSE NEIGHBOUR: 'it returns false'. Refute it at one input. -/
def fnExactTurnTourWrong : ChangeSpec := { name := "fnExactTurnTour", fn := fun _ => fun
  | [d] => { results := [.lit (.bool false)], args := [d] }
  | _ => none }
def FnExactTurnTourWrongFalsely : Prop := fnExactTurnTourRow.holds Try.pinned (OpenSpec.ofChange fnExactTurnTourWrong)

/-- 'laws.FnExactKingsOf': WHATEVER THE INPUT: true; the input reads as it did. -/
def fnExactKingsOfSpec : ChangeSpec := { name := "fnExactKingsOf", fn := fun _ => fun
  | [d] => { results := [.lit (.bool true)], args := [d] }
  | _ => none }
def fnExactKingsOfRow : OpenClaim := { program := "ytbgcpobomafiaaa", sum := "bdf2689e3e46b0cff4597d91e381c3787120f83afd7c86cf1e86fd02cabd38f3", func := "loop.example/g03205/laws.FnExactKingsOf", spec := "fnExactKingsOf", unfollowed := true, recurses := true, apart := false }
def FnExactKingsOfSaid : Prop := fnExactKingsOfRow.holds Try.pinned (OpenSpec.ofChange fnExactKingsOfSpec)

/-- ITS FALSE NEIGHBOUR: 'it returns false'. Refute it at one input. -/
def fnExactKingsOfWrong : ChangeSpec := { name := "fnExactKingsOf", fn := fun _ => fun
  | [d] => { results := [.lit (.bool false)], args := [d] }
  | _ => none }
def FnExactKingsOfWrongFalsely : Prop := fnExactKingsOfRow.holds Try.pinned (OpenSpec.ofChange fnExactKingsOfWrong)

/-- 'laws.FnExactCountDifferent': WHATEVER THE INPUT: true; the input reads as it did. -/
def fnExactCountDifferentSpec : ChangeSpec := { name := "fnExactCountDifferent", fn := fun _ => fun
  | [d1, d2] => { results := [.lit (.bool true)], args := [d1, d2] }
  | _ => none }
def fnExactCountDifferentRow : OpenClaim := { program := "ytbgcpobomafiaaa", sum := "bdf2689e3e46b0cff4597d91e381c3787120f83afd7c86cf1e86fd02cabd38f3", func := "loop.example/g03205/laws.FnExactCountDifferent", spec := "fnExactCountDifferent", unfollowed := true, recurses := true, apart := false }
def FnExactCountDifferentSaid : Prop := fnExactCountDifferentRow.holds Try.pinned (OpenSpec.ofChange fnExactCountDifferentSpec)

/-- ITS FALSE NEIGHBOUR: 'it returns false'. Refute it at one input. -/
def fnExactCountDifferentWrong : ChangeSpec := { name := "fnExactCountDifferent", fn := fun _ => fun
  | [d1, d2] => { results := [.lit (.bool false)], args := [d1, d2] }
  | _ => none }
def FnExactCountDifferentWrongFalsely : Prop := fnExactCountDifferentRow.holds Try.pinned (OpenSpec.ofChange fnExactCountDifferentWrong)

/- THE SECOND FORM. 'bulk': how many values and letters a reading holds, each counted each time it is reached (what is shared counts as often as it is met; a slice's spare places count too). A statement '..UptoSaid' is the law's where the arguments, and the package variables that the reading takes, are together of bulk at most 1048576: NARROWER than '..Said'. Prove '..Said' where nothing that the law and all that it calls make is longer than what came in: it says more and counts as full. Else prove '..UptoSaid'. A law counts once. -/
mutual
def uptoBulk {H : Type} : DataW H → Nat
  | .lit (.string bytes) => bytes.length + 1
  | .lit _ => 1
  | .nil => 1
  | .ptr d => uptoBulk d + 1
  | .slice elems spare => uptoBulkAll elems + uptoBulkAll spare + 1
  | .agg parts => uptoBulkAll parts + 1
  | .iface _ d => uptoBulk d + 1
  | .map entries => uptoBulkEntries entries + 1
  | .held _ => 1
def uptoBulkAll {H : Type} : List (DataW H) → Nat
  | [] => 0
  | d :: r => uptoBulk d + uptoBulkAll r
def uptoBulkEntries {H : Type} : List (Lit × DataW H) → Nat
  | [] => 0
  | x :: r => uptoBulkEntry x + uptoBulkEntries r
def uptoBulkEntry {H : Type} : Lit × DataW H → Nat
  | (.string bytes, d) => bytes.length + uptoBulk d + 1
  | (_, d) => uptoBulk d + 1
 end
def uptoSmall : (H : Type) → List (DataW H) → Bool := fun _ ds => decide (uptoBulkAll ds ≤ 1048576)
def OpenSpec.upto (s : _root_.Go.ChangeSpec) : _root_.Go.OpenSpec := { _root_.Go.OpenSpec.ofChange s with cond := some uptoSmall }

/-- 'laws.FnExactMostTriangles', WHERE WHAT IT READS IS OF BULK AT MOST 1048576: true; the input reads as it did. -/
def fnExactMostTrianglesUptoRow : OpenClaim := { program := "ytbgcpobomafiaaa", sum := "bdf2689e3e46b0cff4597d91e381c3787120f83afd7c86cf1e86fd02cabd38f3", func := "loop.example/g03205/laws.FnExactMostTriangles", spec := "fnExactMostTriangles", apart := false, narrowed := true }
def FnExactMostTrianglesUptoSaid : Prop := fnExactMostTrianglesUptoRow.holds Try.pinned (OpenSpec.upto fnExactMostTrianglesSpec)

/-- 'laws.FnExactSlackOf', WHERE WHAT IT READS IS OF BULK AT MOST 1048576: true; the input reads as it did. -/
def fnExactSlackOfUptoRow : OpenClaim := { program := "ytbgcpobomafiaaa", sum := "bdf2689e3e46b0cff4597d91e381c3787120f83afd7c86cf1e86fd02cabd38f3", func := "loop.example/g03205/laws.FnExactSlackOf", spec := "fnExactSlackOf", unfollowed := true, recurses := true, apart := false, narrowed := true }
def FnExactSlackOfUptoSaid : Prop := fnExactSlackOfUptoRow.holds Try.pinned (OpenSpec.upto fnExactSlackOfSpec)

/-- 'laws.FnExactIsLandau', WHERE WHAT IT READS IS OF BULK AT MOST 1048576: true; the input reads as it did. -/
def fnExactIsLandauUptoRow : OpenClaim := { program := "ytbgcpobomafiaaa", sum := "bdf2689e3e46b0cff4597d91e381c3787120f83afd7c86cf1e86fd02cabd38f3", func := "loop.example/g03205/laws.FnExactIsLandau", spec := "fnExactIsLandau", unfollowed := true, recurses := true, apart := false, narrowed := true }
def FnExactIsLandauUptoSaid : Prop := fnExactIsLandauUptoRow.holds Try.pinned (OpenSpec.upto fnExactIsLandauSpec)

/-- 'laws.FnExactTourOk', WHERE WHAT IT READS IS OF BULK AT MOST 1048576: true; the input reads as it did. -/
def fnExactTourOkUptoRow : OpenClaim := { program := "ytbgcpobomafiaaa", sum := "bdf2689e3e46b0cff4597d91e381c3787120f83afd7c86cf1e86fd02cabd38f3", func := "loop.example/g03205/laws.FnExactTourOk", spec := "fnExactTourOk", unfollowed := true, recurses := true, apart := false, narrowed := true }
def FnExactTourOkUptoSaid : Prop := fnExactTourOkUptoRow.holds Try.pinned (OpenSpec.upto fnExactTourOkSpec)

/-- 'laws.FnExactCountSequences', WHERE WHAT IT READS IS OF BULK AT MOST 1048576: true; the input reads as it did. -/
def fnExactCountSequencesUptoRow : OpenClaim := { program := "ytbgcpobomafiaaa", sum := "bdf2689e3e46b0cff4597d91e381c3787120f83afd7c86cf1e86fd02cabd38f3", func := "loop.example/g03205/laws.FnExactCountSequences", spec := "fnExactCountSequences", unfollowed := true, recurses := true, apart := false, narrowed := true }
def FnExactCountSequencesUptoSaid : Prop := fnExactCountSequencesUptoRow.holds Try.pinned (OpenSpec.upto fnExactCountSequencesSpec)

/-- 'laws.FnExactIsTriangle', WHERE WHAT IT READS IS OF BULK AT MOST 1048576: true; the input reads as it did. -/
def fnExactIsTriangleUptoRow : OpenClaim := { program := "ytbgcpobomafiaaa", sum := "bdf2689e3e46b0cff4597d91e381c3787120f83afd7c86cf1e86fd02cabd38f3", func := "loop.example/g03205/laws.FnExactIsTriangle", spec := "fnExactIsTriangle", unfollowed := true, recurses := true, apart := false, narrowed := true }
def FnExactIsTriangleUptoSaid : Prop := fnExactIsTriangleUptoRow.holds Try.pinned (OpenSpec.upto fnExactIsTriangleSpec)

/-- 'laws.FnExactOrderOk', WHERE WHAT IT READS IS OF BULK AT MOST 1048576: true; the input reads as it did. -/
def fnExactOrderOkUptoRow : OpenClaim := { program := "ytbgcpobomafiaaa", sum := "bdf2689e3e46b0cff4597d91e381c3787120f83afd7c86cf1e86fd02cabd38f3", func := "loop.example/g03205/laws.FnExactOrderOk", spec := "fnExactOrderOk", unfollowed := true, recurses := true, apart := false, narrowed := true }
def FnExactOrderOkUptoSaid : Prop := fnExactOrderOkUptoRow.holds Try.pinned (OpenSpec.upto fnExactOrderOkSpec)

/-- 'laws.FnExactSameTour', WHERE WHAT IT READS IS OF BULK AT MOST 1048576: true; the input reads as it did. -/
def fnExactSameTourUptoRow : OpenClaim := { program := "ytbgcpobomafiaaa", sum := "bdf2689e3e46b0cff4597d91e381c3787120f83afd7c86cf1e86fd02cabd38f3", func := "loop.example/g03205/laws.FnExactSameTour", spec := "fnExactSameTour", unfollowed := true, recurses := true, apart := false, narrowed := true }
def FnExactSameTourUptoSaid : Prop := fnExactSameTourUptoRow.holds Try.pinned (OpenSpec.upto fnExactSameTourSpec)

/-- 'laws.FnExactIsDominating', WHERE WHAT IT READS IS OF BULK AT MOST 1048576: true; the input reads as it did. -/
def fnExactIsDominatingUptoRow : OpenClaim := { program := "ytbgcpobomafiaaa", sum := "bdf2689e3e46b0cff4597d91e381c3787120f83afd7c86cf1e86fd02cabd38f3", func := "loop.example/g03205/laws.FnExactIsDominating", spec := "fnExactIsDominating", unfollowed := true, recurses := true, apart := false, narrowed := true }
def FnExactIsDominatingUptoSaid : Prop := fnExactIsDominatingUptoRow.holds Try.pinned (OpenSpec.upto fnExactIsDominatingSpec)

/-- 'laws.FnExactTurnTour', WHERE WHAT IT READS IS OF BULK AT MOST 1048576: true; the input reads as it did. -/
def fnExactTurnTourUptoRow : OpenClaim := { program := "ytbgcpobomafiaaa", sum := "bdf2689e3e46b0cff4597d91e381c3787120f83afd7c86cf1e86fd02cabd38f3", func := "loop.example/g03205/laws.FnExactTurnTour", spec := "fnExactTurnTour", unfollowed := true, recurses := true, apart := false, narrowed := true }
def FnExactTurnTourUptoSaid : Prop := fnExactTurnTourUptoRow.holds Try.pinned (OpenSpec.upto fnExactTurnTourSpec)

/-- 'laws.FnExactKingsOf', WHERE WHAT IT READS IS OF BULK AT MOST 1048576: true; the input reads as it did. -/
def fnExactKingsOfUptoRow : OpenClaim := { program := "ytbgcpobomafiaaa", sum := "bdf2689e3e46b0cff4597d91e381c3787120f83afd7c86cf1e86fd02cabd38f3", func := "loop.example/g03205/laws.FnExactKingsOf", spec := "fnExactKingsOf", unfollowed := true, recurses := true, apart := false, narrowed := true }
def FnExactKingsOfUptoSaid : Prop := fnExactKingsOfUptoRow.holds Try.pinned (OpenSpec.upto fnExactKingsOfSpec)

/-- 'laws.FnExactCountDifferent', WHERE WHAT IT READS IS OF BULK AT MOST 1048576: true; the input reads as it did. -/
def fnExactCountDifferentUptoRow : OpenClaim := { program := "ytbgcpobomafiaaa", sum := "bdf2689e3e46b0cff4597d91e381c3787120f83afd7c86cf1e86fd02cabd38f3", func := "loop.example/g03205/laws.FnExactCountDifferent", spec := "fnExactCountDifferent", unfollowed := true, recurses := true, apart := false, narrowed := true }
def FnExactCountDifferentUptoSaid : Prop := fnExactCountDifferentUptoRow.holds Try.pinned (OpenSpec.upto fnExactCountDifferentSpec)

end Rows
end Go.Proofs.Ytbgcpobomafiaaa
