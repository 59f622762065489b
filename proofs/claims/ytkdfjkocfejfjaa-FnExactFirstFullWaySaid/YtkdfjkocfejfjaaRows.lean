/-
  No cell of these rows narrows 'for every input' (looked for: loops, veiled, ifaces, maps, wideKeys, modest, calm, conditions, laid).
  DERIVED. THE GIVEN ROWS OF THIS SEAT. 12 by the template 'for every input the law returns true; each argument reads behind the call as it read before'; 0 by the template 'total and deterministic' (their statements: YtkdfjkocfejfjaaTotals.lean).
  GIVEN WITH THE SEED: the statements are not yours to turn. If you find one false, say at which input.
  Laid BY PROGRAM, IN A SANDBOX (cutbox-rows.mjs): the forced cells as the released guide's own fill.sh prints them over the translation 877792d9315cd9ab… (all of the seat's roots in one cut). By AI agents, Wed Nov 11 2026. No macro, syntax, notation, axiom, sorry.
-/
import Derived.Test.YtkdfjkocfejfjaaChecked
import GoSem.Claim
import GoSem.ClaimJoined
import GoSem.ClaimMapViews
import Derived.JoinedTies
import Derived.KernelRfl
namespace Go.Proofs.Ytkdfjkocfejfjaa
/- THE CELL 'sum', in the pinned program and in every row, IS THE sha256 OF THE DUMP (.gsa) THAT YtkdfjkocfejfjaaProg.lean LOADS. Nothing in Lean hashes anything: it is a label: what it is worth is what the hold of that sum in a sandbox is worth. -/
noncomputable def Try.pinned : Pinned := { name := "ytkdfjkocfejfjaa", sum := "877792d9315cd9ab7af6262b6584891989c8f84405cf4222faa3205e10208890", checked := Try.checked }
namespace Rows
def none {H : Type} : Left H := { results := [], args := [] }

/-- 'laws.FnExactLeastDominating': WHATEVER THE INPUT: true; the input reads as it did. -/
def fnExactLeastDominatingSpec : ChangeSpec := { name := "fnExactLeastDominating", fn := fun _ => fun
  | [d] => { results := [.lit (.bool true)], args := [d] }
  | _ => none }
def fnExactLeastDominatingRow : OpenClaim := { program := "ytkdfjkocfejfjaa", sum := "877792d9315cd9ab7af6262b6584891989c8f84405cf4222faa3205e10208890", func := "loop.example/g03205/laws.FnExactLeastDominating", spec := "fnExactLeastDominating", unfollowed := true, recurses := true, apart := false }
def FnExactLeastDominatingSaid : Prop := fnExactLeastDominatingRow.holds Try.pinned (OpenSpec.ofChange fnExactLeastDominatingSpec)

/-- ITS FALSE NEIGHBOUR: 'it returns false'. Refute it at one input. -/
def fnExactLeastDominatingWrong : ChangeSpec := { name := "fnExactLeastDominating", fn := fun _ => fun
  | [d] => { results := [.lit (.bool false)], args := [d] }
  | _ => none }
def FnExactLeastDominatingWrongFalsely : Prop := fnExactLeastDominatingRow.holds Try.pinned (OpenSpec.ofChange fnExactLeastDominatingWrong)

/-- 'laws.FnExactFirstFullWay': WHATEVER THE INPUT: true; the input reads as it did. -/
def fnExactFirstFullWaySpec : ChangeSpec := { name := "fnExactFirstFullWay", fn := fun _ => fun
  | [d] => { results := [.lit (.bool true)], args := [d] }
  | _ => none }
def fnExactFirstFullWayRow : OpenClaim := { program := "ytkdfjkocfejfjaa", sum := "877792d9315cd9ab7af6262b6584891989c8f84405cf4222faa3205e10208890", func := "loop.example/g03205/laws.FnExactFirstFullWay", spec := "fnExactFirstFullWay", unfollowed := true, recurses := true, apart := false }
def FnExactFirstFullWaySaid : Prop := fnExactFirstFullWayRow.holds Try.pinned (OpenSpec.ofChange fnExactFirstFullWaySpec)

/-- ITS FALSE NEIGHBOUR: 'it returns false'. Refute it at one input. -/
def fnExactFirstFullWayWrong : ChangeSpec := { name := "fnExactFirstFullWay", fn := fun _ => fun
  | [d] => { results := [.lit (.bool false)], args := [d] }
  | _ => none }
def FnExactFirstFullWayWrongFalsely : Prop := fnExactFirstFullWayRow.holds Try.pinned (OpenSpec.ofChange fnExactFirstFullWayWrong)

/-- 'laws.FnExactIsRegular': WHATEVER THE INPUT: true; the input reads as it did. -/
def fnExactIsRegularSpec : ChangeSpec := { name := "fnExactIsRegular", fn := fun _ => fun
  | [d] => { results := [.lit (.bool true)], args := [d] }
  | _ => none }
def fnExactIsRegularRow : OpenClaim := { program := "ytkdfjkocfejfjaa", sum := "877792d9315cd9ab7af6262b6584891989c8f84405cf4222faa3205e10208890", func := "loop.example/g03205/laws.FnExactIsRegular", spec := "fnExactIsRegular", unfollowed := true, recurses := true, apart := false }
def FnExactIsRegularSaid : Prop := fnExactIsRegularRow.holds Try.pinned (OpenSpec.ofChange fnExactIsRegularSpec)

/-- ITS FALSE NEIGHBOUR: 'it returns false'. Refute it at one input. -/
def fnExactIsRegularWrong : ChangeSpec := { name := "fnExactIsRegular", fn := fun _ => fun
  | [d] => { results := [.lit (.bool false)], args := [d] }
  | _ => none }
def FnExactIsRegularWrongFalsely : Prop := fnExactIsRegularRow.holds Try.pinned (OpenSpec.ofChange fnExactIsRegularWrong)

/-- 'laws.FnExactBackGames': WHATEVER THE INPUT: true; the input reads as it did. -/
def fnExactBackGamesSpec : ChangeSpec := { name := "fnExactBackGames", fn := fun _ => fun
  | [d1, d2] => { results := [.lit (.bool true)], args := [d1, d2] }
  | _ => none }
def fnExactBackGamesRow : OpenClaim := { program := "ytkdfjkocfejfjaa", sum := "877792d9315cd9ab7af6262b6584891989c8f84405cf4222faa3205e10208890", func := "loop.example/g03205/laws.FnExactBackGames", spec := "fnExactBackGames", unfollowed := true, recurses := true, apart := false }
def FnExactBackGamesSaid : Prop := fnExactBackGamesRow.holds Try.pinned (OpenSpec.ofChange fnExactBackGamesSpec)

/-- ITS FALSE NEIGHBOUR: 'it returns false'. Refute it at one input. -/
def fnExactBackGamesWrong : ChangeSpec := { name := "fnExactBackGames", fn := fun _ => fun
  | [d1, d2] => { results := [.lit (.bool false)], args := [d1, d2] }
  | _ => none }
def FnExactBackGamesWrongFalsely : Prop := fnExactBackGamesRow.holds Try.pinned (OpenSpec.ofChange fnExactBackGamesWrong)

/-- 'laws.FnExactCountBestOrders': WHATEVER THE INPUT: true; the input reads as it did. -/
def fnExactCountBestOrdersSpec : ChangeSpec := { name := "fnExactCountBestOrders", fn := fun _ => fun
  | [d] => { results := [.lit (.bool true)], args := [d] }
  | _ => none }
def fnExactCountBestOrdersRow : OpenClaim := { program := "ytkdfjkocfejfjaa", sum := "877792d9315cd9ab7af6262b6584891989c8f84405cf4222faa3205e10208890", func := "loop.example/g03205/laws.FnExactCountBestOrders", spec := "fnExactCountBestOrders", unfollowed := true, recurses := true, apart := false }
def FnExactCountBestOrdersSaid : Prop := fnExactCountBestOrdersRow.holds Try.pinned (OpenSpec.ofChange fnExactCountBestOrdersSpec)

/-- ITS FALSE NEIGHBOUR: 'it returns false'. Refute it at one input. -/
def fnExactCountBestOrdersWrong : ChangeSpec := { name := "fnExactCountBestOrders", fn := fun _ => fun
  | [d] => { results := [.lit (.bool false)], args := [d] }
  | _ => none }
def FnExactCountBestOrdersWrongFalsely : Prop := fnExactCountBestOrdersRow.holds Try.pinned (OpenSpec.ofChange fnExactCountBestOrdersWrong)

/-- 'laws.FnExactFewestReversals': WHATEVER THE INPUT: true; the input reads as it did. -/
def fnExactFewestReversalsSpec : ChangeSpec := { name := "fnExactFewestReversals", fn := fun _ => fun
  | [d] => { results := [.lit (.bool true)], args := [d] }
  | _ => none }
def fnExactFewestReversalsRow : OpenClaim := { program := "ytkdfjkocfejfjaa", sum := "877792d9315cd9ab7af6262b6584891989c8f84405cf4222faa3205e10208890", func := "loop.example/g03205/laws.FnExactFewestReversals", spec := "fnExactFewestReversals", unfollowed := true, recurses := true, apart := false }
def FnExactFewestReversalsSaid : Prop := fnExactFewestReversalsRow.holds Try.pinned (OpenSpec.ofChange fnExactFewestReversalsSpec)

/-- ITS FALSE NEIGHBOUR: 'it returns false'. Refute it at one input. -/
def fnExactFewestReversalsWrong : ChangeSpec := { name := "fnExactFewestReversals", fn := fun _ => fun
  | [d] => { results := [.lit (.bool false)], args := [d] }
  | _ => none }
def FnExactFewestReversalsWrongFalsely : Prop := fnExactFewestReversalsRow.holds Try.pinned (OpenSpec.ofChange fnExactFewestReversalsWrong)

/-- 'laws.FnExactStraightenBy': WHATEVER THE INPUT: true; the input reads as it did. -/
def fnExactStraightenBySpec : ChangeSpec := { name := "fnExactStraightenBy", fn := fun _ => fun
  | [d1, d2] => { results := [.lit (.bool true)], args := [d1, d2] }
  | _ => none }
def fnExactStraightenByRow : OpenClaim := { program := "ytkdfjkocfejfjaa", sum := "877792d9315cd9ab7af6262b6584891989c8f84405cf4222faa3205e10208890", func := "loop.example/g03205/laws.FnExactStraightenBy", spec := "fnExactStraightenBy", unfollowed := true, recurses := true, apart := false }
def FnExactStraightenBySaid : Prop := fnExactStraightenByRow.holds Try.pinned (OpenSpec.ofChange fnExactStraightenBySpec)

/-- ITS FALSE NEIGHBOUR: 'it returns false'. Refute it at one input. -/
def fnExactStraightenByWrong : ChangeSpec := { name := "fnExactStraightenBy", fn := fun _ => fun
  | [d1, d2] => { results := [.lit (.bool false)], args := [d1, d2] }
  | _ => none }
def FnExactStraightenByWrongFalsely : Prop := fnExactStraightenByRow.holds Try.pinned (OpenSpec.ofChange fnExactStraightenByWrong)

/-- 'laws.FnExactFullWay': WHATEVER THE INPUT: true; the input reads as it did. -/
def fnExactFullWaySpec : ChangeSpec := { name := "fnExactFullWay", fn := fun _ => fun
  | [d] => { results := [.lit (.bool true)], args := [d] }
  | _ => none }
def fnExactFullWayRow : OpenClaim := { program := "ytkdfjkocfejfjaa", sum := "877792d9315cd9ab7af6262b6584891989c8f84405cf4222faa3205e10208890", func := "loop.example/g03205/laws.FnExactFullWay", spec := "fnExactFullWay", inPlace := ["slices.overlaps[int]"], unfollowed := true, recurses := true, apart := false }
def FnExactFullWaySaid : Prop := fnExactFullWayRow.holds Try.pinned (OpenSpec.ofChange fnExactFullWaySpec)

/-- ITS FALSE NEIGHBOUR: 'it returns false'. Refute it at one input. -/
def fnExactFullWayWrong : ChangeSpec := { name := "fnExactFullWay", fn := fun _ => fun
  | [d] => { results := [.lit (.bool false)], args := [d] }
  | _ => none }
def FnExactFullWayWrongFalsely : Prop := fnExactFullWayRow.holds Try.pinned (OpenSpec.ofChange fnExactFullWayWrong)

/-- 'laws.FnExactPackTriangles': WHATEVER THE INPUT: true; the input reads as it did. -/
def fnExactPackTrianglesSpec : ChangeSpec := { name := "fnExactPackTriangles", fn := fun _ => fun
  | [d] => { results := [.lit (.bool true)], args := [d] }
  | _ => none }
def fnExactPackTrianglesRow : OpenClaim := { program := "ytkdfjkocfejfjaa", sum := "877792d9315cd9ab7af6262b6584891989c8f84405cf4222faa3205e10208890", func := "loop.example/g03205/laws.FnExactPackTriangles", spec := "fnExactPackTriangles", unfollowed := true, recurses := true, apart := false }
def FnExactPackTrianglesSaid : Prop := fnExactPackTrianglesRow.holds Try.pinned (OpenSpec.ofChange fnExactPackTrianglesSpec)

/-- ITS FALSE NEIGHBOUR: 'it returns false'. Refute it at one input. -/
def fnExactPackTrianglesWrong : ChangeSpec := { name := "fnExactPackTriangles", fn := fun _ => fun
  | [d] => { results := [.lit (.bool false)], args := [d] }
  | _ => none }
def FnExactPackTrianglesWrongFalsely : Prop := fnExactPackTrianglesRow.holds Try.pinned (OpenSpec.ofChange fnExactPackTrianglesWrong)

/-- 'laws.FnExactBestOrder': WHATEVER THE INPUT: true; the input reads as it did. -/
def fnExactBestOrderSpec : ChangeSpec := { name := "fnExactBestOrder", fn := fun _ => fun
  | [d] => { results := [.lit (.bool true)], args := [d] }
  | _ => none }
def fnExactBestOrderRow : OpenClaim := { program := "ytkdfjkocfejfjaa", sum := "877792d9315cd9ab7af6262b6584891989c8f84405cf4222faa3205e10208890", func := "loop.example/g03205/laws.FnExactBestOrder", spec := "fnExactBestOrder", unfollowed := true, recurses := true, apart := false }
def FnExactBestOrderSaid : Prop := fnExactBestOrderRow.holds Try.pinned (OpenSpec.ofChange fnExactBestOrderSpec)

/-- ITS FALSE NEIGHBOUR: 'it returns false'. Refute it at one input. -/
def fnExactBestOrderWrong : ChangeSpec := { name := "fnExactBestOrder", fn := fun _ => fun
  | [d] => { results := [.lit (.bool false)], args := [d] }
  | _ => none }
def FnExactBestOrderWrongFalsely : Prop := fnExactBestOrderRow.holds Try.pinned (OpenSpec.ofChange fnExactBestOrderWrong)

/-- 'laws.FnExactIsSettled': WHATEVER THE INPUT: true; the input reads as it did. -/
def fnExactIsSettledSpec : ChangeSpec := { name := "fnExactIsSettled", fn := fun _ => fun
  | [d1, d2] => { results := [.lit (.bool true)], args := [d1, d2] }
  | _ => none }
def fnExactIsSettledRow : OpenClaim := { program := "ytkdfjkocfejfjaa", sum := "877792d9315cd9ab7af6262b6584891989c8f84405cf4222faa3205e10208890", func := "loop.example/g03205/laws.FnExactIsSettled", spec := "fnExactIsSettled", inPlace := ["slices.overlaps[int]"], unfollowed := true, recurses := true, apart := false }
def FnExactIsSettledSaid : Prop := fnExactIsSettledRow.holds Try.pinned (OpenSpec.ofChange fnExactIsSettledSpec)

/-- ITS FALSE NEIGHBOUR: 'it returns false'. Refute it at one input. -/
def fnExactIsSettledWrong : ChangeSpec := { name := "fnExactIsSettled", fn := fun _ => fun
  | [d1, d2] => { results := [.lit (.bool false)], args := [d1, d2] }
  | _ => none }
def FnExactIsSettledWrongFalsely : Prop := fnExactIsSettledRow.holds Try.pinned (OpenSpec.ofChange fnExactIsSettledWrong)

/-- 'laws.FnExactFeedbackGames': WHATEVER THE INPUT: true; the input reads as it did. -/
def fnExactFeedbackGamesSpec : ChangeSpec := { name := "fnExactFeedbackGames", fn := fun _ => fun
  | [d] => { results := [.lit (.bool true)], args := [d] }
  | _ => none }
def fnExactFeedbackGamesRow : OpenClaim := { program := "ytkdfjkocfejfjaa", sum := "877792d9315cd9ab7af6262b6584891989c8f84405cf4222faa3205e10208890", func := "loop.example/g03205/laws.FnExactFeedbackGames", spec := "fnExactFeedbackGames", unfollowed := true, recurses := true, apart := false }
def FnExactFeedbackGamesSaid : Prop := fnExactFeedbackGamesRow.holds Try.pinned (OpenSpec.ofChange fnExactFeedbackGamesSpec)

/-- ITS FALSE NEIGHBOUR: 'it returns false'. Refute it at one input. -/
def fnExactFeedbackGamesWrong : ChangeSpec := { name := "fnExactFeedbackGames", fn := fun _ => fun
  | [d] => { results := [.lit (.bool false)], args := [d] }
  | _ => none }
def FnExactFeedbackGamesWrongFalsely : Prop := fnExactFeedbackGamesRow.holds Try.pinned (OpenSpec.ofChange fnExactFeedbackGamesWrong)

/- THE SECOND FORM. 'bulk': how many values and letters a reading holds, each counted each time it is reached (what is shared counts as often as it is met; a slice's spare places count too). A statement '..UptoSaid' is the law's where the arguments, and the package variables that the reading takes, are together of bulk at most 1048576: NARROWER than '..Said'. Prove '..Said' where nothing that the law and all that it calls make is longer than what came in: it says more and counts as full. Else prove '..UptoSaid'. A law counts once. -/
mutual
def uptoBulk {H : Type} : DataW H → Nat
  | .lit (.string bytes) => bytes.length + 1
  | .lit _ => 1
  | .nil => 1
  | .ptr d => uptoBulk d + 1
  | .slice elems spare => uptoBulkAll elems + uptoBulkAll spare + 1
  | .agg parts => uptoBulkAll parts + 1
  | .iface _ d => uptoBulk d + 1
  | .map entries => uptoBulkEntries entries + 1
  | .held _ => 1
def uptoBulkAll {H : Type} : List (DataW H) → Nat
  | [] => 0
  | d :: r => uptoBulk d + uptoBulkAll r
def uptoBulkEntries {H : Type} : List (Lit × DataW H) → Nat
  | [] => 0
  | x :: r => uptoBulkEntry x + uptoBulkEntries r
def uptoBulkEntry {H : Type} : Lit × DataW H → Nat
  | (.string bytes, d) => bytes.length + uptoBulk d + 1
  | (_, d) => uptoBulk d + 1
 end
def uptoSmall : (H : Type) → List (DataW H) → Bool := fun _ ds => decide (uptoBulkAll ds ≤ 1048576)
def OpenSpec.upto (s : _root_.Go.ChangeSpec) : _root_.Go.OpenSpec := { _root_.Go.OpenSpec.ofChange s with cond := some uptoSmall }

/-- 'laws.FnExactLeastDominating', WHERE WHAT IT READS IS OF BULK AT MOST 1048576: true; the input reads as it did. -/
def fnExactLeastDominatingUptoRow : OpenClaim := { program := "ytkdfjkocfejfjaa", sum := "877792d9315cd9ab7af6262b6584891989c8f84405cf4222faa3205e10208890", func := "loop.example/g03205/laws.FnExactLeastDominating", spec := "fnExactLeastDominating", unfollowed := true, recurses := true, apart := false, narrowed := true }
def FnExactLeastDominatingUptoSaid : Prop := fnExactLeastDominatingUptoRow.holds Try.pinned (OpenSpec.upto fnExactLeastDominatingSpec)

/-- 'laws.FnExactFirstFullWay', WHERE WHAT IT READS IS OF BULK AT MOST 1048576: true; the input reads as it did. -/
def fnExactFirstFullWayUptoRow : OpenClaim := { program := "ytkdfjkocfejfjaa", sum := "877792d9315cd9ab7af6262b6584891989c8f84405cf4222faa3205e10208890", func := "loop.example/g03205/laws.FnExactFirstFullWay", spec := "fnExactFirstFullWay", unfollowed := true, recurses := true, apart := false, narrowed := true }
def FnExactFirstFullWayUptoSaid : Prop := fnExactFirstFullWayUptoRow.holds Try.pinned (OpenSpec.upto fnExactFirstFullWaySpec)

/-- 'laws.FnExactIsRegular', WHERE WHAT IT READS IS OF BULK AT MOST 1048576: true; the input reads as it did. -/
def fnExactIsRegularUptoRow : OpenClaim := { program := "ytkdfjkocfejfjaa", sum := "877792d9315cd9ab7af6262b6584891989c8f84405cf4222faa3205e10208890", func := "loop.example/g03205/laws.FnExactIsRegular", spec := "fnExactIsRegular", unfollowed := true, recurses := true, apart := false, narrowed := true }
def FnExactIsRegularUptoSaid : Prop := fnExactIsRegularUptoRow.holds Try.pinned (OpenSpec.upto fnExactIsRegularSpec)

/-- 'laws.FnExactBackGames', WHERE WHAT IT READS IS OF BULK AT MOST 1048576: true; the input reads as it did. -/
def fnExactBackGamesUptoRow : OpenClaim := { program := "ytkdfjkocfejfjaa", sum := "877792d9315cd9ab7af6262b6584891989c8f84405cf4222faa3205e10208890", func := "loop.example/g03205/laws.FnExactBackGames", spec := "fnExactBackGames", unfollowed := true, recurses := true, apart := false, narrowed := true }
def FnExactBackGamesUptoSaid : Prop := fnExactBackGamesUptoRow.holds Try.pinned (OpenSpec.upto fnExactBackGamesSpec)

/-- 'laws.FnExactCountBestOrders', WHERE WHAT IT READS IS OF BULK AT MOST 1048576: true; the input reads as it did. -/
def fnExactCountBestOrdersUptoRow : OpenClaim := { program := "ytkdfjkocfejfjaa", sum := "877792d9315cd9ab7af6262b6584891989c8f84405cf4222faa3205e10208890", func := "loop.example/g03205/laws.FnExactCountBestOrders", spec := "fnExactCountBestOrders", unfollowed := true, recurses := true, apart := false, narrowed := true }
def FnExactCountBestOrdersUptoSaid : Prop := fnExactCountBestOrdersUptoRow.holds Try.pinned (OpenSpec.upto fnExactCountBestOrdersSpec)

/-- 'laws.FnExactFewestReversals', WHERE WHAT IT READS IS OF BULK AT MOST 1048576: true; the input reads as it did. -/
def fnExactFewestReversalsUptoRow : OpenClaim := { program := "ytkdfjkocfejfjaa", sum := "877792d9315cd9ab7af6262b6584891989c8f84405cf4222faa3205e10208890", func := "loop.example/g03205/laws.FnExactFewestReversals", spec := "fnExactFewestReversals", unfollowed := true, recurses := true, apart := false, narrowed := true }
def FnExactFewestReversalsUptoSaid : Prop := fnExactFewestReversalsUptoRow.holds Try.pinned (OpenSpec.upto fnExactFewestReversalsSpec)

/-- 'laws.FnExactStraightenBy', WHERE WHAT IT READS IS OF BULK AT MOST 1048576: true; the input reads as it did. -/
def fnExactStraightenByUptoRow : OpenClaim := { program := "ytkdfjkocfejfjaa", sum := "877792d9315cd9ab7af6262b6584891989c8f84405cf4222faa3205e10208890", func := "loop.example/g03205/laws.FnExactStraightenBy", spec := "fnExactStraightenBy", unfollowed := true, recurses := true, apart := false, narrowed := true }
def FnExactStraightenByUptoSaid : Prop := fnExactStraightenByUptoRow.holds Try.pinned (OpenSpec.upto fnExactStraightenBySpec)

/-- 'laws.FnExactFullWay', WHERE WHAT IT READS IS OF BULK AT MOST 1048576: true; the input reads as it did. -/
def fnExactFullWayUptoRow : OpenClaim := { program := "ytkdfjkocfejfjaa", sum := "877792d9315cd9ab7af6262b6584891989c8f84405cf4222faa3205e10208890", func := "loop.example/g03205/laws.FnExactFullWay", spec := "fnExactFullWay", inPlace := ["slices.overlaps[int]"], unfollowed := true, recurses := true, apart := false, narrowed := true }
def FnExactFullWayUptoSaid : Prop := fnExactFullWayUptoRow.holds Try.pinned (OpenSpec.upto fnExactFullWaySpec)

/-- 'laws.FnExactPackTriangles', WHERE WHAT IT READS IS OF BULK AT MOST 1048576: true; the input reads as it did. -/
def fnExactPackTrianglesUptoRow : OpenClaim := { program := "ytkdfjkocfejfjaa", sum := "877792d9315cd9ab7af6262b6584891989c8f84405cf4222faa3205e10208890", func := "loop.example/g03205/laws.FnExactPackTriangles", spec := "fnExactPackTriangles", unfollowed := true, recurses := true, apart := false, narrowed := true }
def FnExactPackTrianglesUptoSaid : Prop := fnExactPackTrianglesUptoRow.holds Try.pinned (OpenSpec.upto fnExactPackTrianglesSpec)

/-- 'laws.FnExactBestOrder', WHERE WHAT IT READS IS OF BULK AT MOST 1048576: true; the input reads as it did. -/
def fnExactBestOrderUptoRow : OpenClaim := { program := "ytkdfjkocfejfjaa", sum := "877792d9315cd9ab7af6262b6584891989c8f84405cf4222faa3205e10208890", func := "loop.example/g03205/laws.FnExactBestOrder", spec := "fnExactBestOrder", unfollowed := true, recurses := true, apart := false, narrowed := true }
def FnExactBestOrderUptoSaid : Prop := fnExactBestOrderUptoRow.holds Try.pinned (OpenSpec.upto fnExactBestOrderSpec)

/-- 'laws.FnExactIsSettled', WHERE WHAT IT READS IS OF BULK AT MOST 1048576: true; the input reads as it did. -/
def fnExactIsSettledUptoRow : OpenClaim := { program := "ytkdfjkocfejfjaa", sum := "877792d9315cd9ab7af6262b6584891989c8f84405cf4222faa3205e10208890", func := "loop.example/g03205/laws.FnExactIsSettled", spec := "fnExactIsSettled", inPlace := ["slices.overlaps[int]"], unfollowed := true, recurses := true, apart := false, narrowed := true }
def FnExactIsSettledUptoSaid : Prop := fnExactIsSettledUptoRow.holds Try.pinned (OpenSpec.upto fnExactIsSettledSpec)

/-- 'laws.FnExactFeedbackGames', WHERE WHAT IT READS IS OF BULK AT MOST 1048576: true; the input reads as it did. -/
def fnExactFeedbackGamesUptoRow : OpenClaim := { program := "ytkdfjkocfejfjaa", sum := "877792d9315cd9ab7af6262b6584891989c8f84405cf4222faa3205e10208890", func := "loop.example/g03205/laws.FnExactFeedbackGames", spec := "fnExactFeedbackGames", unfollowed := true, recurses := true, apart := false, narrowed := true }
def FnExactFeedbackGamesUptoSaid : Prop := fnExactFeedbackGamesUptoRow.holds Try.pinned (OpenSpec.upto fnExactFeedbackGamesSpec)

end Rows
end Go.Proofs.Ytkdfjkocfejfjaa
