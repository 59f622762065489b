/-
  No cell of these rows narrows 'for every input' (looked for: loops, veiled, ifaces, maps, wideKeys, modest, calm, conditions, laid).
  DERIVED. THE GIVEN ROWS OF THIS SEAT. 3 by the template 'for every input the law returns true; each argument reads behind the call as it read before'; 0 by the template 'total and deterministic' (their statements: YtaocjjocncoahaaTotals.lean).
  GIVEN WITH THE SEED: the statements are not yours to turn. If you find one false, say at which input.
  Laid BY PROGRAM, IN A SANDBOX (cutbox-rows.mjs): the forced cells as the released guide's own fill.sh prints them over the translation b7bbe94511461962… (all of the seat's roots in one cut). By AI agents, Wed Nov 11 2026. No macro, syntax, notation, axiom, sorry.
-/
import Derived.Test.YtaocjjocncoahaaChecked
import GoSem.Claim
import GoSem.ClaimJoined
import GoSem.ClaimMapViews
import Derived.JoinedTies
import Derived.KernelRfl
namespace Go.Proofs.Ytaocjjocncoahaa
/- THE CELL 'sum', in the pinned program and in every row, IS THE sha256 OF THE DUMP (.gsa) THAT YtaocjjocncoahaaProg.lean LOADS. Nothing in Lean hashes anything: it is a label: what it is worth is what the hold of that sum in a sandbox is worth. -/
noncomputable def Try.pinned : Pinned := { name := "ytaocjjocncoahaa", sum := "b7bbe94511461962b733468ffc12e4c3a29d73c6fae34484e6a481045e9bede0", checked := Try.checked }
namespace Rows
def none {H : Type} : Left H := { results := [], args := [] }

/-- 'laws.FnExactCountKings': WHATEVER THE INPUT: true; the input reads as it did. -/
def fnExactCountKingsSpec : ChangeSpec := { name := "fnExactCountKings", fn := fun _ => fun
  | [d1, d2] => { results := [.lit (.bool true)], args := [d1, d2] }
  | _ => none }
def fnExactCountKingsRow : OpenClaim := { program := "ytaocjjocncoahaa", sum := "b7bbe94511461962b733468ffc12e4c3a29d73c6fae34484e6a481045e9bede0", func := "loop.example/g03205/laws.FnExactCountKings", spec := "fnExactCountKings", unfollowed := true, recurses := true, apart := false }
def FnExactCountKingsSaid : Prop := fnExactCountKingsRow.holds Try.pinned (OpenSpec.ofChange fnExactCountKingsSpec)

/-- ITS FALSE NEIGHBOUR: 'it returns false'. Refute it at one input. -/
def fnExactCountKingsWrong : ChangeSpec := { name := "fnExactCountKings", fn := fun _ => fun
  | [d1, d2] => { results := [.lit (.bool false)], args := [d1, d2] }
  | _ => none }
def FnExactCountKingsWrongFalsely : Prop := fnExactCountKingsRow.holds Try.pinned (OpenSpec.ofChange fnExactCountKingsWrong)

/-- 'laws.FnExactRealizeScores': WHATEVER THE INPUT: true; the input reads as it did. -/
def fnExactRealizeScoresSpec : ChangeSpec := { name := "fnExactRealizeScores", fn := fun _ => fun
  | [d] => { results := [.lit (.bool true)], args := [d] }
  | _ => none }
def fnExactRealizeScoresRow : OpenClaim := { program := "ytaocjjocncoahaa", sum := "b7bbe94511461962b733468ffc12e4c3a29d73c6fae34484e6a481045e9bede0", func := "loop.example/g03205/laws.FnExactRealizeScores", spec := "fnExactRealizeScores", unfollowed := true, recurses := true, apart := false }
def FnExactRealizeScoresSaid : Prop := fnExactRealizeScoresRow.holds Try.pinned (OpenSpec.ofChange fnExactRealizeScoresSpec)

/-- ITS FALSE NEIGHBOUR: 'it returns false'. Refute it at one input. -/
def fnExactRealizeScoresWrong : ChangeSpec := { name := "fnExactRealizeScores", fn := fun _ => fun
  | [d] => { results := [.lit (.bool false)], args := [d] }
  | _ => none }
def FnExactRealizeScoresWrongFalsely : Prop := fnExactRealizeScoresRow.holds Try.pinned (OpenSpec.ofChange fnExactRealizeScoresWrong)

/-- 'laws.FnLandau': WHATEVER THE INPUT: true; the input reads as it did. -/
def fnLandauSpec : ChangeSpec := { name := "fnLandau", fn := fun _ => fun
  | [d] => { results := [.lit (.bool true)], args := [d] }
  | _ => none }
def fnLandauRow : OpenClaim := { program := "ytaocjjocncoahaa", sum := "b7bbe94511461962b733468ffc12e4c3a29d73c6fae34484e6a481045e9bede0", func := "loop.example/g03205/laws.FnLandau", spec := "fnLandau", unfollowed := true, recurses := true, apart := false }
def FnLandauSaid : Prop := fnLandauRow.holds Try.pinned (OpenSpec.ofChange fnLandauSpec)

/-- ITS FALSE NEIGHBOUR: 'it returns false'. Refute it at one input. -/
def fnLandauWrong : ChangeSpec := { name := "fnLandau", fn := fun _ => fun
  | [d] => { results := [.lit (.bool false)], args := [d] }
  | _ => none }
def FnLandauWrongFalsely : Prop := fnLandauRow.holds Try.pinned (OpenSpec.ofChange fnLandauWrong)

/- THE SECOND FORM. 'bulk': how many values and letters a reading holds, each counted each time it is reached (what is shared counts as often as it is met; a slice's spare places count too). A statement '..UptoSaid' is the law's where the arguments, and the package variables that the reading takes, are together of bulk at most 1048576: NARROWER than '..Said'. Prove '..Said' where nothing that the law and all that it calls make is longer than what came in: it says more and counts as full. Else prove '..UptoSaid'. A law counts once. -/
mutual
def uptoBulk {H : Type} : DataW H → Nat
  | .lit (.string bytes) => bytes.length + 1
  | .lit _ => 1
  | .nil => 1
  | .ptr d => uptoBulk d + 1
  | .slice elems spare => uptoBulkAll elems + uptoBulkAll spare + 1
  | .agg parts => uptoBulkAll parts + 1
  | .iface _ d => uptoBulk d + 1
  | .map entries => uptoBulkEntries entries + 1
  | .held _ => 1
def uptoBulkAll {H : Type} : List (DataW H) → Nat
  | [] => 0
  | d :: r => uptoBulk d + uptoBulkAll r
def uptoBulkEntries {H : Type} : List (Lit × DataW H) → Nat
  | [] => 0
  | x :: r => uptoBulkEntry x + uptoBulkEntries r
def uptoBulkEntry {H : Type} : Lit × DataW H → Nat
  | (.string bytes, d) => bytes.length + uptoBulk d + 1
  | (_, d) => uptoBulk d + 1
 end
def uptoSmall : (H : Type) → List (DataW H) → Bool := fun _ ds => decide (uptoBulkAll ds ≤ 1048576)
def OpenSpec.upto (s : _root_.Go.ChangeSpec) : _root_.Go.OpenSpec := { _root_.Go.OpenSpec.ofChange s with cond := some uptoSmall }

/-- 'laws.FnExactCountKings', WHERE WHAT IT READS IS OF BULK AT MOST 1048576: true; the input reads as it did. -/
def fnExactCountKingsUptoRow : OpenClaim := { program := "ytaocjjocncoahaa", sum := "b7bbe94511461962b733468ffc12e4c3a29d73c6fae34484e6a481045e9bede0", func := "loop.example/g03205/laws.FnExactCountKings", spec := "fnExactCountKings", unfollowed := true, recurses := true, apart := false, narrowed := true }
def FnExactCountKingsUptoSaid : Prop := fnExactCountKingsUptoRow.holds Try.pinned (OpenSpec.upto fnExactCountKingsSpec)

/-- 'laws.FnExactRealizeScores', WHERE WHAT IT READS IS OF BULK AT MOST 1048576: true; the input reads as it did. -/
def fnExactRealizeScoresUptoRow : OpenClaim := { program := "ytaocjjocncoahaa", sum := "b7bbe94511461962b733468ffc12e4c3a29d73c6fae34484e6a481045e9bede0", func := "loop.example/g03205/laws.FnExactRealizeScores", spec := "fnExactRealizeScores", unfollowed := true, recurses := true, apart := false, narrowed := true }
def FnExactRealizeScoresUptoSaid : Prop := fnExactRealizeScoresUptoRow.holds Try.pinned (OpenSpec.upto fnExactRealizeScoresSpec)

/-- 'laws.FnLandau', WHERE WHAT IT READS IS OF BULK AT MOST 1048576: true; the input reads as it did. -/
def fnLandauUptoRow : OpenClaim := { program := "ytaocjjocncoahaa", sum := "b7bbe94511461962b733468ffc12e4c3a29d73c6fae34484e6a481045e9bede0", func := "loop.example/g03205/laws.FnLandau", spec := "fnLandau", unfollowed := true, recurses := true, apart := false, narrowed := true }
def FnLandauUptoSaid : Prop := fnLandauUptoRow.holds Try.pinned (OpenSpec.upto fnLandauSpec)

end Rows
end Go.Proofs.Ytaocjjocncoahaa
