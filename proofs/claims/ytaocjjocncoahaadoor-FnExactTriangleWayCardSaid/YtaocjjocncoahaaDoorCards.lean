/-
  DERIVED. GIVEN WITH THE SEED: THE CARDS: each row of YtaocjjocncoahaaDoorRows.lean that lists a variable, with what it lists TIED to the program's text (the seventh form; the later family's looks); each row that meets fmt, with fmt's text TOLD by the authors' own Lean function (tested against real Go, not proved from fmt's source: count such statements apart). THE CARD IS WHAT COUNTS. Prove the row's statement (the work); the ties are given (YtaocjjocncoahaaDoorTie.lean); close each card by the builder's one call (the guide's Derived/Test/ToyasCard.lean, 'card_holds'). Laid BY PROGRAM, IN A SANDBOX (cutbox-door.mjs). By AI agents, Wed Nov 11 2026. No macro, syntax, notation, axiom, sorry.
-/
import Derived.Test.YtaocjjocncoahaaDoorRows
import GoSem.ClaimSeven
namespace Go.Proofs.YtaocjjocncoahaaDoor
namespace Rows

/-- THE TIED CARD OF 'laws.FnExactParseTour'. -/
def fnExactParseTourCard : Claim7 := { stood := { row := fnExactParseTourRow, standIns := [], harness := (true, "15bf1317925409666793129530affce9727bd613736b5287b98a31607018ddd0"), looks := true }, kinds := [], alts := [], laidByText := true, laidKinds := [.data, .data, .data, .sentinel, .sentinel], laidTests := true, laidLooks := .later }
def FnExactParseTourCardSaid : Prop := Claim7.holds Tryd.pinned (.plain (OpenSpec.ofChange fnExactParseTourSpec)) fnExactParseTourCard

/-- THE TIED CARD OF 'laws.FnExactTriangleSteps'. -/
def fnExactTriangleStepsCard : Claim7 := { stood := { row := fnExactTriangleStepsRow, standIns := [], harness := (true, "15bf1317925409666793129530affce9727bd613736b5287b98a31607018ddd0"), looks := true }, kinds := [], alts := [], laidByText := true, laidKinds := [.data, .data, .data], laidTests := true, laidLooks := .later }
def FnExactTriangleStepsCardSaid : Prop := Claim7.holds Tryd.pinned (.plain (OpenSpec.ofChange fnExactTriangleStepsSpec)) fnExactTriangleStepsCard

/-- THE TIED CARD OF 'laws.FnExactTriangleWay'. -/
def fnExactTriangleWayCard : Claim7 := { stood := { row := fnExactTriangleWayRow, standIns := [], harness := (true, "15bf1317925409666793129530affce9727bd613736b5287b98a31607018ddd0"), looks := true }, kinds := [], alts := [], laidByText := true, laidKinds := [.data, .data, .data], laidTests := true, laidLooks := .later }
def FnExactTriangleWayCardSaid : Prop := Claim7.holds Tryd.pinned (.plain (OpenSpec.ofChange fnExactTriangleWaySpec)) fnExactTriangleWayCard

/-- THE SECOND FORM's CARD OF 'laws.FnExactParseTour'. -/
def fnExactParseTourUptoCard : Claim7 := { stood := { row := fnExactParseTourUptoRow, standIns := [], harness := (true, "15bf1317925409666793129530affce9727bd613736b5287b98a31607018ddd0"), looks := true }, kinds := [], alts := [], laidByText := true, laidKinds := [.data, .data, .data, .sentinel, .sentinel], laidTests := true, laidLooks := .later }
def FnExactParseTourUptoCardSaid : Prop := Claim7.holds Tryd.pinned (.plain (OpenSpec.upto fnExactParseTourSpec)) fnExactParseTourUptoCard

/-- THE SECOND FORM's CARD OF 'laws.FnExactTriangleSteps'. -/
def fnExactTriangleStepsUptoCard : Claim7 := { stood := { row := fnExactTriangleStepsUptoRow, standIns := [], harness := (true, "15bf1317925409666793129530affce9727bd613736b5287b98a31607018ddd0"), looks := true }, kinds := [], alts := [], laidByText := true, laidKinds := [.data, .data, .data], laidTests := true, laidLooks := .later }
def FnExactTriangleStepsUptoCardSaid : Prop := Claim7.holds Tryd.pinned (.plain (OpenSpec.upto fnExactTriangleStepsSpec)) fnExactTriangleStepsUptoCard

/-- THE SECOND FORM's CARD OF 'laws.FnExactTriangleWay'. -/
def fnExactTriangleWayUptoCard : Claim7 := { stood := { row := fnExactTriangleWayUptoRow, standIns := [], harness := (true, "15bf1317925409666793129530affce9727bd613736b5287b98a31607018ddd0"), looks := true }, kinds := [], alts := [], laidByText := true, laidKinds := [.data, .data, .data], laidTests := true, laidLooks := .later }
def FnExactTriangleWayUptoCardSaid : Prop := Claim7.holds Tryd.pinned (.plain (OpenSpec.upto fnExactTriangleWaySpec)) fnExactTriangleWayUptoCard
end Rows
end Go.Proofs.YtaocjjocncoahaaDoor
