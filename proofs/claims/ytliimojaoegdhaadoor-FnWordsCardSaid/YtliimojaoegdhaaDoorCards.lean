/-
  DERIVED. GIVEN WITH THE SEED: THE CARDS: each row of YtliimojaoegdhaaDoorRows.lean that lists a variable, with what it lists TIED to the program's text (the seventh form; the later family's looks); each row that meets fmt, with fmt's text TOLD by the authors' own Lean function (tested against real Go, not proved from fmt's source: count such statements apart). THE CARD IS WHAT COUNTS. Prove the row's statement (the work); the ties are given (YtliimojaoegdhaaDoorTie.lean); close each card by the builder's one call (the guide's Derived/Test/ToyasCard.lean, 'card_holds'). Laid BY PROGRAM, IN A SANDBOX (cutbox-door.mjs). By AI agents, Wed Nov 11 2026. No macro, syntax, notation, axiom, sorry.
-/
import Derived.Test.YtliimojaoegdhaaDoorRows
import GoSem.ClaimSeven
namespace Go.Proofs.YtliimojaoegdhaaDoor
namespace Rows

/-- THE TIED CARD OF 'laws.FnExactFormatInt'. -/
def fnExactFormatIntCard : Claim7 := { stood := { row := fnExactFormatIntRow, standIns := [], harness := (true, "6b99d76db0d3d3b15ac681d524bb509f21c1af3a053715c1a960b8d21ee3c1a6"), looks := true }, kinds := [], alts := [], laidByText := true, laidKinds := [.data, .data, .data], laidTests := true, laidLooks := .later }
def FnExactFormatIntCardSaid : Prop := Claim7.holds Tryd.pinned (.plain (OpenSpec.ofChange fnExactFormatIntSpec)) fnExactFormatIntCard

/-- THE TIED CARD OF 'laws.FnExactSplitLines'. -/
def fnExactSplitLinesCard : Claim7 := { stood := { row := fnExactSplitLinesRow, standIns := [], harness := (true, "6b99d76db0d3d3b15ac681d524bb509f21c1af3a053715c1a960b8d21ee3c1a6"), looks := true }, kinds := [], alts := [], laidByText := true, laidKinds := [.data, .pinned], laidTests := true, laidLooks := .later }
def FnExactSplitLinesCardSaid : Prop := Claim7.holds Tryd.pinned (.plain (OpenSpec.ofChange fnExactSplitLinesSpec)) fnExactSplitLinesCard

/-- THE TIED CARD OF 'laws.FnExactParseInt'. -/
def fnExactParseIntCard : Claim7 := { stood := { row := fnExactParseIntRow, standIns := [], harness := (true, "6b99d76db0d3d3b15ac681d524bb509f21c1af3a053715c1a960b8d21ee3c1a6"), looks := true }, kinds := [], alts := [], laidByText := true, laidKinds := [.data, .data, .data, .sentinel, .sentinel], laidTests := true, laidLooks := .later }
def FnExactParseIntCardSaid : Prop := Claim7.holds Tryd.pinned (.plain (OpenSpec.ofChange fnExactParseIntSpec)) fnExactParseIntCard

/-- THE TIED CARD OF 'laws.FnExactFormatTour'. -/
def fnExactFormatTourCard : Claim7 := { stood := { row := fnExactFormatTourRow, standIns := [], harness := (true, "6b99d76db0d3d3b15ac681d524bb509f21c1af3a053715c1a960b8d21ee3c1a6"), looks := true }, kinds := [], alts := [], laidByText := true, laidKinds := [.data, .data, .data], laidTests := true, laidLooks := .later }
def FnExactFormatTourCardSaid : Prop := Claim7.holds Tryd.pinned (.plain (OpenSpec.ofChange fnExactFormatTourSpec)) fnExactFormatTourCard

/-- THE TIED CARD OF 'laws.FnExactParseTour'. -/
def fnExactParseTourCard : Claim7 := { stood := { row := fnExactParseTourRow, standIns := [], harness := (true, "6b99d76db0d3d3b15ac681d524bb509f21c1af3a053715c1a960b8d21ee3c1a6"), looks := true }, kinds := [], alts := [], laidByText := true, laidKinds := [.data, .data, .data, .sentinel, .sentinel], laidTests := true, laidLooks := .later }
def FnExactParseTourCardSaid : Prop := Claim7.holds Tryd.pinned (.plain (OpenSpec.ofChange fnExactParseTourSpec)) fnExactParseTourCard

/-- THE TIED CARD OF 'laws.FnWords'. -/
def fnWordsCard : Claim7 := { stood := { row := fnWordsRow, standIns := [], harness := (true, "6b99d76db0d3d3b15ac681d524bb509f21c1af3a053715c1a960b8d21ee3c1a6"), looks := true }, kinds := [], alts := [], laidByText := true, laidKinds := [.data, .data, .data, .data, .sentinel, .sentinel, .pinned], laidTests := true, laidLooks := .later }
def FnWordsCardSaid : Prop := Claim7.holds Tryd.pinned (.plain (OpenSpec.ofChange fnWordsSpec)) fnWordsCard

/-- THE SECOND FORM's CARD OF 'laws.FnExactFormatInt'. -/
def fnExactFormatIntUptoCard : Claim7 := { stood := { row := fnExactFormatIntUptoRow, standIns := [], harness := (true, "6b99d76db0d3d3b15ac681d524bb509f21c1af3a053715c1a960b8d21ee3c1a6"), looks := true }, kinds := [], alts := [], laidByText := true, laidKinds := [.data, .data, .data], laidTests := true, laidLooks := .later }
def FnExactFormatIntUptoCardSaid : Prop := Claim7.holds Tryd.pinned (.plain (OpenSpec.upto fnExactFormatIntSpec)) fnExactFormatIntUptoCard

/-- THE SECOND FORM's CARD OF 'laws.FnExactSplitLines'. -/
def fnExactSplitLinesUptoCard : Claim7 := { stood := { row := fnExactSplitLinesUptoRow, standIns := [], harness := (true, "6b99d76db0d3d3b15ac681d524bb509f21c1af3a053715c1a960b8d21ee3c1a6"), looks := true }, kinds := [], alts := [], laidByText := true, laidKinds := [.data, .pinned], laidTests := true, laidLooks := .later }
def FnExactSplitLinesUptoCardSaid : Prop := Claim7.holds Tryd.pinned (.plain (OpenSpec.upto fnExactSplitLinesSpec)) fnExactSplitLinesUptoCard

/-- THE SECOND FORM's CARD OF 'laws.FnExactParseInt'. -/
def fnExactParseIntUptoCard : Claim7 := { stood := { row := fnExactParseIntUptoRow, standIns := [], harness := (true, "6b99d76db0d3d3b15ac681d524bb509f21c1af3a053715c1a960b8d21ee3c1a6"), looks := true }, kinds := [], alts := [], laidByText := true, laidKinds := [.data, .data, .data, .sentinel, .sentinel], laidTests := true, laidLooks := .later }
def FnExactParseIntUptoCardSaid : Prop := Claim7.holds Tryd.pinned (.plain (OpenSpec.upto fnExactParseIntSpec)) fnExactParseIntUptoCard

/-- THE SECOND FORM's CARD OF 'laws.FnExactFormatTour'. -/
def fnExactFormatTourUptoCard : Claim7 := { stood := { row := fnExactFormatTourUptoRow, standIns := [], harness := (true, "6b99d76db0d3d3b15ac681d524bb509f21c1af3a053715c1a960b8d21ee3c1a6"), looks := true }, kinds := [], alts := [], laidByText := true, laidKinds := [.data, .data, .data], laidTests := true, laidLooks := .later }
def FnExactFormatTourUptoCardSaid : Prop := Claim7.holds Tryd.pinned (.plain (OpenSpec.upto fnExactFormatTourSpec)) fnExactFormatTourUptoCard

/-- THE SECOND FORM's CARD OF 'laws.FnExactParseTour'. -/
def fnExactParseTourUptoCard : Claim7 := { stood := { row := fnExactParseTourUptoRow, standIns := [], harness := (true, "6b99d76db0d3d3b15ac681d524bb509f21c1af3a053715c1a960b8d21ee3c1a6"), looks := true }, kinds := [], alts := [], laidByText := true, laidKinds := [.data, .data, .data, .sentinel, .sentinel], laidTests := true, laidLooks := .later }
def FnExactParseTourUptoCardSaid : Prop := Claim7.holds Tryd.pinned (.plain (OpenSpec.upto fnExactParseTourSpec)) fnExactParseTourUptoCard

/-- THE SECOND FORM's CARD OF 'laws.FnWords'. -/
def fnWordsUptoCard : Claim7 := { stood := { row := fnWordsUptoRow, standIns := [], harness := (true, "6b99d76db0d3d3b15ac681d524bb509f21c1af3a053715c1a960b8d21ee3c1a6"), looks := true }, kinds := [], alts := [], laidByText := true, laidKinds := [.data, .data, .data, .data, .sentinel, .sentinel, .pinned], laidTests := true, laidLooks := .later }
def FnWordsUptoCardSaid : Prop := Claim7.holds Tryd.pinned (.plain (OpenSpec.upto fnWordsSpec)) fnWordsUptoCard
end Rows
end Go.Proofs.YtliimojaoegdhaaDoor
