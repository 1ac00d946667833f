/-
  DERIVED. GIVEN WITH THE SEED: THE CARDS: each row of YtkhdliicgfmghaaGreatDoorRows.lean that lists a variable, with what it lists TIED to the program's text (the seventh form; the later family's looks); each row that meets fmt, with fmt's text TOLD by the authors' own Lean function (tested against real Go, not proved from fmt's source: count such statements apart). THE CARD IS WHAT COUNTS. Prove the row's statement (the work); the ties are given (YtkhdliicgfmghaaGreatDoorTie.lean); close each card by the builder's one call (the guide's Derived/Test/ToyasCard.lean, 'card_holds'). Laid BY PROGRAM, IN A SANDBOX (cutbox-door.mjs). By AI agents, Wed Nov 11 2026. No macro, syntax, notation, axiom, sorry.
-/
import Derived.Test.YtkhdliicgfmghaaGreatDoorRows
import GoSem.ClaimSeven
namespace Go.Proofs.YtkhdliicgfmghaaGreatDoor
namespace Rows

/-- THE TIED CARD OF 'hornbooktop.TopHeld'. -/
def topHeldCard : Claim7 := { stood := { row := topHeldRow, standIns := [], harness := (true, "464cd97bd335f9d931e3e3d2d892c247bb4778c4cf62583c347dffab18f795f0"), looks := true }, kinds := [], alts := [], laidByText := true, laidKinds := [.data, .listed, .pinned, .data, .data], laidTests := true, laidLooks := .later }
def TopHeldCardSaid : Prop := Claim7.holds Tryz.pinned (.plain (OpenSpec.ofChange topHeldSpec)) topHeldCard

/-- THE TIED CARD OF 'hornbooktop.TopGarbage'. -/
def topGarbageCard : Claim7 := { stood := { row := topGarbageRow, standIns := [], harness := (true, "464cd97bd335f9d931e3e3d2d892c247bb4778c4cf62583c347dffab18f795f0"), looks := true }, kinds := [], alts := [], laidByText := true, laidKinds := [.data, .listed, .pinned, .data, .data], laidTests := true, laidLooks := .later }
def TopGarbageCardSaid : Prop := Claim7.holds Tryz.pinned (.plain (OpenSpec.ofChange topGarbageSpec)) topGarbageCard

/-- THE TIED CARD OF 'hornbooktop.TopDeep'. -/
def topDeepCard : Claim7 := { stood := { row := topDeepRow, standIns := [], harness := (true, "464cd97bd335f9d931e3e3d2d892c247bb4778c4cf62583c347dffab18f795f0"), looks := true }, kinds := [], alts := [], laidByText := true, laidKinds := [.data, .listed, .pinned, .data, .data], laidTests := true, laidLooks := .later }
def TopDeepCardSaid : Prop := Claim7.holds Tryz.pinned (.plain (OpenSpec.ofChange topDeepSpec)) topDeepCard

/-- THE TIED CARD OF 'hornbooktop.TopNews'. -/
def topNewsCard : Claim7 := { stood := { row := topNewsRow, standIns := [], harness := (true, "464cd97bd335f9d931e3e3d2d892c247bb4778c4cf62583c347dffab18f795f0"), looks := true }, kinds := [], alts := [], laidByText := true, laidKinds := [.data, .listed, .pinned, .data, .data], laidTests := true, laidLooks := .later }
def TopNewsCardSaid : Prop := Claim7.holds Tryz.pinned (.plain (OpenSpec.ofChange topNewsSpec)) topNewsCard

/-- THE TIED CARD OF 'hornbooktop.TopTypes'. -/
def topTypesCard : Claim7 := { stood := { row := topTypesRow, standIns := [], harness := (true, "464cd97bd335f9d931e3e3d2d892c247bb4778c4cf62583c347dffab18f795f0"), looks := true }, kinds := [], alts := [], laidByText := true, laidKinds := [.data, .listed, .pinned, .data, .data], laidTests := true, laidLooks := .later }
def TopTypesCardSaid : Prop := Claim7.holds Tryz.pinned (.plain (OpenSpec.ofChange topTypesSpec)) topTypesCard

/-- THE SECOND FORM's CARD OF 'hornbooktop.TopHeld'. -/
def topHeldUptoCard : Claim7 := { stood := { row := topHeldUptoRow, standIns := [], harness := (true, "464cd97bd335f9d931e3e3d2d892c247bb4778c4cf62583c347dffab18f795f0"), looks := true }, kinds := [], alts := [], laidByText := true, laidKinds := [.data, .listed, .pinned, .data, .data], laidTests := true, laidLooks := .later }
def TopHeldUptoCardSaid : Prop := Claim7.holds Tryz.pinned (.plain (OpenSpec.upto topHeldSpec)) topHeldUptoCard

/-- THE SECOND FORM's CARD OF 'hornbooktop.TopGarbage'. -/
def topGarbageUptoCard : Claim7 := { stood := { row := topGarbageUptoRow, standIns := [], harness := (true, "464cd97bd335f9d931e3e3d2d892c247bb4778c4cf62583c347dffab18f795f0"), looks := true }, kinds := [], alts := [], laidByText := true, laidKinds := [.data, .listed, .pinned, .data, .data], laidTests := true, laidLooks := .later }
def TopGarbageUptoCardSaid : Prop := Claim7.holds Tryz.pinned (.plain (OpenSpec.upto topGarbageSpec)) topGarbageUptoCard

/-- THE SECOND FORM's CARD OF 'hornbooktop.TopDeep'. -/
def topDeepUptoCard : Claim7 := { stood := { row := topDeepUptoRow, standIns := [], harness := (true, "464cd97bd335f9d931e3e3d2d892c247bb4778c4cf62583c347dffab18f795f0"), looks := true }, kinds := [], alts := [], laidByText := true, laidKinds := [.data, .listed, .pinned, .data, .data], laidTests := true, laidLooks := .later }
def TopDeepUptoCardSaid : Prop := Claim7.holds Tryz.pinned (.plain (OpenSpec.upto topDeepSpec)) topDeepUptoCard

/-- THE SECOND FORM's CARD OF 'hornbooktop.TopNews'. -/
def topNewsUptoCard : Claim7 := { stood := { row := topNewsUptoRow, standIns := [], harness := (true, "464cd97bd335f9d931e3e3d2d892c247bb4778c4cf62583c347dffab18f795f0"), looks := true }, kinds := [], alts := [], laidByText := true, laidKinds := [.data, .listed, .pinned, .data, .data], laidTests := true, laidLooks := .later }
def TopNewsUptoCardSaid : Prop := Claim7.holds Tryz.pinned (.plain (OpenSpec.upto topNewsSpec)) topNewsUptoCard

/-- THE SECOND FORM's CARD OF 'hornbooktop.TopTypes'. -/
def topTypesUptoCard : Claim7 := { stood := { row := topTypesUptoRow, standIns := [], harness := (true, "464cd97bd335f9d931e3e3d2d892c247bb4778c4cf62583c347dffab18f795f0"), looks := true }, kinds := [], alts := [], laidByText := true, laidKinds := [.data, .listed, .pinned, .data, .data], laidTests := true, laidLooks := .later }
def TopTypesUptoCardSaid : Prop := Claim7.holds Tryz.pinned (.plain (OpenSpec.upto topTypesSpec)) topTypesUptoCard
end Rows
end Go.Proofs.YtkhdliicgfmghaaGreatDoor
