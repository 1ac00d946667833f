/-
  DERIVED. GIVEN WITH THE SEED: THE CARDS: each row of YtefiliomfiomfadDoorRows.lean that lists a variable, with what it lists TIED to the program's text (the seventh form; the later family's looks); each row that meets fmt, with fmt's text TOLD by the authors' own Lean function (tested against real Go, not proved from fmt's source: count such statements apart). THE CARD IS WHAT COUNTS. Prove the row's statement (the work); the ties are given (YtefiliomfiomfadDoorTie.lean); close each card by the builder's one call (the guide's Derived/Test/ToyasCard.lean, 'card_holds'). Laid BY PROGRAM, IN A SANDBOX (cutbox-door.mjs). By AI agents, Wed Nov 11 2026. No macro, syntax, notation, axiom, sorry.
-/
import Derived.Test.YtefiliomfiomfadDoorRows
import GoSem.ClaimSeven
namespace Go.Proofs.YtefiliomfiomfadDoor
namespace Rows

/-- THE TIED CARD OF 'hornbooklaw07.HierOrder'. -/
def hierOrderCard : Claim7 := { stood := { row := hierOrderRow, standIns := [], harness := (true, "c057f5bcb9a3ccf2c4ce1e3f0d0bd35164cbb867934b5ebb6b2b648994cb97d4"), looks := false }, kinds := [], alts := [], laidByText := true, laidKinds := [.data, .pinned], laidTests := true, laidLooks := .later }
def HierOrderCardSaid : Prop := Claim7.holds Tryd.pinned (.plain (OpenSpec.ofChange hierOrderSpec)) hierOrderCard

/-- THE TIED CARD OF 'hornbooklaw07.HierJoins'. -/
def hierJoinsCard : Claim7 := { stood := { row := hierJoinsRow, standIns := [], harness := (true, "c057f5bcb9a3ccf2c4ce1e3f0d0bd35164cbb867934b5ebb6b2b648994cb97d4"), looks := false }, kinds := [], alts := [], laidByText := true, laidKinds := [.data, .pinned], laidTests := true, laidLooks := .later }
def HierJoinsCardSaid : Prop := Claim7.holds Tryd.pinned (.plain (OpenSpec.ofChange hierJoinsSpec)) hierJoinsCard

/-- THE TIED CARD OF 'hornbooklaw07.HierMakes'. -/
def hierMakesCard : Claim7 := { stood := { row := hierMakesRow, standIns := [], harness := (true, "c057f5bcb9a3ccf2c4ce1e3f0d0bd35164cbb867934b5ebb6b2b648994cb97d4"), looks := false }, kinds := [], alts := [], laidByText := true, laidKinds := [.data, .pinned], laidTests := true, laidLooks := .later }
def HierMakesCardSaid : Prop := Claim7.holds Tryd.pinned (.plain (OpenSpec.ofChange hierMakesSpec)) hierMakesCard

/-- THE TIED CARD OF 'hornbooklaw07.HierNil'. -/
def hierNilCard : Claim7 := { stood := { row := hierNilRow, standIns := [], harness := (true, "c057f5bcb9a3ccf2c4ce1e3f0d0bd35164cbb867934b5ebb6b2b648994cb97d4"), looks := false }, kinds := [], alts := [], laidByText := true, laidKinds := [.data, .pinned], laidTests := true, laidLooks := .later }
def HierNilCardSaid : Prop := Claim7.holds Tryd.pinned (.plain (OpenSpec.ofChange hierNilSpec)) hierNilCard

/-- THE SECOND FORM's CARD OF 'hornbooklaw07.HierOrder'. -/
def hierOrderUptoCard : Claim7 := { stood := { row := hierOrderUptoRow, standIns := [], harness := (true, "c057f5bcb9a3ccf2c4ce1e3f0d0bd35164cbb867934b5ebb6b2b648994cb97d4"), looks := false }, kinds := [], alts := [], laidByText := true, laidKinds := [.data, .pinned], laidTests := true, laidLooks := .later }
def HierOrderUptoCardSaid : Prop := Claim7.holds Tryd.pinned (.plain (OpenSpec.upto hierOrderSpec)) hierOrderUptoCard

/-- THE SECOND FORM's CARD OF 'hornbooklaw07.HierJoins'. -/
def hierJoinsUptoCard : Claim7 := { stood := { row := hierJoinsUptoRow, standIns := [], harness := (true, "c057f5bcb9a3ccf2c4ce1e3f0d0bd35164cbb867934b5ebb6b2b648994cb97d4"), looks := false }, kinds := [], alts := [], laidByText := true, laidKinds := [.data, .pinned], laidTests := true, laidLooks := .later }
def HierJoinsUptoCardSaid : Prop := Claim7.holds Tryd.pinned (.plain (OpenSpec.upto hierJoinsSpec)) hierJoinsUptoCard

/-- THE SECOND FORM's CARD OF 'hornbooklaw07.HierMakes'. -/
def hierMakesUptoCard : Claim7 := { stood := { row := hierMakesUptoRow, standIns := [], harness := (true, "c057f5bcb9a3ccf2c4ce1e3f0d0bd35164cbb867934b5ebb6b2b648994cb97d4"), looks := false }, kinds := [], alts := [], laidByText := true, laidKinds := [.data, .pinned], laidTests := true, laidLooks := .later }
def HierMakesUptoCardSaid : Prop := Claim7.holds Tryd.pinned (.plain (OpenSpec.upto hierMakesSpec)) hierMakesUptoCard

/-- THE SECOND FORM's CARD OF 'hornbooklaw07.HierNil'. -/
def hierNilUptoCard : Claim7 := { stood := { row := hierNilUptoRow, standIns := [], harness := (true, "c057f5bcb9a3ccf2c4ce1e3f0d0bd35164cbb867934b5ebb6b2b648994cb97d4"), looks := false }, kinds := [], alts := [], laidByText := true, laidKinds := [.data, .pinned], laidTests := true, laidLooks := .later }
def HierNilUptoCardSaid : Prop := Claim7.holds Tryd.pinned (.plain (OpenSpec.upto hierNilSpec)) hierNilUptoCard
end Rows
end Go.Proofs.YtefiliomfiomfadDoor
