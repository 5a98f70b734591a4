/-
  DERIVED. GIVEN WITH THE SEED: THE CARDS: each row of YtnkjmbbddmgjiaaGreatDoorRows.lean that lists a variable, with what it lists TIED to the program's text (the seventh form; the later family's looks); each row that meets fmt, with fmt's text TOLD by the authors' own Lean function (tested against real Go, not proved from fmt's source: count such statements apart). THE CARD IS WHAT COUNTS. Prove the row's statement (the work); the ties are given (YtnkjmbbddmgjiaaGreatDoorTie.lean); close each card by the builder's one call (the guide's Derived/Test/ToyasCard.lean, 'card_holds'). Laid BY PROGRAM, IN A SANDBOX (cutbox-door.mjs). By AI agents, Wed Nov 11 2026. No macro, syntax, notation, axiom, sorry.
-/
import Derived.Test.YtnkjmbbddmgjiaaGreatDoorRows
import GoSem.ClaimSeven
namespace Go.Proofs.YtnkjmbbddmgjiaaGreatDoor
namespace Rows

/-- THE TIED CARD OF 'busbartop.BusbarChecked'. -/
def busbarCheckedCard : Claim7 := { stood := { row := busbarCheckedRow, standIns := [], harness := (true, "247ac9c035e904c5735477dff06e51f35dde55d232fa20c64774cdb9fbdd8bca"), looks := true }, kinds := [], alts := [], laidByText := true, laidKinds := [.data, .data, .data, .data, .handle, .sentinel, .sentinel, .listed, .data, .pinned], laidTests := true, laidLooks := .later }
def BusbarCheckedCardSaid : Prop := Claim7.holds Tryz.pinned (.plain (OpenSpec.ofChange busbarCheckedSpec)) busbarCheckedCard

/-- THE SECOND FORM's CARD OF 'busbartop.BusbarChecked'. -/
def busbarCheckedUptoCard : Claim7 := { stood := { row := busbarCheckedUptoRow, standIns := [], harness := (true, "247ac9c035e904c5735477dff06e51f35dde55d232fa20c64774cdb9fbdd8bca"), looks := true }, kinds := [], alts := [], laidByText := true, laidKinds := [.data, .data, .data, .data, .handle, .sentinel, .sentinel, .listed, .data, .pinned], laidTests := true, laidLooks := .later }
def BusbarCheckedUptoCardSaid : Prop := Claim7.holds Tryz.pinned (.plain (OpenSpec.upto busbarCheckedSpec)) busbarCheckedUptoCard
end Rows
end Go.Proofs.YtnkjmbbddmgjiaaGreatDoor
