/-
  DERIVED. GIVEN WITH THE SEED: THE CARDS: each row of YtjomihhpglojpaaGreatDoorRows.lean that lists a variable, with what it lists TIED to the program's text (the seventh form; the later family's looks); each row that meets fmt, with fmt's text TOLD by the authors' own Lean function (tested against real Go, not proved from fmt's source: count such statements apart). THE CARD IS WHAT COUNTS. Prove the row's statement (the work); the ties are given (YtjomihhpglojpaaGreatDoorTie.lean); close each card by the builder's one call (the guide's Derived/Test/ToyasCard.lean, 'card_holds'). Laid BY PROGRAM, IN A SANDBOX (cutbox-door.mjs). By AI agents, Wed Nov 11 2026. No macro, syntax, notation, axiom, sorry.
-/
import Derived.Test.YtjomihhpglojpaaGreatDoorRows
import GoSem.ClaimSeven
namespace Go.Proofs.YtjomihhpglojpaaGreatDoor
namespace Rows

/-- THE TIED CARD OF 'busbarlaw09.CheckMessage'. -/
def checkMessageCard : Claim7 := { stood := { row := checkMessageRow, standIns := [], harness := (true, "52db3166aa89734a7303e6feab8b02ddf717dade18790e6740656a16c0adf2d3"), looks := true }, kinds := [], alts := [], laidByText := true, laidKinds := [.data, .handle, .pinned], laidTests := true, laidLooks := .later }
def CheckMessageCardSaid : Prop := Claim7.holds Tryz.pinned (.plain (OpenSpec.ofChange checkMessageSpec)) checkMessageCard

/-- THE TIED CARD OF 'busbarlaw09.CheckDatabase'. -/
def checkDatabaseCard : Claim7 := { stood := { row := checkDatabaseRow, standIns := [], harness := (true, "52db3166aa89734a7303e6feab8b02ddf717dade18790e6740656a16c0adf2d3"), looks := true }, kinds := [], alts := [], laidByText := true, laidKinds := [.data, .handle, .pinned], laidTests := true, laidLooks := .later }
def CheckDatabaseCardSaid : Prop := Claim7.holds Tryz.pinned (.plain (OpenSpec.ofChange checkDatabaseSpec)) checkDatabaseCard

/-- THE SECOND FORM's CARD OF 'busbarlaw09.CheckMessage'. -/
def checkMessageUptoCard : Claim7 := { stood := { row := checkMessageUptoRow, standIns := [], harness := (true, "52db3166aa89734a7303e6feab8b02ddf717dade18790e6740656a16c0adf2d3"), looks := true }, kinds := [], alts := [], laidByText := true, laidKinds := [.data, .handle, .pinned], laidTests := true, laidLooks := .later }
def CheckMessageUptoCardSaid : Prop := Claim7.holds Tryz.pinned (.plain (OpenSpec.upto checkMessageSpec)) checkMessageUptoCard

/-- THE SECOND FORM's CARD OF 'busbarlaw09.CheckDatabase'. -/
def checkDatabaseUptoCard : Claim7 := { stood := { row := checkDatabaseUptoRow, standIns := [], harness := (true, "52db3166aa89734a7303e6feab8b02ddf717dade18790e6740656a16c0adf2d3"), looks := true }, kinds := [], alts := [], laidByText := true, laidKinds := [.data, .handle, .pinned], laidTests := true, laidLooks := .later }
def CheckDatabaseUptoCardSaid : Prop := Claim7.holds Tryz.pinned (.plain (OpenSpec.upto checkDatabaseSpec)) checkDatabaseUptoCard
end Rows
end Go.Proofs.YtjomihhpglojpaaGreatDoor
