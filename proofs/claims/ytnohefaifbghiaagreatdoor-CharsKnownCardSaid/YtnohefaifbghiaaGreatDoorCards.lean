/-
  DERIVED. GIVEN WITH THE SEED: THE CARDS: each row of YtnohefaifbghiaaGreatDoorRows.lean that lists a variable, with what it lists TIED to the program's text (the seventh form; the later family's looks); each row that meets fmt, with fmt's text TOLD by the authors' own Lean function (tested against real Go, not proved from fmt's source: count such statements apart). THE CARD IS WHAT COUNTS. Prove the row's statement (the work); the ties are given (YtnohefaifbghiaaGreatDoorTie.lean); close each card by the builder's one call (the guide's Derived/Test/ToyasCard.lean, 'card_holds'). Laid BY PROGRAM, IN A SANDBOX (cutbox-door.mjs). By AI agents, Wed Nov 11 2026. No macro, syntax, notation, axiom, sorry.
-/
import Derived.Test.YtnohefaifbghiaaGreatDoorRows
import GoSem.ClaimSeven
namespace Go.Proofs.YtnohefaifbghiaaGreatDoor
namespace Rows

/-- THE TIED CARD OF 'busbarlaw03.CharsJoined'. -/
def charsJoinedCard : Claim7 := { stood := { row := charsJoinedRow, standIns := [], harness := (true, "0bfecf3b949529cb47b051752e295808754a7bfc7cd39a10dbe45da565bde791"), looks := true }, kinds := [], alts := [], laidByText := true, laidKinds := [.handle], laidTests := true, laidLooks := .later }
def CharsJoinedCardSaid : Prop := Claim7.holds Tryz.pinned (.plain (OpenSpec.ofChange charsJoinedSpec)) charsJoinedCard

/-- THE TIED CARD OF 'busbarlaw03.CharsKnown'. -/
def charsKnownCard : Claim7 := { stood := { row := charsKnownRow, standIns := [], harness := (true, "0bfecf3b949529cb47b051752e295808754a7bfc7cd39a10dbe45da565bde791"), looks := true }, kinds := [], alts := [], laidByText := true, laidKinds := [.data, .handle, .pinned], laidTests := true, laidLooks := .later }
def CharsKnownCardSaid : Prop := Claim7.holds Tryz.pinned (.plain (OpenSpec.ofChange charsKnownSpec)) charsKnownCard

/-- THE SECOND FORM's CARD OF 'busbarlaw03.CharsJoined'. -/
def charsJoinedUptoCard : Claim7 := { stood := { row := charsJoinedUptoRow, standIns := [], harness := (true, "0bfecf3b949529cb47b051752e295808754a7bfc7cd39a10dbe45da565bde791"), looks := true }, kinds := [], alts := [], laidByText := true, laidKinds := [.handle], laidTests := true, laidLooks := .later }
def CharsJoinedUptoCardSaid : Prop := Claim7.holds Tryz.pinned (.plain (OpenSpec.upto charsJoinedSpec)) charsJoinedUptoCard

/-- THE SECOND FORM's CARD OF 'busbarlaw03.CharsKnown'. -/
def charsKnownUptoCard : Claim7 := { stood := { row := charsKnownUptoRow, standIns := [], harness := (true, "0bfecf3b949529cb47b051752e295808754a7bfc7cd39a10dbe45da565bde791"), looks := true }, kinds := [], alts := [], laidByText := true, laidKinds := [.data, .handle, .pinned], laidTests := true, laidLooks := .later }
def CharsKnownUptoCardSaid : Prop := Claim7.holds Tryz.pinned (.plain (OpenSpec.upto charsKnownSpec)) charsKnownUptoCard
end Rows
end Go.Proofs.YtnohefaifbghiaaGreatDoor
