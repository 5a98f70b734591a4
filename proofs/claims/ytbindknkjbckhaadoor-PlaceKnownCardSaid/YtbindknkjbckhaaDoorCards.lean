/-
  DERIVED. GIVEN WITH THE SEED: THE CARDS: each row of YtbindknkjbckhaaDoorRows.lean that lists a variable, with what it lists TIED to the program's text (the seventh form; the later family's looks); each row that meets fmt, with fmt's text TOLD by the authors' own Lean function (tested against real Go, not proved from fmt's source: count such statements apart). THE CARD IS WHAT COUNTS. Prove the row's statement (the work); the ties are given (YtbindknkjbckhaaDoorTie.lean); close each card by the builder's one call (the guide's Derived/Test/ToyasCard.lean, 'card_holds'). Laid BY PROGRAM, IN A SANDBOX (cutbox-door.mjs). By AI agents, Wed Nov 11 2026. No macro, syntax, notation, axiom, sorry.
-/
import Derived.Test.YtbindknkjbckhaaDoorRows
import GoSem.ClaimSeven
namespace Go.Proofs.YtbindknkjbckhaaDoor
namespace Rows

/-- THE TIED CARD OF 'busbarlaw08.PlaceBits'. -/
def placeBitsCard : Claim7 := { stood := { row := placeBitsRow, standIns := [], harness := (true, "819579d01a8b93d7374cdee56bbfacc7485085288352485572f47673a904a18f"), looks := true }, kinds := [], alts := [], laidByText := true, laidKinds := [.handle], laidTests := true, laidLooks := .later }
def PlaceBitsCardSaid : Prop := Claim7.holds Tryd.pinned (.plain (OpenSpec.ofChange placeBitsSpec)) placeBitsCard

/-- THE TIED CARD OF 'busbarlaw08.PlaceKnown'. -/
def placeKnownCard : Claim7 := { stood := { row := placeKnownRow, standIns := [], harness := (true, "819579d01a8b93d7374cdee56bbfacc7485085288352485572f47673a904a18f"), looks := true }, kinds := [], alts := [], laidByText := true, laidKinds := [.handle], laidTests := true, laidLooks := .later }
def PlaceKnownCardSaid : Prop := Claim7.holds Tryd.pinned (.plain (OpenSpec.ofChange placeKnownSpec)) placeKnownCard

/-- THE SECOND FORM's CARD OF 'busbarlaw08.PlaceBits'. -/
def placeBitsUptoCard : Claim7 := { stood := { row := placeBitsUptoRow, standIns := [], harness := (true, "819579d01a8b93d7374cdee56bbfacc7485085288352485572f47673a904a18f"), looks := true }, kinds := [], alts := [], laidByText := true, laidKinds := [.handle], laidTests := true, laidLooks := .later }
def PlaceBitsUptoCardSaid : Prop := Claim7.holds Tryd.pinned (.plain (OpenSpec.upto placeBitsSpec)) placeBitsUptoCard

/-- THE SECOND FORM's CARD OF 'busbarlaw08.PlaceKnown'. -/
def placeKnownUptoCard : Claim7 := { stood := { row := placeKnownUptoRow, standIns := [], harness := (true, "819579d01a8b93d7374cdee56bbfacc7485085288352485572f47673a904a18f"), looks := true }, kinds := [], alts := [], laidByText := true, laidKinds := [.handle], laidTests := true, laidLooks := .later }
def PlaceKnownUptoCardSaid : Prop := Claim7.holds Tryd.pinned (.plain (OpenSpec.upto placeKnownSpec)) placeKnownUptoCard
end Rows
end Go.Proofs.YtbindknkjbckhaaDoor
