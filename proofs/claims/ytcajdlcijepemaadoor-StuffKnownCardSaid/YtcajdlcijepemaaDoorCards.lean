/-
  DERIVED. GIVEN WITH THE SEED: THE CARDS: each row of YtcajdlcijepemaaDoorRows.lean that lists a variable, with what it lists TIED to the program's text (the seventh form; the later family's looks); each row that meets fmt, with fmt's text TOLD by the authors' own Lean function (tested against real Go, not proved from fmt's source: count such statements apart). THE CARD IS WHAT COUNTS. Prove the row's statement (the work); the ties are given (YtcajdlcijepemaaDoorTie.lean); close each card by the builder's one call (the guide's Derived/Test/ToyasCard.lean, 'card_holds'). Laid BY PROGRAM, IN A SANDBOX (cutbox-door.mjs). By AI agents, Wed Nov 11 2026. No macro, syntax, notation, axiom, sorry.
-/
import Derived.Test.YtcajdlcijepemaaDoorRows
import GoSem.ClaimSeven
namespace Go.Proofs.YtcajdlcijepemaaDoor
namespace Rows

/-- THE TIED CARD OF 'busbarlaw21.StuffTakes'. -/
def stuffTakesCard : Claim7 := { stood := { row := stuffTakesRow, standIns := [], harness := (true, "bd9f9e1b5177432953c76990533cfe348603fef6e536c80ad9f6a2692963aa28"), looks := true }, kinds := [], alts := [], laidByText := true, laidKinds := [.handle], laidTests := true, laidLooks := .later }
def StuffTakesCardSaid : Prop := Claim7.holds Tryd.pinned (.plain (OpenSpec.ofChange stuffTakesSpec)) stuffTakesCard

/-- THE TIED CARD OF 'busbarlaw21.StuffKnown'. -/
def stuffKnownCard : Claim7 := { stood := { row := stuffKnownRow, standIns := [], harness := (true, "bd9f9e1b5177432953c76990533cfe348603fef6e536c80ad9f6a2692963aa28"), looks := true }, kinds := [], alts := [], laidByText := true, laidKinds := [.handle], laidTests := true, laidLooks := .later }
def StuffKnownCardSaid : Prop := Claim7.holds Tryd.pinned (.plain (OpenSpec.ofChange stuffKnownSpec)) stuffKnownCard

/-- THE SECOND FORM's CARD OF 'busbarlaw21.StuffTakes'. -/
def stuffTakesUptoCard : Claim7 := { stood := { row := stuffTakesUptoRow, standIns := [], harness := (true, "bd9f9e1b5177432953c76990533cfe348603fef6e536c80ad9f6a2692963aa28"), looks := true }, kinds := [], alts := [], laidByText := true, laidKinds := [.handle], laidTests := true, laidLooks := .later }
def StuffTakesUptoCardSaid : Prop := Claim7.holds Tryd.pinned (.plain (OpenSpec.upto stuffTakesSpec)) stuffTakesUptoCard

/-- THE SECOND FORM's CARD OF 'busbarlaw21.StuffKnown'. -/
def stuffKnownUptoCard : Claim7 := { stood := { row := stuffKnownUptoRow, standIns := [], harness := (true, "bd9f9e1b5177432953c76990533cfe348603fef6e536c80ad9f6a2692963aa28"), looks := true }, kinds := [], alts := [], laidByText := true, laidKinds := [.handle], laidTests := true, laidLooks := .later }
def StuffKnownUptoCardSaid : Prop := Claim7.holds Tryd.pinned (.plain (OpenSpec.upto stuffKnownSpec)) stuffKnownUptoCard
end Rows
end Go.Proofs.YtcajdlcijepemaaDoor
