/-
  DERIVED. GIVEN WITH THE SEED: THE CARDS: each row of YtnohefaifbghiaaDoorRows.lean that lists a variable, with what it lists TIED to the program's text (the seventh form; the later family's looks); each row that meets fmt, with fmt's text TOLD by the authors' own Lean function (tested against real Go, not proved from fmt's source: count such statements apart). THE CARD IS WHAT COUNTS. Prove the row's statement (the work); the ties are given (YtnohefaifbghiaaDoorTie.lean); close each card by the builder's one call (the guide's Derived/Test/ToyasCard.lean, 'card_holds'). Laid BY PROGRAM, IN A SANDBOX (cutbox-door.mjs). By AI agents, Wed Nov 11 2026. No macro, syntax, notation, axiom, sorry.
-/
import Derived.Test.YtnohefaifbghiaaDoorRows
import GoSem.ClaimSeven
namespace Go.Proofs.YtnohefaifbghiaaDoor
namespace Rows

/-- THE TIED CARD OF 'busbarlaw03.CharsCheck'. -/
def charsCheckCard : Claim7 := { stood := { row := charsCheckRow, standIns := [], harness := (true, "99d27bd5f6f8b063a8e336cb835d561706eaaec9792ae9e57328214b3c4fb71c"), looks := true }, kinds := [], alts := [], laidByText := true, laidKinds := [.handle], laidTests := true, laidLooks := .later }
def CharsCheckCardSaid : Prop := Claim7.holds Tryd.pinned (.plain (OpenSpec.ofChange charsCheckSpec)) charsCheckCard

/-- THE TIED CARD OF 'busbarlaw03.CharsUnquotes'. -/
def charsUnquotesCard : Claim7 := { stood := { row := charsUnquotesRow, standIns := [], harness := (true, "99d27bd5f6f8b063a8e336cb835d561706eaaec9792ae9e57328214b3c4fb71c"), looks := true }, kinds := [], alts := [], laidByText := true, laidKinds := [.data, .handle, .pinned], laidTests := true, laidLooks := .later }
def CharsUnquotesCardSaid : Prop := Claim7.holds Tryd.pinned (.plain (OpenSpec.ofChange charsUnquotesSpec)) charsUnquotesCard

/-- THE TIED CARD OF 'busbarlaw03.CharsNamed'. -/
def charsNamedCard : Claim7 := { stood := { row := charsNamedRow, standIns := [], harness := (true, "99d27bd5f6f8b063a8e336cb835d561706eaaec9792ae9e57328214b3c4fb71c"), looks := true }, kinds := [], alts := [], laidByText := true, laidKinds := [.data, .pinned], laidTests := true, laidLooks := .later }
def CharsNamedCardSaid : Prop := Claim7.holds Tryd.pinned (.plain (OpenSpec.ofChange charsNamedSpec)) charsNamedCard

/-- THE SECOND FORM's CARD OF 'busbarlaw03.CharsCheck'. -/
def charsCheckUptoCard : Claim7 := { stood := { row := charsCheckUptoRow, standIns := [], harness := (true, "99d27bd5f6f8b063a8e336cb835d561706eaaec9792ae9e57328214b3c4fb71c"), looks := true }, kinds := [], alts := [], laidByText := true, laidKinds := [.handle], laidTests := true, laidLooks := .later }
def CharsCheckUptoCardSaid : Prop := Claim7.holds Tryd.pinned (.plain (OpenSpec.upto charsCheckSpec)) charsCheckUptoCard

/-- THE SECOND FORM's CARD OF 'busbarlaw03.CharsUnquotes'. -/
def charsUnquotesUptoCard : Claim7 := { stood := { row := charsUnquotesUptoRow, standIns := [], harness := (true, "99d27bd5f6f8b063a8e336cb835d561706eaaec9792ae9e57328214b3c4fb71c"), looks := true }, kinds := [], alts := [], laidByText := true, laidKinds := [.data, .handle, .pinned], laidTests := true, laidLooks := .later }
def CharsUnquotesUptoCardSaid : Prop := Claim7.holds Tryd.pinned (.plain (OpenSpec.upto charsUnquotesSpec)) charsUnquotesUptoCard

/-- THE SECOND FORM's CARD OF 'busbarlaw03.CharsNamed'. -/
def charsNamedUptoCard : Claim7 := { stood := { row := charsNamedUptoRow, standIns := [], harness := (true, "99d27bd5f6f8b063a8e336cb835d561706eaaec9792ae9e57328214b3c4fb71c"), looks := true }, kinds := [], alts := [], laidByText := true, laidKinds := [.data, .pinned], laidTests := true, laidLooks := .later }
def CharsNamedUptoCardSaid : Prop := Claim7.holds Tryd.pinned (.plain (OpenSpec.upto charsNamedSpec)) charsNamedUptoCard
end Rows
end Go.Proofs.YtnohefaifbghiaaDoor
