/-
  DERIVED. GIVEN WITH THE SEED: THE CARDS: each row of YtgddinjaloioiaaDoorRows.lean that lists a variable, with what it lists TIED to the program's text (the seventh form; the later family's looks); each row that meets fmt, with fmt's text TOLD by the authors' own Lean function (tested against real Go, not proved from fmt's source: count such statements apart). THE CARD IS WHAT COUNTS. Prove the row's statement (the work); the ties are given (YtgddinjaloioiaaDoorTie.lean); close each card by the builder's one call (the guide's Derived/Test/ToyasCard.lean, 'card_holds'). Laid BY PROGRAM, IN A SANDBOX (cutbox-door.mjs). By AI agents, Wed Nov 11 2026. No macro, syntax, notation, axiom, sorry.
-/
import Derived.Test.YtgddinjaloioiaaDoorRows
import GoSem.ClaimSeven
namespace Go.Proofs.YtgddinjaloioiaaDoor
namespace Rows

/-- THE TIED CARD OF 'busbarlaw01.BitsOne'. -/
def bitsOneCard : Claim7 := { stood := { row := bitsOneRow, standIns := [], harness := (true, "caee8a3a2a7ffc3265ff4f1ff5a82c88af8a488abb4cf375009d9f400646ae92"), looks := true }, kinds := [], alts := [], laidByText := true, laidKinds := [.handle], laidTests := true, laidLooks := .later }
def BitsOneCardSaid : Prop := Claim7.holds Tryd.pinned (.plain (OpenSpec.ofChange bitsOneSpec)) bitsOneCard

/-- THE TIED CARD OF 'busbarlaw01.BitsLay'. -/
def bitsLayCard : Claim7 := { stood := { row := bitsLayRow, standIns := [], harness := (true, "caee8a3a2a7ffc3265ff4f1ff5a82c88af8a488abb4cf375009d9f400646ae92"), looks := true }, kinds := [], alts := [], laidByText := true, laidKinds := [.handle], laidTests := true, laidLooks := .later }
def BitsLayCardSaid : Prop := Claim7.holds Tryd.pinned (.plain (OpenSpec.ofChange bitsLaySpec)) bitsLayCard

/-- THE TIED CARD OF 'busbarlaw01.BitsRow'. -/
def bitsRowCard : Claim7 := { stood := { row := bitsRowRow, standIns := [], harness := (true, "caee8a3a2a7ffc3265ff4f1ff5a82c88af8a488abb4cf375009d9f400646ae92"), looks := true }, kinds := [], alts := [], laidByText := true, laidKinds := [.handle], laidTests := true, laidLooks := .later }
def BitsRowCardSaid : Prop := Claim7.holds Tryd.pinned (.plain (OpenSpec.ofChange bitsRowSpec)) bitsRowCard

/-- THE TIED CARD OF 'busbarlaw01.BitsSets'. -/
def bitsSetsCard : Claim7 := { stood := { row := bitsSetsRow, standIns := [], harness := (true, "caee8a3a2a7ffc3265ff4f1ff5a82c88af8a488abb4cf375009d9f400646ae92"), looks := true }, kinds := [], alts := [], laidByText := true, laidKinds := [.handle], laidTests := true, laidLooks := .later }
def BitsSetsCardSaid : Prop := Claim7.holds Tryd.pinned (.plain (OpenSpec.ofChange bitsSetsSpec)) bitsSetsCard

/-- THE SECOND FORM's CARD OF 'busbarlaw01.BitsOne'. -/
def bitsOneUptoCard : Claim7 := { stood := { row := bitsOneUptoRow, standIns := [], harness := (true, "caee8a3a2a7ffc3265ff4f1ff5a82c88af8a488abb4cf375009d9f400646ae92"), looks := true }, kinds := [], alts := [], laidByText := true, laidKinds := [.handle], laidTests := true, laidLooks := .later }
def BitsOneUptoCardSaid : Prop := Claim7.holds Tryd.pinned (.plain (OpenSpec.upto bitsOneSpec)) bitsOneUptoCard

/-- THE SECOND FORM's CARD OF 'busbarlaw01.BitsLay'. -/
def bitsLayUptoCard : Claim7 := { stood := { row := bitsLayUptoRow, standIns := [], harness := (true, "caee8a3a2a7ffc3265ff4f1ff5a82c88af8a488abb4cf375009d9f400646ae92"), looks := true }, kinds := [], alts := [], laidByText := true, laidKinds := [.handle], laidTests := true, laidLooks := .later }
def BitsLayUptoCardSaid : Prop := Claim7.holds Tryd.pinned (.plain (OpenSpec.upto bitsLaySpec)) bitsLayUptoCard

/-- THE SECOND FORM's CARD OF 'busbarlaw01.BitsRow'. -/
def bitsRowUptoCard : Claim7 := { stood := { row := bitsRowUptoRow, standIns := [], harness := (true, "caee8a3a2a7ffc3265ff4f1ff5a82c88af8a488abb4cf375009d9f400646ae92"), looks := true }, kinds := [], alts := [], laidByText := true, laidKinds := [.handle], laidTests := true, laidLooks := .later }
def BitsRowUptoCardSaid : Prop := Claim7.holds Tryd.pinned (.plain (OpenSpec.upto bitsRowSpec)) bitsRowUptoCard

/-- THE SECOND FORM's CARD OF 'busbarlaw01.BitsSets'. -/
def bitsSetsUptoCard : Claim7 := { stood := { row := bitsSetsUptoRow, standIns := [], harness := (true, "caee8a3a2a7ffc3265ff4f1ff5a82c88af8a488abb4cf375009d9f400646ae92"), looks := true }, kinds := [], alts := [], laidByText := true, laidKinds := [.handle], laidTests := true, laidLooks := .later }
def BitsSetsUptoCardSaid : Prop := Claim7.holds Tryd.pinned (.plain (OpenSpec.upto bitsSetsSpec)) bitsSetsUptoCard
end Rows
end Go.Proofs.YtgddinjaloioiaaDoor
