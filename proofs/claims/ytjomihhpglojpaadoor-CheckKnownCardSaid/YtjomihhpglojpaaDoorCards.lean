/-
  DERIVED. GIVEN WITH THE SEED: THE CARDS: each row of YtjomihhpglojpaaDoorRows.lean that lists a variable, with what it lists TIED to the program's text (the seventh form; the later family's looks); each row that meets fmt, with fmt's text TOLD by the authors' own Lean function (tested against real Go, not proved from fmt's source: count such statements apart). THE CARD IS WHAT COUNTS. Prove the row's statement (the work); the ties are given (YtjomihhpglojpaaDoorTie.lean); close each card by the builder's one call (the guide's Derived/Test/ToyasCard.lean, 'card_holds'). Laid BY PROGRAM, IN A SANDBOX (cutbox-door.mjs). By AI agents, Wed Nov 11 2026. No macro, syntax, notation, axiom, sorry.
-/
import Derived.Test.YtjomihhpglojpaaDoorRows
import GoSem.ClaimSeven
namespace Go.Proofs.YtjomihhpglojpaaDoor
namespace Rows

/-- THE TIED CARD OF 'busbarlaw09.CheckLess'. -/
def checkLessCard : Claim7 := { stood := { row := checkLessRow, standIns := [], harness := (true, "fae8101eb524b4ed58b9a2f119758348ae861731add377b0d780951a74d6c6c7"), looks := true }, kinds := [], alts := [], laidByText := true, laidKinds := [.data, .pinned], laidTests := true, laidLooks := .later }
def CheckLessCardSaid : Prop := Claim7.holds Tryd.pinned (.plain (OpenSpec.ofChange checkLessSpec)) checkLessCard

/-- THE TIED CARD OF 'busbarlaw09.CheckSets'. -/
def checkSetsCard : Claim7 := { stood := { row := checkSetsRow, standIns := [], harness := (true, "fae8101eb524b4ed58b9a2f119758348ae861731add377b0d780951a74d6c6c7"), looks := true }, kinds := [], alts := [], laidByText := true, laidKinds := [.data, .pinned], laidTests := true, laidLooks := .later }
def CheckSetsCardSaid : Prop := Claim7.holds Tryd.pinned (.plain (OpenSpec.ofChange checkSetsSpec)) checkSetsCard

/-- THE TIED CARD OF 'busbarlaw09.CheckSignal'. -/
def checkSignalCard : Claim7 := { stood := { row := checkSignalRow, standIns := [], harness := (true, "fae8101eb524b4ed58b9a2f119758348ae861731add377b0d780951a74d6c6c7"), looks := true }, kinds := [], alts := [], laidByText := true, laidKinds := [.data, .handle, .pinned], laidTests := true, laidLooks := .later }
def CheckSignalCardSaid : Prop := Claim7.holds Tryd.pinned (.plain (OpenSpec.ofChange checkSignalSpec)) checkSignalCard

/-- THE TIED CARD OF 'busbarlaw09.CheckFewer'. -/
def checkFewerCard : Claim7 := { stood := { row := checkFewerRow, standIns := [], harness := (true, "fae8101eb524b4ed58b9a2f119758348ae861731add377b0d780951a74d6c6c7"), looks := true }, kinds := [], alts := [], laidByText := true, laidKinds := [.data, .pinned], laidTests := true, laidLooks := .later }
def CheckFewerCardSaid : Prop := Claim7.holds Tryd.pinned (.plain (OpenSpec.ofChange checkFewerSpec)) checkFewerCard

/-- THE TIED CARD OF 'busbarlaw09.CheckPlaces'. -/
def checkPlacesCard : Claim7 := { stood := { row := checkPlacesRow, standIns := [], harness := (true, "fae8101eb524b4ed58b9a2f119758348ae861731add377b0d780951a74d6c6c7"), looks := true }, kinds := [], alts := [], laidByText := true, laidKinds := [.data, .handle, .pinned], laidTests := true, laidLooks := .later }
def CheckPlacesCardSaid : Prop := Claim7.holds Tryd.pinned (.plain (OpenSpec.ofChange checkPlacesSpec)) checkPlacesCard

/-- THE TIED CARD OF 'busbarlaw09.CheckKnown'. -/
def checkKnownCard : Claim7 := { stood := { row := checkKnownRow, standIns := [], harness := (true, "fae8101eb524b4ed58b9a2f119758348ae861731add377b0d780951a74d6c6c7"), looks := true }, kinds := [], alts := [], laidByText := true, laidKinds := [.data, .handle, .pinned], laidTests := true, laidLooks := .later }
def CheckKnownCardSaid : Prop := Claim7.holds Tryd.pinned (.plain (OpenSpec.ofChange checkKnownSpec)) checkKnownCard

/-- THE SECOND FORM's CARD OF 'busbarlaw09.CheckLess'. -/
def checkLessUptoCard : Claim7 := { stood := { row := checkLessUptoRow, standIns := [], harness := (true, "fae8101eb524b4ed58b9a2f119758348ae861731add377b0d780951a74d6c6c7"), looks := true }, kinds := [], alts := [], laidByText := true, laidKinds := [.data, .pinned], laidTests := true, laidLooks := .later }
def CheckLessUptoCardSaid : Prop := Claim7.holds Tryd.pinned (.plain (OpenSpec.upto checkLessSpec)) checkLessUptoCard

/-- THE SECOND FORM's CARD OF 'busbarlaw09.CheckSets'. -/
def checkSetsUptoCard : Claim7 := { stood := { row := checkSetsUptoRow, standIns := [], harness := (true, "fae8101eb524b4ed58b9a2f119758348ae861731add377b0d780951a74d6c6c7"), looks := true }, kinds := [], alts := [], laidByText := true, laidKinds := [.data, .pinned], laidTests := true, laidLooks := .later }
def CheckSetsUptoCardSaid : Prop := Claim7.holds Tryd.pinned (.plain (OpenSpec.upto checkSetsSpec)) checkSetsUptoCard

/-- THE SECOND FORM's CARD OF 'busbarlaw09.CheckSignal'. -/
def checkSignalUptoCard : Claim7 := { stood := { row := checkSignalUptoRow, standIns := [], harness := (true, "fae8101eb524b4ed58b9a2f119758348ae861731add377b0d780951a74d6c6c7"), looks := true }, kinds := [], alts := [], laidByText := true, laidKinds := [.data, .handle, .pinned], laidTests := true, laidLooks := .later }
def CheckSignalUptoCardSaid : Prop := Claim7.holds Tryd.pinned (.plain (OpenSpec.upto checkSignalSpec)) checkSignalUptoCard

/-- THE SECOND FORM's CARD OF 'busbarlaw09.CheckFewer'. -/
def checkFewerUptoCard : Claim7 := { stood := { row := checkFewerUptoRow, standIns := [], harness := (true, "fae8101eb524b4ed58b9a2f119758348ae861731add377b0d780951a74d6c6c7"), looks := true }, kinds := [], alts := [], laidByText := true, laidKinds := [.data, .pinned], laidTests := true, laidLooks := .later }
def CheckFewerUptoCardSaid : Prop := Claim7.holds Tryd.pinned (.plain (OpenSpec.upto checkFewerSpec)) checkFewerUptoCard

/-- THE SECOND FORM's CARD OF 'busbarlaw09.CheckPlaces'. -/
def checkPlacesUptoCard : Claim7 := { stood := { row := checkPlacesUptoRow, standIns := [], harness := (true, "fae8101eb524b4ed58b9a2f119758348ae861731add377b0d780951a74d6c6c7"), looks := true }, kinds := [], alts := [], laidByText := true, laidKinds := [.data, .handle, .pinned], laidTests := true, laidLooks := .later }
def CheckPlacesUptoCardSaid : Prop := Claim7.holds Tryd.pinned (.plain (OpenSpec.upto checkPlacesSpec)) checkPlacesUptoCard

/-- THE SECOND FORM's CARD OF 'busbarlaw09.CheckKnown'. -/
def checkKnownUptoCard : Claim7 := { stood := { row := checkKnownUptoRow, standIns := [], harness := (true, "fae8101eb524b4ed58b9a2f119758348ae861731add377b0d780951a74d6c6c7"), looks := true }, kinds := [], alts := [], laidByText := true, laidKinds := [.data, .handle, .pinned], laidTests := true, laidLooks := .later }
def CheckKnownUptoCardSaid : Prop := Claim7.holds Tryd.pinned (.plain (OpenSpec.upto checkKnownSpec)) checkKnownUptoCard
end Rows
end Go.Proofs.YtjomihhpglojpaaDoor
