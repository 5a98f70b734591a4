/-
  NARROWER THAN 'FOR EVERY INPUT', by the rows' own cells (each row's printed sentence says how): CheckLess: laid · CheckSets: laid · CheckSignal: laid · CheckFewer: laid · CheckPlaces: laid · CheckKnown: laid.
  DERIVED. THE GIVEN ROWS OF THIS SEAT. 6 by the template 'for every input the law returns true; each argument reads behind the call as it read before'; 0 by the template 'total and deterministic' (their statements: YtjomihhpglojpaaDoorTotals.lean).
  GIVEN WITH THE SEED: the statements are not yours to turn. If you find one false, say at which input.
  Laid BY PROGRAM, IN A SANDBOX (cutbox-rows.mjs): the forced cells as the released guide's own fill.sh prints them over the translation 21d53aaf32a69b51… (all of the seat's roots in one cut). By AI agents, Wed Nov 11 2026. No macro, syntax, notation, axiom, sorry.
-/
import Derived.Test.YtjomihhpglojpaaDoorChecked
import GoSem.PinnedTables
import GoSem.Claim
import GoSem.ClaimJoined
import GoSem.ClaimMapViews
import Derived.JoinedTies
import Derived.KernelRfl
namespace Go.Proofs.YtjomihhpglojpaaDoor
/- THE CELL 'sum', in the pinned program and in every row, IS THE sha256 OF THE DUMP (.gsa) THAT YtjomihhpglojpaaDoorProg.lean LOADS. Nothing in Lean hashes anything: it is a label: what it is worth is what the hold of that sum in a sandbox is worth. -/
noncomputable def Tryd.pinned : Pinned := { name := "ytjomihhpglojpaadoor", sum := "21d53aaf32a69b51233bd8669cefc8a80fe7fea156ea7d3806f7232b08e45a61", checked := Tryd.checked }
namespace Rows
def none {H : Type} : Left H := { results := [], args := [] }

/- WHAT THE LISTED PACKAGE-LEVEL VARIABLES READ AS WHEN THE CALL BEGINS. Each datum BY PROGRAM (the guide's laid-datum.mjs) off the statement by which the dump's own 'gosem.cut.vars' lays the variable. In a bare row this is a premise. The card (YtjomihhpglojpaaDoorCards.lean) ties it to the program's text. -/
def laid_unicode_utf8_acceptRanges {H : Type} : DataW H := .agg [.agg [.lit (.int .u8 128), .lit (.int .u8 191)], .agg [.lit (.int .u8 160), .lit (.int .u8 191)], .agg [.lit (.int .u8 128), .lit (.int .u8 159)], .agg [.lit (.int .u8 144), .lit (.int .u8 191)], .agg [.lit (.int .u8 128), .lit (.int .u8 143)], .agg [.lit (.int .u8 0), .lit (.int .u8 0)], .agg [.lit (.int .u8 0), .lit (.int .u8 0)], .agg [.lit (.int .u8 0), .lit (.int .u8 0)], .agg [.lit (.int .u8 0), .lit (.int .u8 0)], .agg [.lit (.int .u8 0), .lit (.int .u8 0)], .agg [.lit (.int .u8 0), .lit (.int .u8 0)], .agg [.lit (.int .u8 0), .lit (.int .u8 0)], .agg [.lit (.int .u8 0), .lit (.int .u8 0)], .agg [.lit (.int .u8 0), .lit (.int .u8 0)], .agg [.lit (.int .u8 0), .lit (.int .u8 0)], .agg [.lit (.int .u8 0), .lit (.int .u8 0)]]
/-- One of Go's own tables, pinned by name: the form's constant. -/
def laid_unicode_utf8_first : DataW Unit := Go.Pinned.utf8First
def laid_errors_errorType {H : Type} : DataW H := .iface "internal/reflectlite.rtype" (.agg [.ptr (.lit (.string [101, 114, 114, 111, 114]))])

/-- 'busbarlaw09.CheckLess': WHATEVER THE INPUT: true; the input reads as it did. -/
def checkLessSpec : ChangeSpec := { name := "checkLess", fn := fun _ => fun
  | [d1, d2] => { results := [.lit (.bool true)], args := [d1, d2] }
  | _ => none }
def checkLessRow : OpenClaim := { program := "ytjomihhpglojpaadoor", sum := "21d53aaf32a69b51233bd8669cefc8a80fe7fea156ea7d3806f7232b08e45a61", func := "busbar/busbarlaw09.CheckLess", spec := "checkLess", inPlace := ["internal/reflectlite.TypeOf"], unfollowed := true, recurses := true, named := ["unicode/utf8.first", "unicode/utf8.acceptRanges"], plainKeys := false, apart := false, laid := [("unicode/utf8.acceptRanges", laid_unicode_utf8_acceptRanges), ("unicode/utf8.first", laid_unicode_utf8_first)] }
def CheckLessSaid : Prop := checkLessRow.holds Tryd.pinned (OpenSpec.ofChange checkLessSpec)

/-- ITS FALSE NEIGHBOUR: 'it returns false'. Refute it at one input. -/
def checkLessWrong : ChangeSpec := { name := "checkLess", fn := fun _ => fun
  | [d1, d2] => { results := [.lit (.bool false)], args := [d1, d2] }
  | _ => none }
def CheckLessWrongFalsely : Prop := checkLessRow.holds Tryd.pinned (OpenSpec.ofChange checkLessWrong)

/-- 'busbarlaw09.CheckSets': WHATEVER THE INPUT: true; the input reads as it did. -/
def checkSetsSpec : ChangeSpec := { name := "checkSets", fn := fun _ => fun
  | [d1, d2] => { results := [.lit (.bool true)], args := [d1, d2] }
  | _ => none }
def checkSetsRow : OpenClaim := { program := "ytjomihhpglojpaadoor", sum := "21d53aaf32a69b51233bd8669cefc8a80fe7fea156ea7d3806f7232b08e45a61", func := "busbar/busbarlaw09.CheckSets", spec := "checkSets", inPlace := ["internal/reflectlite.TypeOf"], unfollowed := true, recurses := true, named := ["unicode/utf8.first", "unicode/utf8.acceptRanges"], plainKeys := false, apart := false, laid := [("unicode/utf8.acceptRanges", laid_unicode_utf8_acceptRanges), ("unicode/utf8.first", laid_unicode_utf8_first)] }
def CheckSetsSaid : Prop := checkSetsRow.holds Tryd.pinned (OpenSpec.ofChange checkSetsSpec)

/-- ITS FALSE NEIGHBOUR: 'it returns false'. Refute it at one input. -/
def checkSetsWrong : ChangeSpec := { name := "checkSets", fn := fun _ => fun
  | [d1, d2] => { results := [.lit (.bool false)], args := [d1, d2] }
  | _ => none }
def CheckSetsWrongFalsely : Prop := checkSetsRow.holds Tryd.pinned (OpenSpec.ofChange checkSetsWrong)

/-- 'busbarlaw09.CheckSignal': WHATEVER THE INPUT: true; the input reads as it did. -/
def checkSignalSpec : ChangeSpec := { name := "checkSignal", fn := fun _ => fun
  | [d1, d2] => { results := [.lit (.bool true)], args := [d1, d2] }
  | _ => none }
def checkSignalRow : OpenClaim := { program := "ytjomihhpglojpaadoor", sum := "21d53aaf32a69b51233bd8669cefc8a80fe7fea156ea7d3806f7232b08e45a61", func := "busbar/busbarlaw09.CheckSignal", spec := "checkSignal", inPlace := ["internal/reflectlite.TypeOf", "internal/reflectlite.ValueOf", "(internal/reflectlite.Value).Type", "(internal/reflectlite.Value).IsNil", "(internal/reflectlite.Value).Elem", "(internal/reflectlite.Value).Set"], unfollowed := true, recurses := true, named := ["unicode/utf8.first", "unicode/utf8.acceptRanges", "errors.errorType"], plainKeys := false, apart := false, laid := [("unicode/utf8.acceptRanges", laid_unicode_utf8_acceptRanges), ("errors.errorType", laid_errors_errorType), ("unicode/utf8.first", laid_unicode_utf8_first)] }
def CheckSignalSaid : Prop := checkSignalRow.holds Tryd.pinned (OpenSpec.ofChange checkSignalSpec)

/-- ITS FALSE NEIGHBOUR: 'it returns false'. Refute it at one input. -/
def checkSignalWrong : ChangeSpec := { name := "checkSignal", fn := fun _ => fun
  | [d1, d2] => { results := [.lit (.bool false)], args := [d1, d2] }
  | _ => none }
def CheckSignalWrongFalsely : Prop := checkSignalRow.holds Tryd.pinned (OpenSpec.ofChange checkSignalWrong)

/-- 'busbarlaw09.CheckFewer': WHATEVER THE INPUT: true; the input reads as it did. -/
def checkFewerSpec : ChangeSpec := { name := "checkFewer", fn := fun _ => fun
  | [d1, d2] => { results := [.lit (.bool true)], args := [d1, d2] }
  | _ => none }
def checkFewerRow : OpenClaim := { program := "ytjomihhpglojpaadoor", sum := "21d53aaf32a69b51233bd8669cefc8a80fe7fea156ea7d3806f7232b08e45a61", func := "busbar/busbarlaw09.CheckFewer", spec := "checkFewer", inPlace := ["internal/reflectlite.TypeOf"], unfollowed := true, recurses := true, named := ["unicode/utf8.first", "unicode/utf8.acceptRanges"], plainKeys := false, apart := false, laid := [("unicode/utf8.acceptRanges", laid_unicode_utf8_acceptRanges), ("unicode/utf8.first", laid_unicode_utf8_first)] }
def CheckFewerSaid : Prop := checkFewerRow.holds Tryd.pinned (OpenSpec.ofChange checkFewerSpec)

/-- ITS FALSE NEIGHBOUR: 'it returns false'. Refute it at one input. -/
def checkFewerWrong : ChangeSpec := { name := "checkFewer", fn := fun _ => fun
  | [d1, d2] => { results := [.lit (.bool false)], args := [d1, d2] }
  | _ => none }
def CheckFewerWrongFalsely : Prop := checkFewerRow.holds Tryd.pinned (OpenSpec.ofChange checkFewerWrong)

/-- 'busbarlaw09.CheckPlaces': WHATEVER THE INPUT: true; the input reads as it did. -/
def checkPlacesSpec : ChangeSpec := { name := "checkPlaces", fn := fun _ => fun
  | [d1, d2] => { results := [.lit (.bool true)], args := [d1, d2] }
  | _ => none }
def checkPlacesRow : OpenClaim := { program := "ytjomihhpglojpaadoor", sum := "21d53aaf32a69b51233bd8669cefc8a80fe7fea156ea7d3806f7232b08e45a61", func := "busbar/busbarlaw09.CheckPlaces", spec := "checkPlaces", inPlace := ["internal/reflectlite.TypeOf", "internal/reflectlite.ValueOf", "(internal/reflectlite.Value).Type", "(internal/reflectlite.Value).IsNil", "(internal/reflectlite.Value).Elem", "(internal/reflectlite.Value).Set"], unfollowed := true, recurses := true, named := ["unicode/utf8.first", "unicode/utf8.acceptRanges", "errors.errorType"], plainKeys := false, apart := false, laid := [("unicode/utf8.acceptRanges", laid_unicode_utf8_acceptRanges), ("errors.errorType", laid_errors_errorType), ("unicode/utf8.first", laid_unicode_utf8_first)] }
def CheckPlacesSaid : Prop := checkPlacesRow.holds Tryd.pinned (OpenSpec.ofChange checkPlacesSpec)

/-- ITS FALSE NEIGHBOUR: 'it returns false'. Refute it at one input. -/
def checkPlacesWrong : ChangeSpec := { name := "checkPlaces", fn := fun _ => fun
  | [d1, d2] => { results := [.lit (.bool false)], args := [d1, d2] }
  | _ => none }
def CheckPlacesWrongFalsely : Prop := checkPlacesRow.holds Tryd.pinned (OpenSpec.ofChange checkPlacesWrong)

/-- 'busbarlaw09.CheckKnown': WHATEVER THE INPUT: true; the input reads as it did. -/
def checkKnownSpec : ChangeSpec := { name := "checkKnown", fn := fun _ => fun
  | [] => { results := [.lit (.bool true)], args := [] }
  | _ => none }
def checkKnownRow : OpenClaim := { program := "ytjomihhpglojpaadoor", sum := "21d53aaf32a69b51233bd8669cefc8a80fe7fea156ea7d3806f7232b08e45a61", func := "busbar/busbarlaw09.CheckKnown", spec := "checkKnown", inPlace := ["internal/reflectlite.TypeOf", "internal/reflectlite.ValueOf", "(internal/reflectlite.Value).Type", "(internal/reflectlite.Value).IsNil", "(internal/reflectlite.Value).Elem", "(internal/reflectlite.Value).Set"], unfollowed := true, recurses := true, named := ["unicode/utf8.first", "unicode/utf8.acceptRanges", "errors.errorType"], plainKeys := false, apart := false, laid := [("unicode/utf8.acceptRanges", laid_unicode_utf8_acceptRanges), ("errors.errorType", laid_errors_errorType), ("unicode/utf8.first", laid_unicode_utf8_first)] }
def CheckKnownSaid : Prop := checkKnownRow.holds Tryd.pinned (OpenSpec.ofChange checkKnownSpec)

/-- ITS FALSE NEIGHBOUR: 'it returns false'. Refute it at one input. -/
def checkKnownWrong : ChangeSpec := { name := "checkKnown", fn := fun _ => fun
  | [] => { results := [.lit (.bool false)], args := [] }
  | _ => none }
def CheckKnownWrongFalsely : Prop := checkKnownRow.holds Tryd.pinned (OpenSpec.ofChange checkKnownWrong)

/- THE SECOND FORM. 'bulk': how many values and letters a reading holds, each counted each time it is reached (what is shared counts as often as it is met; a slice's spare places count too). A statement '..UptoSaid' is the law's where the arguments, and the package variables that the reading takes, are together of bulk at most 1048576: NARROWER than '..Said'. Prove '..Said' where nothing that the law and all that it calls make is longer than what came in: it says more and counts as full. Else prove '..UptoSaid'. A law counts once. -/
mutual
def uptoBulk {H : Type} : DataW H → Nat
  | .lit (.string bytes) => bytes.length + 1
  | .lit _ => 1
  | .nil => 1
  | .ptr d => uptoBulk d + 1
  | .slice elems spare => uptoBulkAll elems + uptoBulkAll spare + 1
  | .agg parts => uptoBulkAll parts + 1
  | .iface _ d => uptoBulk d + 1
  | .map entries => uptoBulkEntries entries + 1
  | .held _ => 1
def uptoBulkAll {H : Type} : List (DataW H) → Nat
  | [] => 0
  | d :: r => uptoBulk d + uptoBulkAll r
def uptoBulkEntries {H : Type} : List (Lit × DataW H) → Nat
  | [] => 0
  | x :: r => uptoBulkEntry x + uptoBulkEntries r
def uptoBulkEntry {H : Type} : Lit × DataW H → Nat
  | (.string bytes, d) => bytes.length + uptoBulk d + 1
  | (_, d) => uptoBulk d + 1
 end
def uptoSmall : (H : Type) → List (DataW H) → Bool := fun _ ds => decide (uptoBulkAll ds ≤ 1048576)
def OpenSpec.upto (s : _root_.Go.ChangeSpec) : _root_.Go.OpenSpec := { _root_.Go.OpenSpec.ofChange s with cond := some uptoSmall }

/-- 'busbarlaw09.CheckLess', WHERE WHAT IT READS IS OF BULK AT MOST 1048576: true; the input reads as it did. -/
def checkLessUptoRow : OpenClaim := { program := "ytjomihhpglojpaadoor", sum := "21d53aaf32a69b51233bd8669cefc8a80fe7fea156ea7d3806f7232b08e45a61", func := "busbar/busbarlaw09.CheckLess", spec := "checkLess", inPlace := ["internal/reflectlite.TypeOf"], unfollowed := true, recurses := true, named := ["unicode/utf8.first", "unicode/utf8.acceptRanges"], plainKeys := false, apart := false, laid := [("unicode/utf8.acceptRanges", laid_unicode_utf8_acceptRanges), ("unicode/utf8.first", laid_unicode_utf8_first)], narrowed := true }
def CheckLessUptoSaid : Prop := checkLessUptoRow.holds Tryd.pinned (OpenSpec.upto checkLessSpec)

/-- 'busbarlaw09.CheckSets', WHERE WHAT IT READS IS OF BULK AT MOST 1048576: true; the input reads as it did. -/
def checkSetsUptoRow : OpenClaim := { program := "ytjomihhpglojpaadoor", sum := "21d53aaf32a69b51233bd8669cefc8a80fe7fea156ea7d3806f7232b08e45a61", func := "busbar/busbarlaw09.CheckSets", spec := "checkSets", inPlace := ["internal/reflectlite.TypeOf"], unfollowed := true, recurses := true, named := ["unicode/utf8.first", "unicode/utf8.acceptRanges"], plainKeys := false, apart := false, laid := [("unicode/utf8.acceptRanges", laid_unicode_utf8_acceptRanges), ("unicode/utf8.first", laid_unicode_utf8_first)], narrowed := true }
def CheckSetsUptoSaid : Prop := checkSetsUptoRow.holds Tryd.pinned (OpenSpec.upto checkSetsSpec)

/-- 'busbarlaw09.CheckSignal', WHERE WHAT IT READS IS OF BULK AT MOST 1048576: true; the input reads as it did. -/
def checkSignalUptoRow : OpenClaim := { program := "ytjomihhpglojpaadoor", sum := "21d53aaf32a69b51233bd8669cefc8a80fe7fea156ea7d3806f7232b08e45a61", func := "busbar/busbarlaw09.CheckSignal", spec := "checkSignal", inPlace := ["internal/reflectlite.TypeOf", "internal/reflectlite.ValueOf", "(internal/reflectlite.Value).Type", "(internal/reflectlite.Value).IsNil", "(internal/reflectlite.Value).Elem", "(internal/reflectlite.Value).Set"], unfollowed := true, recurses := true, named := ["unicode/utf8.first", "unicode/utf8.acceptRanges", "errors.errorType"], plainKeys := false, apart := false, laid := [("unicode/utf8.acceptRanges", laid_unicode_utf8_acceptRanges), ("errors.errorType", laid_errors_errorType), ("unicode/utf8.first", laid_unicode_utf8_first)], narrowed := true }
def CheckSignalUptoSaid : Prop := checkSignalUptoRow.holds Tryd.pinned (OpenSpec.upto checkSignalSpec)

/-- 'busbarlaw09.CheckFewer', WHERE WHAT IT READS IS OF BULK AT MOST 1048576: true; the input reads as it did. -/
def checkFewerUptoRow : OpenClaim := { program := "ytjomihhpglojpaadoor", sum := "21d53aaf32a69b51233bd8669cefc8a80fe7fea156ea7d3806f7232b08e45a61", func := "busbar/busbarlaw09.CheckFewer", spec := "checkFewer", inPlace := ["internal/reflectlite.TypeOf"], unfollowed := true, recurses := true, named := ["unicode/utf8.first", "unicode/utf8.acceptRanges"], plainKeys := false, apart := false, laid := [("unicode/utf8.acceptRanges", laid_unicode_utf8_acceptRanges), ("unicode/utf8.first", laid_unicode_utf8_first)], narrowed := true }
def CheckFewerUptoSaid : Prop := checkFewerUptoRow.holds Tryd.pinned (OpenSpec.upto checkFewerSpec)

/-- 'busbarlaw09.CheckPlaces', WHERE WHAT IT READS IS OF BULK AT MOST 1048576: true; the input reads as it did. -/
def checkPlacesUptoRow : OpenClaim := { program := "ytjomihhpglojpaadoor", sum := "21d53aaf32a69b51233bd8669cefc8a80fe7fea156ea7d3806f7232b08e45a61", func := "busbar/busbarlaw09.CheckPlaces", spec := "checkPlaces", inPlace := ["internal/reflectlite.TypeOf", "internal/reflectlite.ValueOf", "(internal/reflectlite.Value).Type", "(internal/reflectlite.Value).IsNil", "(internal/reflectlite.Value).Elem", "(internal/reflectlite.Value).Set"], unfollowed := true, recurses := true, named := ["unicode/utf8.first", "unicode/utf8.acceptRanges", "errors.errorType"], plainKeys := false, apart := false, laid := [("unicode/utf8.acceptRanges", laid_unicode_utf8_acceptRanges), ("errors.errorType", laid_errors_errorType), ("unicode/utf8.first", laid_unicode_utf8_first)], narrowed := true }
def CheckPlacesUptoSaid : Prop := checkPlacesUptoRow.holds Tryd.pinned (OpenSpec.upto checkPlacesSpec)

/-- 'busbarlaw09.CheckKnown', WHERE WHAT IT READS IS OF BULK AT MOST 1048576: true; the input reads as it did. -/
def checkKnownUptoRow : OpenClaim := { program := "ytjomihhpglojpaadoor", sum := "21d53aaf32a69b51233bd8669cefc8a80fe7fea156ea7d3806f7232b08e45a61", func := "busbar/busbarlaw09.CheckKnown", spec := "checkKnown", inPlace := ["internal/reflectlite.TypeOf", "internal/reflectlite.ValueOf", "(internal/reflectlite.Value).Type", "(internal/reflectlite.Value).IsNil", "(internal/reflectlite.Value).Elem", "(internal/reflectlite.Value).Set"], unfollowed := true, recurses := true, named := ["unicode/utf8.first", "unicode/utf8.acceptRanges", "errors.errorType"], plainKeys := false, apart := false, laid := [("unicode/utf8.acceptRanges", laid_unicode_utf8_acceptRanges), ("errors.errorType", laid_errors_errorType), ("unicode/utf8.first", laid_unicode_utf8_first)], narrowed := true }
def CheckKnownUptoSaid : Prop := checkKnownUptoRow.holds Tryd.pinned (OpenSpec.upto checkKnownSpec)

end Rows
end Go.Proofs.YtjomihhpglojpaaDoor
