/-
  No cell of these rows narrows 'for every input' (looked for: loops, veiled, ifaces, maps, wideKeys, modest, calm, conditions, laid).
  DERIVED. THE GIVEN ROWS OF THIS SEAT. 4 by the template 'for every input the law returns true; each argument reads behind the call as it read before'; 0 by the template 'total and deterministic' (their statements: YtbindknkjbckhaaTotals.lean).
  GIVEN WITH THE SEED: the statements are not yours to turn. If you find one false, say at which input.
  Laid BY PROGRAM, IN A SANDBOX (cutbox-rows.mjs): the forced cells as the released guide's own fill.sh prints them over the translation b2d18d1c1d5b15e3… (all of the seat's roots in one cut). By AI agents, Wed Nov 11 2026. No macro, syntax, notation, axiom, sorry.
-/
import Derived.Test.YtbindknkjbckhaaChecked
import GoSem.Claim
import GoSem.ClaimJoined
import GoSem.ClaimMapViews
import Derived.JoinedTies
import Derived.KernelRfl
namespace Go.Proofs.Ytbindknkjbckhaa
/- THE CELL 'sum', in the pinned program and in every row, IS THE sha256 OF THE DUMP (.gsa) THAT YtbindknkjbckhaaProg.lean LOADS. Nothing in Lean hashes anything: it is a label: what it is worth is what the hold of that sum in a sandbox is worth. -/
noncomputable def Try.pinned : Pinned := { name := "ytbindknkjbckhaa", sum := "b2d18d1c1d5b15e3e8b0c5093adc0e4a135fed2545afbe2b7a181848c8b117fb", checked := Try.checked }
namespace Rows
def none {H : Type} : Left H := { results := [], args := [] }

/-- 'busbarlaw08.PlaceWithin': WHATEVER THE INPUT: true; the input reads as it did. -/
def placeWithinSpec : ChangeSpec := { name := "placeWithin", fn := fun _ => fun
  | [d1, d2] => { results := [.lit (.bool true)], args := [d1, d2] }
  | _ => none }
def placeWithinRow : OpenClaim := { program := "ytbindknkjbckhaa", sum := "b2d18d1c1d5b15e3e8b0c5093adc0e4a135fed2545afbe2b7a181848c8b117fb", func := "busbar/busbarlaw08.PlaceWithin", spec := "placeWithin", unfollowed := true, recurses := true, apart := false }
def PlaceWithinSaid : Prop := placeWithinRow.holds Try.pinned (OpenSpec.ofChange placeWithinSpec)

/-- ITS FALSE NEIGHBOUR: 'it returns false'. Refute it at one input. -/
def placeWithinWrong : ChangeSpec := { name := "placeWithin", fn := fun _ => fun
  | [d1, d2] => { results := [.lit (.bool false)], args := [d1, d2] }
  | _ => none }
def PlaceWithinWrongFalsely : Prop := placeWithinRow.holds Try.pinned (OpenSpec.ofChange placeWithinWrong)

/-- 'busbarlaw08.PlaceLonger': WHATEVER THE INPUT: true; the input reads as it did. -/
def placeLongerSpec : ChangeSpec := { name := "placeLonger", fn := fun _ => fun
  | [d1, d2] => { results := [.lit (.bool true)], args := [d1, d2] }
  | _ => none }
def placeLongerRow : OpenClaim := { program := "ytbindknkjbckhaa", sum := "b2d18d1c1d5b15e3e8b0c5093adc0e4a135fed2545afbe2b7a181848c8b117fb", func := "busbar/busbarlaw08.PlaceLonger", spec := "placeLonger", unfollowed := true, recurses := true, apart := false }
def PlaceLongerSaid : Prop := placeLongerRow.holds Try.pinned (OpenSpec.ofChange placeLongerSpec)

/-- ITS FALSE NEIGHBOUR: 'it returns false'. Refute it at one input. -/
def placeLongerWrong : ChangeSpec := { name := "placeLonger", fn := fun _ => fun
  | [d1, d2] => { results := [.lit (.bool false)], args := [d1, d2] }
  | _ => none }
def PlaceLongerWrongFalsely : Prop := placeLongerRow.holds Try.pinned (OpenSpec.ofChange placeLongerWrong)

/-- 'busbarlaw08.PlaceRow': WHATEVER THE INPUT: true; the input reads as it did. -/
def placeRowSpec : ChangeSpec := { name := "placeRow", fn := fun _ => fun
  | [d1, d2, d3] => { results := [.lit (.bool true)], args := [d1, d2, d3] }
  | _ => none }
def placeRowRow : OpenClaim := { program := "ytbindknkjbckhaa", sum := "b2d18d1c1d5b15e3e8b0c5093adc0e4a135fed2545afbe2b7a181848c8b117fb", func := "busbar/busbarlaw08.PlaceRow", spec := "placeRow", inPlace := ["internal/reflectlite.TypeOf"], unfollowed := true, recurses := true, apart := false }
def PlaceRowSaid : Prop := placeRowRow.holds Try.pinned (OpenSpec.ofChange placeRowSpec)

/-- ITS FALSE NEIGHBOUR: 'it returns false'. Refute it at one input. -/
def placeRowWrong : ChangeSpec := { name := "placeRow", fn := fun _ => fun
  | [d1, d2, d3] => { results := [.lit (.bool false)], args := [d1, d2, d3] }
  | _ => none }
def PlaceRowWrongFalsely : Prop := placeRowRow.holds Try.pinned (OpenSpec.ofChange placeRowWrong)

/-- 'busbarlaw08.PlaceMirrored': WHATEVER THE INPUT: true; the input reads as it did. -/
def placeMirroredSpec : ChangeSpec := { name := "placeMirrored", fn := fun _ => fun
  | [d1, d2] => { results := [.lit (.bool true)], args := [d1, d2] }
  | _ => none }
def placeMirroredRow : OpenClaim := { program := "ytbindknkjbckhaa", sum := "b2d18d1c1d5b15e3e8b0c5093adc0e4a135fed2545afbe2b7a181848c8b117fb", func := "busbar/busbarlaw08.PlaceMirrored", spec := "placeMirrored", inPlace := ["internal/reflectlite.TypeOf"], unfollowed := true, recurses := true, apart := false }
def PlaceMirroredSaid : Prop := placeMirroredRow.holds Try.pinned (OpenSpec.ofChange placeMirroredSpec)

/-- ITS FALSE NEIGHBOUR: 'it returns false'. Refute it at one input. -/
def placeMirroredWrong : ChangeSpec := { name := "placeMirrored", fn := fun _ => fun
  | [d1, d2] => { results := [.lit (.bool false)], args := [d1, d2] }
  | _ => none }
def PlaceMirroredWrongFalsely : Prop := placeMirroredRow.holds Try.pinned (OpenSpec.ofChange placeMirroredWrong)

/- THE SECOND FORM. 'bulk': how many values and letters a reading holds, each counted each time it is reached (what is shared counts as often as it is met; a slice's spare places count too). A statement '..UptoSaid' is the law's where the arguments, and the package variables that the reading takes, are together of bulk at most 1048576: NARROWER than '..Said'. Prove '..Said' where nothing that the law and all that it calls make is longer than what came in: it says more and counts as full. Else prove '..UptoSaid'. A law counts once. -/
mutual
def uptoBulk {H : Type} : DataW H → Nat
  | .lit (.string bytes) => bytes.length + 1
  | .lit _ => 1
  | .nil => 1
  | .ptr d => uptoBulk d + 1
  | .slice elems spare => uptoBulkAll elems + uptoBulkAll spare + 1
  | .agg parts => uptoBulkAll parts + 1
  | .iface _ d => uptoBulk d + 1
  | .map entries => uptoBulkEntries entries + 1
  | .held _ => 1
def uptoBulkAll {H : Type} : List (DataW H) → Nat
  | [] => 0
  | d :: r => uptoBulk d + uptoBulkAll r
def uptoBulkEntries {H : Type} : List (Lit × DataW H) → Nat
  | [] => 0
  | x :: r => uptoBulkEntry x + uptoBulkEntries r
def uptoBulkEntry {H : Type} : Lit × DataW H → Nat
  | (.string bytes, d) => bytes.length + uptoBulk d + 1
  | (_, d) => uptoBulk d + 1
 end
def uptoSmall : (H : Type) → List (DataW H) → Bool := fun _ ds => decide (uptoBulkAll ds ≤ 1048576)
def OpenSpec.upto (s : _root_.Go.ChangeSpec) : _root_.Go.OpenSpec := { _root_.Go.OpenSpec.ofChange s with cond := some uptoSmall }

/-- 'busbarlaw08.PlaceWithin', WHERE WHAT IT READS IS OF BULK AT MOST 1048576: true; the input reads as it did. -/
def placeWithinUptoRow : OpenClaim := { program := "ytbindknkjbckhaa", sum := "b2d18d1c1d5b15e3e8b0c5093adc0e4a135fed2545afbe2b7a181848c8b117fb", func := "busbar/busbarlaw08.PlaceWithin", spec := "placeWithin", unfollowed := true, recurses := true, apart := false, narrowed := true }
def PlaceWithinUptoSaid : Prop := placeWithinUptoRow.holds Try.pinned (OpenSpec.upto placeWithinSpec)

/-- 'busbarlaw08.PlaceLonger', WHERE WHAT IT READS IS OF BULK AT MOST 1048576: true; the input reads as it did. -/
def placeLongerUptoRow : OpenClaim := { program := "ytbindknkjbckhaa", sum := "b2d18d1c1d5b15e3e8b0c5093adc0e4a135fed2545afbe2b7a181848c8b117fb", func := "busbar/busbarlaw08.PlaceLonger", spec := "placeLonger", unfollowed := true, recurses := true, apart := false, narrowed := true }
def PlaceLongerUptoSaid : Prop := placeLongerUptoRow.holds Try.pinned (OpenSpec.upto placeLongerSpec)

/-- 'busbarlaw08.PlaceRow', WHERE WHAT IT READS IS OF BULK AT MOST 1048576: true; the input reads as it did. -/
def placeRowUptoRow : OpenClaim := { program := "ytbindknkjbckhaa", sum := "b2d18d1c1d5b15e3e8b0c5093adc0e4a135fed2545afbe2b7a181848c8b117fb", func := "busbar/busbarlaw08.PlaceRow", spec := "placeRow", inPlace := ["internal/reflectlite.TypeOf"], unfollowed := true, recurses := true, apart := false, narrowed := true }
def PlaceRowUptoSaid : Prop := placeRowUptoRow.holds Try.pinned (OpenSpec.upto placeRowSpec)

/-- 'busbarlaw08.PlaceMirrored', WHERE WHAT IT READS IS OF BULK AT MOST 1048576: true; the input reads as it did. -/
def placeMirroredUptoRow : OpenClaim := { program := "ytbindknkjbckhaa", sum := "b2d18d1c1d5b15e3e8b0c5093adc0e4a135fed2545afbe2b7a181848c8b117fb", func := "busbar/busbarlaw08.PlaceMirrored", spec := "placeMirrored", inPlace := ["internal/reflectlite.TypeOf"], unfollowed := true, recurses := true, apart := false, narrowed := true }
def PlaceMirroredUptoSaid : Prop := placeMirroredUptoRow.holds Try.pinned (OpenSpec.upto placeMirroredSpec)

end Rows
end Go.Proofs.Ytbindknkjbckhaa
