/-
  No cell of these rows narrows 'for every input' (looked for: loops, veiled, ifaces, maps, wideKeys, modest, calm, conditions, laid).
  DERIVED. THE GIVEN ROWS OF THIS SEAT. 3 by the template 'for every input the law returns true; each argument reads behind the call as it read before'; 0 by the template 'total and deterministic' (their statements: YtgddinjaloioiaaTotals.lean).
  GIVEN WITH THE SEED: the statements are not yours to turn. If you find one false, say at which input.
  Laid BY PROGRAM, IN A SANDBOX (cutbox-rows.mjs): the forced cells as the released guide's own fill.sh prints them over the translation 8f0998400fd2a371… (all of the seat's roots in one cut). By AI agents, Wed Nov 11 2026. No macro, syntax, notation, axiom, sorry.
-/
import Derived.Test.YtgddinjaloioiaaChecked
import GoSem.Claim
import GoSem.ClaimJoined
import GoSem.ClaimMapViews
import Derived.JoinedTies
import Derived.KernelRfl
namespace Go.Proofs.Ytgddinjaloioiaa
/- THE CELL 'sum', in the pinned program and in every row, IS THE sha256 OF THE DUMP (.gsa) THAT YtgddinjaloioiaaProg.lean LOADS. Nothing in Lean hashes anything: it is a label: what it is worth is what the hold of that sum in a sandbox is worth. -/
noncomputable def Try.pinned : Pinned := { name := "ytgddinjaloioiaa", sum := "8f0998400fd2a371206092317e0147c291009409457d7b359c81f48a2926f9d5", checked := Try.checked }
namespace Rows
def none {H : Type} : Left H := { results := [], args := [] }

/-- 'busbarlaw01.BitsSetLaws': WHATEVER THE INPUT: true; the input reads as it did. -/
def bitsSetLawsSpec : ChangeSpec := { name := "bitsSetLaws", fn := fun _ => fun
  | [d1, d2] => { results := [.lit (.bool true)], args := [d1, d2] }
  | _ => none }
def bitsSetLawsRow : OpenClaim := { program := "ytgddinjaloioiaa", sum := "8f0998400fd2a371206092317e0147c291009409457d7b359c81f48a2926f9d5", func := "busbar/busbarlaw01.BitsSetLaws", spec := "bitsSetLaws", apart := false }
def BitsSetLawsSaid : Prop := bitsSetLawsRow.holds Try.pinned (OpenSpec.ofChange bitsSetLawsSpec)

/-- ITS FALSE NEIGHBOUR: 'it returns false'. Refute it at one input. -/
def bitsSetLawsWrong : ChangeSpec := { name := "bitsSetLaws", fn := fun _ => fun
  | [d1, d2] => { results := [.lit (.bool false)], args := [d1, d2] }
  | _ => none }
def BitsSetLawsWrongFalsely : Prop := bitsSetLawsRow.holds Try.pinned (OpenSpec.ofChange bitsSetLawsWrong)

/-- 'busbarlaw01.BitsThere': WHATEVER THE INPUT: true; the input reads as it did. -/
def bitsThereSpec : ChangeSpec := { name := "bitsThere", fn := fun _ => fun
  | [d1, d2, d3] => { results := [.lit (.bool true)], args := [d1, d2, d3] }
  | _ => none }
def bitsThereRow : OpenClaim := { program := "ytgddinjaloioiaa", sum := "8f0998400fd2a371206092317e0147c291009409457d7b359c81f48a2926f9d5", func := "busbar/busbarlaw01.BitsThere", spec := "bitsThere", apart := false }
def BitsThereSaid : Prop := bitsThereRow.holds Try.pinned (OpenSpec.ofChange bitsThereSpec)

/-- ITS FALSE NEIGHBOUR: 'it returns false'. Refute it at one input. -/
def bitsThereWrong : ChangeSpec := { name := "bitsThere", fn := fun _ => fun
  | [d1, d2, d3] => { results := [.lit (.bool false)], args := [d1, d2, d3] }
  | _ => none }
def BitsThereWrongFalsely : Prop := bitsThereRow.holds Try.pinned (OpenSpec.ofChange bitsThereWrong)

/-- 'busbarlaw01.BitsKnown': WHATEVER THE INPUT: true; the input reads as it did. -/
def bitsKnownSpec : ChangeSpec := { name := "bitsKnown", fn := fun _ => fun
  | [] => { results := [.lit (.bool true)], args := [] }
  | _ => none }
def bitsKnownRow : OpenClaim := { program := "ytgddinjaloioiaa", sum := "8f0998400fd2a371206092317e0147c291009409457d7b359c81f48a2926f9d5", func := "busbar/busbarlaw01.BitsKnown", spec := "bitsKnown", inPlace := ["internal/reflectlite.TypeOf"], unfollowed := true, recurses := true, apart := false }
def BitsKnownSaid : Prop := bitsKnownRow.holds Try.pinned (OpenSpec.ofChange bitsKnownSpec)

/-- ITS FALSE NEIGHBOUR: 'it returns false'. Refute it at one input. -/
def bitsKnownWrong : ChangeSpec := { name := "bitsKnown", fn := fun _ => fun
  | [] => { results := [.lit (.bool false)], args := [] }
  | _ => none }
def BitsKnownWrongFalsely : Prop := bitsKnownRow.holds Try.pinned (OpenSpec.ofChange bitsKnownWrong)

/- THE SECOND FORM. 'bulk': how many values and letters a reading holds, each counted each time it is reached (what is shared counts as often as it is met; a slice's spare places count too). A statement '..UptoSaid' is the law's where the arguments, and the package variables that the reading takes, are together of bulk at most 1048576: NARROWER than '..Said'. Prove '..Said' where nothing that the law and all that it calls make is longer than what came in: it says more and counts as full. Else prove '..UptoSaid'. A law counts once. -/
mutual
def uptoBulk {H : Type} : DataW H → Nat
  | .lit (.string bytes) => bytes.length + 1
  | .lit _ => 1
  | .nil => 1
  | .ptr d => uptoBulk d + 1
  | .slice elems spare => uptoBulkAll elems + uptoBulkAll spare + 1
  | .agg parts => uptoBulkAll parts + 1
  | .iface _ d => uptoBulk d + 1
  | .map entries => uptoBulkEntries entries + 1
  | .held _ => 1
def uptoBulkAll {H : Type} : List (DataW H) → Nat
  | [] => 0
  | d :: r => uptoBulk d + uptoBulkAll r
def uptoBulkEntries {H : Type} : List (Lit × DataW H) → Nat
  | [] => 0
  | x :: r => uptoBulkEntry x + uptoBulkEntries r
def uptoBulkEntry {H : Type} : Lit × DataW H → Nat
  | (.string bytes, d) => bytes.length + uptoBulk d + 1
  | (_, d) => uptoBulk d + 1
 end
def uptoSmall : (H : Type) → List (DataW H) → Bool := fun _ ds => decide (uptoBulkAll ds ≤ 1048576)
def OpenSpec.upto (s : _root_.Go.ChangeSpec) : _root_.Go.OpenSpec := { _root_.Go.OpenSpec.ofChange s with cond := some uptoSmall }

/-- 'busbarlaw01.BitsSetLaws', WHERE WHAT IT READS IS OF BULK AT MOST 1048576: true; the input reads as it did. -/
def bitsSetLawsUptoRow : OpenClaim := { program := "ytgddinjaloioiaa", sum := "8f0998400fd2a371206092317e0147c291009409457d7b359c81f48a2926f9d5", func := "busbar/busbarlaw01.BitsSetLaws", spec := "bitsSetLaws", apart := false, narrowed := true }
def BitsSetLawsUptoSaid : Prop := bitsSetLawsUptoRow.holds Try.pinned (OpenSpec.upto bitsSetLawsSpec)

/-- 'busbarlaw01.BitsThere', WHERE WHAT IT READS IS OF BULK AT MOST 1048576: true; the input reads as it did. -/
def bitsThereUptoRow : OpenClaim := { program := "ytgddinjaloioiaa", sum := "8f0998400fd2a371206092317e0147c291009409457d7b359c81f48a2926f9d5", func := "busbar/busbarlaw01.BitsThere", spec := "bitsThere", apart := false, narrowed := true }
def BitsThereUptoSaid : Prop := bitsThereUptoRow.holds Try.pinned (OpenSpec.upto bitsThereSpec)

/-- 'busbarlaw01.BitsKnown', WHERE WHAT IT READS IS OF BULK AT MOST 1048576: true; the input reads as it did. -/
def bitsKnownUptoRow : OpenClaim := { program := "ytgddinjaloioiaa", sum := "8f0998400fd2a371206092317e0147c291009409457d7b359c81f48a2926f9d5", func := "busbar/busbarlaw01.BitsKnown", spec := "bitsKnown", inPlace := ["internal/reflectlite.TypeOf"], unfollowed := true, recurses := true, apart := false, narrowed := true }
def BitsKnownUptoSaid : Prop := bitsKnownUptoRow.holds Try.pinned (OpenSpec.upto bitsKnownSpec)

end Rows
end Go.Proofs.Ytgddinjaloioiaa
