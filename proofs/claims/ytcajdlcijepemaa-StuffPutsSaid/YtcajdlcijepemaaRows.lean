/-
  No cell of these rows narrows 'for every input' (looked for: loops, veiled, ifaces, maps, wideKeys, modest, calm, conditions, laid).
  DERIVED. THE GIVEN ROWS OF THIS SEAT. 3 by the template 'for every input the law returns true; each argument reads behind the call as it read before'; 0 by the template 'total and deterministic' (their statements: YtcajdlcijepemaaTotals.lean).
  GIVEN WITH THE SEED: the statements are not yours to turn. If you find one false, say at which input.
  Laid BY PROGRAM, IN A SANDBOX (cutbox-rows.mjs): the forced cells as the released guide's own fill.sh prints them over the translation a09e66f854fd3089… (all of the seat's roots in one cut). By AI agents, Wed Nov 11 2026. No macro, syntax, notation, axiom, sorry.
-/
import Derived.Test.YtcajdlcijepemaaChecked
import GoSem.Claim
import GoSem.ClaimJoined
import GoSem.ClaimMapViews
import Derived.JoinedTies
import Derived.KernelRfl
namespace Go.Proofs.Ytcajdlcijepemaa
/- THE CELL 'sum', in the pinned program and in every row, IS THE sha256 OF THE DUMP (.gsa) THAT YtcajdlcijepemaaProg.lean LOADS. Nothing in Lean hashes anything: it is a label: what it is worth is what the hold of that sum in a sandbox is worth. -/
noncomputable def Try.pinned : Pinned := { name := "ytcajdlcijepemaa", sum := "a09e66f854fd3089a8e1f2e269ea268d8581fa640324121f6144d7b07421c054", checked := Try.checked }
namespace Rows
def none {H : Type} : Left H := { results := [], args := [] }

/-- 'busbarlaw21.StuffPuts': WHATEVER THE INPUT: true; the input reads as it did. -/
def stuffPutsSpec : ChangeSpec := { name := "stuffPuts", fn := fun _ => fun
  | [d] => { results := [.lit (.bool true)], args := [d] }
  | _ => none }
def stuffPutsRow : OpenClaim := { program := "ytcajdlcijepemaa", sum := "a09e66f854fd3089a8e1f2e269ea268d8581fa640324121f6144d7b07421c054", func := "busbar/busbarlaw21.StuffPuts", spec := "stuffPuts", apart := false }
def StuffPutsSaid : Prop := stuffPutsRow.holds Try.pinned (OpenSpec.ofChange stuffPutsSpec)

/-- ITS FALSE NEIGHBOUR: 'it returns false'. Refute it at one input. -/
def stuffPutsWrong : ChangeSpec := { name := "stuffPuts", fn := fun _ => fun
  | [d] => { results := [.lit (.bool false)], args := [d] }
  | _ => none }
def StuffPutsWrongFalsely : Prop := stuffPutsRow.holds Try.pinned (OpenSpec.ofChange stuffPutsWrong)

/-- 'busbarlaw21.StuffNever': WHATEVER THE INPUT: true; the input reads as it did. -/
def stuffNeverSpec : ChangeSpec := { name := "stuffNever", fn := fun _ => fun
  | [d1, d2] => { results := [.lit (.bool true)], args := [d1, d2] }
  | _ => none }
def stuffNeverRow : OpenClaim := { program := "ytcajdlcijepemaa", sum := "a09e66f854fd3089a8e1f2e269ea268d8581fa640324121f6144d7b07421c054", func := "busbar/busbarlaw21.StuffNever", spec := "stuffNever", apart := false }
def StuffNeverSaid : Prop := stuffNeverRow.holds Try.pinned (OpenSpec.ofChange stuffNeverSpec)

/-- ITS FALSE NEIGHBOUR: 'it returns false'. Refute it at one input. -/
def stuffNeverWrong : ChangeSpec := { name := "stuffNever", fn := fun _ => fun
  | [d1, d2] => { results := [.lit (.bool false)], args := [d1, d2] }
  | _ => none }
def StuffNeverWrongFalsely : Prop := stuffNeverRow.holds Try.pinned (OpenSpec.ofChange stuffNeverWrong)

/-- 'busbarlaw21.StuffBack': WHATEVER THE INPUT: true; the input reads as it did. -/
def stuffBackSpec : ChangeSpec := { name := "stuffBack", fn := fun _ => fun
  | [d] => { results := [.lit (.bool true)], args := [d] }
  | _ => none }
def stuffBackRow : OpenClaim := { program := "ytcajdlcijepemaa", sum := "a09e66f854fd3089a8e1f2e269ea268d8581fa640324121f6144d7b07421c054", func := "busbar/busbarlaw21.StuffBack", spec := "stuffBack", apart := false }
def StuffBackSaid : Prop := stuffBackRow.holds Try.pinned (OpenSpec.ofChange stuffBackSpec)

/-- ITS FALSE NEIGHBOUR: 'it returns false'. Refute it at one input. -/
def stuffBackWrong : ChangeSpec := { name := "stuffBack", fn := fun _ => fun
  | [d] => { results := [.lit (.bool false)], args := [d] }
  | _ => none }
def StuffBackWrongFalsely : Prop := stuffBackRow.holds Try.pinned (OpenSpec.ofChange stuffBackWrong)

/- THE SECOND FORM. 'bulk': how many values and letters a reading holds, each counted each time it is reached (what is shared counts as often as it is met; a slice's spare places count too). A statement '..UptoSaid' is the law's where the arguments, and the package variables that the reading takes, are together of bulk at most 1048576: NARROWER than '..Said'. Prove '..Said' where nothing that the law and all that it calls make is longer than what came in: it says more and counts as full. Else prove '..UptoSaid'. A law counts once. -/
mutual
def uptoBulk {H : Type} : DataW H → Nat
  | .lit (.string bytes) => bytes.length + 1
  | .lit _ => 1
  | .nil => 1
  | .ptr d => uptoBulk d + 1
  | .slice elems spare => uptoBulkAll elems + uptoBulkAll spare + 1
  | .agg parts => uptoBulkAll parts + 1
  | .iface _ d => uptoBulk d + 1
  | .map entries => uptoBulkEntries entries + 1
  | .held _ => 1
def uptoBulkAll {H : Type} : List (DataW H) → Nat
  | [] => 0
  | d :: r => uptoBulk d + uptoBulkAll r
def uptoBulkEntries {H : Type} : List (Lit × DataW H) → Nat
  | [] => 0
  | x :: r => uptoBulkEntry x + uptoBulkEntries r
def uptoBulkEntry {H : Type} : Lit × DataW H → Nat
  | (.string bytes, d) => bytes.length + uptoBulk d + 1
  | (_, d) => uptoBulk d + 1
 end
def uptoSmall : (H : Type) → List (DataW H) → Bool := fun _ ds => decide (uptoBulkAll ds ≤ 1048576)
def OpenSpec.upto (s : _root_.Go.ChangeSpec) : _root_.Go.OpenSpec := { _root_.Go.OpenSpec.ofChange s with cond := some uptoSmall }

/-- 'busbarlaw21.StuffPuts', WHERE WHAT IT READS IS OF BULK AT MOST 1048576: true; the input reads as it did. -/
def stuffPutsUptoRow : OpenClaim := { program := "ytcajdlcijepemaa", sum := "a09e66f854fd3089a8e1f2e269ea268d8581fa640324121f6144d7b07421c054", func := "busbar/busbarlaw21.StuffPuts", spec := "stuffPuts", apart := false, narrowed := true }
def StuffPutsUptoSaid : Prop := stuffPutsUptoRow.holds Try.pinned (OpenSpec.upto stuffPutsSpec)

/-- 'busbarlaw21.StuffNever', WHERE WHAT IT READS IS OF BULK AT MOST 1048576: true; the input reads as it did. -/
def stuffNeverUptoRow : OpenClaim := { program := "ytcajdlcijepemaa", sum := "a09e66f854fd3089a8e1f2e269ea268d8581fa640324121f6144d7b07421c054", func := "busbar/busbarlaw21.StuffNever", spec := "stuffNever", apart := false, narrowed := true }
def StuffNeverUptoSaid : Prop := stuffNeverUptoRow.holds Try.pinned (OpenSpec.upto stuffNeverSpec)

/-- 'busbarlaw21.StuffBack', WHERE WHAT IT READS IS OF BULK AT MOST 1048576: true; the input reads as it did. -/
def stuffBackUptoRow : OpenClaim := { program := "ytcajdlcijepemaa", sum := "a09e66f854fd3089a8e1f2e269ea268d8581fa640324121f6144d7b07421c054", func := "busbar/busbarlaw21.StuffBack", spec := "stuffBack", apart := false, narrowed := true }
def StuffBackUptoSaid : Prop := stuffBackUptoRow.holds Try.pinned (OpenSpec.upto stuffBackSpec)

end Rows
end Go.Proofs.Ytcajdlcijepemaa
