/-
  No cell of these rows narrows 'for every input' (looked for: loops, veiled, ifaces, maps, wideKeys, modest, calm, conditions, laid).
  DERIVED. THE GIVEN ROWS OF THIS SEAT. 4 by the template 'for every input the law returns true; each argument reads behind the call as it read before'; 0 by the template 'total and deterministic' (their statements: YtnohefaifbghiaaTotals.lean).
  GIVEN WITH THE SEED: the statements are not yours to turn. If you find one false, say at which input.
  Laid BY PROGRAM, IN A SANDBOX (cutbox-rows.mjs): the forced cells as the released guide's own fill.sh prints them over the translation 2fafab56f0d3f1ae… (all of the seat's roots in one cut). By AI agents, Wed Nov 11 2026. No macro, syntax, notation, axiom, sorry.
-/
import Derived.Test.YtnohefaifbghiaaChecked
import GoSem.Claim
import GoSem.ClaimJoined
import GoSem.ClaimMapViews
import Derived.JoinedTies
import Derived.KernelRfl
namespace Go.Proofs.Ytnohefaifbghiaa
/- THE CELL 'sum', in the pinned program and in every row, IS THE sha256 OF THE DUMP (.gsa) THAT YtnohefaifbghiaaProg.lean LOADS. Nothing in Lean hashes anything: it is a label: what it is worth is what the hold of that sum in a sandbox is worth. -/
noncomputable def Try.pinned : Pinned := { name := "ytnohefaifbghiaa", sum := "2fafab56f0d3f1aec20a1791972175aa2cf1f90397803c02c78ec57eec7ee19b", checked := Try.checked }
namespace Rows
def none {H : Type} : Left H := { results := [], args := [] }

/-- 'busbarlaw03.CharsNames': WHATEVER THE INPUT: true; the input reads as it did. -/
def charsNamesSpec : ChangeSpec := { name := "charsNames", fn := fun _ => fun
  | [d] => { results := [.lit (.bool true)], args := [d] }
  | _ => none }
def charsNamesRow : OpenClaim := { program := "ytnohefaifbghiaa", sum := "2fafab56f0d3f1aec20a1791972175aa2cf1f90397803c02c78ec57eec7ee19b", func := "busbar/busbarlaw03.CharsNames", spec := "charsNames", apart := false }
def CharsNamesSaid : Prop := charsNamesRow.holds Try.pinned (OpenSpec.ofChange charsNamesSpec)

/-- ITS FALSE NEIGHBOUR: 'it returns false'. Refute it at one input. -/
def charsNamesWrong : ChangeSpec := { name := "charsNames", fn := fun _ => fun
  | [d] => { results := [.lit (.bool false)], args := [d] }
  | _ => none }
def CharsNamesWrongFalsely : Prop := charsNamesRow.holds Try.pinned (OpenSpec.ofChange charsNamesWrong)

/-- 'busbarlaw03.CharsAll': WHATEVER THE INPUT: true; the input reads as it did. -/
def charsAllSpec : ChangeSpec := { name := "charsAll", fn := fun _ => fun
  | [d1, d2] => { results := [.lit (.bool true)], args := [d1, d2] }
  | _ => none }
def charsAllRow : OpenClaim := { program := "ytnohefaifbghiaa", sum := "2fafab56f0d3f1aec20a1791972175aa2cf1f90397803c02c78ec57eec7ee19b", func := "busbar/busbarlaw03.CharsAll", spec := "charsAll", unfollowed := true, recurses := true, apart := false }
def CharsAllSaid : Prop := charsAllRow.holds Try.pinned (OpenSpec.ofChange charsAllSpec)

/-- ITS FALSE NEIGHBOUR: 'it returns false'. Refute it at one input. -/
def charsAllWrong : ChangeSpec := { name := "charsAll", fn := fun _ => fun
  | [d1, d2] => { results := [.lit (.bool false)], args := [d1, d2] }
  | _ => none }
def CharsAllWrongFalsely : Prop := charsAllRow.holds Try.pinned (OpenSpec.ofChange charsAllWrong)

/-- 'busbarlaw03.CharsQuotes': WHATEVER THE INPUT: true; the input reads as it did. -/
def charsQuotesSpec : ChangeSpec := { name := "charsQuotes", fn := fun _ => fun
  | [d] => { results := [.lit (.bool true)], args := [d] }
  | _ => none }
def charsQuotesRow : OpenClaim := { program := "ytnohefaifbghiaa", sum := "2fafab56f0d3f1aec20a1791972175aa2cf1f90397803c02c78ec57eec7ee19b", func := "busbar/busbarlaw03.CharsQuotes", spec := "charsQuotes", inPlace := ["sync/atomic.LoadUint32", "(*internal/sync.Mutex).Lock", "internal/race.Disable", "sync/atomic.CompareAndSwapInt32", "internal/race.Enable", "internal/race.Acquire", "(*internal/sync.Mutex).lockSlow", "internal/sync.runtime_canSpin", "internal/sync.runtime_doSpin", "internal/sync.throw", "internal/sync.runtime_nanotime", "internal/sync.runtime_SemacquireMutex", "sync/atomic.AddInt32", "(*internal/sync.Mutex).Unlock", "internal/race.ReleaseMerge", "(*internal/sync.Mutex).unlockSlow", "internal/sync.fatal", "internal/sync.runtime_Semrelease", "sync/atomic.StoreUint32"], unfollowed := true, recurses := true, apart := false }
def CharsQuotesSaid : Prop := charsQuotesRow.holds Try.pinned (OpenSpec.ofChange charsQuotesSpec)

/-- ITS FALSE NEIGHBOUR: 'it returns false'. Refute it at one input. -/
def charsQuotesWrong : ChangeSpec := { name := "charsQuotes", fn := fun _ => fun
  | [d] => { results := [.lit (.bool false)], args := [d] }
  | _ => none }
def CharsQuotesWrongFalsely : Prop := charsQuotesRow.holds Try.pinned (OpenSpec.ofChange charsQuotesWrong)

/-- 'busbarlaw03.CharsRange': WHATEVER THE INPUT: true; the input reads as it did. -/
def charsRangeSpec : ChangeSpec := { name := "charsRange", fn := fun _ => fun
  | [d] => { results := [.lit (.bool true)], args := [d] }
  | _ => none }
def charsRangeRow : OpenClaim := { program := "ytnohefaifbghiaa", sum := "2fafab56f0d3f1aec20a1791972175aa2cf1f90397803c02c78ec57eec7ee19b", func := "busbar/busbarlaw03.CharsRange", spec := "charsRange", inPlace := ["sync/atomic.LoadUint32", "(*internal/sync.Mutex).Lock", "internal/race.Disable", "sync/atomic.CompareAndSwapInt32", "internal/race.Enable", "internal/race.Acquire", "(*internal/sync.Mutex).lockSlow", "internal/sync.runtime_canSpin", "internal/sync.runtime_doSpin", "internal/sync.throw", "internal/sync.runtime_nanotime", "internal/sync.runtime_SemacquireMutex", "sync/atomic.AddInt32", "(*internal/sync.Mutex).Unlock", "internal/race.ReleaseMerge", "(*internal/sync.Mutex).unlockSlow", "internal/sync.fatal", "internal/sync.runtime_Semrelease", "sync/atomic.StoreUint32"], unfollowed := true, recurses := true, apart := false }
def CharsRangeSaid : Prop := charsRangeRow.holds Try.pinned (OpenSpec.ofChange charsRangeSpec)

/-- ITS FALSE NEIGHBOUR: 'it returns false'. Refute it at one input. -/
def charsRangeWrong : ChangeSpec := { name := "charsRange", fn := fun _ => fun
  | [d] => { results := [.lit (.bool false)], args := [d] }
  | _ => none }
def CharsRangeWrongFalsely : Prop := charsRangeRow.holds Try.pinned (OpenSpec.ofChange charsRangeWrong)

/- THE SECOND FORM. 'bulk': how many values and letters a reading holds, each counted each time it is reached (what is shared counts as often as it is met; a slice's spare places count too). A statement '..UptoSaid' is the law's where the arguments, and the package variables that the reading takes, are together of bulk at most 1048576: NARROWER than '..Said'. Prove '..Said' where nothing that the law and all that it calls make is longer than what came in: it says more and counts as full. Else prove '..UptoSaid'. A law counts once. -/
mutual
def uptoBulk {H : Type} : DataW H → Nat
  | .lit (.string bytes) => bytes.length + 1
  | .lit _ => 1
  | .nil => 1
  | .ptr d => uptoBulk d + 1
  | .slice elems spare => uptoBulkAll elems + uptoBulkAll spare + 1
  | .agg parts => uptoBulkAll parts + 1
  | .iface _ d => uptoBulk d + 1
  | .map entries => uptoBulkEntries entries + 1
  | .held _ => 1
def uptoBulkAll {H : Type} : List (DataW H) → Nat
  | [] => 0
  | d :: r => uptoBulk d + uptoBulkAll r
def uptoBulkEntries {H : Type} : List (Lit × DataW H) → Nat
  | [] => 0
  | x :: r => uptoBulkEntry x + uptoBulkEntries r
def uptoBulkEntry {H : Type} : Lit × DataW H → Nat
  | (.string bytes, d) => bytes.length + uptoBulk d + 1
  | (_, d) => uptoBulk d + 1
 end
def uptoSmall : (H : Type) → List (DataW H) → Bool := fun _ ds => decide (uptoBulkAll ds ≤ 1048576)
def OpenSpec.upto (s : _root_.Go.ChangeSpec) : _root_.Go.OpenSpec := { _root_.Go.OpenSpec.ofChange s with cond := some uptoSmall }

/-- 'busbarlaw03.CharsNames', WHERE WHAT IT READS IS OF BULK AT MOST 1048576: true; the input reads as it did. -/
def charsNamesUptoRow : OpenClaim := { program := "ytnohefaifbghiaa", sum := "2fafab56f0d3f1aec20a1791972175aa2cf1f90397803c02c78ec57eec7ee19b", func := "busbar/busbarlaw03.CharsNames", spec := "charsNames", apart := false, narrowed := true }
def CharsNamesUptoSaid : Prop := charsNamesUptoRow.holds Try.pinned (OpenSpec.upto charsNamesSpec)

/-- 'busbarlaw03.CharsAll', WHERE WHAT IT READS IS OF BULK AT MOST 1048576: true; the input reads as it did. -/
def charsAllUptoRow : OpenClaim := { program := "ytnohefaifbghiaa", sum := "2fafab56f0d3f1aec20a1791972175aa2cf1f90397803c02c78ec57eec7ee19b", func := "busbar/busbarlaw03.CharsAll", spec := "charsAll", unfollowed := true, recurses := true, apart := false, narrowed := true }
def CharsAllUptoSaid : Prop := charsAllUptoRow.holds Try.pinned (OpenSpec.upto charsAllSpec)

/-- 'busbarlaw03.CharsQuotes', WHERE WHAT IT READS IS OF BULK AT MOST 1048576: true; the input reads as it did. -/
def charsQuotesUptoRow : OpenClaim := { program := "ytnohefaifbghiaa", sum := "2fafab56f0d3f1aec20a1791972175aa2cf1f90397803c02c78ec57eec7ee19b", func := "busbar/busbarlaw03.CharsQuotes", spec := "charsQuotes", inPlace := ["sync/atomic.LoadUint32", "(*internal/sync.Mutex).Lock", "internal/race.Disable", "sync/atomic.CompareAndSwapInt32", "internal/race.Enable", "internal/race.Acquire", "(*internal/sync.Mutex).lockSlow", "internal/sync.runtime_canSpin", "internal/sync.runtime_doSpin", "internal/sync.throw", "internal/sync.runtime_nanotime", "internal/sync.runtime_SemacquireMutex", "sync/atomic.AddInt32", "(*internal/sync.Mutex).Unlock", "internal/race.ReleaseMerge", "(*internal/sync.Mutex).unlockSlow", "internal/sync.fatal", "internal/sync.runtime_Semrelease", "sync/atomic.StoreUint32"], unfollowed := true, recurses := true, apart := false, narrowed := true }
def CharsQuotesUptoSaid : Prop := charsQuotesUptoRow.holds Try.pinned (OpenSpec.upto charsQuotesSpec)

/-- 'busbarlaw03.CharsRange', WHERE WHAT IT READS IS OF BULK AT MOST 1048576: true; the input reads as it did. -/
def charsRangeUptoRow : OpenClaim := { program := "ytnohefaifbghiaa", sum := "2fafab56f0d3f1aec20a1791972175aa2cf1f90397803c02c78ec57eec7ee19b", func := "busbar/busbarlaw03.CharsRange", spec := "charsRange", inPlace := ["sync/atomic.LoadUint32", "(*internal/sync.Mutex).Lock", "internal/race.Disable", "sync/atomic.CompareAndSwapInt32", "internal/race.Enable", "internal/race.Acquire", "(*internal/sync.Mutex).lockSlow", "internal/sync.runtime_canSpin", "internal/sync.runtime_doSpin", "internal/sync.throw", "internal/sync.runtime_nanotime", "internal/sync.runtime_SemacquireMutex", "sync/atomic.AddInt32", "(*internal/sync.Mutex).Unlock", "internal/race.ReleaseMerge", "(*internal/sync.Mutex).unlockSlow", "internal/sync.fatal", "internal/sync.runtime_Semrelease", "sync/atomic.StoreUint32"], unfollowed := true, recurses := true, apart := false, narrowed := true }
def CharsRangeUptoSaid : Prop := charsRangeUptoRow.holds Try.pinned (OpenSpec.upto charsRangeSpec)

end Rows
end Go.Proofs.Ytnohefaifbghiaa
