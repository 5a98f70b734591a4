/- Laid together by a program of mine: As Door ShV Door3 Door2 LiftS LiftD SigD Cnv Pair. -/
import Derived.Test.YtjomihhpglojpaaDoorChecked
import Derived.Test.YtjomihhpglojpaaDoorSumLawFewerS4
import Derived.WalkKit
import Derived.LaidEql
import Derived.Stop.Asserts
import Derived.RowKitTokens
import Derived.Test.YtjomihhpglojpaaDoorRows
import Derived.ChangeSame
import Derived.ChangeVars
import Derived.JoinedOf
import Derived.RowKit
import Derived.LaidLaws
import Derived.LaidHandle
import Derived.Stop.Joined
import Derived.Shelf.Unicode.ValidAny
import Derived.Test.YtjomihhpglojpaaDoorProg
import Derived.KernelRfl
import Derived.Lib.LaidIn
import Derived.Lib.LaidU8T
import Derived.PinnedBridge
import Derived.Test.YtjomihhpglojpaaDoorSumLawFewerS2
import Derived.ChangeArms
import Derived.SizedLaws
import Derived.Deep.Slices
import Derived.Test.YtjomihhpglojpaaDoorSumLawFewerS3
import Derived.Laws.BytesArg
import Derived.Laws.StructEq
set_option linter.unusedSimpArgs false
set_option linter.unusedVariables false
section
/- errors.As at a target of type *api.Fault: over a plain number of an error it finds none. -/
namespace Go.Proofs.YtjomihhpglojpaaDoor
set_option maxRecDepth 100000
open Go.RowKit Go.Extern.Stop Go.Stop Go.Extern

theorem asValueOf (t : Addr) (w : World) : (ReflectliteValue.unpack (.iface 113 (.pointer (some t)))).run Tryd.prog w
    = .ok (.agg #[.pointer (some ⟨3, 113, none⟩), .pointer (some ⟨w.heap.size, 0, none⟩), .int .u64 150]) (w.alloc (.cells #[.pointer (some t)] 113)) := by kernel_rfl
theorem asType (a : Addr) (w : World) : (ReflectliteValue.methodAny (ReflectliteValue.valueError "reflectlite.Value.Type" 0) (fun t _ _ _ => ReflectliteType.toType t) #[.agg #[.pointer (some ⟨3, 113, none⟩), .pointer (some a), .int .u64 150]]).run Tryd.prog w
    = .ok (.iface 154 (.agg #[.pointer (some ⟨3, 113, none⟩)])) w := by kernel_rfl
theorem asMethodKind (h : Value) (w : World) : (Go.method 338 154 (.agg #[h]) "Kind").run Tryd.prog w = .ok (134, h) w := by kernel_rfl
theorem asKindP (w : World) : ((ReflectliteType.abiMethod fun t => Functor.map (fun a : Nat => Value.int IntKind.u8 (a : Int)) (Rtype.kind t)) #[.pointer (some ⟨3, 113, none⟩)]).run Tryd.prog w = .ok (.int .u8 22) w := by kernel_rfl
theorem asKindF (w : World) : ((ReflectliteType.abiMethod fun t => Functor.map (fun a : Nat => Value.int IntKind.u8 (a : Int)) (Rtype.kind t)) #[.pointer (some ⟨3, 111, none⟩)]).run Tryd.prog w = .ok (.int .u8 25) w := by kernel_rfl
theorem rlmV (z : Sem Value) (f : TypeId → Addr → Nat → Nat → Sem Value) (v : Value) :
    ReflectliteValue.method z f #[v] = (do match ← ReflectliteValue.parts v with | none => z | some (t, a, fl) => f t a fl (fl % 32)) := rfl
theorem asPartsP (a : Addr) (w : World) : (ReflectliteValue.parts (.agg #[.pointer (some ⟨3, 113, none⟩), .pointer (some a), .int .u64 150])).run Tryd.prog w = .ok (some (113, a, 150)) w := by kernel_rfl
theorem asIsNil (a p : Addr) (W : World) (ha : W.cell? a = some (.pointer (some p))) :
    (ReflectliteValue.method (ReflectliteValue.valueError "reflectlite.Value.IsNil" 0) ReflectliteValue.isNil #[.agg #[.pointer (some ⟨3, 113, none⟩), .pointer (some a), .int .u64 150]]).run Tryd.prog W = .ok (.bool false) W := by
  rw [rlmV]
  simp only [Sem.run_bind, asPartsP, Result.andThen]
  simp [ReflectliteValue.isNil, loadVar, isAgg, underlying, Tryd.underlying113, ha, Result.andThen]
theorem asMethodElem (h : Value) (w : World) : (Go.method 338 154 (.agg #[h]) "Elem").run Tryd.prog w = .ok (150, .agg #[h]) w := by kernel_rfl
theorem asMethodImplements (h : Value) (w : World) : (Go.method 338 154 (.agg #[h]) "Implements").run Tryd.prog w = .ok (151, .agg #[h]) w := by kernel_rfl
theorem asMethodAssignableTo (h : Value) (w : World) : (Go.method 338 154 (.agg #[h]) "AssignableTo").run Tryd.prog w = .ok (148, .agg #[h]) w := by kernel_rfl
theorem asElem (w : World) : (ReflectliteType.method ReflectliteType.elem #[.agg #[.pointer (some ⟨3, 113, none⟩)]]).run Tryd.prog w = .ok (.iface 154 (.agg #[.pointer (some ⟨3, 111, none⟩)])) w := by kernel_rfl
theorem asImplements (w : World) : (ReflectliteType.relation "Implements" ReflectliteType.implements_ #[.agg #[.pointer (some ⟨3, 111, none⟩)], .iface 154 (.agg #[.pointer (some ⟨3, 30, none⟩)])]).run Tryd.prog w = .ok (.bool true) w := by kernel_rfl
theorem asTypeOfE (v : Value) (w : World) : (ReflectliteType.typeOf #[.iface 73 v]).run Tryd.prog w = .ok (.iface 154 (.agg #[.pointer (some ⟨3, 73, none⟩)])) w := by kernel_rfl
theorem asAssignE (w : World) : (ReflectliteType.relation "AssignableTo" ReflectliteType.assignableTo #[.agg #[.pointer (some ⟨3, 73, none⟩)], .iface 154 (.agg #[.pointer (some ⟨3, 111, none⟩)])]).run Tryd.prog w = .ok (.bool false) w := by kernel_rfl
theorem asNoAsE (v : Value) (xT : TypeId) (w : World) : (Instr.typeAssert (.iface 73 v) xT 190 true).run Tryd.prog w = .ok (.tuple #[.nilIface, .bool false]) w := run_typeAssert_lacksB Tryd.underlying190 (by kernel_rfl) (by kernel_rfl) v xT w
theorem asNoUnwrapE (v : Value) (xT : TypeId) (w : World) : (Instr.typeAssert (.iface 73 v) xT 159 true).run Tryd.prog w = .ok (.tuple #[.nilIface, .bool false]) w := run_typeAssert_lacksB Tryd.underlying159 (by kernel_rfl) (by kernel_rfl) v xT w
theorem asNoUnwrapsE (v : Value) (xT : TypeId) (w : World) : (Instr.typeAssert (.iface 73 v) xT 161 true).run Tryd.prog w = .ok (.tuple #[.nilIface, .bool false]) w := run_typeAssert_lacksB Tryd.underlying161 (by kernel_rfl) (by kernel_rfl) v xT w

/-- What the row's condition says of the library's variable: the handle of 'error' lies in it. -/
def Handle (w : World) : Prop := w.cell? ⟨0, 0, none⟩ = some (.iface 154 (.agg #[.pointer (some ⟨3, 30, none⟩)]))

set_option maxHeartbeats 4000000 in
theorem as_miss_calls (n : Int) (t : Addr) (w : World) (hg : w.cell? ⟨0, 0, none⟩ = some (.iface 154 (.agg #[.pointer (some ⟨3, 30, none⟩)]))) :
    Calls Tryd.prog 56 #[.iface 73 (.int .i64 n), .iface 113 (.pointer (some t))] w fun ev w' => ev = .returned (.bool false) ∧ Below w.heap.size w w' := by
  have h6 := @run_callFunc_extern Tryd.prog 80 _ (fun args => ReflectliteValue.unpack (args.getD 0 (.tuple #[]))) Tryd.func80 (by kernel_rfl) (by kernel_rfl) (by kernel_rfl) (by kernel_rfl)
  have h7 := @run_callFunc_extern Tryd.prog 81 _ (ReflectliteValue.methodAny (ReflectliteValue.valueError "reflectlite.Value.Type" 0) (fun t _ _ _ => ReflectliteType.toType t)) Tryd.func81 (by kernel_rfl) (by kernel_rfl) (by kernel_rfl) (by kernel_rfl)
  have h8 := @run_callFunc_extern Tryd.prog 82 _ (ReflectliteValue.method (ReflectliteValue.valueError "reflectlite.Value.IsNil" 0) ReflectliteValue.isNil) Tryd.func82 (by kernel_rfl) (by kernel_rfl) (by kernel_rfl) (by kernel_rfl)
  have h27 := @run_callFunc_extern Tryd.prog 134 _ (ReflectliteType.abiMethod fun t => do pure (.int .u8 (← Rtype.kind t))) Tryd.func134 (by kernel_rfl) (by kernel_rfl) (by kernel_rfl) (by kernel_rfl)
  have h37 := @run_callFunc_extern Tryd.prog 150 _ (ReflectliteType.method ReflectliteType.elem) Tryd.func150 (by kernel_rfl) (by kernel_rfl) (by kernel_rfl) (by kernel_rfl)
  have h38 := @run_callFunc_extern Tryd.prog 151 _ (ReflectliteType.relation "Implements" ReflectliteType.implements_) Tryd.func151 (by kernel_rfl) (by kernel_rfl) (by kernel_rfl) (by kernel_rfl)
  have h10 := @run_callFunc_extern Tryd.prog 63 _ ReflectliteType.typeOf Tryd.func63 (by kernel_rfl) (by kernel_rfl) (by kernel_rfl) (by kernel_rfl)
  have h35 := @run_callFunc_extern Tryd.prog 148 _ (ReflectliteType.relation "AssignableTo" ReflectliteType.assignableTo) Tryd.func148 (by kernel_rfl) (by kernel_rfl) (by kernel_rfl) (by kernel_rfl)
  have tO := asTypeOfE
  have mA := asMethodAssignableTo
  have aE := asAssignE
  have f6 := asValueOf
  have f7 := asType
  have mK := asMethodKind
  have mE := asMethodElem
  have mI := asMethodImplements
  have kP := asKindP
  have kF := asKindF
  have eP := asElem
  have iF := asImplements
  have nA := asNoAsE
  have nU := asNoUnwrapE
  have nV := asNoUnwrapsE
  have n8 := asIsNil ⟨w.heap.size, 0, none⟩ t ((w.alloc (.cells #[.pointer (some t)] 113)).alloc (.cells #[.pointer (some ⟨3, 113, none⟩), .pointer (some ⟨w.heap.size, 0, none⟩), .int .u64 150] 141)) (by simp)
  have hlt : 0 < w.heap.size := World.block_lt_of_cell? w _ hg
  have hg2 : ((w.alloc (.cells #[.pointer (some t)] 113)).alloc (.cells #[.pointer (some ⟨3, 113, none⟩), .pointer (some ⟨w.heap.size, 0, none⟩), .int .u64 150] 141)).cell? ⟨0, 0, none⟩ = some (.iface 154 (.agg #[.pointer (some ⟨3, 30, none⟩)])) := by
    rw [World.cell?_alloc_lt _ _ ⟨0, 0, none⟩ (Nat.lt_of_lt_of_le hlt (by simp)), World.cell?_alloc_lt _ _ ⟨0, 0, none⟩ hlt]; exact hg
  have bl : ∀ (W : World) (o : Obj), Below w.heap.size w W → Below w.heap.size w (W.alloc o) := fun W o h => h.grown (World.grownBy_alloc _ _ none) h.size (fun k hk => by cases hk)
  go_enter Tryd.func56, Tryd.ntmps56
  go_wp2
  refine wp_loop_rounds 1 ?_
  rw [rounds_succ]
  go_wp2
  go_ret
  exact ⟨rfl, bl _ _ (bl _ _ (bl _ _ (Below.refl _ _)))⟩
theorem as_miss (w : World) (n : Int) (t : Addr) (hg : Handle w) : Ret Tryd.prog 56 #[.iface 73 (.int .i64 n), .iface 113 (.pointer (some t))] w (fun v w' => v = .bool false ∧ Below w.heap.size w w') :=
  Calls.mono (as_miss_calls n t w hg) fun e w' h => ⟨_, h.1, rfl, h.2⟩
end Go.Proofs.YtjomihhpglojpaaDoor
end
section
/- The condition of a door's row: what it gives a walk, and a world that meets it. -/
namespace Go.Proofs.YtjomihhpglojpaaDoor
open Go.ChangeShapes Go.WideShapes Go.RowKit

def theLaid : List (String × DataW Unit) := [("errors.errorType", Rows.laid_errors_errorType)]
theorem doorEt : Tryd.prog.globalNamed "errors.errorType" = some 0 := by kernel_rfl
theorem doorRt : (Tryd.prog.cutTypes.find? (·.1 == "internal/reflectlite.rtype")).map (·.2) = some 154 := by kernel_rfl
theorem doorOne : ((List.range Tryd.prog.types.size).filter fun t => Tryd.prog.rowNamed t [101, 114, 114, 111, 114]) = [30] := by kernel_rfl

theorem handle_of_laid {W : World} (h : laidMetH Tryd.prog theLaid W) : Handle W := by
  have h' : laidMet Tryd.prog [] W ∧ handlesMet Tryd.prog theLaid W := h
  obtain ⟨name, u, ty, e1, e2, e3, e4, e5⟩ := h'.2 _ (List.mem_singleton.2 rfl)
  have en : name = [101, 114, 114, 111, 114] := (Option.some.inj e1).symm
  subst en
  obtain rfl := Option.some.inj (doorRt.symm.trans e2)
  have hm : ty ∈ (List.range Tryd.prog.types.size).filter fun t => Tryd.prog.rowNamed t [101, 114, 114, 111, 114] := List.mem_filter.2 ⟨List.mem_range.2 e3, e4⟩
  rw [doorOne] at hm
  obtain rfl := List.mem_singleton.1 hm
  have hh : typeHandle Tryd.prog 30 = .pointer (some ⟨3, 30, none⟩) := by kernel_rfl
  rw [hh] at e5
  have := World.var?_cell doorEt e5 0
  simpa [Handle] using this
theorem Handle.below {w w' : World} (h : Handle w) (hb : Below w.heap.size w w') : Handle w' :=
  (hb.cell (p := ⟨0, 0, none⟩) (World.block_lt_of_cell? w _ h)).trans h

/-- A world that meets the condition: the settled one, the variable's cell laid. -/
noncomputable def laidWorld (os : Os) : World :=
  let w0 := World.holding Tryd.prog os ⟨#[], #[], []⟩
  { w0 with heap := w0.heap.modify 0 fun
      | .cells _ t frozen => .cells #[.iface 154 (.agg #[.pointer (some ⟨3, 30, none⟩)])] t frozen
      | o => o }
theorem laidWorld_met (os : Os) (args : Array Value) : laidMetH Tryd.prog theLaid ((laidWorld os).forCall (fun _ _ => 0) ⟨#[], args, []⟩).memory :=
  laidMetH_of_parts (laidMet_nil _ _) (by kernel_rfl)
end Go.Proofs.YtjomihhpglojpaaDoor
end
section
/- The library's utf8.ValidString at this program. -/
namespace Go.Proofs
open Go.Shelf Go.RowKit
def Tryd.lays196_ren : Go.Shelf.Ren := ⟨fun | 196 => 75 | 259 => 98 | n => n, fun | 0 => 0 | 3 => 3 | 4 => 4 | 5 => 5 | 9 => 9 | 12 => 12 | 46 => 185 | 53 => 33 | 119 => 181 | 138 => 183 | 139 => 184 | n => n, fun | 3 => 1 | 4 => 2 | n => n⟩
theorem Tryd.lays196 : Go.Proofs.Lays.n196 Tryd.prog Tryd.lays196_ren := {
  mixed := by kernel_rfl
  f196 := Tryd.func75.trans (congrArg some (by kernel_rfl))
  f259 := Tryd.func98.trans (congrArg some (by kernel_rfl))
  t0 := Tryd.underlying0
  a0 := Tryd.isAgg0
  z0 := Tryd.sizeOf0
  v0 := Tryd.zeroValue0
  t3 := Tryd.underlying3
  a3 := Tryd.isAgg3
  z3 := Tryd.sizeOf3
  v3 := Tryd.zeroValue3
  t4 := Tryd.underlying4
  a4 := Tryd.isAgg4
  z4 := Tryd.sizeOf4
  v4 := Tryd.zeroValue4
  t5 := Tryd.underlying5
  a5 := Tryd.isAgg5
  z5 := Tryd.sizeOf5
  v5 := Tryd.zeroValue5
  t9 := Tryd.underlying9
  a9 := Tryd.isAgg9
  z9 := Tryd.sizeOf9
  v9 := Tryd.zeroValue9
  t12 := Tryd.underlying12
  a12 := Tryd.isAgg12
  z12 := Tryd.sizeOf12
  v12 := Tryd.zeroValue12
  t46 := Tryd.underlying185
  a46 := Tryd.isAgg185
  z46 := Tryd.sizeOf185
  v46 := Tryd.zeroValue185
  t53 := Tryd.underlying33
  a53 := Tryd.isAgg33
  z53 := Tryd.sizeOf33
  v53 := Tryd.zeroValue33
  t119 := Tryd.underlying181
  a119 := Tryd.isAgg181
  z119 := Tryd.sizeOf181
  t138 := Tryd.underlying183
  a138 := Tryd.isAgg183
  z138 := Tryd.sizeOf183
  v138 := Tryd.zeroValue183
  t139 := Tryd.underlying184
  a139 := Tryd.isAgg184
  z139 := Tryd.sizeOf184
  v139 := Tryd.zeroValue184
  g3 := by kernel_rfl
  g4 := by kernel_rfl }
theorem Tryd.utf8_ValidString (s : ByteArray) (w : World) (hs : s.size ≤ 9223372036854775807) (hT : Lib.Utf8Tabs (Tryd.lays196_ren.g 3) (Tryd.lays196_ren.g 4) w) :
    Calls Tryd.prog 75 #[.string s] w fun e w' => e = .returned (.bool (Lib.validD s.data.toList)) ∧ Below w.heap.size w w' := Any.utf8_ValidString Tryd.lays196 s w hs hT
end Go.Proofs
end
section
/- The condition of CharsUnquotes: the handle and utf8's two tables; a world that meets it. -/
namespace Go.Proofs.YtjomihhpglojpaaDoor
open Go.ChangeShapes Go.WideShapes Go.RowKit Go.Shelf

def laid3 : List (String × DataW Unit) := [("unicode/utf8.acceptRanges", Rows.laid_unicode_utf8_acceptRanges), ("errors.errorType", Rows.laid_errors_errorType), ("unicode/utf8.first", Rows.laid_unicode_utf8_first)]
def tabs2 : List (String × DataW Unit) := [("unicode/utf8.acceptRanges", Rows.laid_unicode_utf8_acceptRanges), ("unicode/utf8.first", Rows.laid_unicode_utf8_first)]
def handle1 : List (String × DataW Unit) := [("errors.errorType", Rows.laid_errors_errorType)]
theorem filt_no : (laid3.filter fun x => x.2.handleName?.isNone) = tabs2 := rfl
theorem filt_yes : (laid3.filter fun x => x.2.handleName?.isSome) = handle1 := rfl
theorem laid3_parts {W : World} (h : laidMetH Tryd.prog laid3 W) : laidMet Tryd.prog tabs2 W ∧ handlesMet Tryd.prog handle1 W := by
  unfold laidMetH at h
  rw [filt_yes] at h
  rw [← filt_no]
  exact h
theorem handle_of_laid3 {W : World} (h : laidMetH Tryd.prog laid3 W) : Handle W := by
  refine handle_of_laid (show laidMet Tryd.prog [] W ∧ handlesMet Tryd.prog theLaid W from ⟨?_, (laid3_parts h).2⟩)
  exact laidMet_nil _ _
def Tabs (w : World) : Prop := Lib.Utf8Tabs (Tryd.lays196_ren.g 3) (Tryd.lays196_ren.g 4) w
theorem acc_eq : (Rows.laid_unicode_utf8_acceptRanges : DataW Unit) = Lib.acceptData := by kernel_rfl
theorem fst_eq : Rows.laid_unicode_utf8_first = Lib.firstData := Pinned.utf8First_eq
theorem tabs_of_laid3 {W : World} (h : laidMetH Tryd.prog laid3 W) : Tabs W := by
  have h2 := (laid3_parts h).1
  unfold tabs2 at h2
  rw [acc_eq, fst_eq] at h2
  exact utf8Tabs_of_readsT (U8Types.of196 Tryd.lays196) ⟨by kernel_rfl, by kernel_rfl, by kernel_rfl, by kernel_rfl, by kernel_rfl, by kernel_rfl, by kernel_rfl⟩ (Lib.laidMet.reads h2 (.tail _ (.head _))) (Lib.laidMet.reads h2 (.head _))
theorem Tabs.below {w w' : World} (h : Tabs w) (hb : Below w.heap.size w w') : Tabs w' :=
  ⟨fun c hc => (hb.cell (World.block_lt_of_cell? w _ (h.1 c hc))).trans (h.1 c hc), fun i hi => ⟨(hb.cell (World.block_lt_of_cell? w _ (h.2 i hi).1)).trans (h.2 i hi).1, (hb.cell (World.block_lt_of_cell? w _ (h.2 i hi).2)).trans (h.2 i hi).2⟩⟩

/-- A world that meets the condition: the settled one, the three variables laid. -/
noncomputable def laidWorld3 (os : Os) : World :=
  let w0 := laidWorld os
  let put (h : Array Obj) (g : Nat) (cs : Array Value) : Array Obj := h.modify g fun
    | .cells _ t frozen => .cells cs t frozen
    | o => o
  let h1 := put w0.heap 1 (Lib.firstTab.map fun z => Value.int .u8 z).toArray
  let h2 := put h1 2 ((List.range 16).flatMap fun i => [Value.int .u8 (Lib.accLo i), Value.int .u8 (Lib.accHi i)]).toArray
  { w0 with heap := h2 }
theorem laidWorld3_met (os : Os) (args : Array Value) : laidMetH Tryd.prog laid3 ((laidWorld3 os).forCall (fun _ _ => 0) ⟨#[], args, []⟩).memory := by
  refine laidMetH_of_parts ?_ (by kernel_rfl)
  rw [filt_no]
  exact (LaidIn.of_run (l := tabs2) [2, 1] 8 (by kernel_rfl) (by kernel_rfl) (by kernel_rfl) (by kernel_rfl)).met
end Go.Proofs.YtjomihhpglojpaaDoor
end
section
/- The condition of CharsNamed: utf8's two tables; a world that meets it. -/
namespace Go.Proofs.YtjomihhpglojpaaDoor
open Go.ChangeShapes Go.WideShapes Go.RowKit Go.Shelf
theorem laid2_parts {W : World} (h : laidMetH Tryd.prog tabs2 W) : laidMet Tryd.prog tabs2 W := h
theorem tabs_of_laid2 {W : World} (h : laidMetH Tryd.prog tabs2 W) : Tabs W := by
  have h2 := laid2_parts h
  unfold tabs2 at h2
  rw [acc_eq, fst_eq] at h2
  exact utf8Tabs_of_readsT (U8Types.of196 Tryd.lays196) ⟨by kernel_rfl, by kernel_rfl, by kernel_rfl, by kernel_rfl, by kernel_rfl, by kernel_rfl, by kernel_rfl⟩ (Lib.laidMet.reads h2 (.tail _ (.head _))) (Lib.laidMet.reads h2 (.head _))
theorem laidWorld2_met (os : Os) (args : Array Value) : laidMetH Tryd.prog tabs2 ((laidWorld3 os).forCall (fun _ _ => 0) ⟨#[], args, []⟩).memory := by
  show laidMet Tryd.prog tabs2 _
  exact (LaidIn.of_run (l := tabs2) [2, 1] 8 (by kernel_rfl) (by kernel_rfl) (by kernel_rfl) (by kernel_rfl)).met
end Go.Proofs.YtjomihhpglojpaaDoor
end
section
/- From what a struct reads as to its cells. -/
namespace Go.Proofs.YtjomihhpglojpaaDoor
open Go.ChangeShapes Go.WideShapes Go.ChangeAt Go.RowKit

section
variable {H : Type} {enc : TypeId × Value → H} {P : Program} {w : World}

/-- The cells read as a value of the type. -/
def Rds (enc : TypeId × Value → H) (P : Program) (w : World) (t : TypeId) (cs : List Value) : Prop := ∃ fuel x, DataW.trod enc P w 0 (fun _ => true) true fuel t cs = some x
theorem rds_of {t : TypeId} {v : Value} {d : DataW H} {ps : List MemPlace} (h : DataW.Trod enc P w 0 (fun _ => true) true t v d ps) : Rds enc P w t v.cells.toList := by
  obtain ⟨m, hm⟩ := h
  exact ⟨m, _, hm⟩
theorem Rds.fld {s f off ft : Nat} {cs : List Value} (h : Rds enc P w s cs) (hF : Fld P s f off ft) : Rds enc P w ft ((cs.drop off).take (P.cellsOf ft)) := by
  obtain ⟨fuel, x, hx⟩ := h
  obtain ⟨fields, fd, h1, h2, rfl, rfl⟩ := hF
  obtain ⟨xs, n, _, _, _, hl, hf⟩ := DataW.trod_struct h1 hx
  have := hf f fd h2
  have hlt : f < fields.size := (Array.getElem?_eq_some_iff.1 h2).1
  rw [List.getElem?_eq_getElem (by omega)] at this
  exact ⟨n, _, this⟩
theorem Rds.len {s f off ft : Nat} {cs : List Value} (h : Rds enc P w s cs) (hF : Fld P s f off ft) : cs.length = P.cellsOf s := by
  obtain ⟨fuel, x, hx⟩ := h
  obtain ⟨fields, fd, h1, h2, rfl, rfl⟩ := hF
  obtain ⟨xs, n, _, _, hl, _, _⟩ := DataW.trod_struct h1 hx
  exact hl
theorem one_at {cs : List Value} {off : Nat} {v : Value} (h : (cs.drop off).take 1 = [v]) : cs[off]? = some v := by
  have : ((cs.drop off).take 1)[0]? = some v := by rw [h]; rfl
  rw [List.getElem?_take_of_lt (by omega)] at this
  simpa using this
theorem Rds.int {t : TypeId} {k : IntKind} {cs : List Value} (h : Rds enc P w t cs) (hU : P.underlying t = some (.int k)) : ∃ n, cs = [.int k n] ∧ (Lit.int k n).wf = true := by
  obtain ⟨fuel, x, hx⟩ := h
  obtain ⟨n, h1, _, h2⟩ := DataW.trod_int hU hx
  exact ⟨n, h1, h2⟩
theorem Rds.bool {t : TypeId} {cs : List Value} (h : Rds enc P w t cs) (hU : P.underlying t = some .bool) : ∃ b, cs = [.bool b] := by
  obtain ⟨fuel, x, hx⟩ := h
  obtain ⟨n, h1, _⟩ := DataW.trod_bool hU hx
  exact ⟨n, h1⟩
theorem Rds.string {t : TypeId} {cs : List Value} (h : Rds enc P w t cs) (hU : P.underlying t = some .string) : ∃ s : ByteArray, cs = [.string s] ∧ s.size ≤ maxLen := by
  obtain ⟨fuel, x, hx⟩ := h
  obtain ⟨n, h1, _, h2⟩ := DataW.trod_string hU hx
  exact ⟨n, h1, h2⟩
theorem Rds.intAt {s f off ft : Nat} {k : IntKind} {cs : List Value} (h : Rds enc P w s cs) (hF : Fld P s f off ft) (hU : P.underlying ft = some (.int k)) (hc : P.cellsOf ft = 1) : ∃ n, cs[off]? = some (.int k n) ∧ (Lit.int k n).wf = true := by
  obtain ⟨n, h1, h2⟩ := (h.fld hF).int hU
  rw [hc] at h1
  exact ⟨n, one_at h1, h2⟩
theorem Rds.boolAt {s f off ft : Nat} {cs : List Value} (h : Rds enc P w s cs) (hF : Fld P s f off ft) (hU : P.underlying ft = some .bool) (hc : P.cellsOf ft = 1) : ∃ n, cs[off]? = some (.bool n) := by
  obtain ⟨n, h1⟩ := (h.fld hF).bool hU
  rw [hc] at h1
  exact ⟨n, one_at h1⟩
theorem Rds.stringAt {s f off ft : Nat} {cs : List Value} (h : Rds enc P w s cs) (hF : Fld P s f off ft) (hU : P.underlying ft = some .string) (hc : P.cellsOf ft = 1) : ∃ n : ByteArray, cs[off]? = some (.string n) ∧ n.size ≤ maxLen := by
  obtain ⟨n, h1, h2⟩ := (h.fld hF).string hU
  rw [hc] at h1
  exact ⟨n, one_at h1, h2⟩
end
end Go.Proofs.YtjomihhpglojpaaDoor
end
section
/- Nested arguments: what a slice within an argument reads as, and how great it may be. -/
namespace Go.Proofs.YtjomihhpglojpaaDoor
open Go.ChangeShapes Go.WideShapes Go.ChangeAt Go.RowKit Go.Deep

section
variable {H : Type} {enc : TypeId × Value → H} {P : Program} {w : World}

/-- The cells read as a value of the type, and no list or text in it is beyond the reach. -/
def Rdw (enc : TypeId × Value → H) (P : Program) (w : World) (t : TypeId) (cs : List Value) : Prop := ∃ fuel x, DataW.trod enc P w 0 (fun _ => true) true fuel t cs = some x ∧ ∀ n ∈ x.1.weights P t, n ≤ reachBytes
theorem rdw_of {t : TypeId} {v : Value} {d : DataW H} {ps : List MemPlace} (h : DataW.Trod enc P w 0 (fun _ => true) true t v d ps) (hw : ∀ n ∈ d.weights P t, n ≤ reachBytes) : Rdw enc P w t v.cells.toList := by
  obtain ⟨m, hm⟩ := h
  exact ⟨m, _, hm, hw⟩
theorem Rdw.rds {t : TypeId} {cs : List Value} (h : Rdw enc P w t cs) : Rds enc P w t cs := by
  obtain ⟨m, x, hm, _⟩ := h
  exact ⟨m, x, hm⟩
theorem Rdw.fld {s f off ft : Nat} {cs : List Value} (h : Rdw enc P w s cs) (hF : Fld P s f off ft) : Rdw enc P w ft ((cs.drop off).take (P.cellsOf ft)) := by
  obtain ⟨fuel, x, hx, hw⟩ := h
  obtain ⟨fields, fd, h1, h2, rfl, rfl⟩ := hF
  obtain ⟨xs, n, _, rfl, _, hl, hf⟩ := DataW.trod_struct h1 hx
  have h3 := hf f fd h2
  have hlt : f < xs.length := by
    have := (Array.getElem?_eq_some_iff.1 h2).1
    omega
  rw [List.getElem?_eq_getElem hlt] at h3
  refine ⟨n, _, h3, fun m hm => hw m ?_⟩
  rw [show DataW.weights P s (DataW.agg (xs.map (·.1))) = DataW.weightsEach P (fields.toList.map (·.type)) (xs.map (·.1)) by simp [DataW.weights, h1]]
  exact DataW.weights_mem_each (j := f) (t := fd.type) (d := xs[f].1) (by simp [h2]) (by simp [hlt]) m hm
theorem weightsAll_mem {e : TypeId} {n : Nat} : ∀ {ds : List (DataW H)} {d : DataW H}, d ∈ ds → n ∈ d.weights P e → n ∈ DataW.weightsAll P e ds
  | d0 :: ds, d, hd, hn => by
    simp only [DataW.weightsAll, List.mem_append]
    rcases List.mem_cons.1 hd with rfl | hd
    · exact .inl hn
    · exact .inr (weightsAll_mem hd hn)

/-- A slice that reads, element by element. -/
theorem Rdw.slice {t e : TypeId} {cs : List Value} (h : Rdw enc P w t cs) (ht : P.underlying t = some (.slice e)) (hc : 0 < P.cellsOf e) :
    ∃ ao len cap, cs = [.slice ao len cap] ∧ len ≤ cap ∧ cap ≤ maxLen ∧ cap * P.bytesOf e ≤ reachBytes ∧ (∀ i, i < len → ∃ b o cs', ao = some ⟨b, o, none⟩ ∧ cs'.length = P.cellsOf e ∧ (∀ q, q < P.cellsOf e → w.cell? ⟨b, o + i * P.cellsOf e + q, none⟩ = cs'[q]?) ∧ Rdw enc P w e cs') := by
  obtain ⟨fuel, x, hx, hw⟩ := h
  rcases open_slice ht hx with ⟨rfl, _⟩ | ⟨a, len, cap, m, n, D, Pl, rfl, _, hl, hm, hmm, rfl, hel⟩
  · exact ⟨none, 0, 0, rfl, Nat.le_refl _, Nat.zero_le _, by simp, fun i hi => absurd hi (Nat.not_lt_zero _)⟩
  · have hmm' : m = cap := by simpa using hmm
    subst hmm'
    have hws : DataW.weights P t (DataW.slice ((List.range len).map D) ((List.range (m - len)).map fun j => D (len + j))) = (len + (m - len)) * P.bytesOf e :: (DataW.weightsAll P e ((List.range len).map D) ++ DataW.weightsAll P e ((List.range (m - len)).map fun j => D (len + j))) := by
      simp [DataW.weights, ht]
    refine ⟨some a, len, m, rfl, hl, hm, ?_, fun i hi => ?_⟩
    · have := hw ((len + (m - len)) * P.bytesOf e) (by rw [hws]; simp)
      rwa [show len + (m - len) = m by omega] at this
    have h0 : a.spot = none := by
      obtain ⟨cs', h1, _⟩ := hel 0 (by omega)
      obtain ⟨_, hl', hq⟩ := World.cells?_some h1
      have := hq 0 hc
      have e0 : (a.add (0 * P.cellsOf e)).add 0 = a := by simp [Addr.add]
      rw [e0] at this
      have hlt : 0 < cs'.length := by omega
      rw [List.getElem?_eq_getElem hlt] at this
      have := spotless this
      rw [this]
    obtain ⟨b, o, s⟩ := a
    cases h0
    obtain ⟨cs', h1, h2⟩ := hel i (by omega)
    obtain ⟨_, hl', hq⟩ := World.cells?_some h1
    refine ⟨b, o, cs', rfl, hl', fun q hq' => ?_, n, _, h2, fun z hz => hw z ?_⟩
    · have := hq q hq'
      rw [addr_add, addr_add] at this
      exact this
    · rw [hws]
      simp only [List.mem_cons, List.mem_append]
      exact .inr (.inl (weightsAll_mem (List.mem_map.2 ⟨i, by simpa using hi, rfl⟩) hz))

/-- A slice of texts. -/
theorem Rdw.texts {t e : TypeId} {cs : List Value} (h : Rdw enc P w t cs) (ht : P.underlying t = some (.slice e)) (he : P.underlying e = some .string) (hc : P.cellsOf e = 1) :
    ∃ ao len cap, ∃ ss : List ByteArray, cs = [.slice ao len cap] ∧ ss.length = len ∧ len ≤ cap ∧ cap ≤ maxLen ∧ cap * P.bytesOf e ≤ reachBytes ∧ Rd w ao .string ss ∧ ∀ s ∈ ss, s.size ≤ maxLen := by
  obtain ⟨ao, len, cap, rfl, hl, hm, hby, hel⟩ := h.slice ht (by omega)
  have key : ∀ n, n ≤ len → ∃ ss : List ByteArray, ss.length = n ∧ Rd w ao .string ss ∧ ∀ s ∈ ss, s.size ≤ maxLen := by
    intro n
    induction n with
    | zero => intro _; exact ⟨[], rfl, fun i hi => absurd hi (Nat.not_lt_zero _), by simp⟩
    | succ n ih =>
      intro hn
      obtain ⟨ss, hsl, hrd, hsz⟩ := ih (by omega)
      obtain ⟨b, o, cs', hao, hcl, hq, hr⟩ := hel n (by omega)
      obtain ⟨s, rfl, hs⟩ := hr.rds.string he
      refine ⟨ss ++ [s], by simp [hsl], fun i hi => ?_, fun x hx => ?_⟩
      · by_cases hin : i < n
        · obtain ⟨b', o', e1, e2⟩ := hrd i (by omega)
          refine ⟨b', o', e1, ?_⟩
          rw [List.getElem_append_left (by omega)]
          exact e2
        · have : i = n := by simp at hi; omega
          subst this
          refine ⟨b, o, hao, ?_⟩
          have := hq 0 (by omega)
          rw [hc, Nat.mul_one, Nat.add_zero] at this
          rw [this, List.getElem_append_right (by omega)]
          simp [hsl]
      · rcases List.mem_append.1 hx with hx | hx
        · exact hsz x hx
        · simp at hx; subst hx; exact hs
  obtain ⟨ss, h1, h2, h3⟩ := key len (Nat.le_refl _)
  exact ⟨ao, len, cap, ss, rfl, h1, hl, hm, hby, h2, h3⟩
end
end Go.Proofs.YtjomihhpglojpaaDoor
end
section
/- A signal as it is handed in: all its cells, and its texts. -/
namespace Go.Proofs.YtjomihhpglojpaaDoor
open Go.RowKit
set_option linter.unusedSimpArgs false
set_option linter.unusedVariables false
attribute [local irreducible] wpList wpQuiet wpStill Code.wp Exit.then Exit.inBlock bodyPost Calls Does Does0
open Go.ChangeShapes Go.WideShapes

/-- A signal's fields. -/
structure Sig where
  line : Int
  col : Int
  name : ByteArray
  role : Int
  branch : Int
  start : Int
  size : Int
  mot : Bool
  sgn : Bool
  sn : Int
  sd : Int
  fn : Int
  fd : Int
  mn : Int
  md : Int
  xn : Int
  xd : Int
  unit : ByteArray
  toA : Option Addr
  toN : Nat
  toC : Nat
def Sig.cells (s : Sig) : List Value := [.int .i64 s.line, .int .i64 s.col, .string s.name, .int .i64 s.role, .int .u64 s.branch, .int .i64 s.start, .int .i64 s.size, .bool s.mot, .bool s.sgn, .int .i64 s.sn, .int .i64 s.sd, .int .i64 s.fn, .int .i64 s.fd, .int .i64 s.mn, .int .i64 s.md, .int .i64 s.xn, .int .i64 s.xd, .string s.unit, .slice s.toA s.toN s.toC]
/-- A signal that is there: its texts. -/
structure SigIn (w : World) (s : Sig) (ss : List ByteArray) : Prop where
  len : ss.length = s.toN
  rd : Rd w s.toA .string ss
  cap : s.toN ≤ s.toC
  bytes : s.toN * 16 ≤ 140737488351232
theorem SigIn.below {w w' : World} {s : Sig} {ss : List ByteArray} (h : SigIn w s ss) (hb : Below w.heap.size w w') : SigIn w' s ss := ⟨h.len, h.rd.below hb, h.cap, h.bytes⟩

theorem sz_sig : Tryd.prog.cellsOf 38 = 19 := by kernel_rfl
theorem sz_place : Tryd.prog.cellsOf 23 = 2 := by kernel_rfl
theorem sz_rat : Tryd.prog.cellsOf 35 = 2 := by kernel_rfl
theorem sz_int : Tryd.prog.cellsOf 3 = 1 := by kernel_rfl
theorem sz_i64 : Tryd.prog.cellsOf 2 = 1 := by kernel_rfl
theorem sz_u64 : Tryd.prog.cellsOf 33 = 1 := by kernel_rfl
theorem sz_bool : Tryd.prog.cellsOf 4 = 1 := by kernel_rfl
theorem sz_string : Tryd.prog.cellsOf 9 = 1 := by kernel_rfl
theorem sz_texts : Tryd.prog.cellsOf 36 = 1 := by kernel_rfl
theorem by_string : Tryd.prog.bytesOf 9 = 16 := by kernel_rfl

theorem sig_of {H : Type} {enc : TypeId × Value → H} {w : World} {cs : List Value} (h : Rdw enc Tryd.prog w 38 cs) : ∃ s ss, cs = Sig.cells s ∧ SigIn w s ss := by
  have hl := h.rds.len (fld _ 0 _ _ rfl)
  rw [sz_sig] at hl
  obtain ⟨a0, a1, a2, a3, a4, a5, a6, a7, a8, a9, a10, a11, a12, a13, a14, a15, a16, a17, a18, rfl⟩ : ∃ a0 a1 a2 a3 a4 a5 a6 a7 a8 a9 a10 a11 a12 a13 a14 a15 a16 a17 a18, cs = [a0, a1, a2, a3, a4, a5, a6, a7, a8, a9, a10, a11, a12, a13, a14, a15, a16, a17, a18] := by
    rcases cs with _ | ⟨a0, _ | ⟨a1, _ | ⟨a2, _ | ⟨a3, _ | ⟨a4, _ | ⟨a5, _ | ⟨a6, _ | ⟨a7, _ | ⟨a8, _ | ⟨a9, _ | ⟨a10, _ | ⟨a11, _ | ⟨a12, _ | ⟨a13, _ | ⟨a14, _ | ⟨a15, _ | ⟨a16, _ | ⟨a17, _ | ⟨a18, _ | ⟨a19, r⟩⟩⟩⟩⟩⟩⟩⟩⟩⟩⟩⟩⟩⟩⟩⟩⟩⟩⟩⟩ <;> simp at hl
    exact ⟨_, _, _, _, _, _, _, _, _, _, _, _, _, _, _, _, _, _, _, rfl⟩
  have two : ∀ {t f0 t0 f1 t1 : Nat} {x y : Value}, Rdw enc Tryd.prog w t [x, y] → Fld Tryd.prog t f0 0 t0 → Fld Tryd.prog t f1 1 t1 → Tryd.prog.cellsOf t0 = 1 → Tryd.prog.cellsOf t1 = 1 → Rdw enc Tryd.prog w t0 [x] ∧ Rdw enc Tryd.prog w t1 [y] := by
    intro t f0 t0 f1 t1 x y h g0 g1 c0 c1
    have r0 := h.fld g0
    have r1 := h.fld g1
    rw [c0] at r0
    rw [c1] at r1
    exact ⟨r0, r1⟩
  have k0 := h.fld (fld _ 0 _ _ rfl); rw [sz_place] at k0
  have k1 := h.fld (fld _ 1 _ _ rfl); rw [sz_string] at k1
  have k2 := h.fld (fld _ 2 _ _ rfl); rw [sz_int] at k2
  have k3 := h.fld (fld _ 3 _ _ rfl); rw [sz_u64] at k3
  have k4 := h.fld (fld _ 4 _ _ rfl); rw [sz_int] at k4
  have k5 := h.fld (fld _ 5 _ _ rfl); rw [sz_int] at k5
  have k6 := h.fld (fld _ 6 _ _ rfl); rw [sz_bool] at k6
  have k7 := h.fld (fld _ 7 _ _ rfl); rw [sz_bool] at k7
  have k8 := h.fld (fld _ 8 _ _ rfl); rw [sz_rat] at k8
  have k9 := h.fld (fld _ 9 _ _ rfl); rw [sz_rat] at k9
  have k10 := h.fld (fld _ 10 _ _ rfl); rw [sz_rat] at k10
  have k11 := h.fld (fld _ 11 _ _ rfl); rw [sz_rat] at k11
  have k12 := h.fld (fld _ 12 _ _ rfl); rw [sz_string] at k12
  have k13 := h.fld (fld _ 13 _ _ rfl); rw [sz_texts] at k13
  obtain ⟨p0, p1⟩ := two k0 (fld _ 0 _ _ rfl) (fld _ 1 _ _ rfl) sz_int sz_int
  obtain ⟨q0, q1⟩ := two k8 (fld _ 0 _ _ rfl) (fld _ 1 _ _ rfl) sz_i64 sz_i64
  obtain ⟨q2, q3⟩ := two k9 (fld _ 0 _ _ rfl) (fld _ 1 _ _ rfl) sz_i64 sz_i64
  obtain ⟨q4, q5⟩ := two k10 (fld _ 0 _ _ rfl) (fld _ 1 _ _ rfl) sz_i64 sz_i64
  obtain ⟨q6, q7⟩ := two k11 (fld _ 0 _ _ rfl) (fld _ 1 _ _ rfl) sz_i64 sz_i64
  obtain ⟨i0, e0, _⟩ := p0.rds.int (und _ _ rfl)
  obtain ⟨i1, e1, _⟩ := p1.rds.int (und _ _ rfl)
  obtain ⟨i2, e2, _⟩ := Rds.string k1.rds (und _ _ rfl)
  obtain ⟨i3, e3, _⟩ := Rds.int k2.rds (und _ _ rfl)
  obtain ⟨i4, e4, _⟩ := Rds.int k3.rds (und _ _ rfl)
  obtain ⟨i5, e5, _⟩ := Rds.int k4.rds (und _ _ rfl)
  obtain ⟨i6, e6, _⟩ := Rds.int k5.rds (und _ _ rfl)
  obtain ⟨i7, e7⟩ := Rds.bool k6.rds (und _ _ rfl)
  obtain ⟨i8, e8⟩ := Rds.bool k7.rds (und _ _ rfl)
  obtain ⟨i9, e9, _⟩ := q0.rds.int (und _ _ rfl)
  obtain ⟨i10, e10, _⟩ := q1.rds.int (und _ _ rfl)
  obtain ⟨i11, e11, _⟩ := q2.rds.int (und _ _ rfl)
  obtain ⟨i12, e12, _⟩ := q3.rds.int (und _ _ rfl)
  obtain ⟨i13, e13, _⟩ := q4.rds.int (und _ _ rfl)
  obtain ⟨i14, e14, _⟩ := q5.rds.int (und _ _ rfl)
  obtain ⟨i15, e15, _⟩ := q6.rds.int (und _ _ rfl)
  obtain ⟨i16, e16, _⟩ := q7.rds.int (und _ _ rfl)
  obtain ⟨i17, e17, _⟩ := Rds.string k12.rds (und _ _ rfl)
  obtain ⟨ao, len, cap, ss, e18, hsl, hle, hm, hby, hrd, _⟩ := Rdw.texts k13 (und _ _ rfl) (und _ _ rfl) sz_string
  simp only [List.drop_succ_cons, List.drop_zero, List.take_succ_cons, List.take_zero, List.cons.injEq, and_true] at e2 e3 e4 e5 e6 e7 e8 e17 e18
  cases e0; cases e1; subst e2; subst e3; subst e4; subst e5; subst e6; subst e7; subst e8; cases e9; cases e10; cases e11; cases e12; cases e13; cases e14; cases e15; cases e16; subst e17; subst e18
  rw [by_string] at hby
  exact ⟨⟨i0, i1, i2, i3, i4, i5, i6, i7, i8, i9, i10, i11, i12, i13, i14, i15, i16, i17, ao, len, cap⟩, ss, rfl, hsl, hrd, hle, Nat.le_trans (Nat.mul_le_mul_right _ hle) hby⟩
end Go.Proofs.YtjomihhpglojpaaDoor
end
section
/- Conversions: between integers; bytes as a text; a signed number moved to the right. -/
namespace Go.Proofs.YtjomihhpglojpaaDoor
open Go.RowKit

section
variable {P : Program} {w : World} {l : List (Nat × Value)}
theorem d_convI {x : Operand} {k k' : IntKind} {n m : Int} {src dst ty : TypeId} {ds : TypeDesc} (hs : P.underlying src = some ds) (hd : P.underlying dst = some (.int k')) (hx : Ev l x (.int k n) := by exact rfl) (hm : k'.wrap n = m := by exact rfl) :
    Does P l w (.convert src dst x) ty (.int k' m) w := by
  intro ρ hρ d pos af g
  subst hm
  simp [execOp, hρ _ _ hx, convert, run_underlying hs, run_underlying hd, Conv.intToInt]
/-- 'string(r)'. -/
theorem d_convR {x : Operand} {k : IntKind} {n : Int} {src dst ty : TypeId} {ds : TypeDesc} (hs : P.underlying src = some ds) (hd : P.underlying dst = some .string) (hx : Ev l x (.int k n) := by exact rfl) :
    Does P l w (.convert src dst x) ty (.string (Utf8.encode n)) w := by
  intro ρ hρ d pos af g
  simp [execOp, hρ _ _ hx, convert, run_underlying hs, run_underlying hd, Conv.intToString]
theorem d_convBS {x : Operand} {src dst e ty : TypeId} {b o len cap : Nat} (xs : List Int) (hs : P.underlying src = some (.slice e)) (he : P.underlying e = some (.int .u8)) (hd : P.underlying dst = some .string) (hlen : xs.length = len)
    (hcell : ∀ i, i < len → w.cell? ⟨b, o + i, none⟩ = some (.int .u8 (xs.getD i 0))) (hx : Ev l x (.slice (some ⟨b, o, none⟩) len cap) := by exact rfl) :
    Does P l w (.convert src dst x) ty (.string (strOfNums xs)) w := by
  intro ρ hρ d pos af g
  simp [execOp, hρ _ _ hx, run_convert_bytes_arg w src e hs he b o len cap xs hlen hcell dst hd]
theorem run_shrI {k ky : IntKind} {a : Int} {b : Nat} (hb : b ≤ k.bits) : (Op.shift .shr k a ky (b : Int)).run P w = .ok (.int k (a / 2 ^ b)) w := by
  have h1 : ¬ ((b : Int) < 0) := by omega
  simp only [Op.shift, h1, if_false, Int.toNat_natCast, Nat.min_eq_left hb]
  rw [Int.fdiv_eq_ediv_of_nonneg _ (Int.le_of_lt (Int.pow_pos (by decide)))]
  rfl
theorem d_shrI {x y : Operand} {k ky : IntKind} {a q : Int} {b : Nat} {t t' ty : TypeId} (hx : Ev l x (.int k a) := by exact rfl) (hy : Ev l y (.int ky q) := by exact rfl) (hq : q = (b : Int) := by exact rfl) (hb : b ≤ k.bits := by decide) :
    Does P l w (.binOp .shr t x y t') ty (.int k (a / 2 ^ b)) w := by
  intro ρ hρ d pos af g
  subst hq
  have e : (eqGuard .shr t x y (.int k a) (.int ky b)).run P w = .ok () w := rfl
  have e2 : (binOp .shr t (.int k a) (.int ky b)).run P w = .ok (.int k (a / 2 ^ b)) w := run_shrI (ky := ky) hb
  simp only [execOp, hρ _ _ hx, hρ _ _ hy, Sem.run_bind, e, Result.andThen_ok, e2]
  rfl
end
end Go.Proofs.YtjomihhpglojpaaDoor
end
section
/- Structs of two numbers held against each other. -/
namespace Go.Proofs.YtjomihhpglojpaaDoor
open Go.RowKit

section
variable {P : Program} {w : World} {l : List (Nat × Value)}
/-- A struct of two numbers of one kind. -/
structure PairT (P : Program) (t : TypeId) (k : IntKind) : Prop where
  it : ∃ f0 f1 : Field, P.underlying t = some (.struct (P.fieldsOf t)) ∧ P.fieldsOf t = #[f0, f1] ∧ f0.offset = 0 ∧ f1.offset = 1 ∧ ¬ f0.name = "_" ∧ ¬ f1.name = "_" ∧ P.underlying f0.type = some (.int k) ∧ P.underlying f1.type = some (.int k)
  held : P.stoodInHeld t = false
  guard : P.eqGuardType P.depth t = false
def isIntK (d : Option TypeDesc) (k : IntKind) : Bool := match d with | some (.int k') => k' == k | _ => false
theorem isIntK_eq {d : Option TypeDesc} {k : IntKind} (h : isIntK d k = true) : d = some (.int k) := by
  unfold isIntK at h
  split at h
  · rw [eq_of_beq h]
  · cases h
def pairB (P : Program) (t : TypeId) (k : IntKind) : Bool :=
  (match P.underlying t with
  | some (.struct fs) => (match fs.toList with
    | [f0, f1] => decide (f0.offset = 0) && decide (f1.offset = 1) && decide (¬ f0.name = "_") && decide (¬ f1.name = "_") && isIntK (P.underlying f0.type) k && isIntK (P.underlying f1.type) k
    | _ => false)
  | _ => false) && !P.stoodInHeld t && !P.eqGuardType P.depth t
theorem pairT_of {t : TypeId} {k : IntKind} (h : pairB P t k = true) : PairT P t k := by
  unfold pairB at h
  simp only [Bool.and_eq_true, Bool.not_eq_true'] at h
  obtain ⟨⟨h2, h3⟩, h4⟩ := h
  refine ⟨?_, h3, h4⟩
  split at h2
  · rename_i fs hu
    split at h2
    · rename_i f0 f1 he
      simp only [Bool.and_eq_true, decide_eq_true_eq] at h2
      obtain ⟨⟨⟨⟨⟨a, b⟩, c⟩, d⟩, e⟩, f⟩ := h2
      have hfs : P.fieldsOf t = fs := by simp [Program.fieldsOf, hu]
      exact ⟨f0, f1, by rw [hfs]; exact hu, by rw [hfs, ← Array.toList_inj, he], a, b, c, d, isIntK_eq e, isIntK_eq f⟩
    · cases h2
  · cases h2
theorem run_pair {t : TypeId} {k : IntKind} (h : PairT P t k) (a b c d : Int) : (Op.equalIn 10000 t (.agg #[.int k a, .int k b]) (.agg #[.int k c, .int k d])).run P w = .ok (decide (a = c ∧ b = d)) w := by
  obtain ⟨f0, f1, hU, hF, o0, o1, n0, n1, u0, u1⟩ := h.it
  rw [run_equalIn_agg w 9999 t _ _ hU h.held, hF]
  have p0 : ∀ x y : Int, (part f0.type #[.int k x, .int k y] 0).run P w = .ok (.int k x) w := fun x y => by simp [part, isAgg, run_underlying u0]
  have p1 : ∀ x y : Int, (part f1.type #[.int k x, .int k y] 1).run P w = .ok (.int k y) w := fun x y => by simp [part, isAgg, run_underlying u1]
  have e0 : (Op.equalIn 9999 f0.type (.int k a) (.int k c)).run P w = .ok (a == c) w := run_equalIn_int w 9998 _ k k a c u0
  have e1 : (Op.equalIn 9999 f1.type (.int k b) (.int k d)).run P w = .ok (b == d) w := run_equalIn_int w 9998 _ k k b d u1
  simp only [Op.eqFields, Sem.run_bind, o0, o1, p0, p1, e0, e1, Result.andThen_ok, ne_eq, n0, n1, not_false_eq_true, if_true]
  by_cases h0 : a = c
  · subst h0
    by_cases h1 : b = d
    · subst h1
      simp [p1, e1]
    · have h2 : (b == d) = false := by simpa using h1
      simp [p1, e1, h1, h2]
  · simp [h0]
theorem d_eqP {op : BinOp} {x y : Operand} {k : IntKind} {a b c d : Int} {r : Bool} {t t' ty : TypeId} (h : PairT P t k)
    (hx : Ev l x (.agg #[.int k a, .int k b]) := by exact rfl) (hy : Ev l y (.agg #[.int k c, .int k d]) := by exact rfl) (hr : (match op with | .eql => some (decide (a = c ∧ b = d)) | .neq => some (!decide (a = c ∧ b = d)) | _ => none) = some r := by exact rfl) : Does P l w (.binOp op t x y t') ty (.bool r) w := by
  intro ρ hρ d0 pos af g
  have key := run_pair (w := w) h a b c d
  cases op <;> simp only [Option.some.injEq, reduceCtorEq] at hr <;> subst hr
  · simp only [execOp, hρ _ _ hx, hρ _ _ hy, Sem.run_bind, run_eqGuard_agg w _ t x y _ _ h.guard, Result.andThen_ok, run_eql_struct, key]
    rfl
  · simp only [execOp, hρ _ _ hx, hρ _ _ hy, Sem.run_bind, run_eqGuard_agg w _ t x y _ _ h.guard, Result.andThen_ok, run_neq_struct, key]
    rfl
/-- .. the same pair. -/
theorem d_eqPs {x y : Operand} {k : IntKind} {a b : Int} {t t' ty : TypeId} (h : PairT P t k)
    (hx : Ev l x (.agg #[.int k a, .int k b]) := by exact rfl) (hy : Ev l y (.agg #[.int k a, .int k b]) := by exact rfl) : Does P l w (.binOp .eql t x y t') ty (.bool true) w :=
  d_to (d_eqP h hx hy rfl) (by simp)
end
end Go.Proofs.YtjomihhpglojpaaDoor
end
