/- errors.As at a target of type *api.Fault, over a fault: it is found, and lies in the target. -/
import Derived.Test.YtnohefaifbghiaaGreatDoorAs
import Derived.Test.YtnohefaifbghiaaGreatDoorArr
import Derived.Test.YtnohefaifbghiaaGreatDoorIsF
namespace Go.Proofs.YtnohefaifbghiaaGreatDoor
open Go.RowKit Go.Extern.Stop Go.Stop Go.Extern

/-- The fault's cells. -/
def fltC (n x y : Int) : Array Value := #[.int .i64 n, .int .i64 x, .int .i64 y]
theorem asTypeOfF (v : Value) (w : World) : (ReflectliteType.typeOf #[.iface 47 v]).run Tryz.prog w = .ok (.iface 94 (.agg #[.pointer (some ⟨4, 47, none⟩)])) w := by kernel_rfl
theorem asAssignF (w : World) : (ReflectliteType.relation "AssignableTo" ReflectliteType.assignableTo #[.agg #[.pointer (some ⟨4, 47, none⟩)], .iface 94 (.agg #[.pointer (some ⟨4, 47, none⟩)])]).run Tryz.prog w = .ok (.bool true) w := by kernel_rfl
theorem asValueOfF (n x y : Int) (w : World) : (ReflectliteValue.unpack (.iface 47 (.agg #[.int .i64 n, .int .i64 x, .int .i64 y]))).run Tryz.prog w
    = .ok (.agg #[.pointer (some ⟨4, 47, none⟩), .pointer (some ⟨w.heap.size, 0, none⟩), .int .u64 153]) (w.alloc (.cells #[.int .i64 n, .int .i64 x, .int .i64 y] 47)) := by kernel_rfl
theorem asElemOfP (w : World) : (Rtype.elem? 49).run Tryz.prog w = .ok (some 47) w := by kernel_rfl
theorem asMkF (p : Addr) (w : World) : (ReflectliteValue.mk 47 p ReflectliteValue.flagAddr).run Tryz.prog w = .ok (.agg #[.pointer (some ⟨4, 47, none⟩), .pointer (some p), .int .u64 409]) w := by kernel_rfl
theorem asElemV (a p : Addr) (W : World) (ha : W.cell? a = some (.pointer (some p))) :
    (ReflectliteValue.method (ReflectliteValue.valueError "reflectlite.Value.Elem" 0) ReflectliteValue.elem #[.agg #[.pointer (some ⟨4, 49, none⟩), .pointer (some a), .int .u64 150]]).run Tryz.prog W
      = .ok (.agg #[.pointer (some ⟨4, 47, none⟩), .pointer (some p), .int .u64 409]) W := by
  rw [rlmV]
  simp only [Sem.run_bind, asPartsP, Result.andThen]
  simp [ReflectliteValue.elem, loadVar, isAgg, underlying, Tryz.underlying49, ha, Result.andThen, asElemOfP, asMkF]
theorem asRls (v x : Value) : ReflectliteValue.set #[v, x] = (do
    let (some (dst, a, fl), some (src, b, _)) := (← ReflectliteValue.parts v, ← ReflectliteValue.parts x)
      | unsupported (.noEntry "extern/(internal/reflectlite.Value).Set.zeroValue")
    if fl / ReflectliteValue.flagAddr % 2 == 0 then unsupported (.noEntry "extern/(internal/reflectlite.Value).Set.unaddressable")
    let val ← loadVar src b
    if ← Rtype.directlyAssignable dst src then storeVar dst a val
    else if ← Rtype.implements dst src then
      if (← Rtype.kind src) == 20 then
        match val with
        | .nilIface => unsupported (.noEntry "extern/reflectlite: a nil value of one interface type handed on as a value of another")
        | _ => storeVar dst a val
      else storeVar dst a (.iface src val)
    else panicString ("reflectlite.Set: value of type " ++ (← Rtype.spelt src) ++ " is not assignable to type " ++ (← Rtype.spelt dst))
    pure (.tuple #[])) := rfl
theorem asPartsFa (a : Addr) (w : World) : (ReflectliteValue.parts (.agg #[.pointer (some ⟨4, 47, none⟩), .pointer (some a), .int .u64 409])).run Tryz.prog w = .ok (some (47, a, 409)) w := by kernel_rfl
theorem asPartsF (a : Addr) (w : World) : (ReflectliteValue.parts (.agg #[.pointer (some ⟨4, 47, none⟩), .pointer (some a), .int .u64 153])).run Tryz.prog w = .ok (some (47, a, 153)) w := by kernel_rfl
theorem asDirectF (w : World) : (Rtype.directlyAssignable 47 47).run Tryz.prog w = .ok true w := by kernel_rfl
theorem asStoreF (n x y : Int) (g : Nat) (c : Array Value) (W : World) (hc : c.size = 3) (hg : W.heap[g]? = some (.cells c 47 (0, 0))) :
    (storeVar 47 ⟨g, 0, none⟩ (.agg #[.int .i64 n, .int .i64 x, .int .i64 y])).run Tryz.prog W = .ok () (W.setRow g #[.int .i64 n, .int .i64 x, .int .i64 y]) := by
  have hr := run_storeCells_at (P := Tryz.prog) g 0 47 [.int .i64 n, .int .i64 x, .int .i64 y] 0 c W hg (by simp [hc]) (by simp [Value.oneCell'])
  obtain ⟨ti, h1, h2⟩ := Option.map_eq_some_iff.1 (isz 47 3 rfl)
  have hd : List.drop 3 c.toList = [] := List.drop_eq_nil_of_le (by simp [hc])
  simp only [List.length_cons, List.length_nil, Nat.add_zero, Nat.zero_add, List.take_zero, List.nil_append] at hr
  rw [show (0 + 1 + 1 + 1 : Nat) = 3 from rfl] at hr
  rw [hd, List.append_nil] at hr
  have hcs : (Value.agg #[.int .i64 n, .int .i64 x, .int .i64 y]).cells = #[.int .i64 n, .int .i64 x, .int .i64 y] := rfl
  simp [storeVar, sizeOf, typeInfo, h1, h2, hcs, hr]
theorem asSetF (n x y : Int) (s g : Nat) (c : Array Value) (W : World) (hc : c.size = 3) (hs : W.heap[s]? = some (.cells #[.int .i64 n, .int .i64 x, .int .i64 y] 47 (0, 0))) (hg : W.heap[g]? = some (.cells c 47 (0, 0))) :
    (ReflectliteValue.set #[.agg #[.pointer (some ⟨4, 47, none⟩), .pointer (some ⟨g, 0, none⟩), .int .u64 409], .agg #[.pointer (some ⟨4, 47, none⟩), .pointer (some ⟨s, 0, none⟩), .int .u64 153]]).run Tryz.prog W
      = .ok (.tuple #[]) (W.setRow g #[.int .i64 n, .int .i64 x, .int .i64 y]) := by
  have hl := run_loadVar_agg (P := Tryz.prog) (w := W) (t := 47) (cs := #[.int .i64 n, .int .i64 x, .int .i64 y]) (agg _ rfl) (isz 47 3 rfl) hs
  have hst := asStoreF n x y g c W hc hg
  rw [asRls]
  simp only [Sem.run_bind, asPartsFa, asPartsF, Result.andThen]
  simp [ReflectliteValue.flagAddr, hl, Result.andThen, asDirectF, hst]

set_option maxRecDepth 100000 in
set_option maxHeartbeats 8000000 in
theorem as_hit_calls (n x y : Int) (g : Nat) (c : Array Value) (w : World) (hg : Handle w) (hc : c.size = 3) (ht : w.heap[g]? = some (.cells c 47 (0, 0))) :
    Calls Tryz.prog 21 #[.iface 47 (.agg #[.int .i64 n, .int .i64 x, .int .i64 y]), .iface 49 (.pointer (some ⟨g, 0, none⟩))] w fun ev w' => ev = .returned (.bool true) ∧
      w' = ((((w.alloc (.cells #[.pointer (some ⟨g, 0, none⟩)] 49)).alloc (.cells #[.pointer (some ⟨4, 49, none⟩), .pointer (some ⟨w.heap.size, 0, none⟩), .int .u64 150] 63)).alloc (.cells #[.pointer (some ⟨4, 49, none⟩), .pointer (some ⟨w.heap.size, 0, none⟩), .int .u64 150] 63)).alloc (.cells #[.int .i64 n, .int .i64 x, .int .i64 y] 47)).setRow g #[.int .i64 n, .int .i64 x, .int .i64 y] := by
  unfold Handle at hg
  have h6 := @run_callFunc_extern Tryz.prog 32 _ (fun args => ReflectliteValue.unpack (args.getD 0 (.tuple #[]))) Tryz.func32 (by kernel_rfl) (by kernel_rfl) (by kernel_rfl) (by kernel_rfl)
  have h7 := @run_callFunc_extern Tryz.prog 33 _ (ReflectliteValue.methodAny (ReflectliteValue.valueError "reflectlite.Value.Type" 0) (fun t _ _ _ => ReflectliteType.toType t)) Tryz.func33 (by kernel_rfl) (by kernel_rfl) (by kernel_rfl) (by kernel_rfl)
  have h8 := @run_callFunc_extern Tryz.prog 34 _ (ReflectliteValue.method (ReflectliteValue.valueError "reflectlite.Value.IsNil" 0) ReflectliteValue.isNil) Tryz.func34 (by kernel_rfl) (by kernel_rfl) (by kernel_rfl) (by kernel_rfl)
  have h27 := @run_callFunc_extern Tryz.prog 94 _ (ReflectliteType.abiMethod fun t => do pure (.int .u8 (← Rtype.kind t))) Tryz.func94 (by kernel_rfl) (by kernel_rfl) (by kernel_rfl) (by kernel_rfl)
  have h37 := @run_callFunc_extern Tryz.prog 107 _ (ReflectliteType.method ReflectliteType.elem) Tryz.func107 (by kernel_rfl) (by kernel_rfl) (by kernel_rfl) (by kernel_rfl)
  have h38 := @run_callFunc_extern Tryz.prog 108 _ (ReflectliteType.relation "Implements" ReflectliteType.implements_) Tryz.func108 (by kernel_rfl) (by kernel_rfl) (by kernel_rfl) (by kernel_rfl)
  have h10 := @run_callFunc_extern Tryz.prog 36 _ ReflectliteType.typeOf Tryz.func36 (by kernel_rfl) (by kernel_rfl) (by kernel_rfl) (by kernel_rfl)
  have h35 := @run_callFunc_extern Tryz.prog 105 _ (ReflectliteType.relation "AssignableTo" ReflectliteType.assignableTo) Tryz.func105 (by kernel_rfl) (by kernel_rfl) (by kernel_rfl) (by kernel_rfl)
  have h11 := @run_callFunc_extern Tryz.prog 43 _ (ReflectliteValue.method (ReflectliteValue.valueError "reflectlite.Value.Elem" 0) ReflectliteValue.elem) Tryz.func43 (by kernel_rfl) (by kernel_rfl) (by kernel_rfl) (by kernel_rfl)
  have h12 := @run_callFunc_extern Tryz.prog 44 _ ReflectliteValue.set Tryz.func44 (by kernel_rfl) (by kernel_rfl) (by kernel_rfl) (by kernel_rfl)
  have tO := asTypeOfF
  have mA := asMethodAssignableTo
  have aF := asAssignF
  have vF := asValueOfF
  have f6 := asValueOf
  have f7 := asType
  have mK := asMethodKind
  have mE := asMethodElem
  have mI := asMethodImplements
  have kP := asKindP
  have kF := asKindF
  have eP := asElem
  have iF := asImplements
  have n8 := asIsNil ⟨w.heap.size, 0, none⟩ ⟨g, 0, none⟩ ((w.alloc (.cells #[.pointer (some ⟨g, 0, none⟩)] 49)).alloc (.cells #[.pointer (some ⟨4, 49, none⟩), .pointer (some ⟨w.heap.size, 0, none⟩), .int .u64 150] 63)) (by simp)
  have hlt : 0 < w.heap.size := by
    rcases Nat.eq_zero_or_pos w.heap.size with h0 | h
    · simp [World.cell?, h0] at hg
    · exact h
  have hg2 : ((w.alloc (.cells #[.pointer (some ⟨g, 0, none⟩)] 49)).alloc (.cells #[.pointer (some ⟨4, 49, none⟩), .pointer (some ⟨w.heap.size, 0, none⟩), .int .u64 150] 63)).cell? ⟨0, 0, none⟩ = some (.iface 94 (.agg #[.pointer (some ⟨4, 24, none⟩)])) := by
    rw [World.cell?_alloc_lt _ _ ⟨0, 0, none⟩ (by simp), World.cell?_alloc_lt _ _ ⟨0, 0, none⟩ hlt]; exact hg
  have htl := lt_at ht
  have el := asElemV ⟨w.heap.size, 0, none⟩ ⟨g, 0, none⟩ (((w.alloc (.cells #[.pointer (some ⟨g, 0, none⟩)] 49)).alloc (.cells #[.pointer (some ⟨4, 49, none⟩), .pointer (some ⟨w.heap.size, 0, none⟩), .int .u64 150] 63)).alloc (.cells #[.pointer (some ⟨4, 49, none⟩), .pointer (some ⟨w.heap.size, 0, none⟩), .int .u64 150] 63)) (by rw [World.cell?_alloc_lt _ _ ⟨w.heap.size, 0, none⟩ (by simp; omega)]; simp)
  have st := asSetF n x y (w.heap.size + 1 + 1 + 1) g c ((((w.alloc (.cells #[.pointer (some ⟨g, 0, none⟩)] 49)).alloc (.cells #[.pointer (some ⟨4, 49, none⟩), .pointer (some ⟨w.heap.size, 0, none⟩), .int .u64 150] 63)).alloc (.cells #[.pointer (some ⟨4, 49, none⟩), .pointer (some ⟨w.heap.size, 0, none⟩), .int .u64 150] 63)).alloc (.cells #[.int .i64 n, .int .i64 x, .int .i64 y] 47)) hc
    (by
      have := heap_alloc_new (((w.alloc (.cells #[.pointer (some ⟨g, 0, none⟩)] 49)).alloc (.cells #[.pointer (some ⟨4, 49, none⟩), .pointer (some ⟨w.heap.size, 0, none⟩), .int .u64 150] 63)).alloc (.cells #[.pointer (some ⟨4, 49, none⟩), .pointer (some ⟨w.heap.size, 0, none⟩), .int .u64 150] 63)) (.cells #[.int .i64 n, .int .i64 x, .int .i64 y] 47)
      simpa using this)
    (by rw [Below.heap_alloc _ _ _ (by simp; omega), Below.heap_alloc _ _ _ (by simp; omega), Below.heap_alloc _ _ _ (by simp; omega), Below.heap_alloc _ _ _ htl]; exact ht)
  clear ht
  go_enter Tryz.func21, Tryz.ntmps21
  go_wp2
  refine wp_loop_rounds 1 ?_
  rw [rounds_succ]
  go_wp2
  go_ret
  exact ⟨rfl, rfl⟩
theorem as_hit (w : World) (n x y : Int) (g : Nat) (c : Array Value) (hg : Handle w) (hc : c.size = 3) (ht : w.heap[g]? = some (.cells c 47 (0, 0))) :
    Ret Tryz.prog 21 #[fltV n x y, .iface 49 (.pointer (some ⟨g, 0, none⟩))] w (fun v w' => v = .bool true ∧ w'.heap[g]? = some (.cells #[.int .i64 n, .int .i64 x, .int .i64 y] 47 (0, 0)) ∧ w.grownBy w' (some g)) := by
  refine Calls.mono (as_hit_calls n x y g c w hg hc ht) ?_
  rintro e w' ⟨rfl, rfl⟩
  have htl := lt_at ht
  have hal : ∀ (W : World) (o : Obj), w.grownBy W (some g) → w.grownBy (W.alloc o) (some g) := fun W o h => grown_trans h (have k := World.grownBy_alloc W o none; ⟨k.os, k.tape, k.output, k.size, fun i hi _ => k.block i hi (by simp)⟩)
  generalize hW : ((((w.alloc (.cells #[.pointer (some ⟨g, 0, none⟩)] 49)).alloc (.cells #[.pointer (some ⟨4, 49, none⟩), .pointer (some ⟨w.heap.size, 0, none⟩), .int .u64 150] 63)).alloc (.cells #[.pointer (some ⟨4, 49, none⟩), .pointer (some ⟨w.heap.size, 0, none⟩), .int .u64 150] 63)).alloc (.cells #[.int .i64 n, .int .i64 x, .int .i64 y] 47)) = W
  have hgr : w.grownBy W (some g) := by
    rw [← hW]; exact hal _ _ (hal _ _ (hal _ _ (hal _ _ (World.grownBy.refl _ _))))
  have hWg : W.heap[g]? = some (.cells c 47 (0, 0)) := by
    rw [← hW, Below.heap_alloc _ _ _ (by simp; omega), Below.heap_alloc _ _ _ (by simp; omega), Below.heap_alloc _ _ _ (by simp; omega), Below.heap_alloc _ _ _ htl]; exact ht
  refine ⟨_, rfl, rfl, setRow_heap W g c _ _ _ hWg, grown_trans hgr ⟨rfl, rfl, rfl, by simp [World.setRow], fun k hk hne => setRow_other W g k _ (by intro e; exact hne (by rw [e]))⟩⟩
end Go.Proofs.YtnohefaifbghiaaGreatDoor
