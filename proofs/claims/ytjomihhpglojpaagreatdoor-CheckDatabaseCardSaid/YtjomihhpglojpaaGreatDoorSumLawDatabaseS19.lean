/- Laid together by a program of mine: AsF AtF AtW RowsW. -/
import Derived.Test.YtjomihhpglojpaaGreatDoorSumLawDatabaseS15
import Derived.Test.YtjomihhpglojpaaGreatDoorSumLawDatabaseS6
import Derived.Test.YtjomihhpglojpaaGreatDoorSumLawDatabaseS18
import Derived.Test.YtjomihhpglojpaaGreatDoorSumLawDatabaseS17
set_option linter.unusedSimpArgs false
set_option linter.unusedVariables false
section
/- errors.As at a target of type *api.Fault, over a fault: it is found, and lies in the target. -/
namespace Go.Proofs.YtjomihhpglojpaaGreatDoor
set_option maxRecDepth 100000
open Go.RowKit Go.Extern.Stop Go.Stop Go.Extern

/-- The fault's cells. -/
def fltC (n x y : Int) : Array Value := #[.int .i64 n, .int .i64 x, .int .i64 y]
theorem asTypeOfF (v : Value) (w : World) : (ReflectliteType.typeOf #[.iface 100 v]).run Tryz.prog w = .ok (.iface 194 (.agg #[.pointer (some ⟨3, 100, none⟩)])) w := by kernel_rfl
theorem asAssignF (w : World) : (ReflectliteType.relation "AssignableTo" ReflectliteType.assignableTo #[.agg #[.pointer (some ⟨3, 100, none⟩)], .iface 194 (.agg #[.pointer (some ⟨3, 100, none⟩)])]).run Tryz.prog w = .ok (.bool true) w := by kernel_rfl
theorem asValueOfF (n x y : Int) (w : World) : (ReflectliteValue.unpack (.iface 100 (.agg #[.int .i64 n, .int .i64 x, .int .i64 y]))).run Tryz.prog w
    = .ok (.agg #[.pointer (some ⟨3, 100, none⟩), .pointer (some ⟨w.heap.size, 0, none⟩), .int .u64 153]) (w.alloc (.cells #[.int .i64 n, .int .i64 x, .int .i64 y] 100)) := by kernel_rfl
theorem asElemOfP (w : World) : (Rtype.elem? 132).run Tryz.prog w = .ok (some 100) w := by kernel_rfl
theorem asMkF (p : Addr) (w : World) : (ReflectliteValue.mk 100 p ReflectliteValue.flagAddr).run Tryz.prog w = .ok (.agg #[.pointer (some ⟨3, 100, none⟩), .pointer (some p), .int .u64 409]) w := by kernel_rfl
theorem asElemV (a p : Addr) (W : World) (ha : W.cell? a = some (.pointer (some p))) :
    (ReflectliteValue.method (ReflectliteValue.valueError "reflectlite.Value.Elem" 0) ReflectliteValue.elem #[.agg #[.pointer (some ⟨3, 132, none⟩), .pointer (some a), .int .u64 150]]).run Tryz.prog W
      = .ok (.agg #[.pointer (some ⟨3, 100, none⟩), .pointer (some p), .int .u64 409]) W := by
  rw [rlmV]
  simp only [Sem.run_bind, asPartsP, Result.andThen]
  simp [ReflectliteValue.elem, loadVar, isAgg, underlying, Tryz.underlying132, ha, Result.andThen, asElemOfP, asMkF]
theorem asRls (v x : Value) : ReflectliteValue.set #[v, x] = (do
    let (some (dst, a, fl), some (src, b, _)) := (← ReflectliteValue.parts v, ← ReflectliteValue.parts x)
      | unsupported (.noEntry "extern/(internal/reflectlite.Value).Set.zeroValue")
    if fl / ReflectliteValue.flagAddr % 2 == 0 then unsupported (.noEntry "extern/(internal/reflectlite.Value).Set.unaddressable")
    let val ← loadVar src b
    if ← Rtype.directlyAssignable dst src then storeVar dst a val
    else if ← Rtype.implements dst src then
      if (← Rtype.kind src) == 20 then
        match val with
        | .nilIface => unsupported (.noEntry "extern/reflectlite: a nil value of one interface type handed on as a value of another")
        | _ => storeVar dst a val
      else storeVar dst a (.iface src val)
    else panicString ("reflectlite.Set: value of type " ++ (← Rtype.spelt src) ++ " is not assignable to type " ++ (← Rtype.spelt dst))
    pure (.tuple #[])) := rfl
theorem asPartsFa (a : Addr) (w : World) : (ReflectliteValue.parts (.agg #[.pointer (some ⟨3, 100, none⟩), .pointer (some a), .int .u64 409])).run Tryz.prog w = .ok (some (100, a, 409)) w := by kernel_rfl
theorem asPartsF (a : Addr) (w : World) : (ReflectliteValue.parts (.agg #[.pointer (some ⟨3, 100, none⟩), .pointer (some a), .int .u64 153])).run Tryz.prog w = .ok (some (100, a, 153)) w := by kernel_rfl
theorem asDirectF (w : World) : (Rtype.directlyAssignable 100 100).run Tryz.prog w = .ok true w := by kernel_rfl
theorem asStoreF (n x y : Int) (g : Nat) (c : Array Value) (W : World) (hc : c.size = 3) (hg : W.heap[g]? = some (.cells c 100 (0, 0))) :
    (storeVar 100 ⟨g, 0, none⟩ (.agg #[.int .i64 n, .int .i64 x, .int .i64 y])).run Tryz.prog W = .ok () (W.setRow g #[.int .i64 n, .int .i64 x, .int .i64 y]) := by
  have hr := run_storeCells_at (P := Tryz.prog) g 0 100 [.int .i64 n, .int .i64 x, .int .i64 y] 0 c W hg (by simp [hc]) (by simp [Value.oneCell'])
  obtain ⟨ti, h1, h2⟩ := Option.map_eq_some_iff.1 (isz 100 3 rfl)
  have hd : List.drop 3 c.toList = [] := List.drop_eq_nil_of_le (by simp [hc])
  simp only [List.length_cons, List.length_nil, Nat.add_zero, Nat.zero_add, List.take_zero, List.nil_append] at hr
  rw [show (0 + 1 + 1 + 1 : Nat) = 3 from rfl] at hr
  rw [hd, List.append_nil] at hr
  have hcs : (Value.agg #[.int .i64 n, .int .i64 x, .int .i64 y]).cells = #[.int .i64 n, .int .i64 x, .int .i64 y] := rfl
  simp [storeVar, sizeOf, typeInfo, h1, h2, hcs, hr]
theorem asSetF (n x y : Int) (s g : Nat) (c : Array Value) (W : World) (hc : c.size = 3) (hs : W.heap[s]? = some (.cells #[.int .i64 n, .int .i64 x, .int .i64 y] 100 (0, 0))) (hg : W.heap[g]? = some (.cells c 100 (0, 0))) :
    (ReflectliteValue.set #[.agg #[.pointer (some ⟨3, 100, none⟩), .pointer (some ⟨g, 0, none⟩), .int .u64 409], .agg #[.pointer (some ⟨3, 100, none⟩), .pointer (some ⟨s, 0, none⟩), .int .u64 153]]).run Tryz.prog W
      = .ok (.tuple #[]) (W.setRow g #[.int .i64 n, .int .i64 x, .int .i64 y]) := by
  have hl := run_loadVar_agg (P := Tryz.prog) (w := W) (t := 100) (cs := #[.int .i64 n, .int .i64 x, .int .i64 y]) (agg _ rfl) (isz 100 3 rfl) hs
  have hst := asStoreF n x y g c W hc hg
  rw [asRls]
  simp only [Sem.run_bind, asPartsFa, asPartsF, Result.andThen]
  simp [ReflectliteValue.flagAddr, hl, Result.andThen, asDirectF, hst]

set_option maxRecDepth 100000 in
set_option maxHeartbeats 8000000 in
theorem as_hit_calls (n x y : Int) (g : Nat) (c : Array Value) (w : World) (hg : Handle w) (hc : c.size = 3) (ht : w.heap[g]? = some (.cells c 100 (0, 0))) :
    Calls Tryz.prog 71 #[.iface 100 (.agg #[.int .i64 n, .int .i64 x, .int .i64 y]), .iface 132 (.pointer (some ⟨g, 0, none⟩))] w fun ev w' => ev = .returned (.bool true) ∧
      w' = ((((w.alloc (.cells #[.pointer (some ⟨g, 0, none⟩)] 132)).alloc (.cells #[.pointer (some ⟨3, 132, none⟩), .pointer (some ⟨w.heap.size, 0, none⟩), .int .u64 150] 164)).alloc (.cells #[.pointer (some ⟨3, 132, none⟩), .pointer (some ⟨w.heap.size, 0, none⟩), .int .u64 150] 164)).alloc (.cells #[.int .i64 n, .int .i64 x, .int .i64 y] 100)).setRow g #[.int .i64 n, .int .i64 x, .int .i64 y] := by
  unfold Handle at hg
  have h6 := @run_callFunc_extern Tryz.prog 93 _ (fun args => ReflectliteValue.unpack (args.getD 0 (.tuple #[]))) Tryz.func93 (by kernel_rfl) (by kernel_rfl) (by kernel_rfl) (by kernel_rfl)
  have h7 := @run_callFunc_extern Tryz.prog 94 _ (ReflectliteValue.methodAny (ReflectliteValue.valueError "reflectlite.Value.Type" 0) (fun t _ _ _ => ReflectliteType.toType t)) Tryz.func94 (by kernel_rfl) (by kernel_rfl) (by kernel_rfl) (by kernel_rfl)
  have h8 := @run_callFunc_extern Tryz.prog 95 _ (ReflectliteValue.method (ReflectliteValue.valueError "reflectlite.Value.IsNil" 0) ReflectliteValue.isNil) Tryz.func95 (by kernel_rfl) (by kernel_rfl) (by kernel_rfl) (by kernel_rfl)
  have h27 := @run_callFunc_extern Tryz.prog 137 _ (ReflectliteType.abiMethod fun t => do pure (.int .u8 (← Rtype.kind t))) Tryz.func137 (by kernel_rfl) (by kernel_rfl) (by kernel_rfl) (by kernel_rfl)
  have h37 := @run_callFunc_extern Tryz.prog 153 _ (ReflectliteType.method ReflectliteType.elem) Tryz.func153 (by kernel_rfl) (by kernel_rfl) (by kernel_rfl) (by kernel_rfl)
  have h38 := @run_callFunc_extern Tryz.prog 154 _ (ReflectliteType.relation "Implements" ReflectliteType.implements_) Tryz.func154 (by kernel_rfl) (by kernel_rfl) (by kernel_rfl) (by kernel_rfl)
  have h10 := @run_callFunc_extern Tryz.prog 97 _ ReflectliteType.typeOf Tryz.func97 (by kernel_rfl) (by kernel_rfl) (by kernel_rfl) (by kernel_rfl)
  have h35 := @run_callFunc_extern Tryz.prog 151 _ (ReflectliteType.relation "AssignableTo" ReflectliteType.assignableTo) Tryz.func151 (by kernel_rfl) (by kernel_rfl) (by kernel_rfl) (by kernel_rfl)
  have h11 := @run_callFunc_extern Tryz.prog 113 _ (ReflectliteValue.method (ReflectliteValue.valueError "reflectlite.Value.Elem" 0) ReflectliteValue.elem) Tryz.func113 (by kernel_rfl) (by kernel_rfl) (by kernel_rfl) (by kernel_rfl)
  have h12 := @run_callFunc_extern Tryz.prog 114 _ ReflectliteValue.set Tryz.func114 (by kernel_rfl) (by kernel_rfl) (by kernel_rfl) (by kernel_rfl)
  have tO := asTypeOfF
  have mA := asMethodAssignableTo
  have aF := asAssignF
  have vF := asValueOfF
  have f6 := asValueOf
  have f7 := asType
  have mK := asMethodKind
  have mE := asMethodElem
  have mI := asMethodImplements
  have kP := asKindP
  have kF := asKindF
  have eP := asElem
  have iF := asImplements
  have n8 := asIsNil ⟨w.heap.size, 0, none⟩ ⟨g, 0, none⟩ ((w.alloc (.cells #[.pointer (some ⟨g, 0, none⟩)] 132)).alloc (.cells #[.pointer (some ⟨3, 132, none⟩), .pointer (some ⟨w.heap.size, 0, none⟩), .int .u64 150] 164)) (by simp)
  have hlt : 2 < w.heap.size := World.block_lt_of_cell? w _ hg
  have hg2 : ((w.alloc (.cells #[.pointer (some ⟨g, 0, none⟩)] 132)).alloc (.cells #[.pointer (some ⟨3, 132, none⟩), .pointer (some ⟨w.heap.size, 0, none⟩), .int .u64 150] 164)).cell? ⟨2, 0, none⟩ = some (.iface 194 (.agg #[.pointer (some ⟨3, 31, none⟩)])) := by
    rw [World.cell?_alloc_lt _ _ ⟨2, 0, none⟩ (Nat.lt_of_lt_of_le hlt (by simp)), World.cell?_alloc_lt _ _ ⟨2, 0, none⟩ hlt]; exact hg
  have htl := lt_at ht
  have el := asElemV ⟨w.heap.size, 0, none⟩ ⟨g, 0, none⟩ (((w.alloc (.cells #[.pointer (some ⟨g, 0, none⟩)] 132)).alloc (.cells #[.pointer (some ⟨3, 132, none⟩), .pointer (some ⟨w.heap.size, 0, none⟩), .int .u64 150] 164)).alloc (.cells #[.pointer (some ⟨3, 132, none⟩), .pointer (some ⟨w.heap.size, 0, none⟩), .int .u64 150] 164)) (by rw [World.cell?_alloc_lt _ _ ⟨w.heap.size, 0, none⟩ (by simp; omega)]; simp)
  have st := asSetF n x y (w.heap.size + 1 + 1 + 1) g c ((((w.alloc (.cells #[.pointer (some ⟨g, 0, none⟩)] 132)).alloc (.cells #[.pointer (some ⟨3, 132, none⟩), .pointer (some ⟨w.heap.size, 0, none⟩), .int .u64 150] 164)).alloc (.cells #[.pointer (some ⟨3, 132, none⟩), .pointer (some ⟨w.heap.size, 0, none⟩), .int .u64 150] 164)).alloc (.cells #[.int .i64 n, .int .i64 x, .int .i64 y] 100)) hc
    (by
      have := heap_alloc_new (((w.alloc (.cells #[.pointer (some ⟨g, 0, none⟩)] 132)).alloc (.cells #[.pointer (some ⟨3, 132, none⟩), .pointer (some ⟨w.heap.size, 0, none⟩), .int .u64 150] 164)).alloc (.cells #[.pointer (some ⟨3, 132, none⟩), .pointer (some ⟨w.heap.size, 0, none⟩), .int .u64 150] 164)) (.cells #[.int .i64 n, .int .i64 x, .int .i64 y] 100)
      simpa using this)
    (by rw [Below.heap_alloc _ _ _ (by simp; omega), Below.heap_alloc _ _ _ (by simp; omega), Below.heap_alloc _ _ _ (by simp; omega), Below.heap_alloc _ _ _ htl]; exact ht)
  clear ht
  go_enter Tryz.func71, Tryz.ntmps71
  go_wp2
  refine wp_loop_rounds 1 ?_
  rw [rounds_succ]
  go_wp2
  go_ret
  exact ⟨rfl, rfl⟩
theorem as_hit (w : World) (n x y : Int) (g : Nat) (c : Array Value) (hg : Handle w) (hc : c.size = 3) (ht : w.heap[g]? = some (.cells c 100 (0, 0))) :
    Ret Tryz.prog 71 #[fltV n x y, .iface 132 (.pointer (some ⟨g, 0, none⟩))] w (fun v w' => v = .bool true ∧ w'.heap[g]? = some (.cells #[.int .i64 n, .int .i64 x, .int .i64 y] 100 (0, 0)) ∧ w.grownBy w' (some g)) := by
  refine Calls.mono (as_hit_calls n x y g c w hg hc ht) ?_
  rintro e w' ⟨rfl, rfl⟩
  have htl := lt_at ht
  have hal : ∀ (W : World) (o : Obj), w.grownBy W (some g) → w.grownBy (W.alloc o) (some g) := fun W o h => grown_trans h (have k := World.grownBy_alloc W o none; ⟨k.os, k.tape, k.output, k.size, fun i hi _ => k.block i hi (by simp)⟩)
  generalize hW : ((((w.alloc (.cells #[.pointer (some ⟨g, 0, none⟩)] 132)).alloc (.cells #[.pointer (some ⟨3, 132, none⟩), .pointer (some ⟨w.heap.size, 0, none⟩), .int .u64 150] 164)).alloc (.cells #[.pointer (some ⟨3, 132, none⟩), .pointer (some ⟨w.heap.size, 0, none⟩), .int .u64 150] 164)).alloc (.cells #[.int .i64 n, .int .i64 x, .int .i64 y] 100)) = W
  have hgr : w.grownBy W (some g) := by
    rw [← hW]; exact hal _ _ (hal _ _ (hal _ _ (hal _ _ (World.grownBy.refl _ _))))
  have hWg : W.heap[g]? = some (.cells c 100 (0, 0)) := by
    rw [← hW, Below.heap_alloc _ _ _ (by simp; omega), Below.heap_alloc _ _ _ (by simp; omega), Below.heap_alloc _ _ _ (by simp; omega), Below.heap_alloc _ _ _ htl]; exact ht
  refine ⟨_, rfl, rfl, setRow_heap W g c _ _ _ hWg, grown_trans hgr ⟨rfl, rfl, rfl, by simp [World.setRow], fun k hk hne => setRow_other W g k _ (by intro e; exact hne (by rw [e]))⟩⟩
end Go.Proofs.YtjomihhpglojpaaGreatDoor
end
section
/- busbarkit.Num, Place and At of a fault. -/
namespace Go.Proofs.YtjomihhpglojpaaGreatDoor
open Go.RowKit
set_option linter.unusedSimpArgs false
set_option linter.unusedVariables false
attribute [local irreducible] wpList wpQuiet wpStill Code.wp Exit.then Exit.inBlock bodyPost Calls Does Does0

theorem isI_flt (n x y : Int) : isI (fltV n x y) = some false := rfl
theorem num_f (w : World) (k x y : Int) (h1 : 1 ≤ k) (h2 : k ≤ 26) : Ret Tryz.prog 46 #[fltV k x y] w (fun v w' => v = .int .i64 k ∧ Below w.heap.size w w') := by
  refine enter1 Tryz.func46 rfl 25 rfl 26 rfl (fun a hF => ?_)
  repeat (first | refine c_seq ?_ | refine c_block ?_ | refine c_region _ ?_ | refine wpList_nil ?_ | refine c_then ?_ | refine wp_skip ?_ | ((apply st hF); (first | exact d_move | exact d_assign | exact d_eqN (ifc _ rfl)); clear hF; clear a; intro a hF) | (apply c_cond_f hF; exact rfl; first | exact rfl | assumption))
  refine c_loop (fun q a w' => ∃ n : Nat, 1 ≤ n ∧ n ≤ 27 ∧ q = 27 - n ∧ Fr 26 [(0, fltV k x y), (3, .int .i64 (if k < n then k else 0)), (4, .int .i64 (n : Nat))] a ∧ Below w.heap.size w w') 26
    ⟨1, by omega, by omega, rfl, (by rw [if_neg (by omega)]; exact hF.keep' ⟨rfl, rfl, rfl, trivial⟩), Below.refl _ w⟩ ?_
  clear hF a
  rintro q a w' ⟨n, hn1, hn, rfl, hF, hB⟩
  by_cases hlt : n ≤ 26
  · repeat (first | refine c_seq ?_ | refine c_block ?_ | refine c_region _ ?_ | refine wpList_nil ?_ | refine c_then ?_ | refine wp_skip ?_ | ((apply st hF); (first | exact d_move | exact d_cmpT | exact d_makeI (con _ rfl)); clear hF; clear a; intro a hF) | (apply c_cond_t hF; exact rfl; first | exact rfl | assumption))
    refine stc hF (isF_ok w' k x y n) cal72 ⟨rfl, rfl, trivial⟩ (k := fun a v w2 hR hF => ?_)
    obtain ⟨rfl, hb2⟩ := hR
    have hB2 : Below w.heap.size w w2 := hB.trans (hb2.mono hB.size)
    by_cases hk : k = (n : Int)
    · rw [if_neg (by omega)] at hF
      rw [show (k == (n : Int)) = true from beq_iff_eq.2 hk] at hF
      repeat (first | refine c_seq ?_ | refine c_region _ ?_ | refine wpList_nil ?_ | refine c_then ?_ | refine c_in ?_ | refine wp_skip ?_ | ((apply st hF); (first | exact d_move | exact d_assign | exact d_add | exact d_cmpF); clear hF; clear a; intro a hF) | (apply c_cond_t hF; exact rfl; first | exact rfl | assumption) | (apply c_cond_f hF; exact rfl; first | exact rfl | assumption))
      refine ⟨27 - (n + 1), by omega, n + 1, by omega, by omega, rfl, ?_, hB2⟩
      rw [if_pos (by omega), hk]
      rw [hk] at hF
      exact hF.keep' ⟨rfl, rfl, rfl, trivial⟩
    · rw [show (k == (n : Int)) = false from beq_eq_false_iff_ne.2 hk] at hF
      repeat (first | refine c_region _ ?_ | refine wpList_nil ?_ | refine c_then ?_ | refine c_in ?_ | refine wp_skip ?_ | ((apply st hF); (first | exact d_move | exact d_assign | exact d_add); clear hF; clear a; intro a hF) | (apply c_cond_f hF; exact rfl; first | exact rfl | assumption))
      refine ⟨27 - (n + 1), by omega, n + 1, by omega, by omega, rfl, ?_, hB2⟩
      by_cases hkl : k < n
      · rw [if_pos (by omega)]
        rw [if_pos hkl] at hF
        exact hF.keep' ⟨rfl, rfl, rfl, trivial⟩
      · rw [if_neg (by omega)]
        rw [if_neg hkl] at hF
        exact hF.keep' ⟨rfl, rfl, rfl, trivial⟩
  · rw [if_pos (by omega)] at hF
    repeat (first | refine c_seq ?_ | refine c_region _ ?_ | refine wpList_nil ?_ | refine c_then ?_ | refine c_then_exit ?_ | refine c_in_hit ?_ | refine wp_exit ?_ | ((first | apply st hF | apply stg hF); (first | exact d_move | exact d_cmpF | exact d_makeI (con _ rfl)); clear hF; clear a; intro a hF) | (apply c_cond_f hF; exact rfl; first | exact rfl | assumption))
    refine stcg hF (isF_ok w' k x y 0) cal72 ⟨rfl, rfl, trivial⟩ (k := fun a v w2 hR hF => ?_)
    obtain ⟨rfl, hb2⟩ := hR
    rw [show (k == 0) = false from beq_eq_false_iff_ne.2 (by omega)] at hF
    repeat (first | refine c_seq ?_ | refine c_region _ ?_ | refine wpList_nil ?_ | refine c_then ?_ | refine wp_skip ?_ | refine wp_ret ?_ | ((apply st hF); (first | exact d_move | exact d_assign | exact d_pickF); clear hF; clear a; intro a hF) | (apply c_cond_f hF; exact rfl; first | exact rfl | assumption))
    exact ret1 hF rfl rfl ⟨rfl, hB.trans (hb2.mono hB.size)⟩

theorem place_f (w : World) (k x y : Int) (hg : Handle w) (h1 : 1 ≤ k) (h2 : k ≤ 26) : Ret Tryz.prog 45 #[fltV k x y] w (fun v w' => v = .tuple #[.int .i64 x, .int .i64 y, .bool true] ∧ Below w.heap.size w w') := by
  refine enter1 Tryz.func45 rfl 22 rfl 23 rfl (fun a hF => ?_)
  repeat (first | refine c_seq ?_ | refine c_region _ ?_ | refine wpList_nil ?_ | refine c_then ?_ | ((apply st hF); (exact d_assign); clear hF; clear a; intro a hF))
  refine st_alloc hF inf100 (k := fun a w1 hg1 hgr1 hsz1 hF => ?_)
  have hb1 : Below w.heap.size w w1 := (Below.refl _ w).grown hgr1 (Nat.le_refl _) (fun k hk => by cases hk)
  repeat (first | refine c_seq ?_ | refine c_region _ ?_ | refine wpList_nil ?_ | refine c_then ?_ | ((first | apply st hF | apply stg hF); (first | exact d_move | exact d_eqN (ifc _ rfl) | exact d_makeI (con _ rfl)); clear hF; clear a; intro a hF))
  refine stcg hF (as_hit w1 k x y w.heap.size _ (hg.below hb1) rfl hg1) cal71 ⟨rfl, rfl, trivial⟩ (k := fun a v w2 hR hF => ?_)
  obtain ⟨rfl, hg2, hgr2⟩ := hR
  have hb2 : Below w.heap.size w w2 := hb1.grown hgr2 (by omega) (fun k hk => by cases hk; exact Nat.le_refl _)
  have hc : ∀ w', Below w2.heap.size w2 w' → w'.heap[w.heap.size]? = some (.cells #[.int .i64 k, .int .i64 x, .int .i64 y] 100 (0, 0)) := fun w' h => (h.block _ (lt_at hg2)).trans hg2
  repeat (first | (refine c_region_drawC (fun w' => Below w2.heap.size w2 w') _ mixed (by kernel_rfl) (Dr.below ⟨1, rfl⟩ _) ?_) | refine c_seq ?_ | refine wpList_nil ?_ | refine c_then ?_ | refine wp_skip ?_ | ((first | apply st hF | apply stg hF); (first | exact d_not | exact d_pickF); clear hF; clear a; intro a hF) | ((apply q_step hF); intro wq hwq; (exact d_fieldAddr (fld _ _ _ _ rfl) (isz _ _ rfl)); clear hF; clear a; intro a hF) | (apply c_cond_f hF; exact rfl; first | exact rfl | assumption))
  repeat (((apply q_step hF); intro wq hwq; (first | exact d_move | exact d_fieldAddr (fld _ _ _ _ rfl) (isz _ _ rfl) | exact d_load (und _ _ rfl) (cell_at (i := 1) (hc wq hwq) rfl) | exact d_load (und _ _ rfl) (cell_at (i := 2) (hc wq hwq) rfl) | exact d_load (und _ _ rfl) (cell_at (i := 0) (hc wq hwq) rfl)); clear hF; clear a; intro a hF))
  refine q_stc hF (fun w' hw' => (num_f w' k x y h1 h2).mono (fun v w'' h => ⟨h.1, hw'.trans (h.2.mono hw'.size)⟩)) cal46 ⟨rfl, trivial⟩ (k := fun a hF => ?_)
  have hq : (k == k) = true := beq_self_eq_true _
  repeat (((apply q_step hF); intro wq hwq; (first | exact d_assign | exact d_cmpT); clear hF; clear a; intro a hF))
  refine q_nil ?_
  intro w3 hb3
  repeat (first | refine c_then ?_ | refine wp_ret ?_)
  exact ret3 hF rfl rfl rfl rfl ⟨rfl, hb2.trans (hb3.mono hb2.size)⟩

theorem at_nil (w : World) (x y : Int) : Ret Tryz.prog 15 #[.nilIface, .int .i64 0, .int .i64 x, .int .i64 y] w (fun v w' => v = .bool true ∧ Below w.heap.size w w') := by
  refine enter4 Tryz.func15 rfl 35 rfl 39 rfl (fun a hF => ?_)
  repeat (first | refine c_seq ?_ | refine c_region _ ?_ | refine wpList_nil ?_ | refine c_then ?_ | refine c_then_ret ?_ | refine wp_ret ?_ | ((apply st hF); (first | exact d_move | exact d_assign | exact d_cmpT | exact d_eqN (ifc _ rfl)); clear hF; clear a; intro a hF) | (apply c_cond_t hF; exact rfl; first | exact rfl | assumption))
  exact ret1 hF rfl rfl ⟨rfl, Below.refl _ w⟩
theorem at_f (w : World) (k x y : Int) (hg : Handle w) (h1 : 1 ≤ k) (h2 : k ≤ 26) : Ret Tryz.prog 15 #[fltV k x y, .int .i64 k, .int .i64 x, .int .i64 y] w (fun v w' => v = .bool true ∧ Below w.heap.size w w') := by
  refine enter4 Tryz.func15 rfl 35 rfl 39 rfl (fun a hF => ?_)
  repeat (first | refine c_seq ?_ | refine c_region _ ?_ | refine wpList_nil ?_ | refine c_then ?_ | refine wp_skip ?_ | ((apply st hF); (first | exact d_move | exact d_assign | exact d_cmpF); clear hF; clear a; intro a hF) | (apply c_cond_f hF; exact rfl; first | exact rfl | assumption))
  refine stc hF (place_f w k x y hg h1 h2) cal45 ⟨rfl, trivial⟩ (k := fun a v w1 hR hF => ?_)
  obtain ⟨rfl, hb1⟩ := hR
  repeat (first | refine c_seq ?_ | refine c_region _ ?_ | refine wpList_nil ?_ | refine c_then ?_ | ((apply st hF); (first | exact d_move | exact d_assign | exact d_extract); clear hF; clear a; intro a hF))
  refine stc hF (num_f w1 k x y h1 h2) cal46 ⟨rfl, trivial⟩ (k := fun a v w2 hR hF => ?_)
  obtain ⟨rfl, hb2⟩ := hR
  have e1 : (k == k) = true := beq_self_eq_true _
  have e2 : (x == x) = true := beq_self_eq_true _
  have e3 : (y == y) = true := beq_self_eq_true _
  repeat (first | refine wpList_nil ?_ | refine c_then ?_ | refine wp_ret ?_ | ((first | apply st hF | apply stg hF); (first | exact d_move | exact d_assign | exact d_pickT | exact d_cmpT); clear hF; clear a; intro a hF))
  exact ret1 hF rfl rfl ⟨rfl, hb1.trans (hb2.mono hb1.size)⟩
/-- An error that tells its place, as the reference tells it. -/
theorem at_any (w : World) (ve : Value) (n x y : Int) (hg : Handle w) (h : (n = 0 ∧ ve = .nilIface) ∨ (1 ≤ n ∧ n ≤ 26 ∧ ve = fltV n x y)) : Ret Tryz.prog 15 #[ve, .int .i64 n, .int .i64 x, .int .i64 y] w (fun v w' => v = .bool true ∧ Below w.heap.size w w') := by
  rcases h with ⟨rfl, rfl⟩ | ⟨h1, h2, rfl⟩
  · exact at_nil w x y
  · exact at_f w n x y hg h1 h2
end Go.Proofs.YtjomihhpglojpaaGreatDoor
end
section
/- check.at, walked. -/
namespace Go.Proofs.YtjomihhpglojpaaGreatDoor
open Go.RowKit
set_option linter.unusedSimpArgs false
set_option linter.unusedVariables false
attribute [local irreducible] wpList wpQuiet wpStill Code.wp Exit.then Exit.inBlock bodyPost Calls Does Does0
set_option maxRecDepth 100000
/-- What at returns. -/
def atV (n x y : Int) : Value := if n = 0 then .nilIface else fltV n x y
theorem cat_ok (w : World) (n x y : Int) : Ret Tryz.prog 17 [.int .i64 n, .agg #[.int .i64 x, .int .i64 y]].toArray w (fun v w' => v = atV n x y ∧ Below w.heap.size w w') := by
  refine enter2 Tryz.func17 rfl 12 rfl 14 rfl (fun a hF => ?_)
  repeat (first | refine c_seq ?_ | refine c_region _ ?_)
  refine st_box hF (cs := #[.int .i64 x, .int .i64 y]) rfl (k := fun a w1 hg1 hgr1 hsz1 hF => ?_)
  have hb1 : Below w.heap.size w w1 := (Below.refl _ w).grown hgr1 (Nat.le_refl _) (fun k hk => by cases hk)
  have c0 : w1.cell? ⟨w.heap.size, 0 + 0, none⟩ = some (.int .i64 x) := cell_at hg1 rfl
  have c1 : w1.cell? ⟨w.heap.size, 0 + 1, none⟩ = some (.int .i64 y) := cell_at hg1 rfl
  unfold atV
  by_cases h : n = 0
  · rw [if_pos h]
    repeat (first | refine c_seq ?_ | refine c_region _ ?_ | refine wpList_nil ?_ | refine c_then ?_ | refine c_then_ret ?_ | refine wp_ret ?_ | ((apply st hF); (first | exact d_move | exact d_assign | exact d_cmpT); clear hF; clear a; intro a hF) | (apply c_cond_t hF; exact rfl; first | exact rfl | assumption))
    exact ret1 hF rfl rfl ⟨rfl, hb1⟩
  · rw [if_neg h]
    repeat (first | refine c_seq ?_ | refine c_region _ ?_ | refine wpList_nil ?_ | refine c_then ?_ | refine wp_skip ?_ | refine wp_ret ?_ | ((apply st hF); (first | exact d_move | exact d_assign | exact d_cmpF | exact d_fieldAddr (fld _ _ _ _ rfl) (isz _ _ rfl) | exact d_makeI (con _ rfl) | exact d_build (vs := [(0, .int .i64 n), (1, .int .i64 x), (2, .int .i64 y)]) (cells := #[.int .i64 n, .int .i64 x, .int .i64 y]) (by kernel_rfl) ⟨rfl, rfl, rfl, rfl, rfl, rfl, trivial⟩ | exact d_load (und _ _ rfl) c0 | exact d_load (und _ _ rfl) c1); clear hF; clear a; intro a hF) | (apply c_cond_f hF; exact rfl; first | exact rfl | assumption))
    exact ret1 hF rfl rfl ⟨rfl, hb1⟩
def SgAt (B : Nat) (s : Sig) (w : World) : Prop := w.heap[B]? = some (.cells (Sig.cells s).toArray 62 (0, 0))
theorem SgAt.below {B : Nat} {s : Sig} {w w' : World} (h : SgAt B s w) (hb : Below w.heap.size w w') : SgAt B s w' := (hb.block _ (lt_at h)).trans h
theorem SgAt.pl {B : Nat} {s : Sig} {w : World} (h : SgAt B s w) : ∀ j v, (#[.int .i64 s.line, .int .i64 s.col] : Array Value)[j]? = some v → w.cell? ⟨B, 0 + 0 + j, none⟩ = some v := by
  intro j v hj
  rcases j with _ | _ | j
  · simp at hj; subst hj; exact cell_at h rfl
  · simp at hj; subst hj; exact cell_at h rfl
  · simp at hj
end Go.Proofs.YtjomihhpglojpaaGreatDoor
end
section
/- check.rows, walked. -/
namespace Go.Proofs.YtjomihhpglojpaaGreatDoor
open Go.Maps (Keyed)
open Go.RowKit
set_option linter.unusedSimpArgs false
set_option linter.unusedVariables false
attribute [local irreducible] wpList wpQuiet wpStill Code.wp Exit.then Exit.inBlock bodyPost Calls Does Does0
set_option maxRecDepth 100000
/-- A map that says of these keys: there. -/
def keysF (f : Nat → Lit) : Nat → List (Lit × Value)
  | 0 => []
  | k + 1 => (f k, .bool true) :: keysF f k
theorem keysF_len (f : Nat → Lit) : ∀ k, (keysF f k).length = k
  | 0 => rfl
  | k + 1 => by simp [keysF, keysF_len f k]
theorem keysF_yes {f : Nat → Lit} {kl : Lit} : ∀ {k : Nat}, (∃ j, j < k ∧ f j = kl) → (kvG kl (keysF f k)).getD (.bool false) = .bool true
  | 0, ⟨j, hj, _⟩ => absurd hj (Nat.not_lt_zero _)
  | k + 1, ⟨j, hj, e⟩ => by
    unfold keysF kvG
    by_cases h : kl = f k
    · rw [if_pos h]; rfl
    · rw [if_neg h]
      refine keysF_yes ⟨j, ?_, e⟩
      by_cases e2 : j = k
      · subst e2; exact absurd e.symm h
      · omega
theorem keysF_no {f : Nat → Lit} {kl : Lit} : ∀ {k : Nat}, (¬ ∃ j, j < k ∧ f j = kl) → (kvG kl (keysF f k)).getD (.bool false) = .bool false
  | 0, _ => rfl
  | k + 1, h => by
    unfold keysF kvG
    rw [if_neg (fun e => h ⟨k, by omega, e.symm⟩)]
    exact keysF_no fun ⟨j, hj, e⟩ => h ⟨j, by omega, e⟩
theorem rv_lt {rs : List RowV} {i : Nat} (h : i < rs.length) : rv_ rs i = rs[i] := by simp [rv_, List.getD, h]
theorem wf_mk_i64 {x : Int} (h : -9223372036854775808 ≤ x ∧ x ≤ 9223372036854775807) : (Lit.int .i64 x).wf = true := by
  have e1 : IntKind.i64.min = -9223372036854775808 := by decide
  have e2 : IntKind.i64.max = 9223372036854775807 := by decide
  simp only [Lit.wf, e1, e2, decide_eq_true_eq, Bool.and_eq_true]
  omega
theorem wrap_u64 {v : Int} (h : -9223372036854775808 ≤ v ∧ v ≤ 9223372036854775807) : IntKind.u64.wrap v = if v < 0 then v + 18446744073709551616 else v := by
  simp only [IntKind.wrap, IntKind.signed, IntKind.bits]
  simp
  split <;> omega
def RwAt (B : Nat) (r : RowV) (w : World) : Prop := w.heap[B]? = some (.cells (RowV.cells r).toArray 121 (0, 0))
theorem RwAt.below {B : Nat} {r : RowV} {w w' : World} (h : RwAt B r w) (hb : Below w.heap.size w w') : RwAt B r w' := (hb.block _ (lt_at h)).trans h
theorem RwAt.c {B : Nat} {r : RowV} {w : World} (h : RwAt B r w) (o : Nat) (x : Value) (hx : (RowV.cells r)[o]? = some x) : w.cell? ⟨B, 0 + o, none⟩ = some x := cell_at h (by simpa using hx)
theorem SgAt.c' {B : Nat} {s : Sig} {w : World} (h : SgAt B s w) (o : Nat) (x : Value) (hx : (Sig.cells s)[o]? = some x) : w.cell? ⟨B, 0 + o, none⟩ = some x := cell_at h (by simpa using hx)
theorem rowsE_bnd (s : Sig) (rs : List RowV) : 0 ≤ rowsE s rs ∧ rowsE s rs ≤ 26 := by
  have h1 : ∀ i, 0 ≤ rowE s rs i ∧ rowE s rs i ≤ 26 := fun i => by
    have := text_bnd (rv_ rs i).text
    unfold rowE
    repeat' split
    all_goals omega
  unfold rowsE someE
  split
  · omega
  · split
    · exact h1 _
    · omega
set_option maxHeartbeats 16000000 in
theorem rows_ok (w : World) (s : Sig) (ao : Option Addr) (n c : Nat) (rs : List RowV) (hn : rs.length = n) (hR : RdS w ao 2 RowV.cells rs) (hv : ∀ r ∈ rs, -9223372036854775808 ≤ r.value ∧ r.value ≤ 9223372036854775807) (hT : Tabs w) :
    Ret Tryz.prog 36 [.agg (Sig.cells s).toArray, .slice ao n c].toArray w (fun v w' => v = .int .i64 (rowsE s rs) ∧ Below w.heap.size w w') := by
  subst hn
  refine enter2 Tryz.func36 rfl 52 rfl 54 rfl (fun a hF => ?_)
  repeat (first | refine c_seq ?_ | refine c_region _ ?_)
  refine st_box hF (cs := (Sig.cells s).toArray) rfl (k := fun a w1 hg1 hgr1 hsz1 hF => ?_)
  have hb1 : Below w.heap.size w w1 := (Below.refl _ w).grown hgr1 (Nat.le_refl _) (fun k hk => by cases hk)
  have hs1 : SgAt w.heap.size s w1 := hg1
  clear hg1 hgr1
  by_cases hbig : (rs.length : Int) > 256
  · repeat (first | refine c_seq ?_ | refine c_region _ ?_ | refine wpList_nil ?_ | refine c_then ?_ | refine c_then_ret ?_ | refine wp_ret ?_ | ((apply st hF); (first | exact d_move | exact d_assign | exact d_cmpT | exact d_len (und _ _ rfl)); clear hF; clear a; intro a hF) | (apply c_cond_t hF; exact rfl; first | exact rfl | assumption))
    refine ret1 hF rfl rfl ⟨?_, hb1⟩
    unfold rowsE
    rw [if_pos (by omega)]
  have hE : rowsE s rs = someE (firstAt (fun i => rowE s rs i ≠ 0) rs.length) (rowE s rs) := by
    unfold rowsE
    rw [if_neg (by omega)]
  repeat (first | refine c_seq ?_ | refine c_region _ ?_ | refine wpList_nil ?_ | refine c_then ?_ | refine wp_skip ?_ | ((apply st hF); (first | exact d_move | exact d_assign | exact d_cmpF | exact d_len (und _ _ rfl)); clear hF; clear a; intro a hF) | (apply c_cond_f hF; exact rfl; first | exact rfl | assumption))
  refine st hF (d_makeMap Tryz.underlying119) rfl (fun a hF => ?_)
  have hM2 : MapG Tryz.prog 2 (w1.alloc (.map #[] 0)) w1.heap.size [] := MapG.new w1
  have hgr2 : w1.grownBy (w1.alloc (.map #[] 0)) none := World.grownBy_alloc w1 _ none
  generalize w1.alloc (.map #[] 0) = w2 at *
  have hb2 : Below w.heap.size w w2 := hb1.grown hgr2 hb1.size (fun k hk => by cases hk)
  have hs2 : SgAt w.heap.size s w2 := blk_kept hs1 hgr2 (by simp)
  have hz1 := hb1.size
  have hl1 := lt_at hs1
  clear hgr2 hs1
  have K : Keyed Tryz.prog 2 := Go.Maps.int_keyed Tryz.underlying2
  repeat (first | refine c_seq ?_ | refine c_block ?_ | refine c_region _ ?_ | refine wpList_nil ?_ | refine c_then ?_ | ((apply st hF); (first | exact d_move | exact d_assign | exact d_len (und _ _ rfl)); clear hF; clear a; intro a hF))
  refine c_loop (fun q a wr => ∃ k : Nat, k ≤ rs.length ∧ q = rs.length - k ∧ (∀ j, j < k → rowE s rs j = 0) ∧ Fr 54 [(2, .pointer (some ⟨w.heap.size, 0, none⟩)), (5, .map (some w1.heap.size)), (13, .slice ao rs.length c), (14, .int .i64 rs.length), (15, .int .i64 (k : Nat))] a ∧
    SgAt w.heap.size s wr ∧ MapG Tryz.prog 2 wr w1.heap.size (keysF (fun j => .int .i64 (rv_ rs j).value) k) ∧ Below w.heap.size w wr) rs.length
    ⟨0, Nat.zero_le _, rfl, fun j hj => absurd hj (Nat.not_lt_zero _), hF.keep' ⟨rfl, rfl, rfl, rfl, rfl, trivial⟩, hs2, hM2, hb2⟩ ?_
  clear hF a hs2 hM2 hb2 hb1
  rintro q a wr ⟨k, hk, rfl, hok, hF, hs, hM, hbel⟩
  have hz := hbel.size
  by_cases hlt : k < rs.length
  case neg =>
    obtain rfl : k = rs.length := by omega
    repeat (first | refine c_seq ?_ | refine c_region _ ?_ | refine wpList_nil ?_ | refine c_then ?_ | refine c_then_exit ?_ | refine c_in_hit ?_ | refine wp_exit ?_ | refine wp_ret ?_ | ((apply st hF); (first | exact d_assign | exact d_cmpF); clear hF; clear a; intro a hF) | (apply c_cond_f hF; exact rfl; first | exact rfl | assumption))
    refine ret1 hF rfl rfl ⟨?_, hbel⟩
    rw [hE, firstAt_none (fun i hi e => e (hok i hi))]
    rfl
  have hbad : ∀ e, rowE s rs k = e → e ≠ 0 → rowsE s rs = e := fun e he h => by
    rw [hE, firstAt_some hlt (by rw [he]; exact h) (fun j hj e => e (hok j hj))]
    exact he
  obtain ⟨b, o, hao, hc⟩ := hR.below hbel k hlt
  have hvk := hv _ (List.getElem_mem hlt)
  have hrv := rv_lt hlt
  rw [← hrv] at hc hvk
  have hEq : rowE s rs k = rowE s rs k := rfl
  conv at hEq => rhs; unfold rowE
  obtain ⟨r, hr⟩ : ∃ x, x = rv_ rs k := ⟨_, rfl⟩
  rw [← hr] at hc hvk hEq
  rw [hao] at hF
  have hlm := hM.lt
  repeat (first | refine c_seq ?_ | refine c_block ?_ | refine c_region _ ?_ | refine wpList_nil ?_ | refine c_then ?_ | refine wp_skip ?_ | ((apply st hF); (first | exact d_cmpT | exact d_indexAddrS (und _ _ rfl) (isz _ _ rfl) (j := k) | exact d_loadAgg (agg _ rfl) (isz _ _ rfl) rfl (arr_cells hc)); clear hF; clear a; intro a hF) | (apply c_cond_t hF; exact rfl; first | exact rfl | assumption))
  refine st_alloc hF inf121 (k := fun a r1 hg1 hgr1 hsz1 hF => ?_)
  refine st_storeAgg hF (cs := (RowV.cells r).toArray) (isz _ _ rfl) rfl rfl hg1 (row_cells _) (k := fun a r2 hx2 hgr2 hsz2 hF => ?_)
  have hb2 : Below wr.heap.size wr r2 := ((Below.refl _ wr).grown hgr1 (Nat.le_refl _) (fun k hk => by cases hk)).grown hgr2 (by omega) (fun k hk => by cases hk; exact Nat.le_refl _)
  have hx2 : RwAt wr.heap.size r r2 := hx2
  clear hg1 hgr1 hgr2
  have hB2 : Below w.heap.size w r2 := hbel.trans (hb2.mono hz)
  repeat (first | refine c_seq ?_ | refine c_region _ ?_ | refine wpList_nil ?_ | refine c_then ?_ | ((apply st hF); (first | exact d_fieldAddr (fld _ _ _ _ rfl) (isz _ _ rfl) | exact d_load (und _ _ rfl) (hx2.c 1 _ rfl)); clear hF; clear a; intro a hF))
  refine stc hF (text_ok r2 r.text (hT.below hB2)) cal32 ⟨rfl, trivial⟩ (k := fun a v r3 hR3 hF => ?_)
  obtain ⟨⟨te', hte, rfl⟩, hb3⟩ := hR3
  rw [text_is hte] at hF
  have hx3 := hx2.below hb3
  replace hb3 : Below wr.heap.size wr r3 := hb2.trans (hb3.mono hb2.size)
  have hB3 : Below w.heap.size w r3 := hbel.trans (hb3.mono hz)
  have hs3 := hs.below hb3
  have hM3 := hM.below hb3
  clear hx2 hb2 hB2 hte te'
  obtain ⟨te, hte⟩ : ∃ x, x = textE r.text := ⟨_, rfl⟩
  rw [← hte] at hF hEq
  by_cases ht0 : te = 0
  case neg =>
    rw [if_pos ht0] at hEq
    repeat (first | refine c_seq ?_ | refine c_region _ ?_ | refine wpList_nil ?_ | refine c_then ?_ | refine c_then_ret ?_ | refine c_in_ret ?_ | refine wp_ret ?_ | ((apply st hF); (first | exact d_move | exact d_assign | exact d_cmpT); clear hF; clear a; intro a hF) | (apply c_cond_t hF; exact rfl; first | exact rfl | assumption))
    exact ret1 hF rfl rfl ⟨by rw [hbad te hEq ht0], hB3⟩
  rw [if_neg (fun h => h ht0)] at hEq
  have hwrap := wrap_u64 hvk
  obtain ⟨uv, huv⟩ : ∃ x, x = if r.value < 0 then r.value + 18446744073709551616 else r.value := ⟨_, rfl⟩
  rw [← huv] at hwrap
  have hub : 0 ≤ uv ∧ uv < 18446744073709551616 := by rw [huv]; split <;> omega
  have hH : hasB s r.value = ((s.sgn || decide (0 ≤ r.value)) && fitsB uv s.size s.sgn) := by unfold hasB; rw [← huv]
  have hl := hM3.look K Tryz.underlying119 (z := .bool false) (Tryz.zeroValue4 r3) (key := .int .i64 r.value) (kl := .int .i64 r.value) (Go.Maps.keyOf_int_mk Tryz.underlying2 (wf_mk_i64 hvk))
  obtain ⟨r4, hr4, hM4, hgr4, hsz4⟩ := hM3.put K Tryz.underlying119 (key := .int .i64 r.value) (kl := .int .i64 r.value) (Go.Maps.keyOf_int_mk Tryz.underlying2 (wf_mk_i64 hvk)) (.bool true) (by rw [keysF_len]; unfold maxLen; omega)
  have hls := lt_at hs3
  have hs4 : SgAt w.heap.size s r4 := blk_kept hs3 hgr4 (by simp; omega)
  have hB4 : Below w.heap.size w r4 := hB3.grown hgr4 hB3.size (fun k hk => by cases hk; omega)
  have hM4' : MapG Tryz.prog 2 r4 w1.heap.size (keysF (fun j => .int .i64 (rv_ rs j).value) (k + 1)) := by
    unfold keysF
    rw [← hr]
    exact hM4
  have hcast : ∀ (l : List (Nat × Value)) (x : Operand) (ty : TypeId) (wq : World), Ev l x (.int .i64 r.value) → Does Tryz.prog l wq (.convert 2 58 x) ty (.int .u64 uv) wq := fun l x ty wq hx => d_convI (und _ _ rfl) (und _ _ rfl) (hx := hx) (hm := hwrap)
  have hs8 := hs3.c' 8 _ rfl
  have fin : hasB s r.value = true → (∃ j, j < k ∧ (rv_ rs j).value = r.value) ∨ ¬ (∃ j, j < k ∧ (rv_ rs j).value = r.value) := fun _ => Classical.em _
  clear hM4 hgr4
  by_cases hneg : r.value < 0
  · cases hsg : s.sgn with
    | false =>
      rw [hsg] at hs8
      have h1 : hasB s r.value = false := by rw [hH, hsg, decide_eq_false (by omega)]; rfl
      rw [if_pos h1] at hEq
      repeat (first | refine c_seq ?_ | refine c_block ?_ | refine c_region _ ?_ | refine wpList_nil ?_ | refine c_then ?_ | refine c_then_ret ?_ | refine c_in_ret ?_ | refine wp_skip ?_ | refine wp_ret ?_ | ((first | apply st hF | apply stg hF); (first | exact d_move | exact d_assign | exact d_not | exact d_pickT | exact d_cmpT | exact d_cmpF | exact d_fieldAddr (fld _ _ _ _ rfl) (isz _ _ rfl) | exact d_load (und _ _ rfl) hs8 | exact d_load (und _ _ rfl) (hx3.c 0 _ rfl)); clear hF; clear a; intro a hF) | ((apply stm hF); clear hF; clear a; intro a hF) | (apply c_cond_t hF; exact rfl; first | exact rfl | assumption) | (apply c_cond_f hF; exact rfl; first | exact rfl | assumption))
      exact ret1 hF rfl rfl ⟨by rw [hbad 19 hEq (by decide)], hB3⟩
    | true =>
      rw [hsg] at hs8
      rw [hsg, Bool.true_or, Bool.true_and] at hH
      repeat (first | refine c_seq ?_ | refine c_block ?_ | refine c_region _ ?_ | refine wpList_nil ?_ | refine c_then ?_ | refine wp_skip ?_ | ((first | apply st hF | apply stg hF); (first | exact d_move | exact d_assign | exact d_not | exact d_pickT | exact d_cmpT | exact d_cmpF | exact d_fieldAddr (fld _ _ _ _ rfl) (isz _ _ rfl) | exact hcast _ _ _ _ rfl | exact d_load (und _ _ rfl) hs8 | exact d_load (und _ _ rfl) (hs3.c' 6 _ rfl) | exact d_load (und _ _ rfl) (hx3.c 0 _ rfl)); clear hF; clear a; intro a hF) | (apply c_cond_f hF; exact rfl; first | exact rfl | assumption))
      refine stcg hF (fits_ok r3 uv s.size true hub) cal19 ⟨rfl, rfl, rfl, trivial⟩ (k := fun a v r5 hR5 hF => ?_)
      obtain ⟨rfl, rfl⟩ := hR5
      cases hft : fitsB uv s.size true with
      | false =>
        rw [hft] at hF hH
        rw [if_pos hH] at hEq
        repeat (first | refine c_seq ?_ | refine c_region _ ?_ | refine wpList_nil ?_ | refine c_then ?_ | refine c_then_ret ?_ | refine c_in_ret ?_ | refine wp_ret ?_ | ((first | apply st hF | apply stg hF); (first | exact d_assign | exact d_not | exact d_pickF); clear hF; clear a; intro a hF) | (apply c_cond_t hF; exact rfl; first | exact rfl | assumption))
        exact ret1 hF rfl rfl ⟨by rw [hbad 19 hEq (by decide)], hB3⟩
      | true =>
        rw [hft] at hF hH
        rw [if_neg (by rw [hH]; decide)] at hEq
        rcases fin hH with hd | hd
        · rw [if_pos hd] at hEq
          rw [keysF_yes (by obtain ⟨j, hj, e⟩ := hd; exact ⟨j, hj, by rw [e]⟩)] at hl
          repeat (first | refine c_seq ?_ | refine c_region _ ?_ | refine wpList_nil ?_ | refine c_then ?_ | refine c_then_ret ?_ | refine c_in_ret ?_ | refine wp_ret ?_ | ((first | apply st hF | apply stg hF); (first | exact d_move | exact d_assign | exact d_not | exact d_pickF | exact d_fieldAddr (fld _ _ _ _ rfl) (isz _ _ rfl) | exact d_lookup hl | exact d_load (und _ _ rfl) (hx3.c 0 _ rfl)); clear hF; clear a; intro a hF) | (apply c_cond_t hF; exact rfl; first | exact rfl | assumption) | (apply c_cond_f hF; exact rfl; first | exact rfl | assumption))
          exact ret1 hF rfl rfl ⟨by rw [hbad 12 hEq (by decide)], hB3⟩
        · rw [if_neg hd] at hEq
          rw [keysF_no (fun ⟨j, hj, e⟩ => hd ⟨j, hj, by injection e⟩)] at hl
          repeat (first | refine c_seq ?_ | refine c_region _ ?_ | refine wpList_nil ?_ | refine c_then ?_ | refine c_in ?_ | refine wp_skip ?_ | ((first | apply st hF | apply stg hF); (first | exact d_move | exact d_assign | exact d_not | exact d_pickF | exact d_fieldAddr (fld _ _ _ _ rfl) (isz _ _ rfl) | exact d_lookup hl | exact d_load (und _ _ rfl) (hx3.c 0 _ rfl)); clear hF; clear a; intro a hF) | (apply c_cond_f hF; exact rfl; first | exact rfl | assumption))
          refine st0 hF (d_mapUpdate hr4) rfl (fun a hF => ?_)
          repeat (first | refine c_region _ ?_ | refine wpList_nil ?_ | refine c_then ?_ | refine c_in ?_ | ((apply st hF); (first | exact d_move | exact d_add); clear hF; clear a; intro a hF))
          exact ⟨rs.length - (k + 1), by omega, k + 1, by omega, rfl, fun j hj => by
            by_cases e : j = k
            · subst e; exact hEq
            · exact hok j (by omega), by rw [hao]; exact hF.keep' ⟨rfl, rfl, rfl, rfl, rfl, trivial⟩, hs4, hM4', hB4⟩
  · have h0 : decide (0 ≤ r.value) = true := decide_eq_true (by omega)
    rw [h0, Bool.or_true, Bool.true_and] at hH
    repeat (first | refine c_seq ?_ | refine c_block ?_ | refine c_region _ ?_ | refine wpList_nil ?_ | refine c_then ?_ | refine wp_skip ?_ | ((first | apply st hF | apply stg hF); (first | exact d_move | exact d_assign | exact d_pickF | exact d_cmpF | exact d_fieldAddr (fld _ _ _ _ rfl) (isz _ _ rfl) | exact hcast _ _ _ _ rfl | exact d_load (und _ _ rfl) hs8 | exact d_load (und _ _ rfl) (hs3.c' 6 _ rfl) | exact d_load (und _ _ rfl) (hx3.c 0 _ rfl)); clear hF; clear a; intro a hF) | ((apply stm hF); clear hF; clear a; intro a hF) | (apply c_cond_f hF; exact rfl; first | exact rfl | assumption))
    refine stcg hF (fits_ok r3 uv s.size s.sgn hub) cal19 ⟨rfl, rfl, rfl, trivial⟩ (k := fun a v r5 hR5 hF => ?_)
    obtain ⟨rfl, rfl⟩ := hR5
    cases hft : fitsB uv s.size s.sgn with
    | false =>
      rw [hft] at hF hH
      rw [if_pos hH] at hEq
      repeat (first | refine c_seq ?_ | refine c_region _ ?_ | refine wpList_nil ?_ | refine c_then ?_ | refine c_then_ret ?_ | refine c_in_ret ?_ | refine wp_ret ?_ | ((first | apply st hF | apply stg hF); (first | exact d_assign | exact d_not | exact d_pickF); clear hF; clear a; intro a hF) | (apply c_cond_t hF; exact rfl; first | exact rfl | assumption))
      exact ret1 hF rfl rfl ⟨by rw [hbad 19 hEq (by decide)], hB3⟩
    | true =>
      rw [hft] at hF hH
      rw [if_neg (by rw [hH]; decide)] at hEq
      rcases fin hH with hd | hd
      · rw [if_pos hd] at hEq
        rw [keysF_yes (by obtain ⟨j, hj, e⟩ := hd; exact ⟨j, hj, by rw [e]⟩)] at hl
        repeat (first | refine c_seq ?_ | refine c_region _ ?_ | refine wpList_nil ?_ | refine c_then ?_ | refine c_then_ret ?_ | refine c_in_ret ?_ | refine wp_ret ?_ | ((first | apply st hF | apply stg hF); (first | exact d_move | exact d_assign | exact d_not | exact d_pickF | exact d_fieldAddr (fld _ _ _ _ rfl) (isz _ _ rfl) | exact d_lookup hl | exact d_load (und _ _ rfl) (hx3.c 0 _ rfl)); clear hF; clear a; intro a hF) | (apply c_cond_t hF; exact rfl; first | exact rfl | assumption) | (apply c_cond_f hF; exact rfl; first | exact rfl | assumption))
        exact ret1 hF rfl rfl ⟨by rw [hbad 12 hEq (by decide)], hB3⟩
      · rw [if_neg hd] at hEq
        rw [keysF_no (fun ⟨j, hj, e⟩ => hd ⟨j, hj, by injection e⟩)] at hl
        repeat (first | refine c_seq ?_ | refine c_region _ ?_ | refine wpList_nil ?_ | refine c_then ?_ | refine c_in ?_ | refine wp_skip ?_ | ((first | apply st hF | apply stg hF); (first | exact d_move | exact d_assign | exact d_not | exact d_pickF | exact d_fieldAddr (fld _ _ _ _ rfl) (isz _ _ rfl) | exact d_lookup hl | exact d_load (und _ _ rfl) (hx3.c 0 _ rfl)); clear hF; clear a; intro a hF) | (apply c_cond_f hF; exact rfl; first | exact rfl | assumption))
        refine st0 hF (d_mapUpdate hr4) rfl (fun a hF => ?_)
        repeat (first | refine c_region _ ?_ | refine wpList_nil ?_ | refine c_then ?_ | refine c_in ?_ | ((apply st hF); (first | exact d_move | exact d_add); clear hF; clear a; intro a hF))
        exact ⟨rs.length - (k + 1), by omega, k + 1, by omega, rfl, fun j hj => by
          by_cases e : j = k
          · subst e; exact hEq
          · exact hok j (by omega), by rw [hao]; exact hF.keep' ⟨rfl, rfl, rfl, rfl, rfl, trivial⟩, hs4, hM4', hB4⟩
end Go.Proofs.YtjomihhpglojpaaGreatDoor
end
