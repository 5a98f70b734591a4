/- Laid together by a program of mine: Repl Arr Ust PushS Cnv Units Dec. -/
import Derived.Test.YtnohefaifbghiaaGreatDoorSumLawKnownS7
import Derived.Test.YtnohefaifbghiaaGreatDoorSumLawKnownS2
import Derived.Test.YtnohefaifbghiaaGreatDoorSumLawKnownS3
import Derived.ChangeKeysEq
import Derived.Laws.StructEq
import Derived.Laws.ResultCell
import Derived.Great.BuildSlice
import Derived.Laws.BytesArg
import Derived.Test.YtnohefaifbghiaaGreatDoorSumLawKnownS4
set_option linter.unusedSimpArgs false
set_option linter.unusedVariables false
section
/- strings.NewReplacer of four texts; buildOnce: walked. -/
namespace Go.Proofs.YtnohefaifbghiaaGreatDoor
open Go.RowKit
set_option linter.unusedSimpArgs false
set_option linter.unusedVariables false
attribute [local irreducible] wpList wpQuiet wpStill Code.wp Exit.then Exit.inBlock bodyPost Calls Does Does0

theorem newRepl_ok (w : World) (ts : List ByteArray) (hts : ts.length = 4) (ao : Option Addr) (c : Nat) (hR : Rd w ao Value.string ts) : Ret Tryz.prog 28 #[.slice ao 4 c] w (fun v w' => ∃ b ao2 cap2, v = .pointer (some ⟨b, 0, none⟩) ∧ w.heap.size ≤ b ∧ w'.heap[b]? = some (.cells #[.int .u32 0, .int .i32 0, .int .u32 0, .nilIface, .slice ao2 4 cap2] 91 (0, 0)) ∧ w'.ownsRow w.heap.size 9 1 (.slice ao2 4 cap2) 4 (ts.map Value.string) ∧ (∀ k, (Value.slice ao2 4 cap2).ownBlock = some k → k ≠ b) ∧ Below w.heap.size w w') := by
  refine enter1 Tryz.func28 rfl 11 rfl 12 rfl (fun a hF => ?_)
  repeat (first | refine c_seq ?_ | refine c_block ?_ | refine c_region _ ?_ | refine wpList_nil ?_ | refine c_then ?_ | refine c_then_exit ?_ | refine c_then_ret ?_ | refine c_in ?_ | refine c_in_ret ?_ | refine c_in_hit ?_ | refine wp_skip ?_ | refine wp_exit ?_ | refine wp_ret ?_ | refine c_in_miss rfl ?_ | ((first | apply st hF | apply stg hF | apply s_step hF | apply s_stg hF); (first | exact d_move | exact d_assign | exact d_rem | exact d_cmpT | exact d_cmpF | exact d_cmp | exact d_eqbT (und _ _ rfl) | exact d_eqbF (und _ _ rfl) | exact d_eqb (und _ _ rfl) | exact d_eqST | exact d_eqSF | exact d_eqS | exact d_len (und _ _ rfl) | exact d_lens (und _ _ rfl) | exact d_eqN (ifc _ rfl) | exact d_neN (ifc _ rfl) | exact d_makeI (con _ rfl)); clear hF; clear a; intro a hF) | ((first | apply stm hF | apply stu hF); clear hF; clear a; intro a hF) | (apply c_cond_t hF; exact rfl; first | exact rfl | assumption) | (apply c_cond_f hF; exact rfl; first | exact rfl | assumption) | refine s_nil ?_)
  refine st_append hF (enc := Value.string) (ys := ts) (n := 0) (cap := 0) (ao := none) (xs := []) (und _ _ rfl) inf9 rfl (World.ownsRow_nil _ _ _ _) hts hR (fun _ => rfl) (by omega) (by unfold maxLen; omega) (Nat.le_refl _) (k := fun a ao2 cap2 w1 hown hgr hF => ?_)
  rw [Nat.zero_add] at hF hown
  rw [List.nil_append] at hown
  have hb1 : Below w.heap.size w w1 := below_grown hgr
  repeat (first | refine c_seq ?_ | refine c_block ?_ | refine c_region _ ?_ | refine wpList_nil ?_ | refine c_then ?_ | refine c_then_exit ?_ | refine c_then_ret ?_ | refine c_in ?_ | refine c_in_ret ?_ | refine c_in_hit ?_ | refine wp_skip ?_ | refine wp_exit ?_ | refine wp_ret ?_ | refine c_in_miss rfl ?_ | ((first | apply st hF | apply stg hF | apply s_step hF | apply s_stg hF); (first | exact d_move | exact d_assign | exact d_rem | exact d_cmpT | exact d_cmpF | exact d_cmp | exact d_eqbT (und _ _ rfl) | exact d_eqbF (und _ _ rfl) | exact d_eqb (und _ _ rfl) | exact d_eqST | exact d_eqSF | exact d_eqS | exact d_len (und _ _ rfl) | exact d_lens (und _ _ rfl) | exact d_eqN (ifc _ rfl) | exact d_neN (ifc _ rfl) | exact d_makeI (con _ rfl) | exact d_build (vs := [(2, .slice ao2 4 cap2)]) (cells := #[.int .u32 0, .int .i32 0, .int .u32 0, .nilIface, .slice ao2 4 cap2]) (by kernel_rfl) ⟨rfl, rfl, trivial⟩); clear hF; clear a; intro a hF) | ((first | apply stm hF | apply stu hF); clear hF; clear a; intro a hF) | (apply c_cond_t hF; exact rfl; first | exact rfl | assumption) | (apply c_cond_f hF; exact rfl; first | exact rfl | assumption) | refine s_nil ?_)
  refine st_box hF (cs := #[.int .u32 0, .int .i32 0, .int .u32 0, .nilIface, .slice ao2 4 cap2]) rfl (k := fun a w2 hg2 hgr2 hsz2 hF => ?_)
  have hlt : ∀ k, (Value.slice ao2 4 cap2).ownBlock = some k → k < w1.heap.size := fun k hk => by
    rcases hown.2 with ⟨h0, _⟩ | ⟨g', cap', cur, h0, _, hgg, _⟩
    · cases h0
    · cases h0
      simp only [Value.ownBlock, Option.some.injEq] at hk
      subst hk; exact lt_at hgg
  repeat (first | refine c_seq ?_ | refine c_block ?_ | refine c_region _ ?_ | refine wpList_nil ?_ | refine c_then ?_ | refine c_then_exit ?_ | refine c_then_ret ?_ | refine c_in ?_ | refine c_in_ret ?_ | refine c_in_hit ?_ | refine wp_skip ?_ | refine wp_exit ?_ | refine wp_ret ?_ | refine c_in_miss rfl ?_ | ((first | apply st hF | apply stg hF | apply s_step hF | apply s_stg hF); (first | exact d_move | exact d_assign | exact d_rem | exact d_cmpT | exact d_cmpF | exact d_cmp | exact d_eqbT (und _ _ rfl) | exact d_eqbF (und _ _ rfl) | exact d_eqb (und _ _ rfl) | exact d_eqST | exact d_eqSF | exact d_eqS | exact d_len (und _ _ rfl) | exact d_lens (und _ _ rfl) | exact d_eqN (ifc _ rfl) | exact d_neN (ifc _ rfl) | exact d_makeI (con _ rfl)); clear hF; clear a; intro a hF) | ((first | apply stm hF | apply stu hF); clear hF; clear a; intro a hF) | (apply c_cond_t hF; exact rfl; first | exact rfl | assumption) | (apply c_cond_f hF; exact rfl; first | exact rfl | assumption) | refine s_nil ?_)
  exact ret1 hF rfl rfl ⟨w1.heap.size, ao2, cap2, rfl, hb1.size, hg2, own_keptB hown hgr2 (fun k hk e => by cases e), fun k hk e => by have := hlt k hk; omega, hb1.grown hgr2 hb1.size (fun q e => by cases e)⟩
/-- buildOnce, by whatever contract build has. -/
theorem buildOnce_ok (w : World) (b : Nat) (c0 c1 c2 r : Value) (o : Value) (e : TypeId) (hg : w.heap[b]? = some (.cells #[c0, c1, c2, r, o] e (0, 0))) (R : Value → World → Prop)
    (hb : Ret Tryz.prog 50 #[.pointer (some ⟨b, 0, none⟩)] w (fun v w' => v.oneCell' = true ∧ w'.heap[b]? = some (.cells #[c0, c1, c2, r, o] e (0, 0)) ∧ R v w')) :
    Ret Tryz.prog 42 #[.pointer (some ⟨b, 0, none⟩)] w (fun v w' => v = .tuple #[] ∧ ∃ rv w1, R rv w1 ∧ w1.grownBy w' (some b) ∧ w'.heap.size = w1.heap.size ∧ w'.heap[b]? = some (.cells #[c0, c1, c2, rv, .slice none 0 0] e (0, 0))) := by
  refine enter1 Tryz.func42 rfl 9 rfl 10 rfl (fun a hF => ?_)
  repeat (first | refine c_seq ?_ | refine c_block ?_ | refine c_region _ ?_ | refine wpList_nil ?_ | refine c_then ?_ | refine c_then_exit ?_ | refine c_then_ret ?_ | refine c_in ?_ | refine c_in_ret ?_ | refine c_in_hit ?_ | refine wp_skip ?_ | refine wp_exit ?_ | refine wp_ret ?_ | refine c_in_miss rfl ?_ | ((first | apply st hF | apply stg hF | apply s_step hF | apply s_stg hF); (first | exact d_move | exact d_nilCheck | exact d_fieldAddr (fld _ _ _ _ rfl) (isz _ _ rfl)); clear hF; clear a; intro a hF) | ((first | apply stm hF | apply stu hF); clear hF; clear a; intro a hF) | (apply c_cond_t hF; exact rfl; first | exact rfl | assumption) | (apply c_cond_f hF; exact rfl; first | exact rfl | assumption) | refine s_nil ?_)
  refine stc hF hb cal50 ⟨rfl, trivial⟩ (k := fun a v w1 hR hF => ?_)
  obtain ⟨hv, hg1, hR⟩ := hR
  repeat (first | refine c_seq ?_ | refine c_block ?_ | refine c_region _ ?_ | refine wpList_nil ?_ | refine c_then ?_ | refine c_then_exit ?_ | refine c_then_ret ?_ | refine c_in ?_ | refine c_in_ret ?_ | refine c_in_hit ?_ | refine wp_skip ?_ | refine wp_exit ?_ | refine wp_ret ?_ | refine c_in_miss rfl ?_ | ((first | apply st hF | apply stg hF | apply s_step hF | apply s_stg hF); (first | exact d_move | exact d_nilCheck | exact d_fieldAddr (fld _ _ _ _ rfl) (isz _ _ rfl)); clear hF; clear a; intro a hF) | ((first | apply stm hF | apply stu hF); clear hF; clear a; intro a hF) | (apply c_cond_t hF; exact rfl; first | exact rfl | assumption) | (apply c_cond_f hF; exact rfl; first | exact rfl | assumption) | refine s_nil ?_)
  refine st_store hF (i := 3) (v := v) (isz _ _ rfl) hg1 (by simp) hv (k := fun a w2 hg2 hgr2 hsz2 hF => ?_)
  repeat (first | refine c_seq ?_ | refine c_block ?_ | refine c_region _ ?_ | refine wpList_nil ?_ | refine c_then ?_ | refine c_then_exit ?_ | refine c_then_ret ?_ | refine c_in ?_ | refine c_in_ret ?_ | refine c_in_hit ?_ | refine wp_skip ?_ | refine wp_exit ?_ | refine wp_ret ?_ | refine c_in_miss rfl ?_ | ((first | apply st hF | apply stg hF | apply s_step hF | apply s_stg hF); (first | exact d_move | exact d_nilCheck | exact d_fieldAddr (fld _ _ _ _ rfl) (isz _ _ rfl)); clear hF; clear a; intro a hF) | ((first | apply stm hF | apply stu hF); clear hF; clear a; intro a hF) | (apply c_cond_t hF; exact rfl; first | exact rfl | assumption) | (apply c_cond_f hF; exact rfl; first | exact rfl | assumption) | refine s_nil ?_)
  refine st_store hF (i := 4) (v := .slice none 0 0) (isz _ _ rfl) hg2 (by simp) rfl (k := fun a w3 hg3 hgr3 hsz3 hF => ?_)
  repeat (first | refine c_seq ?_ | refine c_block ?_ | refine c_region _ ?_ | refine wpList_nil ?_ | refine c_then ?_ | refine c_then_exit ?_ | refine c_then_ret ?_ | refine c_in ?_ | refine c_in_ret ?_ | refine c_in_hit ?_ | refine wp_skip ?_ | refine wp_exit ?_ | refine wp_ret ?_ | refine c_in_miss rfl ?_ | ((first | apply st hF | apply stg hF | apply s_step hF | apply s_stg hF); (first | exact d_move | exact d_nilCheck | exact d_fieldAddr (fld _ _ _ _ rfl) (isz _ _ rfl)); clear hF; clear a; intro a hF) | ((first | apply stm hF | apply stu hF); clear hF; clear a; intro a hF) | (apply c_cond_t hF; exact rfl; first | exact rfl | assumption) | (apply c_cond_f hF; exact rfl; first | exact rfl | assumption) | refine s_nil ?_)
  exact ret0' hF rfl ⟨rfl, v, w1, hR, grown_trans hgr2 hgr3, by omega, hg3⟩
end Go.Proofs.YtnohefaifbghiaaGreatDoor
end
section
/- Arrays of bools: sets of bits. Plain lemmas over any program. -/
namespace Go.Proofs.YtnohefaifbghiaaGreatDoor
open Go.RowKit

/-- The cells of a set. -/
def setC (xs : List Bool) : Array Value := (xs.map Value.bool).toArray
theorem setC_size (xs : List Bool) : (setC xs).size = xs.length := by simp [setC]
theorem setC_get {xs : List Bool} {j : Nat} (h : j < xs.length) : (setC xs)[j]? = some (.bool xs[j]) := by simp [setC, h]
theorem setC_set (xs : List Bool) (j : Nat) (b : Bool) : (setC xs).setIfInBounds (0 + j) (.bool b) = setC (xs.set j b) := by
  rw [Nat.zero_add]
  apply Array.toList_inj.1
  simp [setC, List.map_set]
theorem setC_cells (xs : List Bool) : ∀ v ∈ setC xs, v.oneCell' = true := by
  intro v hv
  simp [setC] at hv
  rcases hv with ⟨_, rfl⟩ | ⟨_, rfl⟩ <;> rfl

section
variable {P : Program} {ops : Array Oper} {Q : Exit → Act → World → Prop} {a : Act} {w w' : World} {rest : List Oper} {N : Nat} {l : List (Nat × Value)}

theorem run_eqItems_bools (d : Nat) {e : TypeId} (he : P.underlying e = some .bool) (xs ys : List Bool) (hl : xs.length = ys.length) : ∀ is : List Nat, (∀ i ∈ is, i < xs.length) →
    (Op.eqItems (d + 1) e 1 (setC xs) (setC ys) is).run P w = .ok (is.all fun i => xs.getD i false == ys.getD i false) w
  | [], _ => by simp [Op.eqItems]
  | i :: is, h => by
    have hi := h i (by simp)
    have px : (part e (setC xs) (i * 1)).run P w = .ok (.bool (xs.getD i false)) w := by
      simp [part, isAgg, run_underlying he, setC, List.getD, hi]
    have py : (part e (setC ys) (i * 1)).run P w = .ok (.bool (ys.getD i false)) w := by
      simp [part, isAgg, run_underlying he, setC, List.getD, show i < ys.length by omega]
    have pe : (Op.equalIn (d + 1) e (.bool (xs.getD i false)) (.bool (ys.getD i false))).run P w = .ok (xs.getD i false == ys.getD i false) w := run_equalIn_bool d he _ _
    simp only [Op.eqItems, Sem.run_bind, px, py, pe, Result.andThen_ok, List.all_cons]
    cases hq : (xs.getD i false == ys.getD i false) with
    | false => simp
    | true => simpa using run_eqItems_bools d he xs ys hl is (fun j hj => h j (by simp [hj]))
theorem all_range (xs ys : List Bool) (h : xs.length = ys.length) : ((List.range xs.length).all fun i => xs.getD i false == ys.getD i false) = decide (xs = ys) := by
  rw [Bool.eq_iff_iff]
  simp only [List.all_eq_true, List.mem_range, beq_iff_eq, decide_eq_true_eq]
  constructor
  · intro hh
    apply List.ext_getElem h
    intro i h1 h2
    have := hh i h1
    simpa [List.getD, h1, h2] using this
  · rintro rfl i _; rfl
theorem run_equalIn_set (d : Nat) {t e : TypeId} {n : Nat} {i : TypeInfo} (hu : P.underlying t = some (.array n e)) (he : P.underlying e = some .bool) (hi : P.info? e = some i) (hc : P.cellsOf e = 1) (xs ys : List Bool) (hx : xs.length = n) (hy : ys.length = n) :
    (Op.equalIn (d + 2) t (.agg (setC xs)) (.agg (setC ys))).run P w = .ok (decide (xs = ys)) w := by
  rw [run_equalIn_array (P := P) w (d + 1) (setC xs) (setC ys) hu hi, hc, run_eqItems_bools d he xs ys (by omega) _ (by intro j hj; simp at hj; omega), ← hx, all_range xs ys (by omega)]
/-- Sets held against each other. -/
theorem d_eqSet {op : BinOp} {x y : Operand} {xs ys : List Bool} {r : Bool} {t t' ty e : TypeId} {n : Nat} (hu : P.underlying t = some (.array n e)) (he : P.underlying e = some .bool) (hi : (P.info? e).map (·.size) = some 1) (hc : P.cellsOf e = 1) (hm : P.eqGuardType P.depth t = false) (hxl : xs.length = n) (hyl : ys.length = n)
    (hx : Ev l x (.agg (setC xs)) := by exact rfl) (hy : Ev l y (.agg (setC ys)) := by exact rfl) (hr : (match op with | .eql => some (decide (xs = ys)) | .neq => some (!decide (xs = ys)) | _ => none) = some r := by exact rfl) : Does P l w (.binOp op t x y t') ty (.bool r) w := by
  obtain ⟨i, h1, h2⟩ := Option.map_eq_some_iff.1 hi
  intro ρ hρ d pos af g
  have key := run_equalIn_set (P := P) (w := w) 9998 hu he h1 hc xs ys hxl hyl
  cases op <;> simp only [Option.some.injEq, reduceCtorEq] at hr <;> subst hr
  · simp only [execOp, hρ _ _ hx, hρ _ _ hy, Sem.run_bind, run_eqGuard_agg w _ t x y _ _ hm, Result.andThen_ok, run_eql_struct, key]
    rfl
  · simp only [execOp, hρ _ _ hx, hρ _ _ hy, Sem.run_bind, run_eqGuard_agg w _ t x y _ _ hm, Result.andThen_ok, run_neq_struct, key]
    rfl

/-- An element's address in an array. -/
theorem d_indexAddrA {x i : Operand} {b o n : Nat} {k : IntKind} {j : Nat} {q : Int} {t e ty : TypeId} (hU : P.underlying t = some (.array n e)) (hs : (P.info? e).map (·.size) = some 1)
    (hx : Ev l x (.pointer (some ⟨b, o, none⟩)) := by exact rfl) (hi : Ev l i (.int k q) := by exact rfl) (hq : q = (j : Int) := by exact rfl) (hj : j < n := by omega) :
    Does P l w (.indexAddr t x i) ty (.pointer (some ⟨b, o + j, none⟩)) w := by
  intro ρ hρ d pos af g
  subst hq
  obtain ⟨ti, h1, h2⟩ := Option.map_eq_some_iff.1 hs
  have h3 : (0 : Int) ≤ (j : Int) ∧ (j : Int) < (n : Int) := by omega
  simp [execOp, Instr.indexAt, Instr.sureAddr, asIntOf, hρ _ _ hx, hρ _ _ hi, run_underlying hU, sizeOf, typeInfo, h1, h2, hj, addr_add]
/-- An element of an array that is no variable. -/
theorem d_indexA {x i : Operand} {cs : Array Value} {n : Nat} {v : Value} {k : IntKind} {j : Nat} {q : Int} {t e ty : TypeId} {dd : TypeDesc} (hU : P.underlying t = some (.array n e)) (hE : P.underlying e = some dd) (h1' : oneCellType dd = true) (hs : (P.info? e).map (·.size) = some 1) (hv : cs[j]? = some v)
    (hx : Ev l x (.agg cs) := by exact rfl) (hi : Ev l i (.int k q) := by exact rfl) (hq : q = (j : Int) := by exact rfl) (hj : j < n := by omega) :
    Does P l w (.index t x i) ty v w := by
  intro ρ hρ d pos af g
  subst hq
  obtain ⟨ti, h1, h2⟩ := Option.map_eq_some_iff.1 hs
  have h3 : (0 : Int) ≤ (j : Int) ∧ (j : Int) < (n : Int) := by omega
  cases dd <;> simp [oneCellType] at h1' <;> simp [execOp, Instr.index, asIntOf, hρ _ _ hx, hρ _ _ hi, run_underlying hU, sizeOf, typeInfo, h1, h2, hj, part, isAgg, run_underlying hE, hv]

/-! ### results in boxes -/
theorem run_loadVar_agg {t : TypeId} {g : Nat} {cs : Array Value} {e : TypeId} {fr : Nat × Nat} (hU : (P.underlying t).map aggB = some true) (hs : (P.info? t).map (·.size) = some cs.size) (hg : w.heap[g]? = some (.cells cs e fr)) : (loadVar t ⟨g, 0, none⟩).run P w = .ok (.agg cs) w := by
  obtain ⟨ti, h1, h2⟩ := Option.map_eq_some_iff.1 hs
  obtain ⟨dd, h3, h4⟩ := Option.map_eq_some_iff.1 hU
  have hr : (loadCells ⟨g, 0, none⟩ cs.size).run P w = .ok cs w := by
    have := run_loadCells_list (P := P) (w := w) ⟨g, 0, none⟩ cs.toList (fun j v hj => by rw [addr_add]; exact cells_at hg j v (by simpa using hj))
    simpa using this
  cases dd <;> simp [aggB] at h4 <;> simp [loadVar, isAgg, run_underlying h3, sizeOf, typeInfo, h1, h2, hr]
theorem ret_ct {fn : Func} {R : Value → World → Prop} (h : Fr N l a) {p u : Nat} {ty : TypeId} (hres : fn.results = #[.cell p ty, .tmp u]) {g : Nat} {cs : Array Value} {e : TypeId} {fr : Nat × Nat} {y : Value} (hU : (P.underlying ty).map aggB = some true) (hs : (P.info? ty).map (·.size) = some cs.size) (hg : w.heap[g]? = some (.cells cs e fr))
    (hv : look l p = some (.pointer (some ⟨g, 0, none⟩))) (hx : look l u = some y) (hR : R (.tuple #[.agg cs, y]) w) :
    bodyPost P fn (fun e w' => ∃ v, e = .returned v ∧ R v w') .ret a w := by
  refine bodyPost_ret (v := .tuple #[.agg cs, y]) ?_ h.defers ⟨_, rfl, hR⟩
  rw [results_cell_tmp hres, getD_at h hv, getD_at h hx]
  simp [asAddr, run_loadVar_agg hU hs hg]
theorem ret_c {fn : Func} {R : Value → World → Prop} (h : Fr N l a) {p : Nat} {ty : TypeId} (hres : fn.results = #[.cell p ty]) {g : Nat} {cs : Array Value} {e : TypeId} {fr : Nat × Nat} (hU : (P.underlying ty).map aggB = some true) (hs : (P.info? ty).map (·.size) = some cs.size) (hg : w.heap[g]? = some (.cells cs e fr))
    (hv : look l p = some (.pointer (some ⟨g, 0, none⟩))) (hR : R (.agg cs) w) :
    bodyPost P fn (fun e w' => ∃ v, e = .returned v ∧ R v w') .ret a w := by
  refine bodyPost_ret (v := .agg cs) ?_ h.defers ⟨_, rfl, hR⟩
  have e1 : a.tmps[p]? = some (.pointer (some ⟨g, 0, none⟩)) := h.at_ _ _ hv
  simp [results, hres, e1, asAddr, run_loadVar_agg hU hs hg]
end
end Go.Proofs.YtnohefaifbghiaaGreatDoor
end
section
/- Where the units of a text stand: plain laws. -/
namespace Go.Proofs.YtnohefaifbghiaaGreatDoor
open Go.RowKit

/-- Where the units of a text stand: the byte, the line, the column. -/
def uStep (s : ByteArray) (t : Nat × Int × Int) : Nat × Int × Int :=
  if (Utf8.decode s t.1).1 = 10 then (t.1 + (Utf8.decode s t.1).2, t.2.1 + 1, 1) else (t.1 + (Utf8.decode s t.1).2, t.2.1, t.2.2 + 1)
def uSt (s : ByteArray) : Nat → Nat × Int × Int
  | 0 => (0, 1, 1)
  | k + 1 => uStep s (uSt s k)
theorem uSt_lt (s : ByteArray) (k : Nat) (h : (uSt s k).1 < s.size) : (uSt s k).1 < (uSt s (k + 1)).1 := by
  have := width_pos s _ h
  show _ < (uStep s (uSt s k)).1
  unfold uStep
  split <;> (simp only; omega)
theorem uSt_fst (s : ByteArray) (k : Nat) : (uSt s (k + 1)).1 = (uSt s k).1 + (Utf8.decode s (uSt s k).1).2 := by
  show (uStep s (uSt s k)).1 = _
  unfold uStep
  split <;> rfl
theorem uSt_bnd (s : ByteArray) : ∀ k, (∀ j, j < k → (uSt s j).1 < s.size) → 1 ≤ (uSt s k).2.1 ∧ (uSt s k).2.1 ≤ (uSt s k).1 + 1 ∧ 1 ≤ (uSt s k).2.2 ∧ (uSt s k).2.2 ≤ (uSt s k).1 + 1
  | 0, _ => ⟨Int.le_refl _, Int.le_refl _, Int.le_refl _, Int.le_refl _⟩
  | k + 1, h => by
    obtain ⟨h1, h2, h3, h4⟩ := uSt_bnd s k (fun j hj => h j (by omega))
    have := width_pos s _ (h k (by omega))
    show 1 ≤ (uStep s (uSt s k)).2.1 ∧ (uStep s (uSt s k)).2.1 ≤ (uStep s (uSt s k)).1 + 1 ∧ 1 ≤ (uStep s (uSt s k)).2.2 ∧ (uStep s (uSt s k)).2.2 ≤ (uStep s (uSt s k)).1 + 1
    unfold uStep
    split <;> (simp only; omega)
/-- The rune of unit k. -/
def uR (s : ByteArray) (k : Nat) : Int := (Utf8.decode s (uSt s k).1).1
def placeV (s : ByteArray) (k : Nat) : Value := .agg #[.int .i64 (uSt s k).2.1, .int .i64 (uSt s k).2.2]

end Go.Proofs.YtnohefaifbghiaaGreatDoor
end
section
/- An append of one struct to a row of structs of the call's own; what such a row holds. Plain lemmas over any program. -/
namespace Go.Proofs.YtnohefaifbghiaaGreatDoor
open Go.RowKit

section
variable {P : Program} {ops : Array Oper} {Q : Exit → Act → World → Prop} {a : Act} {w w' : World} {rest : List Oper} {N : Nat} {l : List (Nat × Value)}

theorem d_build1S {x : Operand} {us : Array Value} {z : Value} {sz : Nat} {t e ty : TypeId} {by_ : Nat} (hU : P.underlying t = some (.slice e)) (hi : (P.info? e).map (fun i => (i.zero, i.size, i.bytes)) = some (some z, sz, by_)) (h0 : 0 < sz) (h1 : sz ≤ 16777216) (hus : us.size = sz)
    (hx : Ev l x (.agg us) := by exact rfl) : Does P l w (.buildSlice t 1 [(0, x)].toArray) ty (.slice (some ⟨w.heap.size, 0, none⟩) 1 1) (w.alloc (.cells us e)) := by
  intro ρ hρ d pos af g
  obtain ⟨i, g1, g2, g3, g4⟩ := info_parts hi
  subst g3
  have hf := Great.fill_whole (s := i.size) h0 [.agg us] ((Array.range (1 * i.size)).map (z.cells[· % z.cells.size]!)) (by intro v hv; simp at hv; subst hv; exact hus) (by simp)
  have e1 : ([Value.agg us].flatMap fun v => v.cells.toList).toArray = us := by simp [Value.cells]
  rw [e1] at hf
  have hr := run_buildSlice (P := P) w t e 1 #[(0, .agg us)] us i z hU g1 g2 (by omega) (by omega) (by simpa using hf)
  simp [execOp, hρ _ _ hx, hr]

/-- A struct behind a row of structs: the one-element slice and the append, both at once. -/
theorem st_pushS (h : Fr N l a) {d d' : Nat} {x : Operand} {s : Operand} {us : Array Value} {z : Value} {sz : Nat} {t e ty ty' : TypeId} {pos pos' : String} {af af' : Array Edge} {bytes n base cap : Nat} {ao : Option Addr} {xs : List Value}
    (hU : P.underlying t = some (.slice e)) (hi : (P.info? e).map (fun i => (i.zero, i.size, i.bytes)) = some (some z, sz, bytes)) (hz : z.cells.size = sz) (h0 : 0 < sz) (h1 : sz ≤ 16777216) (hus : us.size = sz) (hu : ∀ v ∈ us, v.oneCell' = true)
    (hown : w.ownsRow base e sz (.slice ao n cap) n xs) (hbd : (n + 1) * bytes ≤ 140737488355328) (hm : n + 1 ≤ maxLen) (hbase : base ≤ w.heap.size)
    (hx : Ev l x (.agg us) := by exact rfl) (hs : Ev ((d, .slice (some ⟨w.heap.size, 0, none⟩) 1 1) :: l) s (.slice ao n cap) := by exact rfl) (hd : Nat.blt d N = true := by exact rfl) (hd' : Nat.blt d' N = true := by exact rfl)
    (k : ∀ a' ao' cap' w', w'.ownsRow base e sz (.slice ao' (n + 1) cap') (n + 1) (xs ++ us.toList) → w.grownBy w' (Value.slice ao n cap).ownBlock → ((Value.slice ao' (n + 1) cap').ownBlock = (Value.slice ao n cap).ownBlock ∨ (Value.slice ao' (n + 1) cap').ownBlock = some (w.heap.size + 1)) → Fr N ((d', .slice ao' (n + 1) cap') :: (d, .slice (some ⟨w.heap.size, 0, none⟩) 1 1) :: l) a' → wpList P ops Q rest a' w') :
    wpList P ops Q (⟨some d, .buildSlice t 1 [(0, x)].toArray, ty, pos, af, none⟩ :: ⟨some d', .call { callee := .builtin .append, args := [s, .tmp d].toArray, argTypes := [t, t].toArray }, ty', pos', af', none⟩ :: rest) a w := by
  refine st h (d_build1S hU hi h0 h1 hus hx) hd fun a1 h1' => ?_
  obtain ⟨i, g1, g2, g3, g4⟩ := info_parts hi
  have hev : a1.eval (.tmp d) = .slice (some ⟨w.heap.size, 0, none⟩) 1 1 := h1'.eval _ _ (by simp [Ev, look_cons])
  refine wpList_append_own_at _ rfl s (.tmp d) t rfl base e i z sz bytes hU g1 g2 g3 g4 hz h0 (.slice ao n cap) n xs (h1'.eval _ _ hs) (hown.alloc _)
    ⟨w.heap.size, 0, none⟩ 1 1 us.toList hev (by simp [hus]) ?_ ?_ hm hbd (by simp; omega) ?_
  · intro j v hj
    rw [addr_add, Nat.zero_add]
    exact cell_at (heap_alloc_new w _) (by simpa using hj)
  · intro v hv; exact hu v (by simpa using hv)
  · intro v' w' hown' hgr hnil hat
    obtain ⟨ao', cap', rfl, _, _⟩ := own_form hown'
    refine k _ ao' cap' w' hown' ?_ (by simpa using hat) (h1'.put hd' _)
    exact ⟨hgr.os, hgr.tape, hgr.output, by have := hgr.size; simp at this; omega, fun k hk hne => by rw [hgr.block k (by simp; omega) hne]; exact Below.heap_alloc _ _ _ hk⟩

/-- A slice of structs that reads as xs: each element's cells lie there. -/
def RdS {α : Type} (w : World) (a : Option Addr) (sz : Nat) (enc : α → List Value) (xs : List α) : Prop :=
  ∀ i (h : i < xs.length), ∃ b o, a = some ⟨b, o, none⟩ ∧ ∀ q v, (enc xs[i])[q]? = some v → w.cell? ⟨b, o + i * sz + q, none⟩ = some v
theorem RdS.below {α : Type} {w w' : World} {a : Option Addr} {sz : Nat} {enc : α → List Value} {xs : List α} (h : RdS w a sz enc xs) (hb : Below w.heap.size w w') : RdS w' a sz enc xs := by
  intro i hi
  obtain ⟨b, o, ha, hc⟩ := h i hi
  exact ⟨b, o, ha, fun q v hq => (hb.cell (p := ⟨b, o + i * sz + q, none⟩) (World.block_lt_of_cell? w _ (hc q v hq))).trans (hc q v hq)⟩

theorem flat_get {α : Type} {enc : α → List Value} {sz : Nat} (he : ∀ x, (enc x).length = sz) : ∀ (xs : List α) (i : Nat) (h : i < xs.length) (q : Nat), q < sz → (xs.flatMap enc)[i * sz + q]? = (enc xs[i])[q]?
  | x :: xs, 0, _, q, hq => by
    rw [List.flatMap_cons, Nat.zero_mul, Nat.zero_add, List.getElem?_append_left (by rw [he]; exact hq)]
    rfl
  | x :: xs, i + 1, h, q, hq => by
    have h' : i < xs.length := by simpa using h
    rw [List.flatMap_cons, List.getElem?_append_right (by rw [he, Nat.add_mul]; omega)]
    rw [he, show (i + 1) * sz + q - sz = i * sz + q by rw [Nat.add_mul]; omega]
    simpa using flat_get he xs i h' q hq
/-- What a row of structs of the call's own holds. -/
theorem own_rdS {α : Type} {w : World} {base : Nat} {e : TypeId} {g cap n sz : Nat} {enc : α → List Value} {xs : List α} (he : ∀ x, (enc x).length = sz) (h : w.ownsRow base e sz (.slice (some ⟨g, 0, none⟩) n cap) n (xs.flatMap enc)) (hn : xs.length = n) : RdS w (some ⟨g, 0, none⟩) sz enc xs := by
  subst hn
  intro i hi
  refine ⟨g, 0, rfl, fun q v hq => ?_⟩
  have hq' : q < sz := by
    have := (List.getElem?_eq_some_iff.1 hq).1
    rw [he] at this; exact this
  rcases h.2 with ⟨h0, _⟩ | ⟨g', cap', cur, h0, hb, hg, hle, hm, hsz, htk⟩
  · cases h0
  · cases h0
    rw [Nat.zero_add]
    refine cell_at hg ?_
    have h1 := flat_get he xs i hi q hq'
    rw [hq, ← htk] at h1
    have hlt : i * sz + q < xs.length * sz := by
      have : (i + 1) * sz ≤ xs.length * sz := Nat.mul_le_mul_right _ (by omega)
      rw [Nat.add_mul, Nat.one_mul] at this
      omega
    rw [List.getElem?_take_of_lt hlt] at h1
    simpa using h1

theorem own_cap' {w : World} {base : Nat} {e : TypeId} {s : Nat} {ao : Option Addr} {cap n : Nat} {xs : List Value} (h : w.ownsRow base e s (.slice ao n cap) n xs) : n ≤ cap ∧ cap ≤ maxLen := by
  obtain ⟨_, _, h1, h2, h3⟩ := own_form h
  cases h1; exact ⟨h2, h3⟩
/-- The address of an element of many cells. -/
theorem d_indexAddrS {x i : Operand} {b o n c : Nat} {k : IntKind} {j : Nat} {q : Int} {t e ty : TypeId} {s : Nat} (hU : P.underlying t = some (.slice e)) (hs : (P.info? e).map (·.size) = some s)
    (hx : Ev l x (.slice (some ⟨b, o, none⟩) n c) := by exact rfl) (hi : Ev l i (.int k q) := by exact rfl) (hq : q = (j : Int) := by exact rfl) (hj : j < n := by omega) :
    Does P l w (.indexAddr t x i) ty (.pointer (some ⟨b, o + j * s, none⟩)) w := d_indexAddr hU hs hx hi hq hj
end
end Go.Proofs.YtnohefaifbghiaaGreatDoor
end
section
/- Conversions: between integers; bytes as a text; a signed number moved to the right. -/
namespace Go.Proofs.YtnohefaifbghiaaGreatDoor
open Go.RowKit

section
variable {P : Program} {w : World} {l : List (Nat × Value)}
theorem d_convI {x : Operand} {k k' : IntKind} {n m : Int} {src dst ty : TypeId} {ds : TypeDesc} (hs : P.underlying src = some ds) (hd : P.underlying dst = some (.int k')) (hx : Ev l x (.int k n) := by exact rfl) (hm : k'.wrap n = m := by exact rfl) :
    Does P l w (.convert src dst x) ty (.int k' m) w := by
  intro ρ hρ d pos af g
  subst hm
  simp [execOp, hρ _ _ hx, convert, run_underlying hs, run_underlying hd, Conv.intToInt]
/-- 'string(r)'. -/
theorem d_convR {x : Operand} {k : IntKind} {n : Int} {src dst ty : TypeId} {ds : TypeDesc} (hs : P.underlying src = some ds) (hd : P.underlying dst = some .string) (hx : Ev l x (.int k n) := by exact rfl) :
    Does P l w (.convert src dst x) ty (.string (Utf8.encode n)) w := by
  intro ρ hρ d pos af g
  simp [execOp, hρ _ _ hx, convert, run_underlying hs, run_underlying hd, Conv.intToString]
theorem d_convBS {x : Operand} {src dst e ty : TypeId} {b o len cap : Nat} (xs : List Int) (hs : P.underlying src = some (.slice e)) (he : P.underlying e = some (.int .u8)) (hd : P.underlying dst = some .string) (hlen : xs.length = len)
    (hcell : ∀ i, i < len → w.cell? ⟨b, o + i, none⟩ = some (.int .u8 (xs.getD i 0))) (hx : Ev l x (.slice (some ⟨b, o, none⟩) len cap) := by exact rfl) :
    Does P l w (.convert src dst x) ty (.string (strOfNums xs)) w := by
  intro ρ hρ d pos af g
  simp [execOp, hρ _ _ hx, run_convert_bytes_arg w src e hs he b o len cap xs hlen hcell dst hd]
theorem run_shrI {k ky : IntKind} {a : Int} {b : Nat} (hb : b ≤ k.bits) : (Op.shift .shr k a ky (b : Int)).run P w = .ok (.int k (a / 2 ^ b)) w := by
  have h1 : ¬ ((b : Int) < 0) := by omega
  simp only [Op.shift, h1, if_false, Int.toNat_natCast, Nat.min_eq_left hb]
  rw [Int.fdiv_eq_ediv_of_nonneg _ (Int.le_of_lt (Int.pow_pos (by decide)))]
  rfl
theorem d_shrI {x y : Operand} {k ky : IntKind} {a q : Int} {b : Nat} {t t' ty : TypeId} (hx : Ev l x (.int k a) := by exact rfl) (hy : Ev l y (.int ky q) := by exact rfl) (hq : q = (b : Int) := by exact rfl) (hb : b ≤ k.bits := by decide) :
    Does P l w (.binOp .shr t x y t') ty (.int k (a / 2 ^ b)) w := by
  intro ρ hρ d pos af g
  subst hq
  have e : (eqGuard .shr t x y (.int k a) (.int ky b)).run P w = .ok () w := rfl
  have e2 : (binOp .shr t (.int k a) (.int ky b)).run P w = .ok (.int k (a / 2 ^ b)) w := run_shrI (ky := ky) hb
  simp only [execOp, hρ _ _ hx, hρ _ _ hy, Sem.run_bind, e, Result.andThen_ok, e2]
  rfl
end
end Go.Proofs.YtnohefaifbghiaaGreatDoor
end
section
/- The reference's units of a text. -/
namespace Go.Proofs.YtnohefaifbghiaaGreatDoor
open Go.RowKit
set_option linter.unusedSimpArgs false
set_option linter.unusedVariables false
attribute [local irreducible] wpList wpQuiet wpStill Code.wp Exit.then Exit.inBlock bodyPost Calls Does Does0

/-- A unit as the reference has it. -/
structure Un where
  line : Int
  col : Int
  r : Int
  wide : Int
  ill : Bool
def Un.cells (u : Un) : List Value := [.int .i64 u.line, .int .i64 u.col, .int .i32 u.r, .int .i64 u.wide, .bool u.ill]
theorem unc_len (u : Un) : (Un.cells u).length = 5 := rfl
theorem un_cells (u : Un) : ∀ v ∈ (Un.cells u).toArray, v.oneCell' = true := by
  intro v hv
  simp [Un.cells] at hv
  rcases hv with rfl | rfl | rfl | rfl | rfl <;> rfl
/-- Is the rune read at p the sign for bytes that are none? -/
def illB (s : ByteArray) (p : Nat) : Bool :=
  (((Utf8.decode s p).1 : Int) == 65533) && (decide (s.size ≤ p + 2) || ((s.get! p).toNat != 239) || ((s.get! (p + 1)).toNat != 191) || ((s.get! (p + 2)).toNat != 189))
def UnOk (s : ByteArray) (i : Nat) (u : Un) : Prop := u.line = (uSt s i).2.1 ∧ u.col = (uSt s i).2.2 ∧ u.r = uR s i ∧ u.ill = illB s (uSt s i).1
theorem uSt_ge (s : ByteArray) : ∀ k, (∀ j, j < k → (uSt s j).1 < s.size) → k ≤ (uSt s k).1
  | 0, _ => Nat.zero_le _
  | k + 1, h => by
    have h1 := uSt_ge s k (fun j hj => h j (by omega))
    have h2 := uSt_lt s k (h k (by omega))
    omega
theorem get_at {s : ByteArray} {j : Nat} (h : j < s.size) : s[j]? = some (s.get! j) := by
  have e : s.get! j = s[j] := by
    cases s with
    | mk d =>
      have h' : j < d.size := h
      show d[j]! = d[j]
      simp [h']
  rw [e]; simp [h]

theorem own_neI {w : World} {base : Nat} {e : TypeId} {sz : Nat} {v : Value} {n : Nat} {xs : List Value} (h : w.ownsRow base e sz v n xs) {r : Nat} {o : Obj} (ho : w.heap[r]? = some o) (hc : ∀ c t f, o ≠ .cells c t f) {b : Nat} (hb : v.ownBlock = some b) : (some r : Option Nat) ≠ some b := by
  intro e0
  have e1 : r = b := Option.some.inj e0
  subst e1
  rcases h.2 with ⟨rfl, _⟩ | ⟨g, cap, cur, rfl, _, h1, _⟩
  · cases hb
  · simp only [Value.ownBlock, Option.some.injEq] at hb
    subst hb
    rw [ho] at h1
    exact hc _ _ _ (Option.some.inj h1)

end Go.Proofs.YtnohefaifbghiaaGreatDoor
end
section
/- How wide a rune is that was read, and when a source is bad: plain laws. -/
namespace Go.Proofs.YtnohefaifbghiaaGreatDoor
open Go.RowKit

def rl (r : Int) : Int := if r < 0 then -1 else if r ≤ 127 then 1 else if r ≤ 2047 then 2 else if 55296 ≤ r ∧ r ≤ 57343 then -1 else if r ≤ 65535 then 3 else if r ≤ 1114111 then 4 else -1
def dec4 (b0 b1 b2 b3 : Nat) (c1 c2 c3 : Bool) : Nat × Nat :=
  if b0 < 0x80 then (b0, 1)
  else if b0 / 32 == 6 && c1 then
    let c := (b0 % 32) * 64 + b1 % 64
    if c ≥ 0x80 then (c, 2) else (65533, 1)
  else if b0 / 16 == 14 && c1 && c2 then
    let c := (b0 % 16) * 4096 + (b1 % 64) * 64 + b2 % 64
    if c ≥ 0x800 && Utf8.valid c then (c, 3) else (65533, 1)
  else if b0 / 8 == 30 && c1 && c2 && c3 then
    let c := (b0 % 8) * 262144 + (b1 % 64) * 4096 + (b2 % 64) * 64 + b3 % 64
    if c ≥ 0x10000 && Utf8.valid c then (c, 4) else (65533, 1)
  else (65533, 1)
def cnt (s : ByteArray) (i k : Nat) : Bool := i + k < s.size && (s.get! (i + k)).toNat / 64 == 2
theorem decode_4 (s : ByteArray) (i : Nat) : Utf8.decode s i = dec4 (s.get! (i + 0)).toNat (s.get! (i + 1)).toNat (s.get! (i + 2)).toNat (s.get! (i + 3)).toNat (cnt s i 1) (cnt s i 2) (cnt s i 3) := rfl
set_option maxHeartbeats 4000000 in
theorem rl_dec4 (b0 b1 b2 b3 : Nat) (c1 c2 c3 : Bool) (h : (dec4 b0 b1 b2 b3 c1 c2 c3).1 ≠ 65533) : rl ((dec4 b0 b1 b2 b3 c1 c2 c3).1 : Nat) = ((dec4 b0 b1 b2 b3 c1 c2 c3).2 : Nat) := by
  revert h
  unfold dec4
  simp only
  split
  · intro h; simp only [rl]; repeat' split
    all_goals omega
  split
  · split
    · intro h; simp only [rl]; repeat' split
      all_goals omega
    · intro h; exact absurd rfl h
  split
  · split
    · rename_i hv
      intro h
      simp only [ge_iff_le, Utf8.valid, Bool.and_eq_true, Bool.or_eq_true, decide_eq_true_eq] at hv
      simp only [rl]; repeat' split
      all_goals omega
    · intro h; exact absurd rfl h
  split
  · split
    · rename_i hv
      intro h
      simp only [ge_iff_le, Utf8.valid, Bool.and_eq_true, Bool.or_eq_true, decide_eq_true_eq] at hv
      simp only [rl]; repeat' split
      all_goals omega
    · intro h; exact absurd rfl h
  · intro h; exact absurd rfl h
theorem rl_decode (s : ByteArray) (i : Nat) (h : (Utf8.decode s i).1 ≠ 65533) : rl ((Utf8.decode s i).1 : Nat) = ((Utf8.decode s i).2 : Nat) := by
  rw [decode_4] at h ⊢
  exact rl_dec4 _ _ _ _ _ _ _ h
set_option maxHeartbeats 4000000 in
theorem ill_dec4 (n i b0 b1 b2 b3 : Nat) (c1 c2 c3 : Bool) (h1 : c1 = (decide (i + 1 < n) && b1 / 64 == 2)) (h2 : c2 = (decide (i + 2 < n) && b2 / 64 == 2)) (h : (dec4 b0 b1 b2 b3 c1 c2 c3).1 = 65533) :
    (dec4 b0 b1 b2 b3 c1 c2 c3).2 = if i + 2 < n ∧ b0 = 239 ∧ b1 = 191 ∧ b2 = 189 then 3 else 1 := by
  subst h1 h2
  revert h
  unfold dec4
  simp only [Bool.and_eq_true, decide_eq_true_eq, beq_iff_eq]
  split
  · intro h; simp only at h; rw [if_neg (by omega)]
  split
  · split
    · intro h; simp only at h; omega
    · intro h; rw [if_neg (by omega)]
  split
  · rename_i hc
    split
    · intro h; simp only at h; rw [if_pos (by omega)]
    · rename_i hv
      intro h
      rw [if_neg]
      rintro ⟨h1, rfl, rfl, rfl⟩
      exact hv (by decide)
  split
  · split
    · intro h; simp only at h; omega
    · intro h; rw [if_neg (by omega)]
  · rename_i h1 h2 h3 h4
    intro h
    rw [if_neg]
    rintro ⟨h5, rfl, rfl, rfl⟩
    exact h3 ⟨⟨by decide, by omega, by decide⟩, by omega, by decide⟩
theorem ill_w (s : ByteArray) (i : Nat) (h : (Utf8.decode s i).1 = 65533) : (Utf8.decode s i).2 = if i + 2 < s.size ∧ (s.get! i).toNat = 239 ∧ (s.get! (i + 1)).toNat = 191 ∧ (s.get! (i + 2)).toNat = 189 then 3 else 1 := by
  rw [decode_4] at h ⊢
  exact ill_dec4 s.size i _ _ _ _ _ _ _ rfl rfl h
def ctl (r : Int) : Bool := decide (r < 32 ∨ r = 127)
def blk (r : Int) : Bool := decide (r = 32 ∨ r = 9 ∨ r = 10 ∨ r = 13)
/-- Is unit k bad? -/
def badB (s : ByteArray) (k : Nat) : Bool := illB s (uSt s k).1 || (ctl (uR s k) && !blk (uR s k))
/-- The first bad unit, if one is. -/
def Out (s : ByteArray) : Option Nat → Prop
  | none => ∃ K, (∀ j, j < K → (uSt s j).1 < s.size ∧ badB s j = false) ∧ ¬ (uSt s K).1 < s.size
  | some k => (∀ j, j < k → (uSt s j).1 < s.size ∧ badB s j = false) ∧ (uSt s k).1 < s.size ∧ badB s k = true
theorem uMono (s : ByteArray) (i : Nat) : ∀ d, (uSt s i).1 ≤ (uSt s (i + d)).1
  | 0 => Nat.le_refl _
  | d + 1 => Nat.le_trans (uMono s i d) (by rw [← Nat.add_assoc, uSt_fst]; omega)
theorem uEnd {s : ByteArray} {K k : Nat} (hK : ¬ (uSt s K).1 < s.size) (hk : (uSt s k).1 < s.size) : k < K := by
  rcases Nat.lt_or_ge k K with h | h
  · exact h
  · have := uMono s K (k - K)
    rw [Nat.add_sub_cancel' h] at this
    omega
theorem out_one {s : ByteArray} : ∀ {a b : Option Nat}, Out s a → Out s b → a = b
  | none, none, _, _ => rfl
  | none, some k, ⟨K, h1, h2⟩, ⟨_, h4, h5⟩ => by have := (h1 k (uEnd h2 h4)).2; rw [this] at h5; cases h5
  | some k, none, ⟨_, h4, h5⟩, ⟨K, h1, h2⟩ => by have := (h1 k (uEnd h2 h4)).2; rw [this] at h5; cases h5
  | some j, some k, ⟨h1, h2, h3⟩, ⟨h4, h5, h6⟩ => by
    rcases Nat.lt_trichotomy j k with h | h | h
    · have := (h4 j h).2; rw [this] at h3; cases h3
    · rw [h]
    · have := (h1 k h).2; rw [this] at h6; cases h6
/-- Does the text from i begin so? -/
theorem extract_get (s : ByteArray) (i j : Nat) (hj : j ≤ s.size) (k : Nat) (hk : i + k < j) : (s.extract i j).get! k = s.get! (i + k) := by
  have h1 : k < (s.extract i j).size := by simp [ByteArray.size_extract]; omega
  have e1 := get_at h1
  have e2 := get_at (s := s) (j := i + k) (by omega)
  have e3 : (s.extract i j)[k] = s[i + k]'(by omega) := by simp [ByteArray.getElem_extract]
  have e4 : (s.extract i j)[k]? = some (s.extract i j)[k] := by simp [h1]
  have e5 : s[i + k]? = some (s[i + k]'(by omega)) := by simp [show i + k < s.size by omega]
  rw [e4] at e1; rw [e5] at e2
  have f1 := Option.some.inj e1
  have f2 := Option.some.inj e2
  rw [← f1, ← f2, e3]
theorem pre3g (s : ByteArray) (i : Nat) (b0 b1 b2 : UInt8) (h : i + 2 < s.size) : ((s.extract i s.size).extract 0 3 = ⟨#[b0, b1, b2]⟩) ↔ (s.get! i = b0 ∧ s.get! (i + 1) = b1 ∧ s.get! (i + 2) = b2) := by
  have hz : (s.extract i s.size).size = s.size - i := by simp [ByteArray.size_extract]
  have hz3 : ((s.extract i s.size).extract 0 3).size = 3 := by simp [ByteArray.size_extract]; omega
  have g : ∀ k, k < 3 → ((s.extract i s.size).extract 0 3).get! k = s.get! (i + k) := fun k hk => by
    rw [extract_get _ 0 3 (by omega) k (by omega), Nat.zero_add, extract_get _ _ _ (Nat.le_refl _) k (by omega)]
  have g0 := g 0 (by decide)
  have g1 := g 1 (by decide)
  have g2 := g 2 (by decide)
  rw [Nat.add_zero] at g0
  constructor
  · intro e
    rw [e] at g0 g1 g2
    exact ⟨g0.symm, g1.symm, g2.symm⟩
  · rintro ⟨h0, h1, h2⟩
    rw [← h0, ← h1, ← h2, ← g0, ← g1, ← g2]
    generalize (s.extract i s.size).extract 0 3 = u at hz3
    rcases u with ⟨d⟩
    have hd : d.size = 3 := hz3
    rcases d with ⟨l⟩
    match l, hd with
    | [x, y, z], _ => rfl
theorem u8eq (b : UInt8) (n : Nat) (c : UInt8) (hc : c.toNat = n) : b = c ↔ b.toNat = n := by
  rw [← hc]; exact UInt8.toNat_inj.symm
theorem pre3 (s : ByteArray) (i : Nat) (h : i + 2 < s.size) : ((s.extract i s.size).extract 0 3 = ⟨#[239, 191, 189]⟩) ↔ ((s.get! i).toNat = 239 ∧ (s.get! (i + 1)).toNat = 191 ∧ (s.get! (i + 2)).toNat = 189) := by
  rw [pre3g s i 239 191 189 h, u8eq _ 239 239 (by decide), u8eq _ 191 191 (by decide), u8eq _ 189 189 (by decide)]
/-- The text from i begins with the sign for bytes that are none, spelt out. -/
def fffd (s : ByteArray) (i : Nat) : Bool := decide (3 ≤ (s.extract i s.size).size) && decide ((s.extract i s.size).extract 0 3 = ⟨#[239, 191, 189]⟩)
theorem fffd_iff (s : ByteArray) (i : Nat) : fffd s i = true ↔ (i + 2 < s.size ∧ (s.get! i).toNat = 239 ∧ (s.get! (i + 1)).toNat = 191 ∧ (s.get! (i + 2)).toNat = 189) := by
  have hz : (s.extract i s.size).size = s.size - i := by simp [ByteArray.size_extract]
  unfold fffd
  rw [Bool.and_eq_true, decide_eq_true_eq, decide_eq_true_eq, hz]
  constructor
  · rintro ⟨h1, h2⟩
    have h : i + 2 < s.size := by omega
    exact ⟨h, (pre3 s i h).1 h2⟩
  · rintro ⟨h1, h2⟩
    exact ⟨by omega, (pre3 s i h1).2 h2⟩
theorem wide_ill {s : ByteArray} {i : Nat} (h : (Utf8.decode s i).1 = 65533) : (Utf8.decode s i).2 = (if fffd s i = true then 3 else 1) ∧ illB s i = !fffd s i := by
  constructor
  · rw [ill_w s i h]
    simp only [fffd_iff]
  · rw [Bool.eq_iff_iff, Bool.not_eq_true', ← Bool.not_eq_true, fffd_iff]
    unfold illB
    rw [h]
    simp only [Bool.and_eq_true, Bool.or_eq_true, decide_eq_true_eq, bne_iff_ne, ne_eq, beq_iff_eq]
    omega
theorem ill_no {s : ByteArray} {i : Nat} (h : (Utf8.decode s i).1 ≠ 65533) : illB s i = false := by
  unfold illB
  have : ((((Utf8.decode s i).1 : Nat) : Int) == 65533) = false := beq_eq_false_iff_ne.2 (by omega)
  rw [this]; rfl
section
variable {P : Program} {w : World} {l : List (Nat × Value)}
theorem d_sliceSH {x hi : Operand} {s : ByteArray} {j : Nat} {k : IntKind} {q : Int} {t ty : TypeId} (hU : P.underlying t = some .string)
    (hx : Ev l x (.string s) := by exact rfl) (hh : Ev l hi (.int k q) := by exact rfl) (hq : q = (j : Int) := by exact rfl) (hj : j ≤ s.size := by omega) :
    Does P l w (.slice t x none (some hi) none) ty (.string (s.extract 0 j)) w := by
  intro ρ hρ d pos af g
  subst hq
  simp [execOp, Instr.sliceAt, Instr.slice, Instr.sliceBounds, run_sliceBound hj, hρ _ _ hx, hρ _ _ hh, run_underlying hU]
end
end Go.Proofs.YtnohefaifbghiaaGreatDoor
end
