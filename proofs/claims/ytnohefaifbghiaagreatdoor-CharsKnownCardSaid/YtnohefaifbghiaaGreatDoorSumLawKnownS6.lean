/- Laid together by a program of mine: Defer Lock. -/
import Derived.Test.YtnohefaifbghiaaGreatDoorSumLawKnownS5
import Derived.Defers
set_option linter.unusedSimpArgs false
set_option linter.unusedVariables false
section
/- Functions that defer calls of functions: their frames bear the calls. Plain lemmas over any program. -/
namespace Go.Proofs.YtnohefaifbghiaaGreatDoor
open Go.RowKit
section
variable {P : Program} {ops : Array Oper} {Q : Exit → Act → World → Prop} {a : Act} {w : World} {N : Nat} {l : List (Nat × Value)} {ds : List Deferred}
/-- Entered as a call, or as a deferred call. -/
theorem enterB {f : FuncId} {fn : Func} {c : Code} {args : List Value} {R : Value → World → Prop} (hf : P.funcs[f]? = some fn) (hb : fn.body = some c) (k : Nat) (hk : fn.ntmps - args.length = k) (N : Nat) (hN : args.length + k = N)
    (h : ∀ a, Fr N (args.zipIdx.map fun p => (p.2, p.1)) a → c.wp P (bodyPost P fn (fun e w' => ∃ v, e = .returned v ∧ R v w')) a w) : Ret P f args.toArray w R ∧ ∀ u, CallsD P f args.toArray u w (fun e u' w' => u' = u ∧ ∃ v, e = .returned v ∧ R v w') := by
  have h2 := h _ (Fr.enter args N k hN)
  subst hk
  have h3 : c.wp P (bodyPost P fn (fun e w' => ∃ v, e = .returned v ∧ R v w')) { tmps := args.toArray ++ Array.replicate (fn.ntmps - args.toArray.size) undef, defers := [] } w := by simpa using h2
  exact ⟨calls_of_wp hf hb h3, fun u => callsD_of_wp hf hb h3⟩
/-- Entered; it may defer. -/
theorem enterDf {f : FuncId} {fn : Func} {c : Code} {args : List Value} {R : Value → World → Prop} (hf : P.funcs[f]? = some fn) (hb : fn.body = some c) (k : Nat) (hk : fn.ntmps - args.length = k) (N : Nat) (hN : args.length + k = N)
    (h : ∀ a, Fr N (args.zipIdx.map fun p => (p.2, p.1)) a → c.wp P (bodyPostD P fn (fun e w' => ∃ v, e = .returned v ∧ R v w')) (withD a []) w) : Ret P f args.toArray w R := by
  have h2 := h _ (Fr.enter args N k hN)
  rw [withD_nil] at h2
  subst hk
  exact calls_of_wp_defers hf hb (by simpa using h2)
theorem n_region (id : Nat) {l' : List Oper} (h : wpList P l'.toArray (fun e a' w' => Q e (withD a' ds) w') l' a w) : (Code.region id l'.toArray false).wp P Q (withD a ds) w :=
  wp_region_lit (list_D (Q := Q) h)
theorem n_cond_t (h : Fr N l a) {c : Operand} {x y : Code} {t : Bool} (hc : Ev l c (.bool t)) (ht : t = true) (hx : x.wp P Q (withD a ds) w) : (Code.cond c x y).wp P Q (withD a ds) w :=
  wp_cond_true (by rw [eval_D h hc, ht]) hx
theorem n_cond_f (h : Fr N l a) {c : Operand} {x y : Code} {t : Bool} (hc : Ev l c (.bool t)) (ht : t = false) (hy : y.wp P Q (withD a ds) w) : (Code.cond c x y).wp P Q (withD a ds) w :=
  wp_cond_false (by rw [eval_D h hc, ht]) hy
/-- The first operations plainly, then the rest with the deferred calls in sight. -/
theorem list_then {l2 : List Oper} : ∀ {l1 : List Oper} {a : Act} {w : World}, wpList P ops (fun e a' w' => e = .normal ∧ wpList P ops Q l2 (withD a' ds) w') l1 a w → wpList P ops Q (l1 ++ l2) (withD a ds) w
  | [], _, _, h => by simp only [wpList] at h; exact h.2
  | o :: l1, a, w, h => by
    simp only [wpList, List.cons_append] at h ⊢
    have ht : (withD a ds).tmps = a.tmps := rfl
    rw [ht]
    split
    · rename_i hw
      rw [if_pos hw] at h
      rcases h with h | ⟨_, x, y, h2⟩
      · exact .inl (oper_D (ds := ds) (Oper.wp_mono (fun a' w' h' => list_then h') (oper_wp_monoQ (Q' := fun e a' w' => e = .normal ∧ wpList P ops Q l2 (withD a' ds) w') (fun e a' w' hn h' => absurd h'.1 hn) h)))
      · exact absurd h2.1 (by simp)
    · rename_i hw
      rw [if_neg hw] at h
      have hp : (withD a ds).put o.dst undef = withD (a.put o.dst undef) ds := by cases o.dst <;> rfl
      rw [hp]
      exact list_then h
/-- A call is deferred. -/
theorem defer_one (h : Fr N l a) {f : FuncId} {xs : List Operand} {vs : List Value} {ats : Array TypeId} {ty : TypeId} {pos : String} {af : Array Edge} (hx : Evs l xs vs) (k : Q .normal (withD a ({ target := .fn (.func f) #[], args := vs.toArray } :: ds)) w) :
    wpList P ops Q [⟨none, .defer { callee := .value (.func f), args := xs.toArray, argTypes := ats }, ty, pos, af, none⟩] (withD a ds) w :=
  wpList_plain rfl fun K hK => by
    unfold Oper.wp
    have hρ : Oper' (withD a ds).eval l := fun x v hv => eval_D h hv
    have e1 : (withD a ds).eval (.func f) = .func (.func f) #[] #[] := rfl
    have e2 := Evs.map hρ hx
    have hr : (execOp (withD a ds).eval ⟨none, .defer { callee := .value (.func f), args := xs.toArray, argTypes := ats }, ty, pos, af, none⟩).run P w = .ok (.defer { target := .fn (.func f) #[], args := vs.toArray }) w := by
      simp [execOp, resolve, Deferred.ofValue, e1, e2]
    rw [hr]
    refine hK _ _ ?_
    have e3 : ({ withD a ds with defers := { target := .fn (.func f) #[], args := vs.toArray } :: (withD a ds).defers } : Act) = withD a ({ target := .fn (.func f) #[], args := vs.toArray } :: ds) := withD_cons h.defers _ _
    have e4 : ({ withD a ds with defers := { target := .fn (.func f) #[], args := vs.toArray } :: (withD a ds).defers } : Act).put none undef = withD a ({ target := .fn (.func f) #[], args := vs.toArray } :: ds) := e3
    rw [e4]
    exact wpList_nil k
end
end Go.Proofs.YtnohefaifbghiaaGreatDoor
end
section
/- sync.Mutex and atomic.Bool of one goroutine: walked. -/
namespace Go.Proofs.YtnohefaifbghiaaGreatDoor
open Go.RowKit
set_option linter.unusedSimpArgs false
set_option linter.unusedVariables false
attribute [local irreducible] wpList wpQuiet wpStill Code.wp Exit.then Exit.inBlock bodyPost Calls Does Does0
set_option maxRecDepth 100000
theorem x_disable (w : World) : (callFunc 64 (List.toArray [])).run Tryz.prog w = .ok (.value (.tuple #[])) w := run_call_mark0 Tryz.func64 (by kernel_rfl) (by kernel_rfl) (by kernel_rfl) .disable (by kernel_rfl) w
theorem x_enable (w : World) : (callFunc 66 (List.toArray [])).run Tryz.prog w = .ok (.value (.tuple #[])) w := run_call_mark0 Tryz.func66 (by kernel_rfl) (by kernel_rfl) (by kernel_rfl) .enable (by kernel_rfl) w
theorem x_acquire (a : Addr) (w : World) : (callFunc 67 [.pointer (some a)].toArray).run Tryz.prog w = .ok (.value (.tuple #[])) w := run_call_marked Tryz.func67 (by kernel_rfl) (by kernel_rfl) (by kernel_rfl) .acquire (by kernel_rfl) a w
theorem x_release (a : Addr) (w : World) : (callFunc 69 [.pointer (some a)].toArray).run Tryz.prog w = .ok (.value (.tuple #[])) w := run_call_marked Tryz.func69 (by kernel_rfl) (by kernel_rfl) (by kernel_rfl) .releaseMerge (by kernel_rfl) a w
/-- '(*atomic.Bool).Load'. -/
theorem load_ok (w : World) (b o : Nat) (x : Int) (hc : w.cell? ⟨b, o, none⟩ = some (.int .u32 x)) : Ret Tryz.prog 48 #[.pointer (some ⟨b, o, none⟩)] w (fun v w' => v = .bool (x != 0) ∧ w' = w) := by
  have hl := run_call_load (P := Tryz.prog) Tryz.func52 (by kernel_rfl) (by kernel_rfl) (by kernel_rfl) .u32 (by kernel_rfl) hc
  refine enter1 Tryz.func48 rfl 7 rfl 8 rfl (fun a hF => ?_)
  repeat (first | refine c_seq ?_ | refine c_block ?_ | refine c_region _ ?_ | refine wpList_nil ?_ | refine c_then ?_ | refine c_then_exit ?_ | refine c_then_ret ?_ | refine c_in ?_ | refine c_in_ret ?_ | refine c_in_hit ?_ | refine wp_skip ?_ | refine wp_exit ?_ | refine wp_ret ?_ | refine c_in_miss rfl ?_ | ((first | apply st hF | apply stg hF | apply s_step hF | apply s_stg hF); (first | exact d_move | exact d_assign | exact d_cmpT | exact d_cmpF | exact d_cmp | exact d_eqbT (und _ _ rfl) | exact d_eqbF (und _ _ rfl) | exact d_eqb (und _ _ rfl) | exact d_eqST | exact d_eqSF | exact d_eqS | exact d_nilCheck | exact d_fieldAddr (fld _ _ _ _ rfl) (isz _ _ rfl) | exact d_eqN (ifc _ rfl) | exact d_neN (ifc _ rfl) | exact d_ext hl ⟨rfl, trivial⟩); clear hF; clear a; intro a hF) | ((first | apply stm hF | apply stu hF); clear hF; clear a; intro a hF) | (apply c_cond_t hF; exact rfl; first | exact rfl | assumption) | (apply c_cond_f hF; exact rfl; first | exact rfl | assumption) | refine s_nil ?_)
  exact ret1 hF rfl rfl ⟨rfl, rfl⟩
/-- '(*Mutex).Lock', the lock free. -/
theorem ilock_ok (w : World) (b o : Nat) (hc : w.cell? ⟨b, o, none⟩ = some (.int .i32 0)) (hz : w.frozen? ⟨b, o, none⟩ = false) : Ret Tryz.prog 58 #[.pointer (some ⟨b, o, none⟩)] w (fun v w' => v = .tuple #[] ∧ w' = w.setCell ⟨b, o, none⟩ (.int .i32 1)) := by
  have hcas := run_call_cas_hit (P := Tryz.prog) Tryz.func65 (by kernel_rfl) (by kernel_rfl) (by kernel_rfl) .i32 (by kernel_rfl) (y := 1) hc hz
  have hc1 : (w.setCell ⟨b, o, none⟩ (.int .i32 1)).cell? ⟨b, o, none⟩ = some (.int .i32 1) := World.cell?_setCell_same w _ _ hc
  refine enter1 Tryz.func58 rfl 12 rfl 13 rfl (fun a hF => ?_)
  repeat (first | refine c_seq ?_ | refine c_block ?_ | refine c_region _ ?_ | refine wpList_nil ?_ | refine c_then ?_ | refine c_then_exit ?_ | refine c_then_ret ?_ | refine c_in ?_ | refine c_in_ret ?_ | refine c_in_hit ?_ | refine wp_skip ?_ | refine wp_exit ?_ | refine wp_ret ?_ | refine c_in_miss rfl ?_ | ((first | apply st hF | apply stg hF | apply s_step hF | apply s_stg hF); (first | exact d_move | exact d_nilCheck | exact d_fieldAddr (fld _ _ _ _ rfl) (isz _ _ rfl) | exact d_ext (x_disable w) trivial | exact d_ext hcas ⟨rfl, rfl, rfl, trivial⟩ | exact d_ext (x_enable _) trivial | exact d_unsafe (und _ _ rfl) Tryz.underlying60 (by kernel_rfl) hc1 | exact d_ext (x_acquire _ _) ⟨rfl, trivial⟩); clear hF; clear a; intro a hF) | ((first | apply stm hF | apply stu hF); clear hF; clear a; intro a hF) | (apply c_cond_t hF; exact rfl; first | exact rfl | assumption) | (apply c_cond_f hF; exact rfl; first | exact rfl | assumption) | refine s_nil ?_)
  exact ret0 hF rfl ⟨rfl, rfl⟩
theorem lock_ok (w : World) (b o : Nat) (hc : w.cell? ⟨b, o, none⟩ = some (.int .i32 0)) (hz : w.frozen? ⟨b, o, none⟩ = false) : Ret Tryz.prog 53 #[.pointer (some ⟨b, o, none⟩)] w (fun v w' => v = .tuple #[] ∧ w' = w.setCell ⟨b, o, none⟩ (.int .i32 1)) := by
  refine enter1 Tryz.func53 rfl 5 rfl 6 rfl (fun a hF => ?_)
  repeat (first | refine c_seq ?_ | refine c_block ?_ | refine c_region _ ?_ | refine wpList_nil ?_ | refine c_then ?_ | refine c_then_exit ?_ | refine c_then_ret ?_ | refine c_in ?_ | refine c_in_ret ?_ | refine c_in_hit ?_ | refine wp_skip ?_ | refine wp_exit ?_ | refine wp_ret ?_ | refine c_in_miss rfl ?_ | ((first | apply st hF | apply stg hF | apply s_step hF | apply s_stg hF); (first | exact d_move | exact d_nilCheck | exact d_fieldAddr (fld _ _ _ _ rfl) (isz _ _ rfl)); clear hF; clear a; intro a hF) | ((first | apply stm hF | apply stu hF); clear hF; clear a; intro a hF) | (apply c_cond_t hF; exact rfl; first | exact rfl | assumption) | (apply c_cond_f hF; exact rfl; first | exact rfl | assumption) | refine s_nil ?_)
  refine stc hF (ilock_ok w b o hc hz) cal58 ⟨rfl, trivial⟩ (k := fun a v w1 hR hF => ?_)
  obtain ⟨rfl, rfl⟩ := hR
  repeat (first | refine c_seq ?_ | refine c_block ?_ | refine c_region _ ?_ | refine wpList_nil ?_ | refine c_then ?_ | refine c_then_exit ?_ | refine c_then_ret ?_ | refine c_in ?_ | refine c_in_ret ?_ | refine c_in_hit ?_ | refine wp_skip ?_ | refine wp_exit ?_ | refine wp_ret ?_ | refine c_in_miss rfl ?_ | ((first | apply st hF | apply stg hF | apply s_step hF | apply s_stg hF); (first | exact d_move | exact d_nilCheck | exact d_fieldAddr (fld _ _ _ _ rfl) (isz _ _ rfl)); clear hF; clear a; intro a hF) | ((first | apply stm hF | apply stu hF); clear hF; clear a; intro a hF) | (apply c_cond_t hF; exact rfl; first | exact rfl | assumption) | (apply c_cond_f hF; exact rfl; first | exact rfl | assumption) | refine s_nil ?_)
  exact ret0' hF rfl ⟨rfl, rfl⟩
/-- '(*Mutex).Unlock', held, nobody waits. -/
theorem iunlock_ok (w : World) (b o : Nat) (hc : w.cell? ⟨b, o, none⟩ = some (.int .i32 1)) (hz : w.frozen? ⟨b, o, none⟩ = false) : Ret Tryz.prog 59 #[.pointer (some ⟨b, o, none⟩)] w (fun v w' => v = .tuple #[] ∧ w' = w.setCell ⟨b, o, none⟩ (.int .i32 0)) := by
  obtain ⟨z, hz0, hadd⟩ : ∃ z : Int, z = 0 ∧ (callFunc 70 #[.pointer (some ⟨b, o, none⟩), .int .i32 (-1)]).run Tryz.prog w = .ok (.value (.int .i32 z)) (w.setCell ⟨b, o, none⟩ (.int .i32 z)) := ⟨0, rfl, run_call_add (P := Tryz.prog) Tryz.func70 (by kernel_rfl) (by kernel_rfl) (by kernel_rfl) .i32 (by kernel_rfl) (y := -1) (s := 0) hc hz (by simp [go_sem]; rfl)⟩
  refine enter1 Tryz.func59 rfl 20 rfl 21 rfl (fun a hF => ?_)
  repeat (first | refine c_seq ?_ | refine c_block ?_ | refine c_region _ ?_ | refine wpList_nil ?_ | refine c_then ?_ | refine c_then_exit ?_ | refine c_then_ret ?_ | refine c_in ?_ | refine c_in_ret ?_ | refine c_in_hit ?_ | refine wp_skip ?_ | refine wp_exit ?_ | refine wp_ret ?_ | refine c_in_miss rfl ?_ | ((first | apply st hF | apply stg hF | apply s_step hF | apply s_stg hF); (first | exact d_move | exact d_assign | exact d_cmpT | exact d_cmpF | exact d_cmp | exact d_eqbT (und _ _ rfl) | exact d_eqbF (und _ _ rfl) | exact d_eqb (und _ _ rfl) | exact d_eqST | exact d_eqSF | exact d_eqS | exact d_nilCheck | exact d_fieldAddr (fld _ _ _ _ rfl) (isz _ _ rfl) | exact d_eqN (ifc _ rfl) | exact d_neN (ifc _ rfl) | exact d_unsafe (und _ _ rfl) Tryz.underlying60 (by kernel_rfl) hc | exact d_ext (x_release _ _) ⟨rfl, trivial⟩ | exact d_ext (x_disable w) trivial | exact d_ext hadd ⟨rfl, rfl, trivial⟩ | exact d_ext (x_enable _) trivial | exact d_load (und _ _ rfl) hc); clear hF; clear a; intro a hF) | ((first | apply stm hF | apply stu hF); clear hF; clear a; intro a hF) | (apply c_cond_t hF; exact rfl; first | exact rfl | assumption) | (apply c_cond_f hF; exact rfl; first | exact rfl | assumption) | refine s_nil ?_)
  exact ret0' hF rfl ⟨rfl, by rw [hz0]⟩
theorem unlock_ok (w : World) (b o : Nat) (hc : w.cell? ⟨b, o, none⟩ = some (.int .i32 1)) (hz : w.frozen? ⟨b, o, none⟩ = false) : Ret Tryz.prog 54 [.pointer (some ⟨b, o, none⟩)].toArray w (fun v w' => v = .tuple #[] ∧ w' = w.setCell ⟨b, o, none⟩ (.int .i32 0)) ∧ ∀ u, CallsD Tryz.prog 54 [.pointer (some ⟨b, o, none⟩)].toArray u w (fun e u' w' => u' = u ∧ ∃ v, e = .returned v ∧ (v = .tuple #[] ∧ w' = w.setCell ⟨b, o, none⟩ (.int .i32 0))) := by
  refine enterB Tryz.func54 rfl 5 rfl 6 rfl (fun a hF => ?_)
  replace hF : Fr 6 [(0, .pointer (some ⟨b, o, none⟩))] a := hF
  repeat (first | refine c_seq ?_ | refine c_block ?_ | refine c_region _ ?_ | refine wpList_nil ?_ | refine c_then ?_ | refine c_then_exit ?_ | refine c_then_ret ?_ | refine c_in ?_ | refine c_in_ret ?_ | refine c_in_hit ?_ | refine wp_skip ?_ | refine wp_exit ?_ | refine wp_ret ?_ | refine c_in_miss rfl ?_ | ((first | apply st hF | apply stg hF | apply s_step hF | apply s_stg hF); (first | exact d_move | exact d_nilCheck | exact d_fieldAddr (fld _ _ _ _ rfl) (isz _ _ rfl)); clear hF; clear a; intro a hF) | ((first | apply stm hF | apply stu hF); clear hF; clear a; intro a hF) | (apply c_cond_t hF; exact rfl; first | exact rfl | assumption) | (apply c_cond_f hF; exact rfl; first | exact rfl | assumption) | refine s_nil ?_)
  refine stc hF (iunlock_ok w b o hc hz) cal59 ⟨rfl, trivial⟩ (k := fun a v w1 hR hF => ?_)
  obtain ⟨rfl, rfl⟩ := hR
  repeat (first | refine c_seq ?_ | refine c_block ?_ | refine c_region _ ?_ | refine wpList_nil ?_ | refine c_then ?_ | refine c_then_exit ?_ | refine c_then_ret ?_ | refine c_in ?_ | refine c_in_ret ?_ | refine c_in_hit ?_ | refine wp_skip ?_ | refine wp_exit ?_ | refine wp_ret ?_ | refine c_in_miss rfl ?_ | ((first | apply st hF | apply stg hF | apply s_step hF | apply s_stg hF); (first | exact d_move | exact d_nilCheck | exact d_fieldAddr (fld _ _ _ _ rfl) (isz _ _ rfl)); clear hF; clear a; intro a hF) | ((first | apply stm hF | apply stu hF); clear hF; clear a; intro a hF) | (apply c_cond_t hF; exact rfl; first | exact rfl | assumption) | (apply c_cond_f hF; exact rfl; first | exact rfl | assumption) | refine s_nil ?_)
  exact ret0' hF rfl ⟨rfl, rfl⟩
theorem b32_ok (w : World) : Ret Tryz.prog 61 #[.bool true] w (fun v w' => v = .int .u32 1 ∧ w' = w) := by
  refine enter1 Tryz.func61 rfl 3 rfl 4 rfl (fun a hF => ?_)
  repeat (first | refine c_seq ?_ | refine c_block ?_ | refine c_region _ ?_ | refine wpList_nil ?_ | refine c_then ?_ | refine c_then_exit ?_ | refine c_then_ret ?_ | refine c_in ?_ | refine c_in_ret ?_ | refine c_in_hit ?_ | refine wp_skip ?_ | refine wp_exit ?_ | refine wp_ret ?_ | refine c_in_miss rfl ?_ | ((first | apply st hF | apply stg hF | apply s_step hF | apply s_stg hF); (first | exact d_move | exact d_assign); clear hF; clear a; intro a hF) | ((first | apply stm hF | apply stu hF); clear hF; clear a; intro a hF) | (apply c_cond_t hF; exact rfl; first | exact rfl | assumption) | (apply c_cond_f hF; exact rfl; first | exact rfl | assumption) | refine s_nil ?_)
  exact ret1 hF rfl rfl ⟨rfl, rfl⟩
theorem store_ok (w : World) (b o : Nat) (x : Value) (hc : w.cell? ⟨b, o, none⟩ = some x) (hz : w.frozen? ⟨b, o, none⟩ = false) : Ret Tryz.prog 55 [.pointer (some ⟨b, o, none⟩), .bool true].toArray w (fun v w' => v = .tuple #[] ∧ w' = (w.drewN 1).setCell ⟨b, o, none⟩ (.int .u32 1)) ∧ ∀ u, CallsD Tryz.prog 55 [.pointer (some ⟨b, o, none⟩), .bool true].toArray u w (fun e u' w' => u' = u ∧ ∃ v, e = .returned v ∧ (v = .tuple #[] ∧ w' = (w.drewN 1).setCell ⟨b, o, none⟩ (.int .u32 1))) := by
  have hst := run_call_store (P := Tryz.prog) Tryz.func60 (by kernel_rfl) (by kernel_rfl) (by kernel_rfl) (by kernel_rfl) (k := .u32) (y := 1) (w := w.drewN 1) hc hz
  refine enterB Tryz.func55 rfl 8 rfl 10 rfl (fun a hF => ?_)
  replace hF : Fr 10 [(0, .pointer (some ⟨b, o, none⟩)), (1, .bool true)] a := hF
  repeat (first | (refine c_region_mix (fun _ => True) [(0, true), (1, true), (2, true), (3, true), (4, false), (5, false)] _ mixed (by kernel_rfl) trivial ?_; simp only [pickX, List.filterMap_cons, List.getElem?_cons_zero, List.getElem?_cons_succ, List.filterMap_nil, Option.map_some]) | refine c_seq ?_ | refine c_block ?_ | refine c_region _ ?_ | refine wpList_nil ?_ | refine c_then ?_ | refine c_then_exit ?_ | refine c_then_ret ?_ | refine c_in ?_ | refine c_in_ret ?_ | refine c_in_hit ?_ | refine wp_skip ?_ | refine wp_exit ?_ | refine wp_ret ?_ | refine c_in_miss rfl ?_ | (refine q_nil ?_; rintro _ ⟨ndr, rfl⟩) | refine c_region_draw _ mixed (by kernel_rfl) ?_ | ((first | apply st hF | apply stg hF | apply s_step hF | apply s_stg hF); (first | exact d_move | exact d_nilCheck | exact d_fieldAddr (fld _ _ _ _ rfl) (isz _ _ rfl)); clear hF; clear a; intro a hF) | ((first | apply q_step hF | apply q_stg hF); intro wq hwq; (first | exact d_move | exact d_nilCheck | exact d_fieldAddr (fld _ _ _ _ rfl) (isz _ _ rfl)); clear hF; clear a; intro a hF) | ((first | apply stm hF | apply stu hF | apply q_stm hF | apply q_stu hF); clear hF; clear a; intro a hF) | (apply c_cond_t hF; exact rfl; first | exact rfl | assumption) | (apply c_cond_f hF; exact rfl; first | exact rfl | assumption) | refine s_nil ?_)
  repeat (first | ((first | apply x_step hF | apply x_stg hF); intro wq hwq; (first | exact d_move | exact d_nilCheck | exact d_fieldAddr (fld _ _ _ _ rfl) (isz _ _ rfl)); clear hF; clear a; intro a hF) | ((first | apply x_stm hF | apply x_stu hF); clear hF; clear a; intro a hF))
  refine x_one ?_
  refine stc hF (b32_ok _) cal61 ⟨rfl, trivial⟩ (k := fun a v w1 hR hF => ?_)
  obtain ⟨rfl, rfl⟩ := hR
  refine wpList_nil ⟨rfl, trivial, ?_⟩
  refine x_one ?_
  refine st hF (d_ext hst ⟨rfl, rfl, trivial⟩) rfl (fun a hF => ?_)
  refine wpList_nil ⟨rfl, trivial, x_nil ?_⟩
  repeat (first | refine c_seq ?_ | refine c_block ?_ | refine c_region _ ?_ | refine wpList_nil ?_ | refine c_then ?_ | refine c_then_exit ?_ | refine c_then_ret ?_ | refine c_in ?_ | refine c_in_ret ?_ | refine c_in_hit ?_ | refine wp_skip ?_ | refine wp_exit ?_ | refine wp_ret ?_ | refine c_in_miss rfl ?_ | (refine q_nil ?_; rintro _ ⟨ndr, rfl⟩) | refine c_region_draw _ mixed (by kernel_rfl) ?_ | ((first | apply st hF | apply stg hF | apply s_step hF | apply s_stg hF); (first | exact d_move | exact d_nilCheck | exact d_fieldAddr (fld _ _ _ _ rfl) (isz _ _ rfl)); clear hF; clear a; intro a hF) | ((first | apply q_step hF | apply q_stg hF); intro wq hwq; (first | exact d_move | exact d_nilCheck | exact d_fieldAddr (fld _ _ _ _ rfl) (isz _ _ rfl)); clear hF; clear a; intro a hF) | ((first | apply stm hF | apply stu hF | apply q_stm hF | apply q_stu hF); clear hF; clear a; intro a hF) | (apply c_cond_t hF; exact rfl; first | exact rfl | assumption) | (apply c_cond_f hF; exact rfl; first | exact rfl | assumption) | refine s_nil ?_)
  exact ret0' hF rfl ⟨rfl, rfl⟩
end Go.Proofs.YtnohefaifbghiaaGreatDoor
end
