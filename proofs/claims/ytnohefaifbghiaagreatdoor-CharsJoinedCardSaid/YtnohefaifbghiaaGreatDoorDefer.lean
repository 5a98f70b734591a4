/- Functions that defer calls of functions: their frames bear the calls. Plain lemmas over any program. -/
import Derived.Test.YtnohefaifbghiaaGreatDoorMk
import Derived.Defers
namespace Go.Proofs.YtnohefaifbghiaaGreatDoor
open Go.RowKit
section
variable {P : Program} {ops : Array Oper} {Q : Exit → Act → World → Prop} {a : Act} {w : World} {N : Nat} {l : List (Nat × Value)} {ds : List Deferred}
/-- Entered as a call, or as a deferred call. -/
theorem enterB {f : FuncId} {fn : Func} {c : Code} {args : List Value} {R : Value → World → Prop} (hf : P.funcs[f]? = some fn) (hb : fn.body = some c) (k : Nat) (hk : fn.ntmps - args.length = k) (N : Nat) (hN : args.length + k = N)
    (h : ∀ a, Fr N (args.zipIdx.map fun p => (p.2, p.1)) a → c.wp P (bodyPost P fn (fun e w' => ∃ v, e = .returned v ∧ R v w')) a w) : Ret P f args.toArray w R ∧ ∀ u, CallsD P f args.toArray u w (fun e u' w' => u' = u ∧ ∃ v, e = .returned v ∧ R v w') := by
  have h2 := h _ (Fr.enter args N k hN)
  subst hk
  have h3 : c.wp P (bodyPost P fn (fun e w' => ∃ v, e = .returned v ∧ R v w')) { tmps := args.toArray ++ Array.replicate (fn.ntmps - args.toArray.size) undef, defers := [] } w := by simpa using h2
  exact ⟨calls_of_wp hf hb h3, fun u => callsD_of_wp hf hb h3⟩
/-- Entered; it may defer. -/
theorem enterDf {f : FuncId} {fn : Func} {c : Code} {args : List Value} {R : Value → World → Prop} (hf : P.funcs[f]? = some fn) (hb : fn.body = some c) (k : Nat) (hk : fn.ntmps - args.length = k) (N : Nat) (hN : args.length + k = N)
    (h : ∀ a, Fr N (args.zipIdx.map fun p => (p.2, p.1)) a → c.wp P (bodyPostD P fn (fun e w' => ∃ v, e = .returned v ∧ R v w')) (withD a []) w) : Ret P f args.toArray w R := by
  have h2 := h _ (Fr.enter args N k hN)
  rw [withD_nil] at h2
  subst hk
  exact calls_of_wp_defers hf hb (by simpa using h2)
theorem n_region (id : Nat) {l' : List Oper} (h : wpList P l'.toArray (fun e a' w' => Q e (withD a' ds) w') l' a w) : (Code.region id l'.toArray false).wp P Q (withD a ds) w :=
  wp_region_lit (list_D (Q := Q) h)
theorem n_cond_t (h : Fr N l a) {c : Operand} {x y : Code} {t : Bool} (hc : Ev l c (.bool t)) (ht : t = true) (hx : x.wp P Q (withD a ds) w) : (Code.cond c x y).wp P Q (withD a ds) w :=
  wp_cond_true (by rw [eval_D h hc, ht]) hx
theorem n_cond_f (h : Fr N l a) {c : Operand} {x y : Code} {t : Bool} (hc : Ev l c (.bool t)) (ht : t = false) (hy : y.wp P Q (withD a ds) w) : (Code.cond c x y).wp P Q (withD a ds) w :=
  wp_cond_false (by rw [eval_D h hc, ht]) hy
/-- The first operations plainly, then the rest with the deferred calls in sight. -/
theorem list_then {l2 : List Oper} : ∀ {l1 : List Oper} {a : Act} {w : World}, wpList P ops (fun e a' w' => e = .normal ∧ wpList P ops Q l2 (withD a' ds) w') l1 a w → wpList P ops Q (l1 ++ l2) (withD a ds) w
  | [], _, _, h => by simp only [wpList] at h; exact h.2
  | o :: l1, a, w, h => by
    simp only [wpList, List.cons_append] at h ⊢
    have ht : (withD a ds).tmps = a.tmps := rfl
    rw [ht]
    split
    · rename_i hw
      rw [if_pos hw] at h
      rcases h with h | ⟨_, x, y, h2⟩
      · exact .inl (oper_D (ds := ds) (Oper.wp_mono (fun a' w' h' => list_then h') (oper_wp_monoQ (Q' := fun e a' w' => e = .normal ∧ wpList P ops Q l2 (withD a' ds) w') (fun e a' w' hn h' => absurd h'.1 hn) h)))
      · exact absurd h2.1 (by simp)
    · rename_i hw
      rw [if_neg hw] at h
      have hp : (withD a ds).put o.dst undef = withD (a.put o.dst undef) ds := by cases o.dst <;> rfl
      rw [hp]
      exact list_then h
/-- A call is deferred. -/
theorem defer_one (h : Fr N l a) {f : FuncId} {xs : List Operand} {vs : List Value} {ats : Array TypeId} {ty : TypeId} {pos : String} {af : Array Edge} (hx : Evs l xs vs) (k : Q .normal (withD a ({ target := .fn (.func f) #[], args := vs.toArray } :: ds)) w) :
    wpList P ops Q [⟨none, .defer { callee := .value (.func f), args := xs.toArray, argTypes := ats }, ty, pos, af, none⟩] (withD a ds) w :=
  wpList_plain rfl fun K hK => by
    unfold Oper.wp
    have hρ : Oper' (withD a ds).eval l := fun x v hv => eval_D h hv
    have e1 : (withD a ds).eval (.func f) = .func (.func f) #[] #[] := rfl
    have e2 := Evs.map hρ hx
    have hr : (execOp (withD a ds).eval ⟨none, .defer { callee := .value (.func f), args := xs.toArray, argTypes := ats }, ty, pos, af, none⟩).run P w = .ok (.defer { target := .fn (.func f) #[], args := vs.toArray }) w := by
      simp [execOp, resolve, Deferred.ofValue, e1, e2]
    rw [hr]
    refine hK _ _ ?_
    have e3 : ({ withD a ds with defers := { target := .fn (.func f) #[], args := vs.toArray } :: (withD a ds).defers } : Act) = withD a ({ target := .fn (.func f) #[], args := vs.toArray } :: ds) := withD_cons h.defers _ _
    have e4 : ({ withD a ds with defers := { target := .fn (.func f) #[], args := vs.toArray } :: (withD a ds).defers } : Act).put none undef = withD a ({ target := .fn (.func f) #[], args := vs.toArray } :: ds) := e3
    rw [e4]
    exact wpList_nil k
end
end Go.Proofs.YtnohefaifbghiaaGreatDoor
