/- Functions that hold a range over a function: their frames bear marks among the deferred calls. Plain lemmas over any program. -/
import Derived.Test.YtnohefaifbghiaaGreatDoorInW
import Derived.RangeFuncLeaves
import Derived.Laws.Small
namespace Go.Proofs.YtnohefaifbghiaaGreatDoor
open Go.RowKit

/-- The frame, with these deferred calls. -/
def withD (a : Act) (ds : List Deferred) : Act := { tmps := a.tmps, defers := a.defers ++ ds }
theorem withD_nil (a : Act) : withD a [] = a := by cases a; simp [withD]
theorem withD_cons {a : Act} (h : a.defers = []) (d : Deferred) (ds : List Deferred) : { withD a ds with defers := d :: (withD a ds).defers } = withD a (d :: ds) := by simp [withD, h]
/-- The mark of a loop. -/
def markD (D : Nat) : Deferred := { target := .collected D, args := #[] }
/-- The world but for these blocks. -/
structure Shut (Ds : List Nat) (w w' : World) : Prop where
  os : w'.os = w.os
  tape : w'.tape = w.tape
  output : w'.output = w.output
  size : w'.heap.size = w.heap.size
  same : ∀ i, i ∉ Ds → w'.heap[i]? = w.heap[i]?
theorem Shut.refl (Ds : List Nat) (w : World) : Shut Ds w w := ⟨rfl, rfl, rfl, rfl, fun _ _ => rfl⟩
theorem Shut.below {Ds : List Nat} {w0 w w' : World} {B : Nat} (h : Shut Ds w w') (hb : Below B w0 w) (hD : ∀ D ∈ Ds, B ≤ D) : Below B w0 w' :=
  hb.trans ⟨h.os, h.tape, h.output, Nat.le_of_eq h.size.symm, fun k hk => h.same k (fun hm => by have := hD k hm; omega)⟩
theorem Shut.cell {Ds : List Nat} {w w' : World} (h : Shut Ds w w') {g i : Nat} (hg : g ∉ Ds) : w'.cell? ⟨g, i, none⟩ = w.cell? ⟨g, i, none⟩ := by
  simp only [World.cell?, h.same g hg]

section
variable {F : Fence} {n : Nat} {P : Program} {ops : Array Oper} {Q : Exit → Act → World → Prop} {a : Act} {w : World} {N : Nat} {l : List (Nat × Value)} {ds : List Deferred}

theorem oper_D {o : Oper} {K : Act → World → Prop} (h : o.wp P a w (fun a' w' => K (withD a' ds) w') (fun e a' w' => Q e (withD a' ds) w')) : o.wp P (withD a ds) w K Q := by
  unfold Oper.wp at *
  have he : (withD a ds).eval = a.eval := funext fun x => by cases x <;> rfl
  rw [he]
  have hp : ∀ v, (withD a ds).put o.dst v = withD (a.put o.dst v) ds := fun v => by cases o.dst <;> rfl
  generalize hr : (execOp a.eval o).run P w = r at *
  cases r with
  | ok x w' =>
    cases x <;> simp only [Oper.upon] at h ⊢
    case value v => rw [hp]; exact h
    case skip => rw [hp]; exact h
    case defer d =>
      have hp2 : ({ withD a ds with defers := d :: (withD a ds).defers } : Act).put o.dst undef = withD (({ a with defers := d :: a.defers } : Act).put o.dst undef) ds := by cases o.dst <;> rfl
      rw [hp2]; exact h
    case enter f args =>
      refine Calls.mono h fun e w'' he => ?_
      cases e with
      | returned v => simp only at he ⊢; rw [hp]; exact he
      | panicked c => exact he
      | outgrown => obtain ⟨x, y, h⟩ := he; exact ⟨_, y, h⟩
    case row row args => exact Rows.mono h fun v w'' he => by rw [hp]; exact he
  | halt x w' =>
    cases x <;> simp only [Oper.upon] at h ⊢
    case panic v => exact h
theorem list_D : ∀ {l : List Oper} {a : Act} {w : World}, wpList P ops (fun e a' w' => Q e (withD a' ds) w') l a w → wpList P ops Q l (withD a ds) w
  | [], _, _, h => h
  | o :: l, a, w, h => by
    simp only [wpList] at h ⊢
    have ht : (withD a ds).tmps = a.tmps := rfl
    rw [ht]
    split
    · rename_i hw
      rw [if_pos hw] at h
      rcases h with h | ⟨h1, x, y, h2⟩
      · exact .inl (oper_D (Oper.wp_mono (fun a' w' h' => list_D h') h))
      · refine .inr ⟨?_, _, y, h2⟩
        unfold Oper.asks at h1 ⊢
        have he : (withD a ds).eval = a.eval := funext fun x => by cases x <;> rfl
        rw [he]; exact h1
    · rename_i hw
      rw [if_neg hw] at h
      have hp : (withD a ds).put o.dst undef = withD (a.put o.dst undef) ds := by cases o.dst <;> rfl
      rw [hp]
      exact list_D h
theorem any_D {md : Region.Mode} : ∀ {fuel : Nat} {listed : Array Bool} {a : Act} {w : World}, wpAny P md ops (fun e a' w' => Q e (withD a' ds) w') fuel listed a w → wpAny P md ops Q fuel listed (withD a ds) w
  | 0, _, _, _, h => h
  | fuel + 1, listed, a, w, h => by
    refine ⟨h.1, fun i hi => ?_⟩
    have h1 := h.2 i hi
    unfold wpOp at h1 ⊢
    cases ho : ops[i]? with
    | none => rw [ho] at h1; exact any_D h1
    | some o =>
      rw [ho] at h1
      simp only at h1 ⊢
      have ht : (withD a ds).tmps = a.tmps := rfl
      rw [ht]
      split
      · rename_i hw
        rw [if_pos hw] at h1
        rcases h1 with h1 | ⟨h2, x, y, h3⟩
        · exact .inl (oper_D (Oper.wp_mono (fun a' w' h' => any_D h') h1))
        · refine .inr ⟨?_, _, y, h3⟩
          unfold Oper.asks at h2 ⊢
          have he : (withD a ds).eval = a.eval := funext fun x => by cases x <;> rfl
          rw [he]; exact h2
      · rename_i hw
        rw [if_neg hw] at h1
        have hp : (withD a ds).put o.dst undef = withD (a.put o.dst undef) ds := by cases o.dst <;> rfl
        rw [hp]
        exact any_D h1
/-! ### control -/
theorem m_region (id : Nat) {l' : List Oper} (hF : IsW F) (hd : l'.all nodefB = true) (h : wpList P l'.toArray (Qx fun e a' w' => Q e (withD a' ds) w') l' a w) : (Code.region id l'.toArray false).wpIn F n P Q (withD a ds) w :=
  i_region id hF hd (list_D (Q := Qx Q) h)
theorem m_cond_t (h : Fr N l a) {c : Operand} {x y : Code} {t : Bool} (hc : Ev l c (.bool t)) (ht : t = true) (hx : x.wpIn F n P Q (withD a ds) w) : (Code.cond c x y).wpIn F n P Q (withD a ds) w :=
  wpIn_cond_true (by have : (withD a ds).eval c = a.eval c := by cases c <;> rfl
                     rw [this, h.eval _ _ hc, ht]) hx
theorem m_cond_f (h : Fr N l a) {c : Operand} {x y : Code} {t : Bool} (hc : Ev l c (.bool t)) (ht : t = false) (hy : y.wpIn F n P Q (withD a ds) w) : (Code.cond c x y).wpIn F n P Q (withD a ds) w :=
  wpIn_cond_false (by have : (withD a ds).eval c = a.eval c := by cases c <;> rfl
                      rw [this, h.eval _ _ hc, ht]) hy
theorem m_region_drawC (C : World → Prop) (id : Nat) {l' : List Oper} (hF : IsW F) (hd : l'.all nodefB = true) (hm : P.follows .mixedOrders = true) (hB : Region.lexB .any l'.toArray = true) (hC : C (w.drewN 1))
    (h : wpQuiet P l'.toArray C (fun a' => ∀ w', C w' → Q .normal (withD a' ds) w') l' a) : (Code.region id l'.toArray true).wpIn F n P Q (withD a ds) w := by
  simp only [Region.lexB, Bool.and_eq_true] at hB
  refine i_any id hF hd hm (any_D (Q := Qx Q) (wpAny_of_quiet (Q := fun a' => ∀ w', C w' → Q .normal (withD a' ds) w') (fun _ w' hw' h => ⟨by simp, h w' hw'⟩) _ _ _ _ hC ?_))
  have := wpAnyQ_lex (C := C) (md := .any) hB.1 l'.toArray.toList 0 (Array.replicate l'.toArray.size false) a (by simp) (by simpa using hB.2) (by simpa using h)
  simpa using this
theorem m_region_draw (id : Nat) {l' : List Oper} (hF : IsW F) (hd : l'.all nodefB = true) (hm : P.follows .mixedOrders = true) (hB : Region.lexB .any l'.toArray = true)
    (h : wpQuiet P l'.toArray (fun w' => ∃ n, w' = w.drewN n) (fun a' => ∀ w', (∃ n, w' = w.drewN n) → Q .normal (withD a' ds) w') l' a) : (Code.region id l'.toArray true).wpIn F n P Q (withD a ds) w :=
  m_region_drawC _ id hF hd hm hB ⟨1, rfl⟩ h
/-- A round's frame: the loop variables in their slots. -/
theorem Fr.round {p0 p1 : Nat} {v0 v1 : Value} (h : Fr N l a) (h0 : Nat.blt p0 N = true) (h1 : Nat.blt p1 N = true) : Fr N ((p1, v1) :: (p0, v0) :: l) { tmps := ((withD a ds).tmps.setIfInBounds p0 v0).setIfInBounds p1 v1, defers := [] } := by
  have h2 := (h.put h0 v0).put h1 v1
  have e : (({ tmps := ((withD a ds).tmps.setIfInBounds p0 v0).setIfInBounds p1 v1, defers := [] } : Act)) = ((a.put (some p0) v0).put (some p1) v1) := by
    have hd := h.defers
    cases a
    simp only at hd
    subst hd
    rfl
  rw [e]; exact h2
theorem round_in {p0 p1 : Nat} {v0 v1 : Value} {C : Code} (h : Fr N l a) (h0 : Nat.blt p0 N = true) (h1 : Nat.blt p1 N = true) (k : ∀ a', Fr N ((p1, v1) :: (p0, v0) :: l) a' → C.wpIn F n P Q a' w) : C.wpIn F n P Q { tmps := ((withD a ds).tmps.setIfInBounds p0 v0).setIfInBounds p1 v1, defers := [] } w :=
  k _ (h.round h0 h1)
theorem mark_more (h : Fr N l a) (D : Nat) (Ds : List Nat) : ({ withD a (Ds.map markD) with defers := { target := .collected D, args := #[] } :: (withD a (Ds.map markD)).defers } : Act) = withD a ((D :: Ds).map markD) := withD_cons h.defers _ _
theorem eval_D (h : Fr N l a) {o : Operand} {v : Value} (he : Ev l o v) : (withD a ds).eval o = v := by
  have : (withD a ds).eval o = a.eval o := by cases o <;> rfl
  rw [this]; exact h.eval _ _ he
/-! ### the way out -/
theorem leaves_marks {fn : Func} {tmps : Array Value} {R : Ending → World → Prop} : ∀ (Ds : List Nat) (w : World), Ds.Nodup → (∀ D ∈ Ds, w.heap[D]? = some (.deferred (some []))) →
    (∀ w', Shut Ds w w' → ∃ v, (results fn tmps).run P w' = .ok v w' ∧ R (.returned v) w') → LeavesInM F n P fn tmps R (Ds.map markD) .returning w
  | [], w, _, _, h => h w (Shut.refl _ w)
  | D :: Ds, w, hn, hD, h => by
    have hD0 := hD D List.mem_cons_self
    have hlt := lt_at hD0
    refine ⟨by simp, .inl ⟨D, _, rfl, run_takeDeferred hD0, leaves_marks Ds _ (List.nodup_cons.1 hn).2 (fun E hE => ?_) (fun w' hw' => h w' ⟨hw'.os, hw'.tape, hw'.output, by rw [hw'.size]; simp, fun i hi => ?_⟩)⟩⟩
    · have hne : E ≠ D := fun e => (List.nodup_cons.1 hn).1 (e ▸ hE)
      rw [World.putObj_heap_other hne]
      exact hD E (List.mem_cons_of_mem _ hE)
    · rw [hw'.same i (fun hm => hi (List.mem_cons_of_mem _ hm)), World.putObj_heap_other (fun e => hi (by subst e; exact List.mem_cons_self))]
theorem m_ret {fn : Func} {R : Ending → World → Prop} {Ds : List Nat} (h : Fr N l a) (hn : Ds.Nodup) (hD : ∀ D ∈ Ds, w.heap[D]? = some (.deferred (some []))) (hR : ∀ w', Shut Ds w w' → ∃ v, (results fn a.tmps).run P w' = .ok v w' ∧ R (.returned v) w') :
    bodyPostM F n P fn R .ret (withD a (Ds.map markD)) w := by
  show LeavesInM F n P fn (withD a (Ds.map markD)).tmps R (withD a (Ds.map markD)).defers .returning w
  have e : (withD a (Ds.map markD)).defers = Ds.map markD := by simp [withD, h.defers]
  rw [e]
  exact leaves_marks Ds w hn hD hR
theorem results_cell1 {fn : Func} {p : Nat} {ty : TypeId} {dd : TypeDesc} {ad : Addr} {v : Value} (h : Fr N l a) (hres : fn.results = #[.cell p ty]) (hU : P.underlying ty = some dd) (h1 : oneCellType dd = true) (hv : look l p = some (.pointer (some ad))) (hc : w.cell? ad = some v) : (results fn a.tmps).run P w = .ok v w := by
  have e1 : a.tmps[p]? = some (.pointer (some ad)) := h.at_ _ _ hv
  have e2 : (loadVar ty ad).run P w = .ok v w := by
    cases dd <;> simp [oneCellType] at h1 <;> simp [loadVar, isAgg, run_underlying hU, hc]
  have e3 : a.tmps[p]?.getD undef = .pointer (some ad) := by simp [e1]
  simp [results, hres, e3, asAddr, e2]
/-- The function is entered. -/
theorem enterM {f : FuncId} {fn : Func} {c : Code} {args : List Value} {R : Value → World → Prop} (hf : P.funcs[f]? = some fn) (hb : fn.body = some c) (k : Nat) (hk : fn.ntmps - args.length = k) (N : Nat) (hN : args.length + k = N)
    (h : ∀ a, Fr N (args.zipIdx.map fun p => (p.2, p.1)) a → c.wpIn Fence.wide 9 P (bodyPostM Fence.wide 9 P fn (fun e w' => ∃ v, e = .returned v ∧ R v w')) (withD a []) w) : Ret P f args.toArray w R := by
  refine callsIn_wide.1 (callsIn_of_wp_marks (n := 9) hf hb trivial ?_ rfl)
  have := Fr.enter args N k hN
  have h2 := h _ this
  rw [withD_nil] at h2
  simpa [hk] using h2
/-! ### functions, the least and the greatest -/
def isFnT (d : TypeDesc) : Bool := match d with | .func _ _ _ => true | _ => false
theorem run_equalIn_func (d : Nat) {t : TypeId} {f : Fn} {xs ys : Array Value} (hU : (P.underlying t).map isFnT = some true) : (Op.equalIn (d + 1) t (.func f xs ys) .nilFunc).run P w = .ok false w := by
  obtain ⟨dd, hU, hd⟩ := Option.map_eq_some_iff.1 hU
  cases dd <;> simp [isFnT] at hd <;> simp [Op.equalIn, run_underlying hU]
theorem d_eqF {x : Operand} {f : Fn} {xs ys : Array Value} {t t' ty : TypeId} (hU : (P.underlying t).map isFnT = some true) (hx : Ev l x (.func f xs ys) := by exact rfl) : Does P l w (.binOp .eql t x (.const .nilFunc) t') ty (.bool false) w := by
  intro ρ hρ d pos af g
  have e1 : ρ (.const .nilFunc) = .nilFunc := hρ _ _ rfl
  have h : (Op.equal t (.func f xs ys) .nilFunc).run P w = .ok false w := run_equalIn_func 9999 hU
  have e2 : (eqGuard .eql t x (.const .nilFunc) (.func f xs ys) .nilFunc).run P w = .ok () w := rfl
  simp only [execOp, hρ _ _ hx, e1, Sem.run_bind, e2, Result.andThen_ok]
  show ((do pure (Value.bool (← Op.equal t (.func f xs ys) .nilFunc)) : Sem Value).run P w).andThen _ = _
  rw [Sem.run_bind, h]; rfl
theorem d_maxv {x y : Operand} {k k' : IntKind} {m p v : Int} {t t' ty : TypeId} (hv : (if m < p then p else m) = v) (hx : Ev l x (.int k m) := by exact rfl) (hy : Ev l y (.int k' p) := by exact rfl) : Does P l w (.call { callee := .builtin .max, args := [x, y].toArray, argTypes := [t, t'].toArray }) ty (.int k v) w := by subst hv; exact d_max hx hy
theorem d_minv {x y : Operand} {k k' : IntKind} {m p v : Int} {t t' ty : TypeId} (hv : (if p < m then p else m) = v) (hx : Ev l x (.int k m) := by exact rfl) (hy : Ev l y (.int k' p) := by exact rfl) : Does P l w (.call { callee := .builtin .min, args := [x, y].toArray, argTypes := [t, t'].toArray }) ty (.int k v) w := by subst hv; exact d_min hx hy
end
theorem grown_more {w w1 w2 : World} {row r : Option Nat} (h : w.grownBy w1 row) (k : w1.grownBy w2 r) (hr : ∀ q, r = some q → row = some q ∨ w.heap.size ≤ q) : w.grownBy w2 row :=
  ⟨k.os.trans h.os, k.tape.trans h.tape, k.output.trans h.output, Nat.le_trans h.size k.size, fun i hi hne => (k.block i (by have := h.size; omega) (fun e => by
    rcases hr i e.symm with q | q
    · exact hne q.symm
    · omega)).trans (h.block i hi hne)⟩
theorem below_grown {w w' : World} (h : w.grownBy w' none) : Below w.heap.size w w' := (Below.refl _ w).grown h (Nat.le_refl _) (fun k hk => by cases hk)
end Go.Proofs.YtnohefaifbghiaaGreatDoor
