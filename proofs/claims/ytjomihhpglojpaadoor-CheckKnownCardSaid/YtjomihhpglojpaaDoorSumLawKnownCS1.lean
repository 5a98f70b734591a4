/- Laid together by a program of mine: Fr Ops. -/
import Derived.WalkKit
import Derived.Deep.LoopGhost
import Derived.Deep.Quiet
import Derived.Lib.Hide
set_option linter.unusedSimpArgs false
set_option linter.unusedVariables false
section
/- A frame known by some of its slots: the walk's steps, one lemma an operation. Plain lemmas over any program; nothing of the seat's own. -/
namespace Go.Proofs.YtjomihhpglojpaaDoor
open Go.RowKit

/-- The world after some draws. -/
def Dr (w w' : World) : Prop := ∃ n, w' = w.drewN n
theorem Dr.refl (w : World) : Dr w w := ⟨0, rfl⟩
theorem Dr.trans {a b c : World} (h : Dr a b) (k : Dr b c) : Dr a c := by
  obtain ⟨n, rfl⟩ := h; obtain ⟨m, rfl⟩ := k
  exact ⟨n + m, by simp [World.drewN, Nat.add_assoc]⟩
theorem Dr.more {a b : World} (h : Dr a b) (n : Nat) : Dr a (b.drewN n) := h.trans ⟨n, rfl⟩
theorem Dr.below {w w' : World} (h : Dr w w') (B : Nat) : Below B w w' := by
  obtain ⟨n, rfl⟩ := h
  exact ⟨rfl, rfl, rfl, Nat.le_refl _, fun _ _ => rfl⟩
theorem below_more {B : Nat} {a b : World} (h : Below B a b) (n : Nat) : Below B a (b.drewN n) := h.trans (Dr.below ⟨n, rfl⟩ B)

/-- What a listed slot holds. -/
def look : List (Nat × Value) → Nat → Option Value
  | [], _ => none
  | (s, v) :: l, t => bif Nat.beq s t then some v else look l t

/-- The frame: as many slots as N, no deferred calls, the listed slots hold the listed values. -/
structure Fr (N : Nat) (l : List (Nat × Value)) (a : Act) : Prop where
  defers : a.defers = []
  size : a.tmps.size = N
  at_ : ∀ t v, look l t = some v → a.tmps[t]? = some v

/-- What an operand comes to. -/
def Ev (l : List (Nat × Value)) : Operand → Value → Prop
  | .tmp t, v => look l t = some v
  | .const c, v => c = v
  | .global g, v => Value.pointer (some ⟨g, 0, none⟩) = v
  | .func f, v => Value.func (.func f) #[] #[] = v

def Oper' (ρ : Operand → Value) (l : List (Nat × Value)) : Prop := ∀ x v, Ev l x v → ρ x = v

theorem Fr.eval {N : Nat} {l : List (Nat × Value)} {a : Act} (h : Fr N l a) : Oper' a.eval l := by
  intro x v hx
  cases x with
  | tmp t => simp [Act.eval, h.at_ t v hx]
  | const c => exact hx
  | global g => exact hx
  | func f => exact hx

theorem look_cons (s : Nat) (v : Value) (l : List (Nat × Value)) (t : Nat) : look ((s, v) :: l) t = if s = t then some v else look l t := by
  simp only [look]
  by_cases h : s = t
  · subst h; simp
  · have : Nat.beq s t = false := by
      cases e : Nat.beq s t with
      | false => rfl
      | true => exact (h (Nat.eq_of_beq_eq_true e)).elim
    simp [this, h]

theorem Fr.put {N : Nat} {l : List (Nat × Value)} {a : Act} (h : Fr N l a) {d : Nat} (hd : Nat.blt d N = true) (v : Value) : Fr N ((d, v) :: l) (a.put (some d) v) := by
  have hd' : d < N := by simpa [Nat.blt_eq] using hd
  refine ⟨h.defers, by simp [Act.put, h.size], fun t u hu => ?_⟩
  rw [look_cons] at hu
  simp only [Act.put]
  by_cases e : d = t
  · subst e
    rw [if_pos rfl] at hu
    rw [Array.getElem?_setIfInBounds_self_of_lt (by rw [h.size]; exact hd')]
    exact hu
  · rw [if_neg e] at hu
    rw [Array.getElem?_setIfInBounds_ne e]
    exact h.at_ t u hu

theorem Fr.put_none {N : Nat} {l : List (Nat × Value)} {a : Act} (h : Fr N l a) (v : Value) : Fr N l (a.put none v) := h

theorem Fr.base {N : Nat} {l : List (Nat × Value)} {a : Act} (h : Fr N l a) : Fr N [] a := ⟨h.defers, h.size, fun t v hv => by simp [look] at hv⟩
theorem Fr.add {N : Nat} {l : List (Nat × Value)} {a : Act} (h : Fr N l a) {t : Nat} {v : Value} (hv : a.tmps[t]? = some v) : Fr N ((t, v) :: l) a := by
  refine ⟨h.defers, h.size, fun s u hu => ?_⟩
  rw [look_cons] at hu
  by_cases e : t = s
  · subst e; rw [if_pos rfl] at hu; cases hu; exact hv
  · rw [if_neg e] at hu; exact h.at_ s u hu
/-- Only some of the slots are kept. -/
theorem Fr.keep {N : Nat} {l l' : List (Nat × Value)} {a : Act} (h : Fr N l a) (hl : ∀ p ∈ l', look l p.1 = some p.2) : Fr N l' a := by
  induction l' with
  | nil => exact h.base
  | cons p l' ih => exact (ih (fun q hq => hl q (List.mem_cons_of_mem _ hq))).add (h.at_ _ _ (hl p List.mem_cons_self))

/-- The slots listed in l' hold, by l, what l' says. -/
def All (l : List (Nat × Value)) : List (Nat × Value) → Prop
  | [] => True
  | p :: r => look l p.1 = some p.2 ∧ All l r
theorem Fr.keep' {N : Nat} {l l' : List (Nat × Value)} {a : Act} (h : Fr N l a) (hl : All l l') : Fr N l' a := by
  refine h.keep ?_
  induction l' with
  | nil => intro p hp; cases hp
  | cons q r ih =>
    intro p hp
    cases hp with
    | head => exact hl.1
    | tail _ hm => exact ih hl.2 p hm

/-- The frame as it is entered: the arguments in the first slots. -/
theorem Fr.enter (args : List Value) (N k : Nat) (hk : args.length + k = N) : Fr N (args.zipIdx.map fun p => (p.2, p.1)) { tmps := args.toArray ++ Array.replicate k undef, defers := [] } := by
  refine ⟨rfl, by simp [hk], ?_⟩
  have key : ∀ (l : List Value) (n t : Nat) (v : Value), look ((l.zipIdx n).map fun p => (p.2, p.1)) t = some v → n ≤ t ∧ l[t - n]? = some v := by
    intro l
    induction l with
    | nil => intro n t v h; simp [look] at h
    | cons x l ih =>
      intro n t v h
      simp only [List.zipIdx_cons, List.map_cons] at h
      rw [look_cons] at h
      by_cases e : n = t
      · subst e; rw [if_pos rfl] at h; exact ⟨Nat.le_refl _, by simpa using h⟩
      · rw [if_neg e] at h
        obtain ⟨h1, h2⟩ := ih _ _ _ h
        refine ⟨by omega, ?_⟩
        rw [show t - n = (t - (n + 1)) + 1 by omega]
        simpa using h2
  intro t v h
  obtain ⟨_, h2⟩ := key args 0 t v h
  simp only [Nat.sub_zero] at h2
  have hlt : t < args.length := (List.getElem?_eq_some_iff.1 h2).1
  rw [← h2]
  simp [Array.getElem?_append, hlt]

/-! ### One operation -/
section
variable {P : Program} {ops : Array Oper} {Q : Exit → Act → World → Prop} {a : Act} {w w' : World} {rest : List Oper} {N : Nat} {l : List (Nat × Value)}

/-- The operation, in this world, at what the listed slots hold: it yields v and leaves w'. -/
def Does (P : Program) (l : List (Nat × Value)) (w : World) (op : Op) (ty : TypeId) (v : Value) (w' : World) : Prop :=
  ∀ (ρ : Operand → Value), Oper' ρ l → ∀ d pos af g, (execOp ρ ⟨d, op, ty, pos, af, g⟩).run P w = .ok (.value v) w'
/-- .. it yields nothing (a store). -/
def Does0 (P : Program) (l : List (Nat × Value)) (w : World) (op : Op) (ty : TypeId) (w' : World) : Prop :=
  ∀ (ρ : Operand → Value), Oper' ρ l → ∀ d pos af g, (execOp ρ ⟨d, op, ty, pos, af, g⟩).run P w = .ok .skip w'

theorem st (h : Fr N l a) {d : Nat} {op : Op} {ty : TypeId} {pos : String} {af : Array Edge} {v : Value} (hr : Does P l w op ty v w') (hd : Nat.blt d N = true := by exact rfl)
    (k : ∀ a', Fr N ((d, v) :: l) a' → wpList P ops Q rest a' w') : wpList P ops Q (⟨some d, op, ty, pos, af, none⟩ :: rest) a w :=
  wpList_plain rfl fun K hK => by
    unfold Oper.wp
    rw [hr a.eval h.eval]
    exact hK _ _ (k _ (h.put hd v))

theorem st0 (h : Fr N l a) {op : Op} {ty : TypeId} {pos : String} {af : Array Edge} {d : Option Tmp} (hr : Does0 P l w op ty w')
    (hd : d = none) (k : ∀ a', Fr N l a' → wpList P ops Q rest a' w') : wpList P ops Q (⟨d, op, ty, pos, af, none⟩ :: rest) a w :=
  wpList_plain rfl fun K hK => by
    subst hd
    unfold Oper.wp
    rw [hr a.eval h.eval]
    exact hK _ _ (k _ (h.put_none _))

theorem yielded_of (h : Fr N l a) {j d : Nat} {b : Bool} (hj : (ops[j]?).bind (·.dst) = some d) (hb : look l d = some (.bool b)) : yielded ops a.tmps j = some b := by
  unfold yielded
  rw [hj]
  simp [h.at_ d _ hb]
theorem yielded_undef (h : Fr N l a) {j d : Nat} (hj : (ops[j]?).bind (·.dst) = some d) (hb : look l d = some undef) : yielded ops a.tmps j = none := by
  unfold yielded
  rw [hj]
  simp [h.at_ d _ hb, undef]

/-- A guarded operation whose guard says yes. -/
theorem stg (h : Fr N l a) {d : Nat} {op : Op} {ty : TypeId} {pos : String} {af : Array Edge} {v : Value} {j e : Nat} {b : Bool} (hj : (ops[j]?).bind (·.dst) = some e := by exact rfl) (hb : look l e = some (.bool b) := by exact rfl)
    (hr : Does P l w op ty v w') (hd : Nat.blt d N = true := by exact rfl)
    (k : ∀ a', Fr N ((d, v) :: l) a' → wpList P ops Q rest a' w') : wpList P ops Q (⟨some d, op, ty, pos, af, some (j, b)⟩ :: rest) a w :=
  wpList_step fun K hK => by
    have hy := yielded_of (ops := ops) h hj hb
    rw [if_pos (by simp [Region.wanted, hy])]
    unfold Oper.wp
    rw [hr a.eval h.eval]
    exact hK _ _ (k _ (h.put hd v))
/-- .. whose guard says no. -/
theorem stm (h : Fr N l a) {d : Nat} {op : Op} {ty : TypeId} {pos : String} {af : Array Edge} {j e : Nat} {b c : Bool} (hj : (ops[j]?).bind (·.dst) = some e := by exact rfl) (hb : look l e = some (.bool c) := by exact rfl) (hne : c = !b := by exact rfl)
    (hd : Nat.blt d N = true := by exact rfl)
    (k : ∀ a', Fr N ((d, undef) :: l) a' → wpList P ops Q rest a' w) : wpList P ops Q (⟨some d, op, ty, pos, af, some (j, b)⟩ :: rest) a w :=
  wpList_step fun K hK => by
    have hy := yielded_of (ops := ops) h hj hb
    rw [if_neg (by subst hne; simp [Region.wanted, hy])]
    exact hK _ _ (k _ (h.put hd _))
/-- .. whose guard was itself passed over. -/
theorem stu (h : Fr N l a) {d : Nat} {op : Op} {ty : TypeId} {pos : String} {af : Array Edge} {j e : Nat} {b : Bool} (hj : (ops[j]?).bind (·.dst) = some e := by exact rfl) (hb : look l e = some undef := by exact rfl)
    (hd : Nat.blt d N = true := by exact rfl)
    (k : ∀ a', Fr N ((d, undef) :: l) a' → wpList P ops Q rest a' w) : wpList P ops Q (⟨some d, op, ty, pos, af, some (j, b)⟩ :: rest) a w :=
  wpList_step fun K hK => by
    have hy := yielded_undef (ops := ops) h hj hb
    rw [if_neg (by simp [Region.wanted, hy])]
    exact hK _ _ (k _ (h.put hd _))

/-! ### A call -/
/-- The call returns, and R holds of what it returns and of the world behind it. -/
def Ret (P : Program) (f : FuncId) (args : Array Value) (w : World) (R : Value → World → Prop) : Prop :=
  Calls P f args w fun e w' => ∃ v, e = .returned v ∧ R v w'
theorem Ret.mono {f : FuncId} {args : Array Value} {R R' : Value → World → Prop} (h : Ret P f args w R) (hr : ∀ v w', R v w' → R' v w') : Ret P f args w R' :=
  Calls.mono h fun _ _ ⟨v, e, r⟩ => ⟨v, e, hr _ _ r⟩

structure Callable (P : Program) (f : FuncId) : Prop where
  out : ∃ fn, P.funcs[f]? = some fn ∧ (fn.name == "runtime.NumGoroutine") = false ∧ fn.body.isNone = false

def Evs (l : List (Nat × Value)) : List Operand → List Value → Prop
  | [], [] => True
  | x :: xs, v :: vs => Ev l x v ∧ Evs l xs vs
  | _, _ => False
theorem Evs.map {ρ : Operand → Value} (hρ : Oper' ρ l) : ∀ {xs : List Operand} {vs : List Value}, Evs l xs vs → xs.map ρ = vs
  | [], [], _ => rfl
  | x :: xs, v :: vs, h => by rw [List.map_cons, hρ x v h.1, Evs.map hρ h.2]
  | [], _ :: _, h => h.elim
  | _ :: _, [], h => h.elim

theorem exec_call {ρ : Operand → Value} (hρ : Oper' ρ l) {f : FuncId} {xs : List Operand} {vs : List Value} {ats : Array TypeId} (hc : Callable P f) (hx : Evs l xs vs) (d : Option Tmp) (ty : TypeId) (pos : String) (af : Array Edge) (g : Option (Nat × Bool)) :
    (execOp ρ ⟨d, .call { callee := .value (.func f), args := xs.toArray, argTypes := ats }, ty, pos, af, g⟩).run P w = .ok (.enter f vs.toArray) w := by
  obtain ⟨fn, h1, h2, h3⟩ := hc.out
  have e1 : ρ (.func f) = .func (.func f) #[] #[] := hρ _ _ rfl
  have e2 := Evs.map hρ hx
  simp only [execOp, resolve, Deferred.ofValue, invoke, callFunc, e1, e2, Sem.run_bind, Sem.run_pure, Result.andThen_ok, run_program, h1, h2, h3, List.map_toArray, Array.append_empty, List.append_toArray, List.nil_append]
  simp

theorem stc (h : Fr N l a) {d : Nat} {f : FuncId} {xs : List Operand} {vs : List Value} {ats : Array TypeId} {ty : TypeId} {pos : String} {af : Array Edge} {R : Value → World → Prop}
    (hc : Ret P f vs.toArray w R) (hf : Callable P f) (hx : Evs l xs vs) (hd : Nat.blt d N = true := by exact rfl)
    (k : ∀ a' v w', R v w' → Fr N ((d, v) :: l) a' → wpList P ops Q rest a' w') :
    wpList P ops Q (⟨some d, .call { callee := .value (.func f), args := xs.toArray, argTypes := ats }, ty, pos, af, none⟩ :: rest) a w :=
  wpList_plain rfl fun K hK => by
    unfold Oper.wp
    rw [exec_call h.eval hf hx]
    refine Calls.mono hc ?_
    rintro e w' ⟨v, rfl, hR⟩
    exact hK _ _ (k _ _ _ hR (h.put hd v))

theorem stcg (h : Fr N l a) {d : Nat} {f : FuncId} {xs : List Operand} {vs : List Value} {ats : Array TypeId} {ty : TypeId} {pos : String} {af : Array Edge} {R : Value → World → Prop}
    {j e : Nat} {b : Bool}
    (hc : Ret P f vs.toArray w R) (hf : Callable P f) (hx : Evs l xs vs) (hj : (ops[j]?).bind (·.dst) = some e := by exact rfl) (hb : look l e = some (.bool b) := by exact rfl) (hd : Nat.blt d N = true := by exact rfl)
    (k : ∀ a' v w', R v w' → Fr N ((d, v) :: l) a' → wpList P ops Q rest a' w') :
    wpList P ops Q (⟨some d, .call { callee := .value (.func f), args := xs.toArray, argTypes := ats }, ty, pos, af, some (j, b)⟩ :: rest) a w :=
  wpList_step fun K hK => by
    have hy := yielded_of (ops := ops) h hj hb
    rw [if_pos (by simp [Region.wanted, hy])]
    unfold Oper.wp
    rw [exec_call h.eval hf hx]
    refine Calls.mono hc ?_
    rintro e w' ⟨v, rfl, hR⟩
    exact hK _ _ (k _ _ _ hR (h.put hd v))

/-! ### Control -/
theorem c_seq {x y : Code} (h : x.wp P (Exit.then (y.wp P Q) Q) a w) : (Code.seq x y).wp P Q a w := wp_seq h
theorem c_cond_t (h : Fr N l a) {c : Operand} {x y : Code} {t : Bool} (hc : Ev l c (.bool t)) (ht : t = true) (hx : x.wp P Q a w) : (Code.cond c x y).wp P Q a w :=
  wp_cond_true (by rw [h.eval _ _ hc, ht]) hx
theorem c_cond_f (h : Fr N l a) {c : Operand} {x y : Code} {t : Bool} (hc : Ev l c (.bool t)) (ht : t = false) (hy : y.wp P Q a w) : (Code.cond c x y).wp P Q a w :=
  wp_cond_false (by rw [h.eval _ _ hc, ht]) hy
/-- A region that draws its order and only reads: walked once, in the text's order. -/
theorem c_region_draw (id : Nat) {l' : List Oper} (hm : P.follows .mixedOrders = true) (hB : Region.lexB .any l'.toArray = true)
    (h : wpQuiet P l'.toArray (fun w' => ∃ n, w' = w.drewN n) (fun a' => ∀ w', (∃ n, w' = w.drewN n) → Q .normal a' w') l' a) : (Code.region id l'.toArray true).wp P Q a w :=
  wp_region_quiet_lit hm hB h
theorem q_nil {C : World → Prop} {Q' : Act → Prop} (h : Q' a) : wpQuiet P ops C Q' [] a := h
theorem q_step {C : World → Prop} {Q' : Act → Prop} (h : Fr N l a) {d : Nat} {op : Op} {ty : TypeId} {pos : String} {af : Array Edge} {v : Value} (hr : ∀ w, C w → Does P l w op ty v w) (hd : Nat.blt d N = true := by exact rfl)
    (k : ∀ a', Fr N ((d, v) :: l) a' → wpQuiet P ops C Q' rest a') : wpQuiet P ops C Q' (⟨some d, op, ty, pos, af, none⟩ :: rest) a :=
  wpQuiet_step fun K hK => by
    rw [if_pos (by simp [Region.wanted])]
    refine ⟨v, fun w hw => ?_, hK _ (k _ (h.put hd v))⟩
    unfold Oper.quietAt
    rw [hr w hw a.eval h.eval]
    exact ⟨rfl, rfl⟩
theorem q_stg {C : World → Prop} {Q' : Act → Prop} (h : Fr N l a) {d : Nat} {op : Op} {ty : TypeId} {pos : String} {af : Array Edge} {v : Value} {j e : Nat} {b : Bool} (hj : (ops[j]?).bind (·.dst) = some e := by exact rfl) (hb : look l e = some (.bool b) := by exact rfl)
    (hr : ∀ w, C w → Does P l w op ty v w) (hd : Nat.blt d N = true := by exact rfl)
    (k : ∀ a', Fr N ((d, v) :: l) a' → wpQuiet P ops C Q' rest a') : wpQuiet P ops C Q' (⟨some d, op, ty, pos, af, some (j, b)⟩ :: rest) a :=
  wpQuiet_step fun K hK => by
    have hy := yielded_of (ops := ops) h hj hb
    rw [if_pos (by simp [Region.wanted, hy])]
    refine ⟨v, fun w hw => ?_, hK _ (k _ (h.put hd v))⟩
    unfold Oper.quietAt
    rw [hr w hw a.eval h.eval]
    exact ⟨rfl, rfl⟩
theorem q_stm {C : World → Prop} {Q' : Act → Prop} (h : Fr N l a) {d : Nat} {op : Op} {ty : TypeId} {pos : String} {af : Array Edge} {j e : Nat} {b c : Bool} (hj : (ops[j]?).bind (·.dst) = some e := by exact rfl) (hb : look l e = some (.bool c) := by exact rfl) (hne : c = !b := by exact rfl)
    (hd : Nat.blt d N = true := by exact rfl)
    (k : ∀ a', Fr N ((d, undef) :: l) a' → wpQuiet P ops C Q' rest a') : wpQuiet P ops C Q' (⟨some d, op, ty, pos, af, some (j, b)⟩ :: rest) a :=
  wpQuiet_step fun K hK => by
    have hy := yielded_of (ops := ops) h hj hb
    rw [if_neg (by subst hne; simp [Region.wanted, hy])]
    exact hK _ (k _ (h.put hd _))
theorem c_region (id : Nat) {l' : List Oper} (h : wpList P l'.toArray Q l' a w) : (Code.region id l'.toArray false).wp P Q a w := wp_region_lit h
theorem c_then {K : Act → World → Prop} (h : K a w) : Exit.then K Q .normal a w := h
theorem c_then_exit {K : Act → World → Prop} {id : Nat} (h : Q (.exit id) a w) : Exit.then K Q (.exit id) a w := h
theorem c_then_ret {K : Act → World → Prop} (h : Q .ret a w) : Exit.then K Q .ret a w := h
theorem c_block {id : Nat} {c : Code} (h : c.wp P (Exit.inBlock id Q) a w) : (Code.block id c).wp P Q a w := wp_block h
theorem c_in {id : Nat} (h : Q .normal a w) : Exit.inBlock id Q .normal a w := h
theorem c_in_ret {id : Nat} (h : Q .ret a w) : Exit.inBlock id Q .ret a w := h
theorem c_in_hit {id : Nat} (h : Q .normal a w) : Exit.inBlock id Q (.exit id) a w := by simp [Exit.inBlock, h]
/-- A loop: a relation that bears a number, which every round lowers. -/
theorem c_loop {c : Code} (I : Nat → Act → World → Prop) (n₀ : Nat) (h₀ : I n₀ a w)
    (round : ∀ n a w, I n a w → c.wp P (Exit.then (fun a' w' => ∃ n', n' < n ∧ I n' a' w') Q) a w) : (Code.loop c).wp P Q a w := wp_loop_ghost I n₀ h₀ round

/-- The function is entered. -/
theorem enter {f : FuncId} {fn : Func} {c : Code} {args : List Value} {R : Value → World → Prop} (hf : P.funcs[f]? = some fn) (hb : fn.body = some c) (k : Nat) (hk : fn.ntmps - args.length = k) (N : Nat) (hN : args.length + k = N)
    (h : ∀ a, Fr N (args.zipIdx.map fun p => (p.2, p.1)) a → c.wp P (bodyPost P fn (fun e w' => ∃ v, e = .returned v ∧ R v w')) a w) : Ret P f args.toArray w R := by
  refine calls_of_wp hf hb ?_
  refine h _ ?_
  have := Fr.enter args N k hN
  simpa [hk] using this

theorem enter0 {f : FuncId} {fn : Func} {c : Code} {R : Value → World → Prop} (hf : P.funcs[f]? = some fn) (hb : fn.body = some c) (k : Nat) (hk : fn.ntmps - 0 = k) (N : Nat) (hN : 0 + k = N)
    (h : ∀ a, Fr N [] a → c.wp P (bodyPost P fn (fun e w' => ∃ v, e = .returned v ∧ R v w')) a w) : Ret P f #[] w R := enter (args := []) hf hb k hk N hN h
theorem enter1 {f : FuncId} {fn : Func} {c : Code} {x0 : Value} {R : Value → World → Prop} (hf : P.funcs[f]? = some fn) (hb : fn.body = some c) (k : Nat) (hk : fn.ntmps - 1 = k) (N : Nat) (hN : 1 + k = N)
    (h : ∀ a, Fr N [(0, x0)] a → c.wp P (bodyPost P fn (fun e w' => ∃ v, e = .returned v ∧ R v w')) a w) : Ret P f #[x0] w R := enter (args := [x0]) hf hb k hk N hN h
theorem enter2 {f : FuncId} {fn : Func} {c : Code} {x0 x1 : Value} {R : Value → World → Prop} (hf : P.funcs[f]? = some fn) (hb : fn.body = some c) (k : Nat) (hk : fn.ntmps - 2 = k) (N : Nat) (hN : 2 + k = N)
    (h : ∀ a, Fr N [(0, x0), (1, x1)] a → c.wp P (bodyPost P fn (fun e w' => ∃ v, e = .returned v ∧ R v w')) a w) : Ret P f #[x0, x1] w R := enter (args := [x0, x1]) hf hb k hk N hN h
theorem enter3 {f : FuncId} {fn : Func} {c : Code} {x0 x1 x2 : Value} {R : Value → World → Prop} (hf : P.funcs[f]? = some fn) (hb : fn.body = some c) (k : Nat) (hk : fn.ntmps - 3 = k) (N : Nat) (hN : 3 + k = N)
    (h : ∀ a, Fr N [(0, x0), (1, x1), (2, x2)] a → c.wp P (bodyPost P fn (fun e w' => ∃ v, e = .returned v ∧ R v w')) a w) : Ret P f #[x0, x1, x2] w R := enter (args := [x0, x1, x2]) hf hb k hk N hN h
theorem enter4 {f : FuncId} {fn : Func} {c : Code} {x0 x1 x2 x3 : Value} {R : Value → World → Prop} (hf : P.funcs[f]? = some fn) (hb : fn.body = some c) (k : Nat) (hk : fn.ntmps - 4 = k) (N : Nat) (hN : 4 + k = N)
    (h : ∀ a, Fr N [(0, x0), (1, x1), (2, x2), (3, x3)] a → c.wp P (bodyPost P fn (fun e w' => ∃ v, e = .returned v ∧ R v w')) a w) : Ret P f #[x0, x1, x2, x3] w R := enter (args := [x0, x1, x2, x3]) hf hb k hk N hN h
theorem getD_at (h : Fr N l a) {t : Nat} {v : Value} (hv : look l t = some v) : a.tmps.getD t undef = v := by simp [h.at_ t v hv]
theorem ret1 {fn : Func} {R : Value → World → Prop} (h : Fr N l a) {t : Nat} (hres : fn.results = #[.tmp t]) {v : Value} (hv : look l t = some v) (hR : R v w) : bodyPost P fn (fun e w' => ∃ v, e = .returned v ∧ R v w') .ret a w :=
  bodyPost_ret (results_tmp hres _ _ _) h.defers ⟨_, rfl, by rw [getD_at h hv]; exact hR⟩
theorem ret2 {fn : Func} {R : Value → World → Prop} (h : Fr N l a) {t u : Nat} (hres : fn.results = #[.tmp t, .tmp u]) {v x : Value} (hv : look l t = some v) (hx : look l u = some x) (hR : R (.tuple #[v, x]) w) :
    bodyPost P fn (fun e w' => ∃ v, e = .returned v ∧ R v w') .ret a w :=
  bodyPost_ret (results_tmp2 hres _ _ _) h.defers ⟨_, rfl, by rw [getD_at h hv, getD_at h hx]; exact hR⟩
theorem ret3 {fn : Func} {R : Value → World → Prop} (h : Fr N l a) {t u s : Nat} (hres : fn.results = #[.tmp t, .tmp u, .tmp s]) {v x y : Value} (hv : look l t = some v) (hx : look l u = some x) (hy : look l s = some y) (hR : R (.tuple #[v, x, y]) w) :
    bodyPost P fn (fun e w' => ∃ v, e = .returned v ∧ R v w') .ret a w :=
  bodyPost_ret (results_tmp3 hres _ _ _) h.defers ⟨_, rfl, by rw [getD_at h hv, getD_at h hx, getD_at h hy]; exact hR⟩
end
end Go.Proofs.YtjomihhpglojpaaDoor
end
section
/- The operations, one lemma each: what an operation yields at what its operands hold. Plain lemmas over any program. -/
namespace Go.Proofs.YtjomihhpglojpaaDoor
open Go.RowKit

section
variable {P : Program} {w : World} {l : List (Nat × Value)}

theorem d_move {x : Operand} {v : Value} {ty : TypeId} (hx : Ev l x v := by exact rfl) : Does P l w (.move x) ty v w := by
  intro ρ hρ d pos af g; simp [execOp, hρ _ _ hx]
theorem d_assign {x : Operand} {v : Value} {ty : TypeId} (hx : Ev l x v := by exact rfl) : Does P l w (.assign x) ty v w := by
  intro ρ hρ d pos af g; simp [execOp, hρ _ _ hx]
theorem d_pickT {c x y : Operand} {u : Value} {ty : TypeId} (hc : Ev l c (.bool true) := by exact rfl) (hx : Ev l x u := by exact rfl) : Does P l w (.pick c x y) ty u w := by
  intro ρ hρ d pos af g; simp [execOp, hρ _ _ hx, hρ _ _ hc, asBool]
theorem d_pickF {c x y : Operand} {u : Value} {ty : TypeId} (hc : Ev l c (.bool false) := by exact rfl) (hy : Ev l y u := by exact rfl) : Does P l w (.pick c x y) ty u w := by
  intro ρ hρ d pos af g; simp [execOp, hρ _ _ hy, hρ _ _ hc, asBool]
theorem d_to {op : Op} {ty : TypeId} {b c : Bool} {w' : World} (h : Does P l w op ty (.bool c) w') (hc : c = b) : Does P l w op ty (.bool b) w' := by rw [← hc]; exact h
theorem d_not {x : Operand} {b : Bool} {t ty : TypeId} (hx : Ev l x (.bool b) := by exact rfl) : Does P l w (.unOp .not t x) ty (.bool (!b)) w := by
  intro ρ hρ d pos af g; simp [execOp, hρ _ _ hx, Op.unary]

/-! ### integers of 64 bits -/
theorem d_add {x y : Operand} {m n : Int} {t t' ty : TypeId} (hx : Ev l x (.int .i64 m) := by exact rfl) (hy : Ev l y (.int .i64 n) := by exact rfl) (h : -9223372036854775808 ≤ m + n ∧ m + n ≤ 9223372036854775807 := by omega) :
    Does P l w (.binOp .add t x y t') ty (.int .i64 (m + n)) w := by
  intro ρ hρ d pos af g; simp [execOp, eqGuard, binOp, Op.intArith, hρ _ _ hx, hρ _ _ hy, IntWalk.i64_in _ h]
theorem d_sub {x y : Operand} {m n : Int} {t t' ty : TypeId} (hx : Ev l x (.int .i64 m) := by exact rfl) (hy : Ev l y (.int .i64 n) := by exact rfl) (h : -9223372036854775808 ≤ m - n ∧ m - n ≤ 9223372036854775807 := by omega) :
    Does P l w (.binOp .sub t x y t') ty (.int .i64 (m - n)) w := by
  intro ρ hρ d pos af g; simp [execOp, eqGuard, binOp, Op.intArith, hρ _ _ hx, hρ _ _ hy, IntWalk.i64_in _ h]
theorem d_mul {x y : Operand} {m n : Int} {t t' ty : TypeId} (hx : Ev l x (.int .i64 m) := by exact rfl) (hy : Ev l y (.int .i64 n) := by exact rfl) (h : -9223372036854775808 ≤ m * n ∧ m * n ≤ 9223372036854775807) :
    Does P l w (.binOp .mul t x y t') ty (.int .i64 (m * n)) w := by
  intro ρ hρ d pos af g; simp [execOp, eqGuard, binOp, Op.intArith, hρ _ _ hx, hρ _ _ hy, IntWalk.i64_in _ h]
/-- Whatever the kind, wrapped. -/
theorem d_addw {k : IntKind} {x y : Operand} {m n : Int} {t t' ty : TypeId} (hx : Ev l x (.int k m) := by exact rfl) (hy : Ev l y (.int k n) := by exact rfl) : Does P l w (.binOp .add t x y t') ty (.int k (k.wrap (m + n))) w := by
  intro ρ hρ d pos af g; simp [execOp, eqGuard, binOp, Op.intArith, hρ _ _ hx, hρ _ _ hy]
theorem d_mulw {k : IntKind} {x y : Operand} {m n : Int} {t t' ty : TypeId} (hx : Ev l x (.int k m) := by exact rfl) (hy : Ev l y (.int k n) := by exact rfl) : Does P l w (.binOp .mul t x y t') ty (.int k (k.wrap (m * n))) w := by
  intro ρ hρ d pos af g; simp [execOp, eqGuard, binOp, Op.intArith, hρ _ _ hx, hρ _ _ hy]
/-- Division of what is not below 0, by what is above. -/
theorem d_quo {x y : Operand} {m n : Int} {t t' ty : TypeId} (hx : Ev l x (.int .i64 m) := by exact rfl) (hy : Ev l y (.int .i64 n) := by exact rfl) (h : 0 ≤ m ∧ m ≤ 9223372036854775807 ∧ 1 ≤ n := by omega) :
    Does P l w (.binOp .quo t x y t') ty (.int .i64 (m / n)) w := by
  intro ρ hρ d pos af g
  have hn : ¬ n = 0 := by omega
  simp [execOp, eqGuard, binOp, Op.intDiv, hρ _ _ hx, hρ _ _ hy, hn, IntWalk.i64_quo _ _ h]
theorem d_rem {x y : Operand} {m n : Int} {t t' ty : TypeId} (hx : Ev l x (.int .i64 m) := by exact rfl) (hy : Ev l y (.int .i64 n) := by exact rfl) (h : 0 ≤ m ∧ 1 ≤ n := by omega) :
    Does P l w (.binOp .rem t x y t') ty (.int .i64 (m % n)) w := by
  intro ρ hρ d pos af g
  have hn : ¬ n = 0 := by omega
  simp [execOp, eqGuard, binOp, Op.intDiv, hρ _ _ hx, hρ _ _ hy, hn, IntWalk.rem_in _ _ h.1]
theorem d_eql {k : IntKind} {x y : Operand} {m n : Int} {t t' ty : TypeId} (hx : Ev l x (.int k m) := by exact rfl) (hy : Ev l y (.int k n) := by exact rfl) : Does P l w (.binOp .eql t x y t') ty (.bool (m == n)) w := by
  intro ρ hρ d pos af g; simp [execOp, eqGuard, binOp, Op.intCmp, hρ _ _ hx, hρ _ _ hy]
theorem d_neq {k : IntKind} {x y : Operand} {m n : Int} {t t' ty : TypeId} (hx : Ev l x (.int k m) := by exact rfl) (hy : Ev l y (.int k n) := by exact rfl) : Does P l w (.binOp .neq t x y t') ty (.bool (m != n)) w := by
  intro ρ hρ d pos af g; simp [execOp, eqGuard, binOp, Op.intCmp, hρ _ _ hx, hρ _ _ hy]
theorem d_lss {k : IntKind} {x y : Operand} {m n : Int} {t t' ty : TypeId} (hx : Ev l x (.int k m) := by exact rfl) (hy : Ev l y (.int k n) := by exact rfl) : Does P l w (.binOp .lss t x y t') ty (.bool (decide (m < n))) w := by
  intro ρ hρ d pos af g; simp [execOp, eqGuard, binOp, Op.intCmp, hρ _ _ hx, hρ _ _ hy]
theorem d_leq {k : IntKind} {x y : Operand} {m n : Int} {t t' ty : TypeId} (hx : Ev l x (.int k m) := by exact rfl) (hy : Ev l y (.int k n) := by exact rfl) : Does P l w (.binOp .leq t x y t') ty (.bool (decide (m ≤ n))) w := by
  intro ρ hρ d pos af g; simp [execOp, eqGuard, binOp, Op.intCmp, hρ _ _ hx, hρ _ _ hy]
theorem d_gtr {k : IntKind} {x y : Operand} {m n : Int} {t t' ty : TypeId} (hx : Ev l x (.int k m) := by exact rfl) (hy : Ev l y (.int k n) := by exact rfl) : Does P l w (.binOp .gtr t x y t') ty (.bool (decide (n < m))) w := by
  intro ρ hρ d pos af g; simp [execOp, eqGuard, binOp, Op.intCmp, hρ _ _ hx, hρ _ _ hy]
theorem d_geq {k : IntKind} {x y : Operand} {m n : Int} {t t' ty : TypeId} (hx : Ev l x (.int k m) := by exact rfl) (hy : Ev l y (.int k n) := by exact rfl) : Does P l w (.binOp .geq t x y t') ty (.bool (decide (n ≤ m))) w := by
  intro ρ hρ d pos af g; simp [execOp, eqGuard, binOp, Op.intCmp, hρ _ _ hx, hρ _ _ hy]

def cmpOf (op : BinOp) (m n : Int) : Option Bool :=
  match op with
  | .eql => some (m == n) | .neq => some (m != n) | .lss => some (decide (m < n)) | .leq => some (decide (m ≤ n)) | .gtr => some (decide (n < m)) | .geq => some (decide (n ≤ m)) | _ => none
theorem d_cmp {op : BinOp} {k : IntKind} {x y : Operand} {m n : Int} {c : Bool} {t t' ty : TypeId} (hx : Ev l x (.int k m) := by exact rfl) (hy : Ev l y (.int k n) := by exact rfl) (hc : cmpOf op m n = some c := by exact rfl) : Does P l w (.binOp op t x y t') ty (.bool c) w := by
  cases op <;> simp only [cmpOf, Option.some.injEq, reduceCtorEq] at hc <;> subst hc
  · exact d_eql hx hy
  · exact d_neq hx hy
  · exact d_lss hx hy
  · exact d_leq hx hy
  · exact d_gtr hx hy
  · exact d_geq hx hy
theorem d_cmpT {op : BinOp} {k : IntKind} {x y : Operand} {m n : Int} {c : Bool} {t t' ty : TypeId} (hx : Ev l x (.int k m) := by exact rfl) (hy : Ev l y (.int k n) := by exact rfl) (hc : cmpOf op m n = some c := by exact rfl)
    (h : c = true := by first | exact rfl | exact decide_eq_true (by omega) | exact beq_iff_eq.2 (by omega) | exact bne_iff_ne.2 (by omega) | assumption) : Does P l w (.binOp op t x y t') ty (.bool true) w := d_to (d_cmp hx hy hc) h
theorem d_cmpF {op : BinOp} {k : IntKind} {x y : Operand} {m n : Int} {c : Bool} {t t' ty : TypeId} (hx : Ev l x (.int k m) := by exact rfl) (hy : Ev l y (.int k n) := by exact rfl) (hc : cmpOf op m n = some c := by exact rfl)
    (h : c = false := by first | exact rfl | exact decide_eq_false (by omega) | exact beq_eq_false_iff_ne.2 (by omega) | exact bne_eq_false_iff_eq.2 (by omega) | assumption) : Does P l w (.binOp op t x y t') ty (.bool false) w := d_to (d_cmp hx hy hc) h

/-- Bools held against each other. -/
theorem run_equalIn_bool (d : Nat) {t : TypeId} (hU : P.underlying t = some .bool) (b c : Bool) : (Op.equalIn (d + 1) t (.bool b) (.bool c)).run P w = .ok (b == c) w := by
  simp [Op.equalIn, run_underlying hU]
theorem run_eql_bool {t : TypeId} (hU : P.underlying t = some .bool) (b c : Bool) : (binOp .eql t (.bool b) (.bool c)).run P w = .ok (.bool (b == c)) w := by
  have h : (Op.equal t (.bool b) (.bool c)).run P w = .ok (b == c) w := run_equalIn_bool 9999 hU b c
  show (do pure (Value.bool (← Op.equal t (.bool b) (.bool c))) : Sem Value).run P w = _
  rw [Sem.run_bind, h]; rfl
theorem run_neq_bool {t : TypeId} (hU : P.underlying t = some .bool) (b c : Bool) : (binOp .neq t (.bool b) (.bool c)).run P w = .ok (.bool (b != c)) w := by
  have h : (Op.equal t (.bool b) (.bool c)).run P w = .ok (b == c) w := run_equalIn_bool 9999 hU b c
  show (do pure (Value.bool (!(← Op.equal t (.bool b) (.bool c)))) : Sem Value).run P w = _
  rw [Sem.run_bind, h]; rfl
theorem d_eqlb {x y : Operand} {b c : Bool} {t t' ty : TypeId} (hU : P.underlying t = some .bool) (hx : Ev l x (.bool b) := by exact rfl) (hy : Ev l y (.bool c) := by exact rfl) : Does P l w (.binOp .eql t x y t') ty (.bool (b == c)) w := by
  intro ρ hρ d pos af g
  simp only [execOp, hρ _ _ hx, hρ _ _ hy, Sem.run_bind]
  have e : (eqGuard .eql t x y (.bool b) (.bool c)).run P w = .ok () w := rfl
  rw [e, Result.andThen_ok, run_eql_bool hU]; rfl
theorem d_neqb {x y : Operand} {b c : Bool} {t t' ty : TypeId} (hU : P.underlying t = some .bool) (hx : Ev l x (.bool b) := by exact rfl) (hy : Ev l y (.bool c) := by exact rfl) : Does P l w (.binOp .neq t x y t') ty (.bool (b != c)) w := by
  intro ρ hρ d pos af g
  simp only [execOp, hρ _ _ hx, hρ _ _ hy, Sem.run_bind]
  have e : (eqGuard .neq t x y (.bool b) (.bool c)).run P w = .ok () w := rfl
  rw [e, Result.andThen_ok, run_neq_bool hU]; rfl

theorem d_eqb {op : BinOp} {x y : Operand} {b c r : Bool} {t t' ty : TypeId} (hU : P.underlying t = some .bool) (hx : Ev l x (.bool b) := by exact rfl) (hy : Ev l y (.bool c) := by exact rfl)
    (hr : (match op with | .eql => some (b == c) | .neq => some (b != c) | _ => none) = some r := by exact rfl) : Does P l w (.binOp op t x y t') ty (.bool r) w := by
  cases op <;> simp only [Option.some.injEq, reduceCtorEq] at hr <;> subst hr
  · exact d_eqlb hU hx hy
  · exact d_neqb hU hx hy
theorem d_eqbT {op : BinOp} {x y : Operand} {b c r : Bool} {t t' ty : TypeId} (hU : P.underlying t = some .bool) (hx : Ev l x (.bool b) := by exact rfl) (hy : Ev l y (.bool c) := by exact rfl)
    (hr : (match op with | .eql => some (b == c) | .neq => some (b != c) | _ => none) = some r := by exact rfl) (h : r = true := by first | exact rfl | exact beq_self_eq_true _ | assumption) : Does P l w (.binOp op t x y t') ty (.bool true) w := d_to (d_eqb hU hx hy hr) h
theorem d_eqbF {op : BinOp} {x y : Operand} {b c r : Bool} {t t' ty : TypeId} (hU : P.underlying t = some .bool) (hx : Ev l x (.bool b) := by exact rfl) (hy : Ev l y (.bool c) := by exact rfl)
    (hr : (match op with | .eql => some (b == c) | .neq => some (b != c) | _ => none) = some r := by exact rfl) (h : r = false := by first | exact rfl | exact bne_self_eq_false _ | assumption) : Does P l w (.binOp op t x y t') ty (.bool false) w := d_to (d_eqb hU hx hy hr) h

/-! ### slices -/
theorem d_len {x : Operand} {a : Option Addr} {n c : Nat} {t e ty : TypeId} (hU : P.underlying t = some (.slice e)) (hx : Ev l x (.slice a n c) := by exact rfl) :
    Does P l w (.call { callee := .builtin .len, args := [x].toArray, argTypes := [t].toArray }) ty (.int .i64 n) w := by
  intro ρ hρ d pos af g; simp [execOp, resolve, invoke, builtin, Builtin.len_, hρ _ _ hx, run_underlying hU, goInt]
theorem d_lens {x : Operand} {s : ByteArray} {t ty : TypeId} (hU : P.underlying t = some .string) (hx : Ev l x (.string s) := by exact rfl) :
    Does P l w (.call { callee := .builtin .len, args := [x].toArray, argTypes := [t].toArray }) ty (.int .i64 s.size) w := by
  intro ρ hρ d pos af g; simp [execOp, resolve, invoke, builtin, Builtin.len_, hρ _ _ hx, run_underlying hU, goInt]

theorem addr_add (b o n : Nat) : (⟨b, o, none⟩ : Addr).add n = ⟨b, o + n, none⟩ := by
  unfold Addr.add; split <;> simp_all

/-- The address of an element. -/
theorem d_indexAddr {x i : Operand} {b o n c : Nat} {k : IntKind} {j : Nat} {q : Int} {t e ty : TypeId} {s : Nat} (hU : P.underlying t = some (.slice e)) (hs : (P.info? e).map (·.size) = some s)
    (hx : Ev l x (.slice (some ⟨b, o, none⟩) n c) := by exact rfl) (hi : Ev l i (.int k q) := by exact rfl) (hq : q = (j : Int) := by exact rfl) (hj : j < n := by omega) :
    Does P l w (.indexAddr t x i) ty (.pointer (some ⟨b, o + j * s, none⟩)) w := by
  intro ρ hρ d pos af g
  subst hq
  obtain ⟨ti, h1, h2⟩ := Option.map_eq_some_iff.1 hs
  have h3 : (0 : Int) ≤ (j : Int) ∧ (j : Int) < (n : Int) := by omega
  simp [execOp, Instr.indexAt, asIntOf, hρ _ _ hx, hρ _ _ hi, run_underlying hU, sizeOf, typeInfo, h1, h2, h3, hj, addr_add]

theorem d_indexAddr1 {x i : Operand} {b o n c : Nat} {k : IntKind} {j : Nat} {q : Int} {t e ty : TypeId} (hU : P.underlying t = some (.slice e)) (hs : (P.info? e).map (·.size) = some 1)
    (hx : Ev l x (.slice (some ⟨b, o, none⟩) n c) := by exact rfl) (hi : Ev l i (.int k q) := by exact rfl) (hq : q = (j : Int) := by exact rfl) (hj : j < n := by omega) :
    Does P l w (.indexAddr t x i) ty (.pointer (some ⟨b, o + j, none⟩)) w := by
  have := d_indexAddr (w := w) (ty := ty) hU hs hx hi hq hj
  rwa [Nat.mul_one] at this
/-- What a cell holds. -/
def oneCellType (d : TypeDesc) : Bool := match d with | .struct _ | .array _ _ => false | _ => true
theorem d_load {x : Operand} {ad : Addr} {v : Value} {t ty : TypeId} {dd : TypeDesc} (hU : P.underlying t = some dd) (hc : w.cell? ad = some v) (h1 : oneCellType dd = true := by exact rfl) (hx : Ev l x (.pointer (some ad)) := by exact rfl) :
    Does P l w (.load t x) ty v w := by
  intro ρ hρ d pos af g
  cases dd <;> simp [oneCellType] at h1 <;> simp [execOp, Instr.loadAt, Instr.sureAddr, loadVar, isAgg, hρ _ _ hx, run_underlying hU, hc]

theorem d_nilCheck {x : Operand} {ad : Addr} {ty : TypeId} (hx : Ev l x (.pointer (some ad)) := by exact rfl) : Does P l w (.nilCheck x) ty (.pointer (some ad)) w := by
  intro ρ hρ d pos af g; simp [execOp, hρ _ _ hx]

theorem d_store {x y : Operand} {ad : Addr} {u v : Value} {t ty : TypeId} (hs : (P.info? t).map (·.size) = some 1) (hv : v.oneCell' = true) (hx : Ev l x (.pointer (some ad)) := by exact rfl) (hy : Ev l y v := by exact rfl) (hc : w.cell? ad = some u) (hf : w.frozen? ad = false) :
    Does0 P l w (.store t x y) ty (w.setCell ad v) := by
  intro ρ hρ d pos af g
  obtain ⟨ti, h1, h2⟩ := Option.map_eq_some_iff.1 hs
  have hcs : v.cells = #[v] := by cases v <;> simp [Value.oneCell'] at hv <;> rfl
  have e0 : ad.add 0 = ad := by simp [Addr.add]
  simp [execOp, Instr.storeAt, Instr.sureAddr, storeVar, hρ _ _ hx, hρ _ _ hy, sizeOf, typeInfo, h1, h2, hcs, storeCells, e0, run_store _ _ _ _ _ hv, hc, hf]

/-- A slice of one new element. -/
theorem d_box {x : Operand} {v : Value} {e ty : TypeId} (hx : Ev l x v := by exact rfl) : Does P l w (.box e x) ty (.pointer (some ⟨w.heap.size, 0, none⟩)) (w.alloc (.cells v.cells e)) := by
  intro ρ hρ d pos af g
  simp [execOp, Instr.box, newVar, newRow, hρ _ _ hx]

theorem d_slice {x hi : Operand} {ao : Option Addr} {n c j : Nat} {k : IntKind} {q : Int} {t e ty : TypeId} {s : Nat} (hU : P.underlying t = some (.slice e)) (hs : (P.info? e).map (·.size) = some s)
    (hx : Ev l x (.slice ao n c) := by exact rfl) (hh : Ev l hi (.int k q) := by exact rfl) (hq : q = (j : Int) := by exact rfl) (hj : j ≤ c := by omega) :
    Does P l w (.slice t x none (some hi) none) ty (.slice ao j c) w := by
  intro ρ hρ d pos af g
  subst hq
  obtain ⟨ti, h1, h2⟩ := Option.map_eq_some_iff.1 hs
  have h3 : (0 : Int) ≤ (j : Int) ∧ (j : Int) ≤ (c : Int) := by omega
  have e1 : (ao.map fun x => x.add 0) = ao := by cases ao <;> simp [Addr.add]
  simp [execOp, Instr.sliceAt, Instr.slice, Instr.sliceBounds, Instr.sliceBound, asIntOf, hρ _ _ hx, hρ _ _ hh, run_underlying hU, sizeOf, typeInfo, h1, h3, hj, e1]
/-- .. in every world of a drawn region that only reads. -/
theorem q_load {w' : World} {x : Operand} {ad : Addr} {v : Value} {t ty : TypeId} {dd : TypeDesc} (hU : P.underlying t = some dd) (hw : ∃ n, w' = w.drewN n) (hc : w.cell? ad = some v) (h1 : oneCellType dd = true := by exact rfl) (hx : Ev l x (.pointer (some ad)) := by exact rfl) :
    Does P l w' (.load t x) ty v w' := by
  obtain ⟨n, rfl⟩ := hw
  exact d_load hU hc h1 hx

/-- A slice that reads as xs. -/
def Rd {α : Type} (w : World) (a : Option Addr) (enc : α → Value) (xs : List α) : Prop :=
  ∀ i (h : i < xs.length), ∃ b o, a = some ⟨b, o, none⟩ ∧ w.cell? ⟨b, o + i, none⟩ = some (enc xs[i])
theorem Rd.below {α : Type} {w w' : World} {a : Option Addr} {enc : α → Value} {xs : List α} (h : Rd w a enc xs) (hb : Below w.heap.size w w') : Rd w' a enc xs := by
  intro i hi
  obtain ⟨b, o, ha, hc⟩ := h i hi
  exact ⟨b, o, ha, (hb.cell (p := ⟨b, o + i, none⟩) (World.block_lt_of_cell? w _ hc)).trans hc⟩
end
end Go.Proofs.YtjomihhpglojpaaDoor
end
