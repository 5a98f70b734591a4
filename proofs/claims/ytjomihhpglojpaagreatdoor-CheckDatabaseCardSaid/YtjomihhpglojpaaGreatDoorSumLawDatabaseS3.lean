/- Laid together by a program of mine: Reg. -/
import Derived.Test.YtjomihhpglojpaaGreatDoorSumLawDatabaseS2
import Derived.StillTail
import Derived.Maps.AppendAt
import Derived.Deep.Upon
set_option linter.unusedSimpArgs false
set_option linter.unusedVariables false
section
/- Regions that draw their order: with calls in them, with stores behind; whole structs loaded; function values; slices of many elements. Plain lemmas over any program. -/
namespace Go.Proofs.YtjomihhpglojpaaGreatDoor
open Go.RowKit

section
variable {P : Program} {ops : Array Oper} {Q : Exit → Act → World → Prop} {a : Act} {w w' : World} {rest : List Oper} {N : Nat} {l : List (Nat × Value)}

/-- A region that draws its order, over a class of worlds. -/
theorem c_region_drawC (C : World → Prop) (id : Nat) {l' : List Oper} (hm : P.follows .mixedOrders = true) (hB : Region.lexB .any l'.toArray = true) (hC : C (w.drewN 1))
    (h : wpQuiet P l'.toArray C (fun a' => ∀ w', C w' → Q .normal a' w') l' a) : (Code.region id l'.toArray true).wp P Q a w :=
  wp_region_quiet (C := C) hm hB hC (by simpa using h)

theorem q_stc {C : World → Prop} {Q' : Act → Prop} (h : Fr N l a) {d : Nat} {f : FuncId} {xs : List Operand} {vs : List Value} {v : Value} {ats : Array TypeId} {ty : TypeId} {pos : String} {af : Array Edge}
    (hc : ∀ w, C w → Ret P f vs.toArray w (fun u w' => u = v ∧ C w')) (hf : Callable P f) (hx : Evs l xs vs) (hd : Nat.blt d N = true := by exact rfl)
    (k : ∀ a', Fr N ((d, v) :: l) a' → wpQuiet P ops C Q' rest a') : wpQuiet P ops C Q' (⟨some d, .call { callee := .value (.func f), args := xs.toArray, argTypes := ats }, ty, pos, af, none⟩ :: rest) a :=
  wpQuiet_step fun K hK => by
    rw [if_pos (by simp [Region.wanted])]
    refine ⟨v, fun w hw => ?_, hK _ (k _ (h.put hd v))⟩
    unfold Oper.quietAt
    rw [exec_call h.eval hf hx]
    refine ⟨rfl, Calls.mono (hc w hw) ?_⟩
    rintro e w' ⟨u, rfl, rfl, hw'⟩
    exact ⟨rfl, hw'⟩
theorem q_stcg {C : World → Prop} {Q' : Act → Prop} (h : Fr N l a) {d : Nat} {f : FuncId} {xs : List Operand} {vs : List Value} {v : Value} {ats : Array TypeId} {ty : TypeId} {pos : String} {af : Array Edge} {j e : Nat} {b : Bool}
    (hc : ∀ w, C w → Ret P f vs.toArray w (fun u w' => u = v ∧ C w')) (hf : Callable P f) (hx : Evs l xs vs) (hj : (ops[j]?).bind (·.dst) = some e := by exact rfl) (hb : look l e = some (.bool b) := by exact rfl) (hd : Nat.blt d N = true := by exact rfl)
    (k : ∀ a', Fr N ((d, v) :: l) a' → wpQuiet P ops C Q' rest a') : wpQuiet P ops C Q' (⟨some d, .call { callee := .value (.func f), args := xs.toArray, argTypes := ats }, ty, pos, af, some (j, b)⟩ :: rest) a :=
  wpQuiet_step fun K hK => by
    have hy := yielded_of (ops := ops) h hj hb
    rw [if_pos (by simp [Region.wanted, hy])]
    refine ⟨v, fun w hw => ?_, hK _ (k _ (h.put hd v))⟩
    unfold Oper.quietAt
    rw [exec_call h.eval hf hx]
    refine ⟨rfl, Calls.mono (hc w hw) ?_⟩
    rintro e w' ⟨u, rfl, rfl, hw'⟩
    exact ⟨rfl, hw'⟩

/-! ### reads first, then stores in their order -/
theorem c_region_tail (id n : Nat) {l' : List Oper} (hm : P.follows .mixedOrders = true) (hB : Region.lexTailB .any l'.toArray n = true)
    (h : wpStill P l'.toArray (w.drewN 1) (fun a' => wpList P l'.toArray Q (l'.drop n) a' (w.drewN 1)) (l'.take n) a) : (Code.region id l'.toArray true).wp P Q a w :=
  wp_region_still_tail n hm hB h
theorem s_nil {Q' : Act → Prop} (h : Q' a) : wpStill P ops w Q' [] a := h
theorem s_step {Q' : Act → Prop} (h : Fr N l a) {d : Nat} {op : Op} {ty : TypeId} {pos : String} {af : Array Edge} {v : Value} (hr : Does P l w op ty v w) (hd : Nat.blt d N = true := by exact rfl)
    (k : ∀ a', Fr N ((d, v) :: l) a' → wpStill P ops w Q' rest a') : wpStill P ops w Q' (⟨some d, op, ty, pos, af, none⟩ :: rest) a :=
  wpStill_step fun K hK => by
    rw [if_pos (by simp [Region.wanted])]
    unfold Oper.still
    rw [hr a.eval h.eval, Oper.stillUpon_value]
    exact hK _ (k _ (h.put hd v))
theorem s_stg {Q' : Act → Prop} (h : Fr N l a) {d : Nat} {op : Op} {ty : TypeId} {pos : String} {af : Array Edge} {v : Value} {j e : Nat} {b : Bool} (hj : (ops[j]?).bind (·.dst) = some e := by exact rfl) (hb : look l e = some (.bool b) := by exact rfl)
    (hr : Does P l w op ty v w) (hd : Nat.blt d N = true := by exact rfl)
    (k : ∀ a', Fr N ((d, v) :: l) a' → wpStill P ops w Q' rest a') : wpStill P ops w Q' (⟨some d, op, ty, pos, af, some (j, b)⟩ :: rest) a :=
  wpStill_step fun K hK => by
    have hy := yielded_of (ops := ops) h hj hb
    rw [if_pos (by simp [Region.wanted, hy])]
    unfold Oper.still
    rw [hr a.eval h.eval, Oper.stillUpon_value]
    exact hK _ (k _ (h.put hd v))
theorem s_stc {Q' : Act → Prop} (h : Fr N l a) {d : Nat} {f : FuncId} {xs : List Operand} {vs : List Value} {v : Value} {ats : Array TypeId} {ty : TypeId} {pos : String} {af : Array Edge}
    (hc : Ret P f vs.toArray w (fun u w' => u = v ∧ w' = w)) (hf : Callable P f) (hx : Evs l xs vs) (hd : Nat.blt d N = true := by exact rfl)
    (k : ∀ a', Fr N ((d, v) :: l) a' → wpStill P ops w Q' rest a') : wpStill P ops w Q' (⟨some d, .call { callee := .value (.func f), args := xs.toArray, argTypes := ats }, ty, pos, af, none⟩ :: rest) a :=
  wpStill_step fun K hK => by
    rw [if_pos (by simp [Region.wanted])]
    unfold Oper.still
    rw [exec_call h.eval hf hx]
    simp only [Oper.stillUpon]
    refine ⟨trivial, v, Calls.mono hc ?_, hK _ (k _ (h.put hd v))⟩
    rintro e w' ⟨u, rfl, rfl, rfl⟩
    exact ⟨rfl, rfl⟩

/-! ### an argument in a box -/
theorem st_box (h : Fr N l a) {d : Nat} {x : Operand} {v : Value} {e ty : TypeId} {pos : String} {af : Array Edge} {cs : Array Value} (hcs : v.cells = cs) (hx : Ev l x v := by exact rfl) (hd : Nat.blt d N = true := by exact rfl)
    (k : ∀ a' w', w'.heap[w.heap.size]? = some (.cells cs e (0, 0)) → w.grownBy w' none → w'.heap.size = w.heap.size + 1 → Fr N ((d, .pointer (some ⟨w.heap.size, 0, none⟩)) :: l) a' → wpList P ops Q rest a' w') :
    wpList P ops Q (⟨some d, .box e x, ty, pos, af, none⟩ :: rest) a w := by
  subst hcs
  exact st h (d_box hx) hd fun a' hF => k a' _ (heap_alloc_new w _) (World.grownBy_alloc _ _ _) (by simp) hF

/-! ### a whole struct, loaded -/
def aggB (d : TypeDesc) : Bool := match d with | .struct _ | .array _ _ => true | _ => false
theorem d_loadAgg {x : Operand} {b o n : Nat} {cs : Array Value} {t ty : TypeId} (hU : (P.underlying t).map aggB = some true) (hs : (P.info? t).map (·.size) = some n) (hn : cs.size = n) (hc : ∀ j v, cs[j]? = some v → w.cell? ⟨b, o + j, none⟩ = some v) (hx : Ev l x (.pointer (some ⟨b, o, none⟩)) := by exact rfl) :
    Does P l w (.load t x) ty (.agg cs) w := by
  intro ρ hρ d pos af g
  subst hn
  obtain ⟨ti, h1, h2⟩ := Option.map_eq_some_iff.1 hs
  obtain ⟨dd, h3, h4⟩ := Option.map_eq_some_iff.1 hU
  have hr : (loadCells ⟨b, o, none⟩ cs.size).run P w = .ok cs w := by
    have := run_loadCells_list (P := P) (w := w) ⟨b, o, none⟩ cs.toList (fun j v hj => by rw [addr_add]; exact hc j v (by simpa using hj))
    simpa using this
  cases dd <;> simp [aggB] at h4 <;> simp [execOp, Instr.loadAt, Instr.sureAddr, loadVar, isAgg, hρ _ _ hx, run_underlying h3, sizeOf, typeInfo, h1, h2, hr]
theorem cells_at {w : World} {g : Nat} {cs : Array Value} {e : TypeId} {fr : Nat × Nat} (h : w.heap[g]? = some (.cells cs e fr)) : ∀ j v, cs[j]? = some v → w.cell? ⟨g, 0 + j, none⟩ = some v := by
  intro j v hj
  rw [Nat.zero_add]
  exact cell_at h hj

/-! ### function values -/
theorem d_makeFunc {f : Fn} {xs : List Operand} {vs : List Value} {ty : TypeId} (hx : Evs l xs vs) : Does P l w (.makeFunc f #[] xs.toArray) ty (.func f #[] vs.toArray) w := by
  intro ρ hρ d pos af g
  have := Evs.map hρ hx
  simp [execOp, Instr.makeFunc, this]
theorem exec_callv {ρ : Operand → Value} (hρ : Oper' ρ l) {y : Operand} {f : FuncId} {cs : List Value} {xs : List Operand} {vs : List Value} {ats : Array TypeId} (hc : Callable P f) (hy : Ev l y (.func (.func f) #[] cs.toArray)) (hx : Evs l xs vs) (d : Option Tmp) (ty : TypeId) (pos : String) (af : Array Edge) (g : Option (Nat × Bool)) :
    (execOp ρ ⟨d, .call { callee := .value y, args := xs.toArray, argTypes := ats }, ty, pos, af, g⟩).run P w = .ok (.enter f (vs ++ cs).toArray) w := by
  obtain ⟨fn, h1, h2, h3⟩ := hc.out
  have e1 : ρ y = .func (.func f) #[] cs.toArray := hρ _ _ hy
  have e2 := Evs.map hρ hx
  simp only [execOp, resolve, Deferred.ofValue, invoke, callFunc, e1, e2, Sem.run_bind, Sem.run_pure, Result.andThen_ok, run_program, h1, h2, h3, List.map_toArray, List.append_toArray, List.nil_append]
  simp
theorem stcv (h : Fr N l a) {d : Nat} {y : Operand} {f : FuncId} {cs : List Value} {xs : List Operand} {vs : List Value} {ats : Array TypeId} {ty : TypeId} {pos : String} {af : Array Edge} {R : Value → World → Prop}
    (hc : Ret P f (vs ++ cs).toArray w R) (hf : Callable P f) (hx : Evs l xs vs) (hy : Ev l y (.func (.func f) #[] cs.toArray) := by exact rfl) (hd : Nat.blt d N = true := by exact rfl)
    (k : ∀ a' v w', R v w' → Fr N ((d, v) :: l) a' → wpList P ops Q rest a' w') :
    wpList P ops Q (⟨some d, .call { callee := .value y, args := xs.toArray, argTypes := ats }, ty, pos, af, none⟩ :: rest) a w :=
  wpList_plain rfl fun K hK => by
    unfold Oper.wp
    rw [exec_callv h.eval hf hy hx]
    refine Calls.mono hc ?_
    rintro e w' ⟨v, rfl, hR⟩
    exact hK _ _ (k _ _ _ hR (h.put hd v))

/-! ### a store into a row of the call's own -/
theorem st_storeRow (h : Fr N l a) {x y : Operand} {g j base : Nat} {e t ty : TypeId} {v : Value} {n c : Nat} {xs : List Value} {pos : String} {af : Array Edge} (hs : (P.info? t).map (·.size) = some 1) (hown : w.ownsRow base e 1 (.slice (some ⟨g, 0, none⟩) n c) n xs) (hj : j < n) (hv : v.oneCell' = true)
    (hx : Ev l x (.pointer (some ⟨g, 0 + j, none⟩)) := by exact rfl) (hy : Ev l y v := by exact rfl)
    (k : ∀ a' w', w'.ownsRow base e 1 (.slice (some ⟨g, 0, none⟩) n c) n (xs.set j v) → w.grownBy w' (some g) → w'.heap.size = w.heap.size → Fr N l a' → wpList P ops Q rest a' w') :
    wpList P ops Q (⟨none, .store t x y, ty, pos, af, none⟩ :: rest) a w := by
  have hl := hown.1
  rcases hown.2 with ⟨h0, _⟩ | ⟨g', cap', cur, h0, hb, hg, hle, hm, hsz, htk⟩
  · cases h0
  · obtain ⟨rfl, rfl⟩ : g' = g ∧ cap' = c := by cases h0; exact ⟨rfl, rfl⟩
    rw [Nat.zero_add] at hx
    refine st_store h hs hg (i := j) (by omega) hv hx hy fun a' w' hg' hgr hsz' hF => k a' w' ⟨by simpa using hl, .inr ⟨g', cap', _, rfl, hb, hg', hle, hm, by simpa using hsz, ?_⟩⟩ hgr hsz' hF
    rw [Array.toList_setIfInBounds, List.take_set, htk]

/-- A new element behind a row of the call's own; where the row lies behind it. -/
theorem st_push' (h : Fr N l a) {d d' : Nat} {x : Operand} {s : Operand} {u z : Value} {t e ty ty' : TypeId} {pos pos' : String} {af af' : Array Edge} {bytes n base cap : Nat} {ao : Option Addr} {xs : List Value}
    (hU : P.underlying t = some (.slice e)) (hi : (P.info? e).map (fun i => (i.zero, i.size, i.bytes)) = some (some z, 1, bytes)) (hz : z.cells.size = 1)
    (hown : w.ownsRow base e 1 (.slice ao n cap) n xs) (hbd : (n + 1) * bytes ≤ 140737488355328) (hm : n + 1 ≤ maxLen) (hbase : base ≤ w.heap.size)
    (hx : Ev l x u := by exact rfl) (hs : Ev ((d, .slice (some ⟨w.heap.size, 0, none⟩) 1 1) :: l) s (.slice ao n cap) := by exact rfl) (hd : Nat.blt d N = true := by exact rfl) (hd' : Nat.blt d' N = true := by exact rfl) (hu : u.oneCell' = true := by exact rfl)
    (k : ∀ a' ao' cap' w', w'.ownsRow base e 1 (.slice ao' (n + 1) cap') (n + 1) (xs ++ [u]) → w.grownBy w' (Value.slice ao n cap).ownBlock → ((Value.slice ao' (n + 1) cap').ownBlock = (Value.slice ao n cap).ownBlock ∨ (Value.slice ao' (n + 1) cap').ownBlock = some (w.heap.size + 1)) → Fr N ((d', .slice ao' (n + 1) cap') :: (d, .slice (some ⟨w.heap.size, 0, none⟩) 1 1) :: l) a' → wpList P ops Q rest a' w') :
    wpList P ops Q (⟨some d, .buildSlice t 1 [(0, x)].toArray, ty, pos, af, none⟩ :: ⟨some d', .call { callee := .builtin .append, args := [s, .tmp d].toArray, argTypes := [t, t].toArray }, ty', pos', af', none⟩ :: rest) a w := by
  have hv : u.cells = #[u] := by cases u <;> simp [Value.oneCell'] at hu <;> rfl
  refine st h (d_build1 hU hi hv hx) hd fun a1 h1 => ?_
  obtain ⟨i, g1, g2, g3, g4⟩ := info_parts hi
  have hev : a1.eval (.tmp d) = .slice (some ⟨w.heap.size, 0, none⟩) 1 1 := h1.eval _ _ (by simp [Ev, look_cons])
  refine wpList_append_own_at _ rfl s (.tmp d) t rfl base e i z 1 bytes hU g1 g2 g3 g4 hz (by decide) (.slice ao n cap) n xs (h1.eval _ _ hs) (hown.alloc _)
    ⟨w.heap.size, 0, none⟩ 1 1 [u] hev rfl ?_ ?_ hm hbd (by simp; omega) ?_
  · intro j v hj
    match j, hj with
    | 0, hj =>
      simp at hj
      subst hj
      simp [Addr.add]
  · intro v hv; simp at hv; subst hv; exact hu
  · intro v' w' hown' hgr hnil hat
    obtain ⟨ao', cap', rfl, _, _⟩ := own_form hown'
    refine k _ ao' cap' w' hown' ?_ (by simpa using hat) (h1.put hd' _)
    exact ⟨hgr.os, hgr.tape, hgr.output, by have := hgr.size; simp at this; omega, fun k hk hne => by rw [hgr.block k (by simp; omega) hne]; exact Below.heap_alloc _ _ _ hk⟩

/-- 'append(s, x...)', s a row of the call's own, x a slice that reads. -/
theorem st_append (h : Fr N l a) {α : Type} {enc : α → Value} {ys : List α} {bo : Option Addr} {m c' : Nat} {d : Nat} {s x : Operand} {z : Value} {t e ty : TypeId} {pos : String} {af : Array Edge} {bytes n base cap : Nat} {ao : Option Addr} {xs : List Value}
    (hU : P.underlying t = some (.slice e)) (hi : (P.info? e).map (fun i => (i.zero, i.size, i.bytes)) = some (some z, 1, bytes)) (hz : z.cells.size = 1)
    (hown : w.ownsRow base e 1 (.slice ao n cap) n xs) (hys : ys.length = m) (hR : Rd w bo enc ys) (h1 : ∀ y, (enc y).oneCell' = true) (hbd : (n + m) * bytes ≤ 140737488355328) (hm : n + m ≤ maxLen) (hbase : base ≤ w.heap.size)
    (hs : Ev l s (.slice ao n cap) := by exact rfl) (hx : Ev l x (.slice bo m c') := by exact rfl) (hd : Nat.blt d N = true := by exact rfl)
    (k : ∀ a' ao' cap' w', w'.ownsRow base e 1 (.slice ao' (n + m) cap') (n + m) (xs ++ ys.map enc) → w.grownBy w' (Value.slice ao n cap).ownBlock → Fr N ((d, .slice ao' (n + m) cap') :: l) a' → wpList P ops Q rest a' w') :
    wpList P ops Q (⟨some d, .call { callee := .builtin .append, args := [s, x].toArray, argTypes := [t, t].toArray }, ty, pos, af, none⟩ :: rest) a w := by
  obtain ⟨i, g1, g2, g3, g4⟩ := info_parts hi
  by_cases h0 : ys = []
  · subst h0
    obtain rfl : m = 0 := by simpa using hys.symm
    obtain ⟨hle, _⟩ := own_cap hown
    have hsrc : Src P i.size t (.slice bo 0 c') 0 [] w := by
      cases bo with
      | none => exact Src.ofNil w hU c'
      | some ad => exact Src.ofSlice w hU ad 0 c' [] (by simp) (by simp) (by simp)
    have hr := run_append_nothing (P := P) w t t ty e i hU g1 ao n cap hle _ hsrc
    refine st h (v := .slice ao n cap) (w' := w) ?_ hd fun a' hF => k a' ao cap w (by simpa using hown) (World.grownBy.refl w _) hF
    intro ρ hρ d pos af g
    simp [execOp, resolve, invoke, builtin, hρ _ _ hs, hρ _ _ hx, hr]
  · obtain ⟨b, o, rfl, _⟩ := hR 0 (by cases ys with | nil => exact absurd rfl h0 | cons _ _ => simp)
    refine wpList_append_own_at _ rfl s x t rfl base e i z 1 bytes hU g1 g2 g3 g4 hz (by decide) (.slice ao n cap) n xs (h.eval _ _ hs) hown
      ⟨b, o, none⟩ m c' (ys.map enc) (h.eval _ _ hx) (by simp [hys]) ?_ ?_ hm hbd hbase ?_
    · intro j v hj
      rw [List.getElem?_map] at hj
      obtain ⟨y, hy, rfl⟩ := Option.map_eq_some_iff.1 hj
      obtain ⟨hj', rfl⟩ := List.getElem?_eq_some_iff.1 hy
      obtain ⟨b2, o2, e2, hc⟩ := hR j hj'
      cases e2
      rw [addr_add]; exact hc
    · intro v hv
      obtain ⟨y, _, rfl⟩ := List.mem_map.1 hv
      exact h1 y
    · intro v' w' hown' hgr hnil hat
      obtain ⟨ao', cap', rfl, _, _⟩ := own_form hown'
      exact k _ ao' cap' w' hown' hgr (h.put hd _)

/-! ### min, max -/
theorem d_max {x y : Operand} {k k' : IntKind} {m n : Int} {t t' ty : TypeId} (hx : Ev l x (.int k m) := by exact rfl) (hy : Ev l y (.int k' n) := by exact rfl) :
    Does P l w (.call { callee := .builtin .max, args := [x, y].toArray, argTypes := [t, t'].toArray }) ty (.int k (if m < n then n else m)) w := by
  intro ρ hρ d pos af g; simp [execOp, resolve, invoke, builtin, Builtin.max_, Builtin.max2, hρ _ _ hx, hρ _ _ hy]
theorem d_min {x y : Operand} {k k' : IntKind} {m n : Int} {t t' ty : TypeId} (hx : Ev l x (.int k m) := by exact rfl) (hy : Ev l y (.int k' n) := by exact rfl) :
    Does P l w (.call { callee := .builtin .min, args := [x, y].toArray, argTypes := [t, t'].toArray }) ty (.int k (if n < m then n else m)) w := by
  intro ρ hρ d pos af g; simp [execOp, resolve, invoke, builtin, Builtin.min_, Builtin.min2, hρ _ _ hx, hρ _ _ hy]

/-! ### a slice of many one-cell elements -/
def filled (n : Nat) (z : Value) (vs : List (Nat × Value)) : Option (Array Value) :=
  Instr.fill (fun i => some (i * 1, 1)) (Array.replicate n z) vs
theorem d_buildS {t e ty : TypeId} {n : Nat} {ps : List (Nat × Operand)} {vs : List (Nat × Value)} {z : Value} {cells : Array Value} {by_ : Nat} (hU : P.underlying t = some (.slice e)) (hi : (P.info? e).map (fun i => (i.zero, i.size, i.bytes)) = some (some z, 1, by_)) (hz : z.cells = #[z])
    (hn0 : 0 < n) (hn : n ≤ 16777216) (hb : filled n z vs = some cells) (hv : EvP l ps vs) : Does P l w (.buildSlice t n ps.toArray) ty (.slice (some ⟨w.heap.size, 0, none⟩) n n) (w.alloc (.cells cells e)) := by
  intro ρ hρ d pos af g
  have e1 := EvP.map hρ hv
  obtain ⟨i, h1, h2, h3, h4⟩ := info_parts hi
  have e2 : (Array.range n).map (fun x => z.cells[x % z.cells.size]!) = Array.replicate n z := by
    apply Array.ext
    · simp
    · intro j hj1 hj2
      simp [hz, Nat.mod_one]
  unfold filled at hb
  have h5 : ¬ n * 1 > 2 ^ 24 := by omega
  have h6 : ¬ n * 1 = 0 := by omega
  simp only [Nat.mul_one] at hb
  have h7 : ¬ n = 0 := by omega
  have h8 : ¬ 2 ^ 24 < n := by omega
  simp [execOp, Instr.buildSlice, run_underlying hU, sizeOf, typeInfo, zeroValue, h1, h2, h3, h7, h8, e2, e1, hb, newRow]
end
end Go.Proofs.YtjomihhpglojpaaGreatDoor
end
