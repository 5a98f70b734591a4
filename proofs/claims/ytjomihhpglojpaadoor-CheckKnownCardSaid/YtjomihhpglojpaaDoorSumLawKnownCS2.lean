/- Laid together by a program of mine: Mem Lift Ifc Str Reg. -/
import Derived.Test.YtjomihhpglojpaaDoorSumLawKnownCS1
import Derived.Laws.CopyOwn
import Derived.Laws.MakeOwn
import Derived.ProofKit
import Derived.OpenShut
import Derived.ShutString
import Derived.ChangeOld
import Derived.Deep.Grids
import Derived.Deep.Slices
import Derived.Laws.RangeAny
import Derived.StillTail
import Derived.Maps.AppendAt
import Derived.Deep.Upon
set_option linter.unusedSimpArgs false
set_option linter.unusedVariables false
section
/- Memory that the call makes: append, make, copy, boxes; and what stays. Plain lemmas over any program. -/
namespace Go.Proofs.YtjomihhpglojpaaDoor
open Go.RowKit

/-! ### what stays -/
theorem cell_at {w : World} {g i : Nat} {c : Array Value} {e : TypeId} {fr : Nat × Nat} {v : Value} (h : w.heap[g]? = some (.cells c e fr)) (hc : c[i]? = some v) : w.cell? ⟨g, i, none⟩ = some v := by
  simp [World.cell?, h, hc]
theorem free_at {w : World} {g i : Nat} {c : Array Value} {e : TypeId} (h : w.heap[g]? = some (.cells c e (0, 0))) : w.frozen? ⟨g, i, none⟩ = false := by
  simp [World.frozen?, h]
theorem lt_at {w : World} {g : Nat} {o : Obj} (h : w.heap[g]? = some o) : g < w.heap.size := (Array.getElem?_eq_some_iff.1 h).1

theorem Below.at {B : Nat} {w w' : World} (h : Below B w w') {g : Nat} {o : Obj} (hg : w.heap[g]? = some o) (hB : g < B) : w'.heap[g]? = some o := (h.block g hB).trans hg
theorem own_below {w w' : World} {base : Nat} {e : TypeId} {s : Nat} {v : Value} {n : Nat} {xs : List Value} (h : w.ownsRow base e s v n xs) (hb : Below w.heap.size w w') : w'.ownsRow base e s v n xs :=
  h.kept (row := none) ⟨hb.os, hb.tape, hb.output, hb.size, fun k hk _ => hb.block k hk⟩ (Classical.em _)

theorem grown_trans {w w' w'' : World} {r : Option Nat} (h : w.grownBy w' r) (k : w'.grownBy w'' r) : w.grownBy w'' r :=
  ⟨k.os.trans h.os, k.tape.trans h.tape, k.output.trans h.output, Nat.le_trans h.size k.size, fun i hi hne => (k.block i (Nat.lt_of_lt_of_le hi h.size) hne).trans (h.block i hi hne)⟩

theorem own_kept {w w' : World} {base : Nat} {e : TypeId} {s : Nat} {v : Value} {n : Nat} {xs : List Value} (h : w.ownsRow base e s v n xs) {r : Option Nat} (hgr : w.grownBy w' r) (hne : v.ownBlock ≠ r) : w'.ownsRow base e s v n xs := h.kept hgr (Or.inr hne)
theorem own_grown {w w' : World} {base : Nat} {e : TypeId} {s : Nat} {v : Value} {n : Nat} {xs : List Value} (h : w.ownsRow base e s v n xs) (hgr : w.grownBy w' none) : w'.ownsRow base e s v n xs := h.kept hgr (Classical.em _)
theorem blk_kept {w w' : World} {g : Nat} {o : Obj} {r : Option Nat} (h : w.heap[g]? = some o) (hgr : w.grownBy w' r) (hne : some g ≠ r) : w'.heap[g]? = some o := (hgr.block g (lt_at h) hne).trans h

/-- What a row that is owned looks like. -/
theorem own_form {w : World} {base : Nat} {e : TypeId} {s : Nat} {v : Value} {n : Nat} {xs : List Value} (h : w.ownsRow base e s v n xs) : ∃ ao cap, v = .slice ao n cap ∧ n ≤ cap ∧ cap ≤ maxLen := by
  rcases h.2 with ⟨rfl, rfl⟩ | ⟨g, cap, cur, rfl, _, _, h1, h2, _⟩
  · exact ⟨none, 0, rfl, Nat.le_refl _, Nat.zero_le _⟩
  · exact ⟨_, cap, rfl, h1, h2⟩
theorem own_rd {α : Type} {w : World} {base : Nat} {e : TypeId} {ao : Option Addr} {cap n : Nat} {enc : α → Value} {xs : List α} (h : w.ownsRow base e 1 (.slice ao n cap) n (xs.map enc)) : xs.length = n ∧ Rd w ao enc xs := by
  have hl : xs.length = n := by simpa using h.1
  refine ⟨hl, fun i hi => ?_⟩
  rcases h.2 with ⟨h1, h2⟩ | ⟨g, cap', cur, h1, _, h3, h4, h5, h6, h7⟩
  · omega
  · cases h1
    refine ⟨g, 0, rfl, cell_at h3 ?_⟩
    have e1 : (cur.toList.take (n * 1))[i]? = some (enc xs[i]) := by rw [h7]; simp [hi]
    rw [List.getElem?_take_of_lt (by omega)] at e1
    simpa using e1
theorem own_some {w : World} {base : Nat} {e : TypeId} {s : Nat} {ao : Option Addr} {cap n : Nat} {xs : List Value} (h : w.ownsRow base e s (.slice ao n cap) n xs) (hn : 0 < n) : ∃ g, ao = some ⟨g, 0, none⟩ ∧ base ≤ g := by
  rcases h.2 with ⟨_, h2⟩ | ⟨g, cap', cur, h1, h2, _⟩
  · omega
  · cases h1; exact ⟨g, rfl, h2⟩
/-- Below stays below, behind what an append or a make leaves. -/
theorem below_own {B : Nat} {w0 w w' : World} {e : TypeId} {s : Nat} {v : Value} {n : Nat} {xs : List Value} (hb : Below B w0 w) (hB : B ≤ w.heap.size) (hown : w.ownsRow B e s v n xs) (hgr : w.grownBy w' v.ownBlock) : Below B w0 w' :=
  hb.grown hgr hB fun k hk => (hown.lt k hk).1
theorem Rd.take {α : Type} {w : World} {a : Option Addr} {enc : α → Value} {xs : List α} (h : Rd w a enc xs) (k : Nat) : Rd w a enc (xs.take k) := by
  intro i hi
  have hi' : i < xs.length := by simp at hi; omega
  obtain ⟨b, o, h1, h2⟩ := h i hi'
  exact ⟨b, o, h1, by rw [List.getElem_take]; exact h2⟩
theorem own_ne {w : World} {base : Nat} {e e' : TypeId} {s : Nat} {v : Value} {n : Nat} {xs : List Value} (h : w.ownsRow base e s v n xs) {g : Nat} {c : Array Value} {fr : Nat × Nat} (hg : w.heap[g]? = some (.cells c e' fr)) (hne : e ≠ e') : some g ≠ v.ownBlock := by
  rcases h.2 with ⟨rfl, _⟩ | ⟨g', cap, cur, rfl, _, h1, _⟩
  · simp [Value.ownBlock]
  · intro x
    simp only [Value.ownBlock, Option.some.injEq] at x
    subst x
    rw [hg] at h1
    cases h1
    exact hne rfl

section
variable {P : Program} {ops : Array Oper} {Q : Exit → Act → World → Prop} {a : Act} {w w' : World} {rest : List Oper} {N : Nat} {l : List (Nat × Value)}

theorem d_build1 {x : Operand} {v z : Value} {t e ty : TypeId} {by_ : Nat} (hU : P.underlying t = some (.slice e)) (hi : (P.info? e).map (fun i => (i.zero, i.size, i.bytes)) = some (some z, 1, by_)) (hv : v.cells = #[v])
    (hx : Ev l x v := by exact rfl) : Does P l w (.buildSlice t 1 [(0, x)].toArray) ty (.slice (some ⟨w.heap.size, 0, none⟩) 1 1) (w.alloc (.cells #[v] e)) := by
  intro ρ hρ d pos af g
  obtain ⟨i, h1, h2, h3, h4⟩ := info_parts hi
  have e1 : (Array.map (fun x => z.cells[x % z.cells.size]!) (Array.range 1)).size = 1 := by simp
  obtain ⟨u, hu⟩ : ∃ u, (Array.map (fun x => z.cells[x % z.cells.size]!) (Array.range 1)) = #[u] := by
    generalize (Array.map (fun x => z.cells[x % z.cells.size]!) (Array.range 1)) = A at e1
    match A, e1 with
    | ⟨[u]⟩, _ => exact ⟨u, rfl⟩
  simp [execOp, Instr.buildSlice, hρ _ _ hx, run_underlying hU, sizeOf, typeInfo, zeroValue, h1, h2, h3, Instr.fill, hv, newRow, hu]

/-- A new element behind a row of the call's own: the one-element slice and the append, both at once. -/
theorem st_push (h : Fr N l a) {d d' : Nat} {x : Operand} {s : Operand} {u z : Value} {t e ty ty' : TypeId} {pos pos' : String} {af af' : Array Edge} {bytes n base cap : Nat} {ao : Option Addr} {xs : List Value}
    (hU : P.underlying t = some (.slice e)) (hi : (P.info? e).map (fun i => (i.zero, i.size, i.bytes)) = some (some z, 1, bytes)) (hz : z.cells.size = 1)
    (hown : w.ownsRow base e 1 (.slice ao n cap) n xs) (hbd : (n + 1) * bytes ≤ 140737488355328) (hm : n + 1 ≤ maxLen) (hbase : base ≤ w.heap.size)
    (hx : Ev l x u := by exact rfl) (hs : Ev ((d, .slice (some ⟨w.heap.size, 0, none⟩) 1 1) :: l) s (.slice ao n cap) := by exact rfl) (hd : Nat.blt d N = true := by exact rfl) (hd' : Nat.blt d' N = true := by exact rfl) (hu : u.oneCell' = true := by exact rfl)
    (k : ∀ a' ao' cap' w', w'.ownsRow base e 1 (.slice ao' (n + 1) cap') (n + 1) (xs ++ [u]) → w.grownBy w' (Value.slice ao n cap).ownBlock → Fr N ((d', .slice ao' (n + 1) cap') :: (d, .slice (some ⟨w.heap.size, 0, none⟩) 1 1) :: l) a' → wpList P ops Q rest a' w') :
    wpList P ops Q (⟨some d, .buildSlice t 1 [(0, x)].toArray, ty, pos, af, none⟩ :: ⟨some d', .call { callee := .builtin .append, args := [s, .tmp d].toArray, argTypes := [t, t].toArray }, ty', pos', af', none⟩ :: rest) a w := by
  have hv : u.cells = #[u] := by cases u <;> simp [Value.oneCell'] at hu <;> rfl
  refine st h (d_build1 hU hi hv hx) hd fun a1 h1 => ?_
  obtain ⟨i, g1, g2, g3, g4⟩ := info_parts hi
  have hev : a1.eval (.tmp d) = .slice (some ⟨w.heap.size, 0, none⟩) 1 1 := h1.eval _ _ (by simp [Ev, look_cons])
  refine wpList_append_own _ rfl s (.tmp d) t rfl base e i z 1 bytes hU g1 g2 g3 g4 hz (by decide) (.slice ao n cap) n xs (h1.eval _ _ hs) (hown.alloc _)
    ⟨w.heap.size, 0, none⟩ 1 1 [u] hev rfl ?_ ?_ hm hbd (by simp; omega) ?_
  · intro j v hj
    match j, hj with
    | 0, hj =>
      simp at hj
      subst hj
      simp [Addr.add]
  · intro v hv; simp at hv; subst hv; exact hu
  · intro v' w' hown' hgr hnil
    obtain ⟨ao', cap', rfl, _, _⟩ := own_form hown'
    refine k _ ao' cap' w' hown' ?_ (h1.put hd' _)
    exact ⟨hgr.os, hgr.tape, hgr.output, by have := hgr.size; simp at this; omega, fun k hk hne => by rw [hgr.block k (by simp; omega) hne]; exact Below.heap_alloc _ _ _ hk⟩

/-- 'make([]T, 0, c)'. -/
theorem st_make0 (h : Fr N l a) {d : Nat} {x y : Operand} {t e ty : TypeId} {pos : String} {af : Array Edge} {z : Value} {bytes c base : Nat} {q : Int} {kx ky : IntKind}
    (hU : P.underlying t = some (.slice e)) (hi : (P.info? e).map (fun i => (i.zero, i.size, i.bytes)) = some (some z, 1, bytes)) (hbd : bytes * c ≤ 281474976710656) (hm : c ≤ maxLen) (hbase : base ≤ w.heap.size) (hq : q = (c : Int))
    (hx : Ev l x (.int kx 0) := by exact rfl) (hy : Ev l y (.int ky q) := by exact rfl) (hd : Nat.blt d N = true := by exact rfl)
    (k : ∀ a' w', w'.ownsRow base e 1 (.slice (some ⟨w.heap.size, 0, none⟩) 0 c) 0 [] → w.grownBy w' none → Fr N ((d, .slice (some ⟨w.heap.size, 0, none⟩) 0 c) :: l) a' → wpList P ops Q rest a' w') :
    wpList P ops Q (⟨some d, .makeSlice t x y, ty, pos, af, none⟩ :: rest) a w := by
  obtain ⟨i, g1, g2, g3, g4⟩ := info_parts hi
  subst hq
  obtain ⟨w', hr, h1, h2⟩ := run_make_own (P := P) w base t e i z 1 hU g1 g2 g3 kx ky c (by rw [g4]; exact hbd) hm hbase
  refine st h (v := .slice (some ⟨w.heap.size, 0, none⟩) 0 c) (w' := w') ?_ hd fun a' hF => k a' w' h1 h2 hF
  intro ρ hρ d pos af g
  simp [execOp, hρ _ _ hx, hρ _ _ hy, hr]
/-- A new variable in a box, at its zero. -/
theorem d_alloc {e ty : TypeId} {z : Value} {s by_ : Nat} (hi : (P.info? e).map (fun i => (i.zero, i.size, i.bytes)) = some (some z, s, by_)) : Does P l w (.alloc e) ty (.pointer (some ⟨w.heap.size, 0, none⟩)) (w.alloc (.cells z.cells e)) := by
  intro ρ hρ d pos af g
  obtain ⟨i, h1, h2, h3, h4⟩ := info_parts hi
  simp [execOp, Instr.alloc, zeroValue, typeInfo, h1, h2, newVar, newRow]

theorem st_alloc (h : Fr N l a) {d : Nat} {e ty : TypeId} {pos : String} {af : Array Edge} {z : Value} {s by_ : Nat} (hi : (P.info? e).map (fun i => (i.zero, i.size, i.bytes)) = some (some z, s, by_)) (hd : Nat.blt d N = true := by exact rfl)
    (k : ∀ a' w', w'.heap[w.heap.size]? = some (.cells z.cells e (0, 0)) → w.grownBy w' none → w'.heap.size = w.heap.size + 1 → Fr N ((d, .pointer (some ⟨w.heap.size, 0, none⟩)) :: l) a' → wpList P ops Q rest a' w') :
    wpList P ops Q (⟨some d, .alloc e, ty, pos, af, none⟩ :: rest) a w :=
  st h (d_alloc hi) hd fun a' hF => k a' _ (heap_alloc_new w _) (World.grownBy_alloc _ _ _) (by simp) hF

/-- A struct or array literal. -/
def EvP (l : List (Nat × Value)) : List (Nat × Operand) → List (Nat × Value) → Prop
  | [], [] => True
  | x :: xs, v :: vs => x.1 = v.1 ∧ Ev l x.2 v.2 ∧ EvP l xs vs
  | _, _ => False
theorem EvP.map {ρ : Operand → Value} (hρ : Oper' ρ l) : ∀ {xs : List (Nat × Operand)} {vs : List (Nat × Value)}, EvP l xs vs → xs.map (fun p => (p.1, ρ p.2)) = vs
  | [], [], _ => rfl
  | x :: xs, v :: vs, h => by rw [List.map_cons, hρ _ _ h.2.1, EvP.map hρ h.2.2, h.1]
  | [], _ :: _, h => h.elim
  | _ :: _, [], h => h.elim
theorem d_build {t ty : TypeId} {ps : List (Nat × Operand)} {vs : List (Nat × Value)} {cells : Array Value} (hb : P.built t vs = some cells) (hv : EvP l ps vs) : Does P l w (.build t ps.toArray) ty (.agg cells) w := by
  intro ρ hρ d pos af g
  have e1 := EvP.map hρ hv
  have hr := run_build (P := P) w t vs.toArray cells (by simpa using hb)
  simp only [execOp, List.map_toArray, Sem.run_bind]
  rw [e1, hr]; rfl
/-- A struct stored over the whole of its block. -/
theorem st_storeAgg (h : Fr N l a) {x y : Operand} {g : Nat} {cs c : Array Value} {e t ty : TypeId} {pos : String} {af : Array Edge} {n : Nat} (hs : (P.info? t).map (·.size) = some n) (hn : cs.size = n) (hc : c.size = n) (hg : w.heap[g]? = some (.cells c e (0, 0))) (hv : ∀ v ∈ cs, v.oneCell' = true)
    (hx : Ev l x (.pointer (some ⟨g, 0, none⟩)) := by exact rfl) (hy : Ev l y (.agg cs) := by exact rfl)
    (k : ∀ a' w', w'.heap[g]? = some (.cells cs e (0, 0)) → w.grownBy w' (some g) → w'.heap.size = w.heap.size → Fr N l a' → wpList P ops Q rest a' w') :
    wpList P ops Q (⟨none, .store t x y, ty, pos, af, none⟩ :: rest) a w := by
  subst hn
  have hr := run_storeCells_at (P := P) g 0 e cs.toList 0 c w hg (by simp; omega) (by simpa using hv)
  refine st0 h (w' := w.setRow g (c.toList.take (0 + 0) ++ cs.toList ++ c.toList.drop (0 + 0 + cs.toList.length)).toArray) ?_ rfl fun a' hF => k a' _ ?_ ?_ (by simp [World.setRow]) hF
  · intro ρ hρ d pos af gd
    obtain ⟨ti, h1, h2⟩ := Option.map_eq_some_iff.1 hs
    have hcs : (Value.agg cs).cells = cs := rfl
    simp [execOp, Instr.storeAt, Instr.sureAddr, storeVar, hρ _ _ hx, hρ _ _ hy, sizeOf, typeInfo, h1, h2, hcs, hr]
  · rw [setRow_heap w g c _ e _ hg]
    have : List.drop cs.size c.toList = [] := List.drop_eq_nil_of_le (by simp [hc])
    simp [this]
  · exact ⟨rfl, rfl, rfl, by simp [World.setRow], fun k hk hne => setRow_other w g k _ (by intro e; exact hne (by rw [e]))⟩

/-! ### a struct's fields -/
def Fld (P : Program) (s f off ft : Nat) : Prop := ∃ fields fd, P.underlying s = some (.struct fields) ∧ fields[f]? = some fd ∧ fd.offset = off ∧ fd.type = ft
theorem d_fieldAddr {x : Operand} {b o s f off ft z : Nat} {ty : TypeId} (hf : Fld P s f off ft) (hs : (P.info? ft).map (·.size) = some z) (hz : z ≠ 0 := by decide) (hx : Ev l x (.pointer (some ⟨b, o, none⟩)) := by exact rfl) :
    Does P l w (.fieldAddr s x f) ty (.pointer (some ⟨b, o + off, none⟩)) w := by
  intro ρ hρ d pos af g
  obtain ⟨fields, fd, h1, h2, rfl, rfl⟩ := hf
  obtain ⟨ti, h3, h4⟩ := Option.map_eq_some_iff.1 hs
  simp [execOp, Instr.fieldAt, Instr.sureAddr, fieldPlace, hρ _ _ hx, run_underlying h1, h2, sizeOf, typeInfo, h3, h4, hz, addr_add]

/-- A store into one cell of a block that is known. -/
theorem st_store (h : Fr N l a) {x y : Operand} {g i : Nat} {v : Value} {c : Array Value} {e t ty : TypeId} {pos : String} {af : Array Edge} (hs : (P.info? t).map (·.size) = some 1) (hg : w.heap[g]? = some (.cells c e (0, 0))) (hi : i < c.size) (hv : v.oneCell' = true)
    (hx : Ev l x (.pointer (some ⟨g, i, none⟩)) := by exact rfl) (hy : Ev l y v := by exact rfl)
    (k : ∀ a' w', w'.heap[g]? = some (.cells (c.setIfInBounds i v) e (0, 0)) → w.grownBy w' (some g) → w'.heap.size = w.heap.size → Fr N l a' → wpList P ops Q rest a' w') :
    wpList P ops Q (⟨none, .store t x y, ty, pos, af, none⟩ :: rest) a w := by
  refine st0 h (d_store hs hv hx hy (cell_at hg (Array.getElem?_eq_getElem hi)) (free_at hg)) rfl fun a' hF => k a' _ ?_ ?_ (by simp) hF
  · simp [World.setCell, Array.getElem?_modify, hg]
  · exact ⟨rfl, rfl, rfl, by simp, fun k hk hne => by
      simp only [World.setCell, Array.getElem?_modify]
      rw [if_neg (fun e => hne (by rw [e]))]⟩

end
end Go.Proofs.YtjomihhpglojpaaDoor
end
section
/- From what an argument reads as to what the walk is told of it. -/
namespace Go.Proofs.YtjomihhpglojpaaDoor
open Go.ChangeShapes Go.WideShapes Go.ChangeAt Go.RowKit Go.Deep

section
variable {H : Type} {enc : TypeId × Value → H} {P : Program} {w : World} {base : Nat} {held : Bool}

end
end Go.Proofs.YtjomihhpglojpaaDoor
end
section
/- Interfaces, parts of slices and strings, tuples. Plain lemmas over any program. -/
namespace Go.Proofs.YtjomihhpglojpaaDoor
open Go.RowKit

section
variable {P : Program} {ops : Array Oper} {Q : Exit → Act → World → Prop} {a : Act} {w w' : World} {rest : List Oper} {N : Nat} {l : List (Nat × Value)}

/-- Is a value of an interface type nil? -/
def isI : Value → Option Bool
  | .nilIface => some true
  | .iface _ _ => some false
  | _ => none

theorem run_equalIn_nil (d : Nat) {t : TypeId} {v : Value} {b : Bool} (hU : ∃ ms, P.underlying t = some (.interface ms)) (hv : isI v = some b) : (Op.equalIn (d + 1) t v .nilIface).run P w = .ok b w := by
  obtain ⟨ms, hU⟩ := hU
  cases v <;> simp [isI] at hv <;> subst hv <;> simp [Op.equalIn, run_underlying hU]
theorem run_eql_nil {t : TypeId} {v : Value} {b : Bool} (hU : ∃ ms, P.underlying t = some (.interface ms)) (hv : isI v = some b) : (binOp .eql t v .nilIface).run P w = .ok (.bool b) w := by
  have h : (Op.equal t v .nilIface).run P w = .ok b w := run_equalIn_nil 9999 hU hv
  cases v <;> simp [isI] at hv
  all_goals
    show (do pure (Value.bool (← Op.equal t _ .nilIface)) : Sem Value).run P w = _
    rw [Sem.run_bind, h]; rfl
theorem run_neq_nil {t : TypeId} {v : Value} {b : Bool} (hU : ∃ ms, P.underlying t = some (.interface ms)) (hv : isI v = some b) : (binOp .neq t v .nilIface).run P w = .ok (.bool (!b)) w := by
  have h : (Op.equal t v .nilIface).run P w = .ok b w := run_equalIn_nil 9999 hU hv
  cases v <;> simp [isI] at hv
  all_goals
    show (do pure (Value.bool (!(← Op.equal t _ .nilIface))) : Sem Value).run P w = _
    rw [Sem.run_bind, h]; rfl
theorem run_eqGuard_nil {op : BinOp} {t : TypeId} {v : Value} {x : Operand} : (eqGuard op t x (.const .nilIface) v .nilIface).run P w = .ok () w := by
  unfold eqGuard
  cases op <;> cases v <;> first | rfl | simp
theorem d_eqN {x : Operand} {v : Value} {b : Bool} {t t' ty : TypeId} (hU : ∃ ms, P.underlying t = some (.interface ms)) (hx : Ev l x v := by exact rfl) (hv : isI v = some b := by exact rfl) : Does P l w (.binOp .eql t x (.const .nilIface) t') ty (.bool b) w := by
  intro ρ hρ d pos af g
  have e1 : ρ (.const .nilIface) = .nilIface := hρ _ _ rfl
  simp only [execOp, hρ _ _ hx, e1, Sem.run_bind, run_eqGuard_nil, Result.andThen_ok, run_eql_nil hU hv]
  rfl
theorem d_neN {x : Operand} {v : Value} {b c : Bool} {t t' ty : TypeId} (hU : ∃ ms, P.underlying t = some (.interface ms)) (hx : Ev l x v := by exact rfl) (hv : isI v = some b := by exact rfl) (hc : (!b) = c := by exact rfl) : Does P l w (.binOp .neq t x (.const .nilIface) t') ty (.bool c) w := by
  intro ρ hρ d pos af g
  subst hc
  have e1 : ρ (.const .nilIface) = .nilIface := hρ _ _ rfl
  simp only [execOp, hρ _ _ hx, e1, Sem.run_bind, run_eqGuard_nil, Result.andThen_ok, run_neq_nil hU hv]
  rfl

def concB (d : TypeDesc) : Bool := match d with | .interface _ => false | _ => true
theorem d_makeI {x : Operand} {v : Value} {t ty : TypeId} (hU : (P.underlying t).map concB = some true) (hx : Ev l x v := by exact rfl) : Does P l w (.makeInterface t x) ty (.iface t v) w := by
  intro ρ hρ d pos af g
  obtain ⟨dd, h1, h2⟩ := Option.map_eq_some_iff.1 hU
  cases dd <;> simp [concB] at h2 <;> simp [execOp, Instr.makeInterface, hρ _ _ hx, run_underlying h1]
theorem d_extract {x : Operand} {vs : Array Value} {v : Value} {k : Nat} {ty : TypeId} (hx : Ev l x (.tuple vs) := by exact rfl) (hv : vs[k]? = some v := by exact rfl) : Does P l w (.extract x k) ty v w := by
  intro ρ hρ d pos af g
  simp [execOp, Instr.extract, hρ _ _ hx, hv]

/-! ### parts of slices -/
theorem Rd.drop {α : Type} {w : World} {ao : Option Addr} {enc : α → Value} {xs : List α} (h : Rd w ao enc xs) (i m : Nat) (hm : xs.length ≤ m) : Rd w (if m = i then ao else ao.map (·.add (i * 1))) enc (xs.drop i) := by
  intro j hj
  have hj' : i + j < xs.length := by simp at hj; omega
  obtain ⟨b, o, rfl, hc⟩ := h (i + j) hj'
  rw [if_neg (by omega)]
  refine ⟨b, o + i, by simp [addr_add], ?_⟩
  rw [List.getElem_drop, Nat.add_assoc]
  exact hc
end
end Go.Proofs.YtjomihhpglojpaaDoor
end
section
/- Texts gone through rune by rune; tests that are split by what they say. Plain lemmas over any program. -/
namespace Go.Proofs.YtjomihhpglojpaaDoor
open Go.RowKit

/-- An iterator over a text. -/
def IterAt (w : World) (r : Nat) (s : ByteArray) (pos : Nat) : Prop := w.heap[r]? = some (.stringIter s pos)
theorem width_pos (s : ByteArray) (pos : Nat) (h : pos < s.size) : 1 ≤ (Utf8.decode s pos).2 := by
  by_cases ha : (s[pos]'h).toNat < 128
  · rw [decode_ascii s pos h ha]; exact Nat.le_refl _
  · exact (decode_high s pos h (by omega)).2

section
variable {P : Program} {ops : Array Oper} {Q : Exit → Act → World → Prop} {a : Act} {w w' : World} {rest : List Oper} {N : Nat} {l : List (Nat × Value)}

theorem st_range (h : Fr N l a) {d : Nat} {x : Operand} {t ty : TypeId} {pos : String} {af : Array Edge} {s : ByteArray} (hU : P.underlying t = some .string) (hx : Ev l x (.string s) := by exact rfl) (hd : Nat.blt d N = true := by exact rfl)
    (k : ∀ a' w', IterAt w' w.heap.size s 0 → w.grownBy w' none → w'.heap.size = w.heap.size + 1 → Fr N ((d, .pointer (some ⟨w.heap.size, 0, none⟩)) :: l) a' → wpList P ops Q rest a' w') :
    wpList P ops Q (⟨some d, .range t x, ty, pos, af, none⟩ :: rest) a w :=
  st h (v := .pointer (some ⟨w.heap.size, 0, none⟩)) (w' := w.iter s 0) (by intro ρ hρ d pos af g; simp [execOp, hρ _ _ hx, run_range_string w t s hU]) hd
    fun a' hF => k a' _ (World.iter_heap w s 0) (World.grownBy_alloc _ _ _) (by simp [World.iter]) hF

theorem setObj_heap (w : World) (r : Nat) (o o' : Obj) (h : w.heap[r]? = some o') : ({ w with heap := w.heap.setIfInBounds r o } : World).heap[r]? = some o := by
  have := lt_at h
  simp [this]
theorem st_next (h : Fr N l a) {d : Nat} {x : Operand} {r : Nat} {ty : TypeId} {pos : String} {af : Array Edge} {s : ByteArray} {p : Nat} (hg : IterAt w r s p) (hp : p < s.size) (hx : Ev l x (.pointer (some ⟨r, 0, none⟩)) := by exact rfl) (hd : Nat.blt d N = true := by exact rfl)
    (k : ∀ a' w', IterAt w' r s (p + (Utf8.decode s p).2) → w.grownBy w' (some r) → w'.heap.size = w.heap.size → Fr N ((d, .tuple #[.bool true, .int .i64 p, .int .i32 (Utf8.decode s p).1]) :: l) a' → wpList P ops Q rest a' w') :
    wpList P ops Q (⟨some d, .next x true, ty, pos, af, none⟩ :: rest) a w := by
  have hg' : w.heap[r]? = some (.stringIter s p) := hg
  refine st h (v := .tuple #[.bool true, .int .i64 p, .int .i32 (Utf8.decode s p).1]) (w' := { w with heap := w.heap.setIfInBounds r (.stringIter s (p + (Utf8.decode s p).2)) }) ?_ hd
    fun a' hF => k a' _ (setObj_heap w r _ _ hg') ⟨rfl, rfl, rfl, by simp, fun k _ hne => by
      show (w.heap.setIfInBounds r _)[k]? = _
      rw [Array.getElem?_setIfInBounds_ne (fun e => hne (by rw [e]))]⟩ (by simp) hF
  intro ρ hρ d pos af g
  simp only [execOp, hρ _ _ hx, Instr.next, getObj, setObj, Sem.run_bind, Sem.run, hg', Result.andThen, hp, if_true]
  simp [goInt]
theorem st_nextE (h : Fr N l a) {d : Nat} {x : Operand} {r : Nat} {ty : TypeId} {pos : String} {af : Array Edge} {s : ByteArray} {p : Nat} (hg : IterAt w r s p) (hp : ¬ p < s.size) (hx : Ev l x (.pointer (some ⟨r, 0, none⟩)) := by exact rfl) (hd : Nat.blt d N = true := by exact rfl)
    (k : ∀ a', Fr N ((d, .tuple #[.bool false]) :: l) a' → wpList P ops Q rest a' w) :
    wpList P ops Q (⟨some d, .next x true, ty, pos, af, none⟩ :: rest) a w := by
  have hg' : w.heap[r]? = some (.stringIter s p) := hg
  refine st h (v := .tuple #[.bool false]) (w' := w) ?_ hd fun a' hF => k a' hF
  intro ρ hρ d pos af g
  simp [execOp, hρ _ _ hx, Instr.next, getObj, Sem.run, hg', hp]

/-- A text held against the empty one. -/
theorem eq_str (s u : ByteArray) : (s.toList == u.toList) = decide (s = u) := by
  rw [Go.ByteArray.toList_eq, Go.ByteArray.toList_eq, Bool.eq_iff_iff]
  simp [ByteArray.ext_iff, Array.toList_inj]
theorem run_eql_str (t : TypeId) (s u : ByteArray) : (binOp .eql t (.string s) (.string u)).run P w = .ok (.bool (decide (s = u))) w := by rw [binOp_string_eql, eq_str]; rfl
theorem run_neq_str (t : TypeId) (s u : ByteArray) : (binOp .neq t (.string s) (.string u)).run P w = .ok (.bool (!decide (s = u))) w := by rw [binOp_string_neq, eq_str]; rfl
theorem d_eqS {op : BinOp} {x y : Operand} {s u : ByteArray} {b : Bool} {t t' ty : TypeId} (hx : Ev l x (.string s) := by exact rfl) (hy : Ev l y (.string u) := by exact rfl) (hb : (match op with | .eql => some (decide (s = u)) | .neq => some (!decide (s = u)) | _ => none) = some b := by exact rfl) : Does P l w (.binOp op t x y t') ty (.bool b) w := by
  intro ρ hρ d pos af g
  cases op <;> simp only [Option.some.injEq, reduceCtorEq] at hb <;> subst hb
  · simp only [execOp, hρ _ _ hx, hρ _ _ hy, Sem.run_bind]
    have e : (eqGuard .eql t x y (.string s) (.string u)).run P w = .ok () w := rfl
    rw [e, Result.andThen_ok, run_eql_str]; rfl
  · simp only [execOp, hρ _ _ hx, hρ _ _ hy, Sem.run_bind]
    have e : (eqGuard .neq t x y (.string s) (.string u)).run P w = .ok () w := rfl
    rw [e, Result.andThen_ok, run_neq_str]; rfl
theorem d_eqST {op : BinOp} {x y : Operand} {s u : ByteArray} {b : Bool} {t t' ty : TypeId} (hx : Ev l x (.string s) := by exact rfl) (hy : Ev l y (.string u) := by exact rfl) (hb : (match op with | .eql => some (decide (s = u)) | .neq => some (!decide (s = u)) | _ => none) = some b := by exact rfl)
    (h : b = true := by first | exact rfl | exact decide_eq_true rfl | assumption) : Does P l w (.binOp op t x y t') ty (.bool true) w := d_to (d_eqS hx hy hb) h
theorem d_eqSF {op : BinOp} {x y : Operand} {s u : ByteArray} {b : Bool} {t t' ty : TypeId} (hx : Ev l x (.string s) := by exact rfl) (hy : Ev l y (.string u) := by exact rfl) (hb : (match op with | .eql => some (decide (s = u)) | .neq => some (!decide (s = u)) | _ => none) = some b := by exact rfl)
    (h : b = false := by first | exact rfl | assumption) : Does P l w (.binOp op t x y t') ty (.bool false) w := d_to (d_eqS hx hy hb) h

/-! ### a test, split -/
theorem st_split (h : Fr N l a) {d : Nat} {op : BinOp} {x y : Operand} {t t' ty : TypeId} {pos : String} {af : Array Edge} {k : IntKind} {m n : Int} {c : Bool} (hx : Ev l x (.int k m) := by exact rfl) (hy : Ev l y (.int k n) := by exact rfl) (hc : cmpOf op m n = some c := by exact rfl) (hd : Nat.blt d N = true := by exact rfl)
    (kT : c = true → ∀ a', Fr N ((d, .bool true) :: l) a' → wpList P ops Q rest a' w) (kF : c = false → ∀ a', Fr N ((d, .bool false) :: l) a' → wpList P ops Q rest a' w) :
    wpList P ops Q (⟨some d, .binOp op t x y t', ty, pos, af, none⟩ :: rest) a w := by
  cases e : c with
  | true => exact st h (d_to (d_cmp hx hy hc) e) hd (kT e)
  | false => exact st h (d_to (d_cmp hx hy hc) e) hd (kF e)
theorem stg_split (h : Fr N l a) {d : Nat} {op : BinOp} {x y : Operand} {t t' ty : TypeId} {pos : String} {af : Array Edge} {k : IntKind} {m n : Int} {c : Bool} {j e : Nat} {b : Bool} (hj : (ops[j]?).bind (·.dst) = some e := by exact rfl) (hb : look l e = some (.bool b) := by exact rfl) (hx : Ev l x (.int k m) := by exact rfl) (hy : Ev l y (.int k n) := by exact rfl) (hc : cmpOf op m n = some c := by exact rfl) (hd : Nat.blt d N = true := by exact rfl)
    (kT : c = true → ∀ a', Fr N ((d, .bool true) :: l) a' → wpList P ops Q rest a' w) (kF : c = false → ∀ a', Fr N ((d, .bool false) :: l) a' → wpList P ops Q rest a' w) :
    wpList P ops Q (⟨some d, .binOp op t x y t', ty, pos, af, some (j, b)⟩ :: rest) a w := by
  cases e : c with
  | true => exact stg h hj hb (d_to (d_cmp hx hy hc) e) hd (kT e)
  | false => exact stg h hj hb (d_to (d_cmp hx hy hc) e) hd (kF e)
end
end Go.Proofs.YtjomihhpglojpaaDoor
end
section
/- Regions that draw their order: with calls in them, with stores behind; whole structs loaded; function values; slices of many elements. Plain lemmas over any program. -/
namespace Go.Proofs.YtjomihhpglojpaaDoor
open Go.RowKit

section
variable {P : Program} {ops : Array Oper} {Q : Exit → Act → World → Prop} {a : Act} {w w' : World} {rest : List Oper} {N : Nat} {l : List (Nat × Value)}

/-- A region that draws its order, over a class of worlds. -/
theorem c_region_drawC (C : World → Prop) (id : Nat) {l' : List Oper} (hm : P.follows .mixedOrders = true) (hB : Region.lexB .any l'.toArray = true) (hC : C (w.drewN 1))
    (h : wpQuiet P l'.toArray C (fun a' => ∀ w', C w' → Q .normal a' w') l' a) : (Code.region id l'.toArray true).wp P Q a w :=
  wp_region_quiet (C := C) hm hB hC (by simpa using h)

theorem q_stc {C : World → Prop} {Q' : Act → Prop} (h : Fr N l a) {d : Nat} {f : FuncId} {xs : List Operand} {vs : List Value} {v : Value} {ats : Array TypeId} {ty : TypeId} {pos : String} {af : Array Edge}
    (hc : ∀ w, C w → Ret P f vs.toArray w (fun u w' => u = v ∧ C w')) (hf : Callable P f) (hx : Evs l xs vs) (hd : Nat.blt d N = true := by exact rfl)
    (k : ∀ a', Fr N ((d, v) :: l) a' → wpQuiet P ops C Q' rest a') : wpQuiet P ops C Q' (⟨some d, .call { callee := .value (.func f), args := xs.toArray, argTypes := ats }, ty, pos, af, none⟩ :: rest) a :=
  wpQuiet_step fun K hK => by
    rw [if_pos (by simp [Region.wanted])]
    refine ⟨v, fun w hw => ?_, hK _ (k _ (h.put hd v))⟩
    unfold Oper.quietAt
    rw [exec_call h.eval hf hx]
    refine ⟨rfl, Calls.mono (hc w hw) ?_⟩
    rintro e w' ⟨u, rfl, rfl, hw'⟩
    exact ⟨rfl, hw'⟩
/-! ### reads first, then stores in their order -/
/-! ### an argument in a box -/
theorem st_box (h : Fr N l a) {d : Nat} {x : Operand} {v : Value} {e ty : TypeId} {pos : String} {af : Array Edge} {cs : Array Value} (hcs : v.cells = cs) (hx : Ev l x v := by exact rfl) (hd : Nat.blt d N = true := by exact rfl)
    (k : ∀ a' w', w'.heap[w.heap.size]? = some (.cells cs e (0, 0)) → w.grownBy w' none → w'.heap.size = w.heap.size + 1 → Fr N ((d, .pointer (some ⟨w.heap.size, 0, none⟩)) :: l) a' → wpList P ops Q rest a' w') :
    wpList P ops Q (⟨some d, .box e x, ty, pos, af, none⟩ :: rest) a w := by
  subst hcs
  exact st h (d_box hx) hd fun a' hF => k a' _ (heap_alloc_new w _) (World.grownBy_alloc _ _ _) (by simp) hF

/-! ### a whole struct, loaded -/
def aggB (d : TypeDesc) : Bool := match d with | .struct _ | .array _ _ => true | _ => false
theorem d_loadAgg {x : Operand} {b o n : Nat} {cs : Array Value} {t ty : TypeId} (hU : (P.underlying t).map aggB = some true) (hs : (P.info? t).map (·.size) = some n) (hn : cs.size = n) (hc : ∀ j v, cs[j]? = some v → w.cell? ⟨b, o + j, none⟩ = some v) (hx : Ev l x (.pointer (some ⟨b, o, none⟩)) := by exact rfl) :
    Does P l w (.load t x) ty (.agg cs) w := by
  intro ρ hρ d pos af g
  subst hn
  obtain ⟨ti, h1, h2⟩ := Option.map_eq_some_iff.1 hs
  obtain ⟨dd, h3, h4⟩ := Option.map_eq_some_iff.1 hU
  have hr : (loadCells ⟨b, o, none⟩ cs.size).run P w = .ok cs w := by
    have := run_loadCells_list (P := P) (w := w) ⟨b, o, none⟩ cs.toList (fun j v hj => by rw [addr_add]; exact hc j v (by simpa using hj))
    simpa using this
  cases dd <;> simp [aggB] at h4 <;> simp [execOp, Instr.loadAt, Instr.sureAddr, loadVar, isAgg, hρ _ _ hx, run_underlying h3, sizeOf, typeInfo, h1, h2, hr]
theorem cells_at {w : World} {g : Nat} {cs : Array Value} {e : TypeId} {fr : Nat × Nat} (h : w.heap[g]? = some (.cells cs e fr)) : ∀ j v, cs[j]? = some v → w.cell? ⟨g, 0 + j, none⟩ = some v := by
  intro j v hj
  rw [Nat.zero_add]
  exact cell_at h hj

/-! ### function values -/
theorem d_makeFunc {f : Fn} {xs : List Operand} {vs : List Value} {ty : TypeId} (hx : Evs l xs vs) : Does P l w (.makeFunc f #[] xs.toArray) ty (.func f #[] vs.toArray) w := by
  intro ρ hρ d pos af g
  have := Evs.map hρ hx
  simp [execOp, Instr.makeFunc, this]
theorem exec_callv {ρ : Operand → Value} (hρ : Oper' ρ l) {y : Operand} {f : FuncId} {cs : List Value} {xs : List Operand} {vs : List Value} {ats : Array TypeId} (hc : Callable P f) (hy : Ev l y (.func (.func f) #[] cs.toArray)) (hx : Evs l xs vs) (d : Option Tmp) (ty : TypeId) (pos : String) (af : Array Edge) (g : Option (Nat × Bool)) :
    (execOp ρ ⟨d, .call { callee := .value y, args := xs.toArray, argTypes := ats }, ty, pos, af, g⟩).run P w = .ok (.enter f (vs ++ cs).toArray) w := by
  obtain ⟨fn, h1, h2, h3⟩ := hc.out
  have e1 : ρ y = .func (.func f) #[] cs.toArray := hρ _ _ hy
  have e2 := Evs.map hρ hx
  simp only [execOp, resolve, Deferred.ofValue, invoke, callFunc, e1, e2, Sem.run_bind, Sem.run_pure, Result.andThen_ok, run_program, h1, h2, h3, List.map_toArray, List.append_toArray, List.nil_append]
  simp
theorem stcv (h : Fr N l a) {d : Nat} {y : Operand} {f : FuncId} {cs : List Value} {xs : List Operand} {vs : List Value} {ats : Array TypeId} {ty : TypeId} {pos : String} {af : Array Edge} {R : Value → World → Prop}
    (hc : Ret P f (vs ++ cs).toArray w R) (hf : Callable P f) (hx : Evs l xs vs) (hy : Ev l y (.func (.func f) #[] cs.toArray) := by exact rfl) (hd : Nat.blt d N = true := by exact rfl)
    (k : ∀ a' v w', R v w' → Fr N ((d, v) :: l) a' → wpList P ops Q rest a' w') :
    wpList P ops Q (⟨some d, .call { callee := .value y, args := xs.toArray, argTypes := ats }, ty, pos, af, none⟩ :: rest) a w :=
  wpList_plain rfl fun K hK => by
    unfold Oper.wp
    rw [exec_callv h.eval hf hy hx]
    refine Calls.mono hc ?_
    rintro e w' ⟨v, rfl, hR⟩
    exact hK _ _ (k _ _ _ hR (h.put hd v))

/-! ### a store into a row of the call's own -/
/-- A new element behind a row of the call's own; where the row lies behind it. -/
theorem st_push' (h : Fr N l a) {d d' : Nat} {x : Operand} {s : Operand} {u z : Value} {t e ty ty' : TypeId} {pos pos' : String} {af af' : Array Edge} {bytes n base cap : Nat} {ao : Option Addr} {xs : List Value}
    (hU : P.underlying t = some (.slice e)) (hi : (P.info? e).map (fun i => (i.zero, i.size, i.bytes)) = some (some z, 1, bytes)) (hz : z.cells.size = 1)
    (hown : w.ownsRow base e 1 (.slice ao n cap) n xs) (hbd : (n + 1) * bytes ≤ 140737488355328) (hm : n + 1 ≤ maxLen) (hbase : base ≤ w.heap.size)
    (hx : Ev l x u := by exact rfl) (hs : Ev ((d, .slice (some ⟨w.heap.size, 0, none⟩) 1 1) :: l) s (.slice ao n cap) := by exact rfl) (hd : Nat.blt d N = true := by exact rfl) (hd' : Nat.blt d' N = true := by exact rfl) (hu : u.oneCell' = true := by exact rfl)
    (k : ∀ a' ao' cap' w', w'.ownsRow base e 1 (.slice ao' (n + 1) cap') (n + 1) (xs ++ [u]) → w.grownBy w' (Value.slice ao n cap).ownBlock → ((Value.slice ao' (n + 1) cap').ownBlock = (Value.slice ao n cap).ownBlock ∨ (Value.slice ao' (n + 1) cap').ownBlock = some (w.heap.size + 1)) → Fr N ((d', .slice ao' (n + 1) cap') :: (d, .slice (some ⟨w.heap.size, 0, none⟩) 1 1) :: l) a' → wpList P ops Q rest a' w') :
    wpList P ops Q (⟨some d, .buildSlice t 1 [(0, x)].toArray, ty, pos, af, none⟩ :: ⟨some d', .call { callee := .builtin .append, args := [s, .tmp d].toArray, argTypes := [t, t].toArray }, ty', pos', af', none⟩ :: rest) a w := by
  have hv : u.cells = #[u] := by cases u <;> simp [Value.oneCell'] at hu <;> rfl
  refine st h (d_build1 hU hi hv hx) hd fun a1 h1 => ?_
  obtain ⟨i, g1, g2, g3, g4⟩ := info_parts hi
  have hev : a1.eval (.tmp d) = .slice (some ⟨w.heap.size, 0, none⟩) 1 1 := h1.eval _ _ (by simp [Ev, look_cons])
  refine wpList_append_own_at _ rfl s (.tmp d) t rfl base e i z 1 bytes hU g1 g2 g3 g4 hz (by decide) (.slice ao n cap) n xs (h1.eval _ _ hs) (hown.alloc _)
    ⟨w.heap.size, 0, none⟩ 1 1 [u] hev rfl ?_ ?_ hm hbd (by simp; omega) ?_
  · intro j v hj
    match j, hj with
    | 0, hj =>
      simp at hj
      subst hj
      simp [Addr.add]
  · intro v hv; simp at hv; subst hv; exact hu
  · intro v' w' hown' hgr hnil hat
    obtain ⟨ao', cap', rfl, _, _⟩ := own_form hown'
    refine k _ ao' cap' w' hown' ?_ (by simpa using hat) (h1.put hd' _)
    exact ⟨hgr.os, hgr.tape, hgr.output, by have := hgr.size; simp at this; omega, fun k hk hne => by rw [hgr.block k (by simp; omega) hne]; exact Below.heap_alloc _ _ _ hk⟩

/-! ### min, max -/
theorem d_max {x y : Operand} {k k' : IntKind} {m n : Int} {t t' ty : TypeId} (hx : Ev l x (.int k m) := by exact rfl) (hy : Ev l y (.int k' n) := by exact rfl) :
    Does P l w (.call { callee := .builtin .max, args := [x, y].toArray, argTypes := [t, t'].toArray }) ty (.int k (if m < n then n else m)) w := by
  intro ρ hρ d pos af g; simp [execOp, resolve, invoke, builtin, Builtin.max_, Builtin.max2, hρ _ _ hx, hρ _ _ hy]
theorem d_min {x y : Operand} {k k' : IntKind} {m n : Int} {t t' ty : TypeId} (hx : Ev l x (.int k m) := by exact rfl) (hy : Ev l y (.int k' n) := by exact rfl) :
    Does P l w (.call { callee := .builtin .min, args := [x, y].toArray, argTypes := [t, t'].toArray }) ty (.int k (if n < m then n else m)) w := by
  intro ρ hρ d pos af g; simp [execOp, resolve, invoke, builtin, Builtin.min_, Builtin.min2, hρ _ _ hx, hρ _ _ hy]

/-! ### a slice of many one-cell elements -/
def filled (n : Nat) (z : Value) (vs : List (Nat × Value)) : Option (Array Value) :=
  Instr.fill (fun i => some (i * 1, 1)) (Array.replicate n z) vs
theorem d_buildS {t e ty : TypeId} {n : Nat} {ps : List (Nat × Operand)} {vs : List (Nat × Value)} {z : Value} {cells : Array Value} {by_ : Nat} (hU : P.underlying t = some (.slice e)) (hi : (P.info? e).map (fun i => (i.zero, i.size, i.bytes)) = some (some z, 1, by_)) (hz : z.cells = #[z])
    (hn0 : 0 < n) (hn : n ≤ 16777216) (hb : filled n z vs = some cells) (hv : EvP l ps vs) : Does P l w (.buildSlice t n ps.toArray) ty (.slice (some ⟨w.heap.size, 0, none⟩) n n) (w.alloc (.cells cells e)) := by
  intro ρ hρ d pos af g
  have e1 := EvP.map hρ hv
  obtain ⟨i, h1, h2, h3, h4⟩ := info_parts hi
  have e2 : (Array.range n).map (fun x => z.cells[x % z.cells.size]!) = Array.replicate n z := by
    apply Array.ext
    · simp
    · intro j hj1 hj2
      simp [hz, Nat.mod_one]
  unfold filled at hb
  have h5 : ¬ n * 1 > 2 ^ 24 := by omega
  have h6 : ¬ n * 1 = 0 := by omega
  simp only [Nat.mul_one] at hb
  have h7 : ¬ n = 0 := by omega
  have h8 : ¬ 2 ^ 24 < n := by omega
  simp [execOp, Instr.buildSlice, run_underlying hU, sizeOf, typeInfo, zeroValue, h1, h2, h3, h7, h8, e2, e1, hb, newRow]
end
end Go.Proofs.YtjomihhpglojpaaDoor
end
