/- Laid together by a program of mine: Ust Push Own2 PushS Units Dec UnqL. -/
import Derived.Test.YtjomihhpglojpaaDoorSumBOneW2
import Derived.Test.YtjomihhpglojpaaDoorSumBOneW3
import Derived.Great.BuildSlice
import Derived.Test.YtjomihhpglojpaaDoorSumBOneW4
import Derived.Test.YtjomihhpglojpaaDoorSumBOneW7
import Derived.Lib.ValidLaws
import Derived.Lib.TrimUEq
import Derived.Laws.BytesArg
import Derived.Laws.IdiomStrings
import Derived.Lib.UnsafeStr
set_option linter.unusedSimpArgs false
set_option linter.unusedVariables false
section
/- Where the units of a text stand: plain laws. -/
namespace Go.Proofs.YtjomihhpglojpaaDoor
open Go.RowKit

/-- Where the units of a text stand: the byte, the line, the column. -/
def uStep (s : ByteArray) (t : Nat × Int × Int) : Nat × Int × Int :=
  if (Utf8.decode s t.1).1 = 10 then (t.1 + (Utf8.decode s t.1).2, t.2.1 + 1, 1) else (t.1 + (Utf8.decode s t.1).2, t.2.1, t.2.2 + 1)
def uSt (s : ByteArray) : Nat → Nat × Int × Int
  | 0 => (0, 1, 1)
  | k + 1 => uStep s (uSt s k)
theorem uSt_lt (s : ByteArray) (k : Nat) (h : (uSt s k).1 < s.size) : (uSt s k).1 < (uSt s (k + 1)).1 := by
  have := width_pos s _ h
  show _ < (uStep s (uSt s k)).1
  unfold uStep
  split <;> (simp only; omega)
theorem uSt_fst (s : ByteArray) (k : Nat) : (uSt s (k + 1)).1 = (uSt s k).1 + (Utf8.decode s (uSt s k).1).2 := by
  show (uStep s (uSt s k)).1 = _
  unfold uStep
  split <;> rfl
theorem uSt_bnd (s : ByteArray) : ∀ k, (∀ j, j < k → (uSt s j).1 < s.size) → 1 ≤ (uSt s k).2.1 ∧ (uSt s k).2.1 ≤ (uSt s k).1 + 1 ∧ 1 ≤ (uSt s k).2.2 ∧ (uSt s k).2.2 ≤ (uSt s k).1 + 1
  | 0, _ => ⟨Int.le_refl _, Int.le_refl _, Int.le_refl _, Int.le_refl _⟩
  | k + 1, h => by
    obtain ⟨h1, h2, h3, h4⟩ := uSt_bnd s k (fun j hj => h j (by omega))
    have := width_pos s _ (h k (by omega))
    show 1 ≤ (uStep s (uSt s k)).2.1 ∧ (uStep s (uSt s k)).2.1 ≤ (uStep s (uSt s k)).1 + 1 ∧ 1 ≤ (uStep s (uSt s k)).2.2 ∧ (uStep s (uSt s k)).2.2 ≤ (uStep s (uSt s k)).1 + 1
    unfold uStep
    split <;> (simp only; omega)
/-- The rune of unit k. -/
def uR (s : ByteArray) (k : Nat) : Int := (Utf8.decode s (uSt s k).1).1
def placeV (s : ByteArray) (k : Nat) : Value := .agg #[.int .i64 (uSt s k).2.1, .int .i64 (uSt s k).2.2]

end Go.Proofs.YtjomihhpglojpaaDoor
end
section
/- An append of one element, and which of its two ways it goes: into the room behind, or into a new block. Plain lemmas over any program. -/
namespace Go.Proofs.YtjomihhpglojpaaDoor
open Go.RowKit

section
variable {P : Program} {ops : Array Oper} {Q : Exit → Act → World → Prop} {a : Act} {w w' : World} {rest : List Oper} {N : Nat} {l : List (Nat × Value)}

theorem run_append_two (base : Nat) (t ty e : TypeId) (i : TypeInfo) (z : Value) (bytes : Nat) (ht : P.underlying t = some (.slice e)) (hi : P.info? e = some i) (hz : i.zero = some z)
    (hsize : i.size = 1) (hby : i.bytes = bytes) (hzs : z.cells.size = 1) (ao : Option Addr) (cap n : Nat) (xs : List Value) (hown : w.ownsRow base e 1 (.slice ao n cap) n xs)
    (ad : Addr) (c : Nat) (u : Value) (hu : w.cell? ad = some u) (h1 : u.oneCell' = true) (h63 : n + 1 ≤ maxLen) (hbytes : (n + 1) * bytes ≤ 140737488355328) (hbase : base ≤ w.heap.size) :
    ∃ ao' cap' w', (Builtin.append_ #[t, t] ty #[.slice ao n cap, .slice (some ad) 1 c]).run P w = .ok (.slice ao' (n + 1) cap') w' ∧ w'.ownsRow base e 1 (.slice ao' (n + 1) cap') (n + 1) (xs ++ [u]) ∧
      ((ao' = ao ∧ cap' = cap ∧ w.grownBy w' (Value.slice ao n cap).ownBlock) ∨ (ao' = some ⟨w.heap.size, 0, none⟩ ∧ w.grownBy w' none ∧ w.heap.size < w'.heap.size)) := by
  have hnews : ∀ j v, [u][j]? = some v → w.cell? (ad.add j) = some v := by
    intro j v hj
    match j, hj with
    | 0, hj => simp at hj; subst hj; simpa [Addr.add] using hu
  have h1' : ∀ v ∈ [u], v.oneCell' = true := by intro v hv; simp at hv; subst hv; exact h1
  obtain ⟨v', w', hr, hown', hgr, _, hat⟩ := run_append_own_at (P := P) w base t ty e i z 1 bytes ht hi hz hsize hby hzs (by decide) _ n xs hown ad 1 c [u] (by simp) hnews h1' h63 hbytes hbase
  obtain ⟨ao', cap', rfl, _, _⟩ := own_form hown'
  refine ⟨ao', cap', w', hr, hown', ?_⟩
  have hsrc : Src P i.size t (.slice (some ad) 1 c) 1 [u] w := by rw [hsize]; exact Src.ofSlice w ht ad 1 c [u] (by simp) hnews h1'
  by_cases hroom : n + 1 ≤ cap
  · left
    rcases hown.2 with ⟨h0, _⟩ | ⟨g, cap2, cur, h0, hb, hg, hle, hm, hsz, htk⟩
    · cases h0; omega
    · cases h0
      have hc : ∀ j, j < [u].length → (w.cell? ⟨g, 0 + n * i.size + j, none⟩).isSome = true := by
        intro j hj
        simp at hj
        subst hj
        rw [hsize]
        have : n < cur.size := by omega
        rw [show 0 + n * 1 + 0 = n by omega, cell_at hg (Array.getElem?_eq_getElem this)]
        rfl
      have hf : ∀ j, j < [u].length → w.frozen? ⟨g, 0 + n * i.size + j, none⟩ = false := fun j _ => free_at hg
      have hr2 := run_append_room_src (P := P) w t t ty e i ht hi g 0 n cap _ 1 [u] hsrc hroom hc hf
      rw [hr] at hr2
      cases hr2
      exact ⟨rfl, rfl, hgr⟩
  · right
    have hold : (Builtin.firstCells i.size n (.slice ao n cap)).run P w.drew = .ok xs.toArray w.drew := by
      rw [hsize]
      rcases hown.2 with ⟨h0, hx⟩ | ⟨g, cap2, cur, h0, hb, hg, hle, hm, hsz, htk⟩
      · cases h0
        obtain rfl : xs = [] := List.eq_nil_of_length_eq_zero (by have := hown.1; omega)
        simp [Builtin.firstCells]
      · cases h0
        have hl := hown.1
        rw [Nat.mul_one] at hl
        have := run_loadCells_list (P := P) (w := w.drew) ⟨g, 0, none⟩ xs (fun j v hj => by
          rw [addr_add]
          have hj' : j < xs.length := (List.getElem?_eq_some_iff.1 hj).1
          have h2 : (cur.toList.take (n * 1))[j]? = some v := by rw [htk]; exact hj
          rw [List.getElem?_take_of_lt (by omega)] at h2
          have : w.cell? ⟨g, 0 + j, none⟩ = some v := by rw [Nat.zero_add]; exact cell_at hg (by simpa using h2)
          exact this)
        rw [hl] at this
        simpa [Builtin.firstCells] using this
    have hfit : Builtin.nextslicecap (n + 1) cap * i.bytes ≤ 281474976710656 := by
      rw [hby]; exact growslice_fits (by omega) hbytes
    have hr2 := run_append_grow_src (P := P) w t t ty e i z ht hi hz ao n cap xs hold _ 1 [u] hsrc (by omega) (by unfold maxLen at h63; omega) hfit
    rw [hr] at hr2
    cases hr2
    exact ⟨rfl, ⟨rfl, rfl, rfl, by simp, fun k hk _ => heap_alloc_old w.drew _ hk⟩, by simp⟩
/-- A new element behind a row of the call's own, both ways told apart. -/
theorem st_push2 (h : Fr N l a) {d d' : Nat} {x : Operand} {s : Operand} {u z : Value} {t e ty ty' : TypeId} {pos pos' : String} {af af' : Array Edge} {bytes n base cap : Nat} {ao : Option Addr} {xs : List Value}
    (hU : P.underlying t = some (.slice e)) (hi : (P.info? e).map (fun i => (i.zero, i.size, i.bytes)) = some (some z, 1, bytes)) (hz : z.cells.size = 1)
    (hown : w.ownsRow base e 1 (.slice ao n cap) n xs) (hbd : (n + 1) * bytes ≤ 140737488355328) (hm : n + 1 ≤ maxLen) (hbase : base ≤ w.heap.size)
    (hx : Ev l x u := by exact rfl) (hs : Ev ((d, .slice (some ⟨w.heap.size, 0, none⟩) 1 1) :: l) s (.slice ao n cap) := by exact rfl) (hd : Nat.blt d N = true := by exact rfl) (hd' : Nat.blt d' N = true := by exact rfl) (hu : u.oneCell' = true := by exact rfl)
    (k : ∀ a' ao' cap' w', w'.ownsRow base e 1 (.slice ao' (n + 1) cap') (n + 1) (xs ++ [u]) → ((ao' = ao ∧ cap' = cap ∧ w.grownBy w' (Value.slice ao n cap).ownBlock) ∨ (∃ g, ao' = some ⟨g, 0, none⟩ ∧ w.heap.size ≤ g ∧ g < w'.heap.size ∧ w.grownBy w' none)) → Fr N ((d', .slice ao' (n + 1) cap') :: (d, .slice (some ⟨w.heap.size, 0, none⟩) 1 1) :: l) a' → wpList P ops Q rest a' w') :
    wpList P ops Q (⟨some d, .buildSlice t 1 [(0, x)].toArray, ty, pos, af, none⟩ :: ⟨some d', .call { callee := .builtin .append, args := [s, .tmp d].toArray, argTypes := [t, t].toArray }, ty', pos', af', none⟩ :: rest) a w := by
  have hv : u.cells = #[u] := by cases u <;> simp [Value.oneCell'] at hu <;> rfl
  refine st h (d_build1 hU hi hv hx) hd fun a1 h1 => ?_
  obtain ⟨i, g1, g2, g3, g4⟩ := info_parts hi
  obtain ⟨ao', cap', w', hr, hown', hway⟩ := run_append_two (P := P) (w := w.alloc (.cells #[u] e)) base t ty' e i z bytes hU g1 g2 g3 g4 hz ao cap n xs (hown.alloc _) ⟨w.heap.size, 0, none⟩ 1 u
    (cell_at (heap_alloc_new w _) rfl) hu hm hbd (by simp; omega)
  refine st h1 (v := .slice ao' (n + 1) cap') (w' := w') ?_ hd' fun a2 h2 => k a2 ao' cap' w' hown' ?_ h2
  · intro ρ hρ d2 pos af g
    have e1 : ρ s = .slice ao n cap := hρ _ _ hs
    have e2 := hρ (.tmp d) (.slice (some ⟨w.heap.size, 0, none⟩) 1 1) (by simp [Ev, look_cons])
    simp [execOp, resolve, invoke, builtin, e1, e2, hr]
  · rcases hway with ⟨e1, e2, hgr⟩ | ⟨e1, hgr, hlt⟩
    · exact .inl ⟨e1, e2, ⟨hgr.os, hgr.tape, hgr.output, by have := hgr.size; simp at this; omega, fun k hk hne => by rw [hgr.block k (by simp; omega) hne]; exact Below.heap_alloc _ _ _ hk⟩⟩
    · exact .inr ⟨_, e1, by simp, hlt, ⟨hgr.os, hgr.tape, hgr.output, by have := hgr.size; simp at this; omega, fun k hk hne => by rw [hgr.block k (by simp; omega) hne]; exact Below.heap_alloc _ _ _ hk⟩⟩
end
end Go.Proofs.YtjomihhpglojpaaDoor
end
section
/- More on rows of the call's own. Plain lemmas over any program. -/
namespace Go.Proofs.YtjomihhpglojpaaDoor
open Go.RowKit

theorem own_prefix {w : World} {base : Nat} {e : TypeId} {g N n c : Nat} {xs : List Value} (h : w.ownsRow base e 1 (.slice (some ⟨g, 0, none⟩) N c) N xs) (hn : n ≤ N) : w.ownsRow base e 1 (.slice (some ⟨g, 0, none⟩) n c) n (xs.take n) := by
  have hl := h.1
  rcases h.2 with ⟨h0, _⟩ | ⟨g', cap', cur, h0, hb, hg, hle, hm, hsz, htk⟩
  · cases h0
  · cases h0
    refine ⟨by simp; omega, .inr ⟨_, _, cur, rfl, hb, hg, by omega, hm, hsz, ?_⟩⟩
    rw [← htk, List.take_take]
    congr 1
    omega
/-- A row stays while another of another type is written. -/
theorem own_keptO {w w' : World} {base base' : Nat} {e e' : TypeId} {s s' : Nat} {v v' : Value} {n n' : Nat} {xs xs' : List Value} (h : w.ownsRow base e s v n xs) (h' : w.ownsRow base' e' s' v' n' xs') (hne : e ≠ e') (hgr : w.grownBy w' v'.ownBlock) : w'.ownsRow base e s v n xs := by
  refine h.kept hgr ?_
  rcases h.2 with ⟨rfl, _⟩ | ⟨g, cap, cur, rfl, _, hg, _⟩
  · exact Or.inl rfl
  · right
    rcases h'.2 with ⟨rfl, _⟩ | ⟨g2, cap2, cur2, rfl, _, hg2, _⟩
    · simp [Value.ownBlock]
    · intro x
      simp only [Value.ownBlock, Option.some.injEq] at x
      subst x
      rw [hg] at hg2
      cases hg2
      exact hne rfl
theorem own_rebase {w : World} {base base' : Nat} {e : TypeId} {s : Nat} {v : Value} {n : Nat} {xs : List Value} (h : w.ownsRow base e s v n xs) (hb : ∀ k, v.ownBlock = some k → base' ≤ k) : w.ownsRow base' e s v n xs := by
  refine ⟨h.1, ?_⟩
  rcases h.2 with h0 | ⟨g, cap, cur, rfl, _, r⟩
  · exact .inl h0
  · exact .inr ⟨g, cap, cur, rfl, hb g rfl, r⟩
/-- A row stays while a block is written that is not its own. -/
theorem own_keptB {w w' : World} {base : Nat} {e : TypeId} {s : Nat} {v : Value} {n : Nat} {xs : List Value} (h : w.ownsRow base e s v n xs) {r : Option Nat} (hgr : w.grownBy w' r) (hne : ∀ k, v.ownBlock = some k → r ≠ some k) : w'.ownsRow base e s v n xs := by
  refine h.kept hgr ?_
  cases hv : v.ownBlock with
  | none => exact Or.inl rfl
  | some k => right; intro x; exact hne k hv x.symm
theorem own_cells {w : World} {base : Nat} {e : TypeId} {g N c : Nat} {xs : List Value} (h : w.ownsRow base e 1 (.slice (some ⟨g, 0, none⟩) N c) N xs) {i : Nat} (hi : i < xs.length) : w.cell? ⟨g, 0 + i, none⟩ = some xs[i] := by
  have hl := h.1
  rw [Nat.mul_one] at hl
  rcases h.2 with ⟨h0, _⟩ | ⟨g', cap', cur, h0, hb, hg, hle, hm, hsz, htk⟩
  · cases h0
  · cases h0
    rw [Nat.zero_add]
    refine cell_at hg ?_
    have : (cur.toList.take (N * 1))[i]? = some xs[i] := by rw [htk]; simp [hi]
    rw [List.getElem?_take_of_lt (by omega)] at this
    simpa using this
/-- Rows of two types lie apart. -/
theorem own_apart {w : World} {base base' : Nat} {e e' : TypeId} {s s' : Nat} {v v' : Value} {n n' : Nat} {xs xs' : List Value} (h : w.ownsRow base e s v n xs) (h' : w.ownsRow base' e' s' v' n' xs') (hne : e ≠ e') {b b' : Nat} (hb : v.ownBlock = some b) (hb' : v'.ownBlock = some b') : b ≠ b' := by
  rcases h.2 with ⟨rfl, _⟩ | ⟨g, cap, cur, rfl, _, hg, _⟩
  · cases hb
  · rcases h'.2 with ⟨rfl, _⟩ | ⟨g2, cap2, cur2, rfl, _, hg2, _⟩
    · cases hb'
    · simp only [Value.ownBlock, Option.some.injEq] at hb hb'
      subst hb; subst hb'
      intro e0
      subst e0
      rw [hg] at hg2
      cases hg2
      exact hne rfl
end Go.Proofs.YtjomihhpglojpaaDoor
end
section
/- An append of one struct to a row of structs of the call's own; what such a row holds. Plain lemmas over any program. -/
namespace Go.Proofs.YtjomihhpglojpaaDoor
open Go.RowKit

section
variable {P : Program} {ops : Array Oper} {Q : Exit → Act → World → Prop} {a : Act} {w w' : World} {rest : List Oper} {N : Nat} {l : List (Nat × Value)}

theorem d_build1S {x : Operand} {us : Array Value} {z : Value} {sz : Nat} {t e ty : TypeId} {by_ : Nat} (hU : P.underlying t = some (.slice e)) (hi : (P.info? e).map (fun i => (i.zero, i.size, i.bytes)) = some (some z, sz, by_)) (h0 : 0 < sz) (h1 : sz ≤ 16777216) (hus : us.size = sz)
    (hx : Ev l x (.agg us) := by exact rfl) : Does P l w (.buildSlice t 1 [(0, x)].toArray) ty (.slice (some ⟨w.heap.size, 0, none⟩) 1 1) (w.alloc (.cells us e)) := by
  intro ρ hρ d pos af g
  obtain ⟨i, g1, g2, g3, g4⟩ := info_parts hi
  subst g3
  have hf := Great.fill_whole (s := i.size) h0 [.agg us] ((Array.range (1 * i.size)).map (z.cells[· % z.cells.size]!)) (by intro v hv; simp at hv; subst hv; exact hus) (by simp)
  have e1 : ([Value.agg us].flatMap fun v => v.cells.toList).toArray = us := by simp [Value.cells]
  rw [e1] at hf
  have hr := run_buildSlice (P := P) w t e 1 #[(0, .agg us)] us i z hU g1 g2 (by omega) (by omega) (by simpa using hf)
  simp [execOp, hρ _ _ hx, hr]

/-- A struct behind a row of structs: the one-element slice and the append, both at once. -/
theorem st_pushS (h : Fr N l a) {d d' : Nat} {x : Operand} {s : Operand} {us : Array Value} {z : Value} {sz : Nat} {t e ty ty' : TypeId} {pos pos' : String} {af af' : Array Edge} {bytes n base cap : Nat} {ao : Option Addr} {xs : List Value}
    (hU : P.underlying t = some (.slice e)) (hi : (P.info? e).map (fun i => (i.zero, i.size, i.bytes)) = some (some z, sz, bytes)) (hz : z.cells.size = sz) (h0 : 0 < sz) (h1 : sz ≤ 16777216) (hus : us.size = sz) (hu : ∀ v ∈ us, v.oneCell' = true)
    (hown : w.ownsRow base e sz (.slice ao n cap) n xs) (hbd : (n + 1) * bytes ≤ 140737488355328) (hm : n + 1 ≤ maxLen) (hbase : base ≤ w.heap.size)
    (hx : Ev l x (.agg us) := by exact rfl) (hs : Ev ((d, .slice (some ⟨w.heap.size, 0, none⟩) 1 1) :: l) s (.slice ao n cap) := by exact rfl) (hd : Nat.blt d N = true := by exact rfl) (hd' : Nat.blt d' N = true := by exact rfl)
    (k : ∀ a' ao' cap' w', w'.ownsRow base e sz (.slice ao' (n + 1) cap') (n + 1) (xs ++ us.toList) → w.grownBy w' (Value.slice ao n cap).ownBlock → ((Value.slice ao' (n + 1) cap').ownBlock = (Value.slice ao n cap).ownBlock ∨ (Value.slice ao' (n + 1) cap').ownBlock = some (w.heap.size + 1)) → Fr N ((d', .slice ao' (n + 1) cap') :: (d, .slice (some ⟨w.heap.size, 0, none⟩) 1 1) :: l) a' → wpList P ops Q rest a' w') :
    wpList P ops Q (⟨some d, .buildSlice t 1 [(0, x)].toArray, ty, pos, af, none⟩ :: ⟨some d', .call { callee := .builtin .append, args := [s, .tmp d].toArray, argTypes := [t, t].toArray }, ty', pos', af', none⟩ :: rest) a w := by
  refine st h (d_build1S hU hi h0 h1 hus hx) hd fun a1 h1' => ?_
  obtain ⟨i, g1, g2, g3, g4⟩ := info_parts hi
  have hev : a1.eval (.tmp d) = .slice (some ⟨w.heap.size, 0, none⟩) 1 1 := h1'.eval _ _ (by simp [Ev, look_cons])
  refine wpList_append_own_at _ rfl s (.tmp d) t rfl base e i z sz bytes hU g1 g2 g3 g4 hz h0 (.slice ao n cap) n xs (h1'.eval _ _ hs) (hown.alloc _)
    ⟨w.heap.size, 0, none⟩ 1 1 us.toList hev (by simp [hus]) ?_ ?_ hm hbd (by simp; omega) ?_
  · intro j v hj
    rw [addr_add, Nat.zero_add]
    exact cell_at (heap_alloc_new w _) (by simpa using hj)
  · intro v hv; exact hu v (by simpa using hv)
  · intro v' w' hown' hgr hnil hat
    obtain ⟨ao', cap', rfl, _, _⟩ := own_form hown'
    refine k _ ao' cap' w' hown' ?_ (by simpa using hat) (h1'.put hd' _)
    exact ⟨hgr.os, hgr.tape, hgr.output, by have := hgr.size; simp at this; omega, fun k hk hne => by rw [hgr.block k (by simp; omega) hne]; exact Below.heap_alloc _ _ _ hk⟩

/-- A slice of structs that reads as xs: each element's cells lie there. -/
def RdS {α : Type} (w : World) (a : Option Addr) (sz : Nat) (enc : α → List Value) (xs : List α) : Prop :=
  ∀ i (h : i < xs.length), ∃ b o, a = some ⟨b, o, none⟩ ∧ ∀ q v, (enc xs[i])[q]? = some v → w.cell? ⟨b, o + i * sz + q, none⟩ = some v
theorem RdS.below {α : Type} {w w' : World} {a : Option Addr} {sz : Nat} {enc : α → List Value} {xs : List α} (h : RdS w a sz enc xs) (hb : Below w.heap.size w w') : RdS w' a sz enc xs := by
  intro i hi
  obtain ⟨b, o, ha, hc⟩ := h i hi
  exact ⟨b, o, ha, fun q v hq => (hb.cell (p := ⟨b, o + i * sz + q, none⟩) (World.block_lt_of_cell? w _ (hc q v hq))).trans (hc q v hq)⟩

theorem flat_get {α : Type} {enc : α → List Value} {sz : Nat} (he : ∀ x, (enc x).length = sz) : ∀ (xs : List α) (i : Nat) (h : i < xs.length) (q : Nat), q < sz → (xs.flatMap enc)[i * sz + q]? = (enc xs[i])[q]?
  | x :: xs, 0, _, q, hq => by
    rw [List.flatMap_cons, Nat.zero_mul, Nat.zero_add, List.getElem?_append_left (by rw [he]; exact hq)]
    rfl
  | x :: xs, i + 1, h, q, hq => by
    have h' : i < xs.length := by simpa using h
    rw [List.flatMap_cons, List.getElem?_append_right (by rw [he, Nat.add_mul]; omega)]
    rw [he, show (i + 1) * sz + q - sz = i * sz + q by rw [Nat.add_mul]; omega]
    simpa using flat_get he xs i h' q hq
/-- What a row of structs of the call's own holds. -/
theorem own_rdS {α : Type} {w : World} {base : Nat} {e : TypeId} {g cap n sz : Nat} {enc : α → List Value} {xs : List α} (he : ∀ x, (enc x).length = sz) (h : w.ownsRow base e sz (.slice (some ⟨g, 0, none⟩) n cap) n (xs.flatMap enc)) (hn : xs.length = n) : RdS w (some ⟨g, 0, none⟩) sz enc xs := by
  subst hn
  intro i hi
  refine ⟨g, 0, rfl, fun q v hq => ?_⟩
  have hq' : q < sz := by
    have := (List.getElem?_eq_some_iff.1 hq).1
    rw [he] at this; exact this
  rcases h.2 with ⟨h0, _⟩ | ⟨g', cap', cur, h0, hb, hg, hle, hm, hsz, htk⟩
  · cases h0
  · cases h0
    rw [Nat.zero_add]
    refine cell_at hg ?_
    have h1 := flat_get he xs i hi q hq'
    rw [hq, ← htk] at h1
    have hlt : i * sz + q < xs.length * sz := by
      have : (i + 1) * sz ≤ xs.length * sz := Nat.mul_le_mul_right _ (by omega)
      rw [Nat.add_mul, Nat.one_mul] at this
      omega
    rw [List.getElem?_take_of_lt hlt] at h1
    simpa using h1

theorem own_cap' {w : World} {base : Nat} {e : TypeId} {s : Nat} {ao : Option Addr} {cap n : Nat} {xs : List Value} (h : w.ownsRow base e s (.slice ao n cap) n xs) : n ≤ cap ∧ cap ≤ maxLen := by
  obtain ⟨_, _, h1, h2, h3⟩ := own_form h
  cases h1; exact ⟨h2, h3⟩
/-- The address of an element of many cells. -/
theorem d_indexAddrS {x i : Operand} {b o n c : Nat} {k : IntKind} {j : Nat} {q : Int} {t e ty : TypeId} {s : Nat} (hU : P.underlying t = some (.slice e)) (hs : (P.info? e).map (·.size) = some s)
    (hx : Ev l x (.slice (some ⟨b, o, none⟩) n c) := by exact rfl) (hi : Ev l i (.int k q) := by exact rfl) (hq : q = (j : Int) := by exact rfl) (hj : j < n := by omega) :
    Does P l w (.indexAddr t x i) ty (.pointer (some ⟨b, o + j * s, none⟩)) w := d_indexAddr hU hs hx hi hq hj
end
end Go.Proofs.YtjomihhpglojpaaDoor
end
section
/- The reference's units of a text. -/
namespace Go.Proofs.YtjomihhpglojpaaDoor
open Go.RowKit
set_option linter.unusedSimpArgs false
set_option linter.unusedVariables false
attribute [local irreducible] wpList wpQuiet wpStill Code.wp Exit.then Exit.inBlock bodyPost Calls Does Does0

/-- A unit as the reference has it. -/
structure Un where
  line : Int
  col : Int
  r : Int
  wide : Int
  ill : Bool
def Un.cells (u : Un) : List Value := [.int .i64 u.line, .int .i64 u.col, .int .i32 u.r, .int .i64 u.wide, .bool u.ill]
theorem unc_len (u : Un) : (Un.cells u).length = 5 := rfl
theorem un_cells (u : Un) : ∀ v ∈ (Un.cells u).toArray, v.oneCell' = true := by
  intro v hv
  simp [Un.cells] at hv
  rcases hv with rfl | rfl | rfl | rfl | rfl <;> rfl
/-- Is the rune read at p the sign for bytes that are none? -/
def illB (s : ByteArray) (p : Nat) : Bool :=
  (((Utf8.decode s p).1 : Int) == 65533) && (decide (s.size ≤ p + 2) || ((s.get! p).toNat != 239) || ((s.get! (p + 1)).toNat != 191) || ((s.get! (p + 2)).toNat != 189))
def UnOk (s : ByteArray) (i : Nat) (u : Un) : Prop := u.line = (uSt s i).2.1 ∧ u.col = (uSt s i).2.2 ∧ u.r = uR s i ∧ u.ill = illB s (uSt s i).1
theorem uSt_ge (s : ByteArray) : ∀ k, (∀ j, j < k → (uSt s j).1 < s.size) → k ≤ (uSt s k).1
  | 0, _ => Nat.zero_le _
  | k + 1, h => by
    have h1 := uSt_ge s k (fun j hj => h j (by omega))
    have h2 := uSt_lt s k (h k (by omega))
    omega
theorem get_at {s : ByteArray} {j : Nat} (h : j < s.size) : s[j]? = some (s.get! j) := by
  have e : s.get! j = s[j] := by
    cases s with
    | mk d =>
      have h' : j < d.size := h
      show d[j]! = d[j]
      simp [h']
  rw [e]; simp [h]

theorem own_neI {w : World} {base : Nat} {e : TypeId} {sz : Nat} {v : Value} {n : Nat} {xs : List Value} (h : w.ownsRow base e sz v n xs) {r : Nat} {o : Obj} (ho : w.heap[r]? = some o) (hc : ∀ c t f, o ≠ .cells c t f) {b : Nat} (hb : v.ownBlock = some b) : (some r : Option Nat) ≠ some b := by
  intro e0
  have e1 : r = b := Option.some.inj e0
  subst e1
  rcases h.2 with ⟨rfl, _⟩ | ⟨g, cap, cur, rfl, _, h1, _⟩
  · cases hb
  · simp only [Value.ownBlock, Option.some.injEq] at hb
    subst hb
    rw [ho] at h1
    exact hc _ _ _ (Option.some.inj h1)

end Go.Proofs.YtjomihhpglojpaaDoor
end
section
/- How wide a rune is that was read, and when a source is bad: plain laws. -/
namespace Go.Proofs.YtjomihhpglojpaaDoor
open Go.RowKit

def rl (r : Int) : Int := if r < 0 then -1 else if r ≤ 127 then 1 else if r ≤ 2047 then 2 else if 55296 ≤ r ∧ r ≤ 57343 then -1 else if r ≤ 65535 then 3 else if r ≤ 1114111 then 4 else -1
def dec4 (b0 b1 b2 b3 : Nat) (c1 c2 c3 : Bool) : Nat × Nat :=
  if b0 < 0x80 then (b0, 1)
  else if b0 / 32 == 6 && c1 then
    let c := (b0 % 32) * 64 + b1 % 64
    if c ≥ 0x80 then (c, 2) else (65533, 1)
  else if b0 / 16 == 14 && c1 && c2 then
    let c := (b0 % 16) * 4096 + (b1 % 64) * 64 + b2 % 64
    if c ≥ 0x800 && Utf8.valid c then (c, 3) else (65533, 1)
  else if b0 / 8 == 30 && c1 && c2 && c3 then
    let c := (b0 % 8) * 262144 + (b1 % 64) * 4096 + (b2 % 64) * 64 + b3 % 64
    if c ≥ 0x10000 && Utf8.valid c then (c, 4) else (65533, 1)
  else (65533, 1)
def cnt (s : ByteArray) (i k : Nat) : Bool := i + k < s.size && (s.get! (i + k)).toNat / 64 == 2
theorem decode_4 (s : ByteArray) (i : Nat) : Utf8.decode s i = dec4 (s.get! (i + 0)).toNat (s.get! (i + 1)).toNat (s.get! (i + 2)).toNat (s.get! (i + 3)).toNat (cnt s i 1) (cnt s i 2) (cnt s i 3) := rfl
set_option maxHeartbeats 4000000 in
theorem rl_dec4 (b0 b1 b2 b3 : Nat) (c1 c2 c3 : Bool) (h : (dec4 b0 b1 b2 b3 c1 c2 c3).1 ≠ 65533) : rl ((dec4 b0 b1 b2 b3 c1 c2 c3).1 : Nat) = ((dec4 b0 b1 b2 b3 c1 c2 c3).2 : Nat) := by
  revert h
  unfold dec4
  simp only
  split
  · intro h; simp only [rl]; repeat' split
    all_goals omega
  split
  · split
    · intro h; simp only [rl]; repeat' split
      all_goals omega
    · intro h; exact absurd rfl h
  split
  · split
    · rename_i hv
      intro h
      simp only [ge_iff_le, Utf8.valid, Bool.and_eq_true, Bool.or_eq_true, decide_eq_true_eq] at hv
      simp only [rl]; repeat' split
      all_goals omega
    · intro h; exact absurd rfl h
  split
  · split
    · rename_i hv
      intro h
      simp only [ge_iff_le, Utf8.valid, Bool.and_eq_true, Bool.or_eq_true, decide_eq_true_eq] at hv
      simp only [rl]; repeat' split
      all_goals omega
    · intro h; exact absurd rfl h
  · intro h; exact absurd rfl h
theorem rl_decode (s : ByteArray) (i : Nat) (h : (Utf8.decode s i).1 ≠ 65533) : rl ((Utf8.decode s i).1 : Nat) = ((Utf8.decode s i).2 : Nat) := by
  rw [decode_4] at h ⊢
  exact rl_dec4 _ _ _ _ _ _ _ h
set_option maxHeartbeats 4000000 in
theorem ill_dec4 (n i b0 b1 b2 b3 : Nat) (c1 c2 c3 : Bool) (h1 : c1 = (decide (i + 1 < n) && b1 / 64 == 2)) (h2 : c2 = (decide (i + 2 < n) && b2 / 64 == 2)) (h : (dec4 b0 b1 b2 b3 c1 c2 c3).1 = 65533) :
    (dec4 b0 b1 b2 b3 c1 c2 c3).2 = if i + 2 < n ∧ b0 = 239 ∧ b1 = 191 ∧ b2 = 189 then 3 else 1 := by
  subst h1 h2
  revert h
  unfold dec4
  simp only [Bool.and_eq_true, decide_eq_true_eq, beq_iff_eq]
  split
  · intro h; simp only at h; rw [if_neg (by omega)]
  split
  · split
    · intro h; simp only at h; omega
    · intro h; rw [if_neg (by omega)]
  split
  · rename_i hc
    split
    · intro h; simp only at h; rw [if_pos (by omega)]
    · rename_i hv
      intro h
      rw [if_neg]
      rintro ⟨h1, rfl, rfl, rfl⟩
      exact hv (by decide)
  split
  · split
    · intro h; simp only at h; omega
    · intro h; rw [if_neg (by omega)]
  · rename_i h1 h2 h3 h4
    intro h
    rw [if_neg]
    rintro ⟨h5, rfl, rfl, rfl⟩
    exact h3 ⟨⟨by decide, by omega, by decide⟩, by omega, by decide⟩
theorem ill_w (s : ByteArray) (i : Nat) (h : (Utf8.decode s i).1 = 65533) : (Utf8.decode s i).2 = if i + 2 < s.size ∧ (s.get! i).toNat = 239 ∧ (s.get! (i + 1)).toNat = 191 ∧ (s.get! (i + 2)).toNat = 189 then 3 else 1 := by
  rw [decode_4] at h ⊢
  exact ill_dec4 s.size i _ _ _ _ _ _ _ rfl rfl h
def ctl (r : Int) : Bool := decide (r < 32 ∨ r = 127)
def blk (r : Int) : Bool := decide (r = 32 ∨ r = 9 ∨ r = 10 ∨ r = 13)
/-- Is unit k bad? -/
def badB (s : ByteArray) (k : Nat) : Bool := illB s (uSt s k).1 || (ctl (uR s k) && !blk (uR s k))
/-- The first bad unit, if one is. -/
def Out (s : ByteArray) : Option Nat → Prop
  | none => ∃ K, (∀ j, j < K → (uSt s j).1 < s.size ∧ badB s j = false) ∧ ¬ (uSt s K).1 < s.size
  | some k => (∀ j, j < k → (uSt s j).1 < s.size ∧ badB s j = false) ∧ (uSt s k).1 < s.size ∧ badB s k = true
theorem uMono (s : ByteArray) (i : Nat) : ∀ d, (uSt s i).1 ≤ (uSt s (i + d)).1
  | 0 => Nat.le_refl _
  | d + 1 => Nat.le_trans (uMono s i d) (by rw [← Nat.add_assoc, uSt_fst]; omega)
theorem uEnd {s : ByteArray} {K k : Nat} (hK : ¬ (uSt s K).1 < s.size) (hk : (uSt s k).1 < s.size) : k < K := by
  rcases Nat.lt_or_ge k K with h | h
  · exact h
  · have := uMono s K (k - K)
    rw [Nat.add_sub_cancel' h] at this
    omega
theorem out_one {s : ByteArray} : ∀ {a b : Option Nat}, Out s a → Out s b → a = b
  | none, none, _, _ => rfl
  | none, some k, ⟨K, h1, h2⟩, ⟨_, h4, h5⟩ => by have := (h1 k (uEnd h2 h4)).2; rw [this] at h5; cases h5
  | some k, none, ⟨_, h4, h5⟩, ⟨K, h1, h2⟩ => by have := (h1 k (uEnd h2 h4)).2; rw [this] at h5; cases h5
  | some j, some k, ⟨h1, h2, h3⟩, ⟨h4, h5, h6⟩ => by
    rcases Nat.lt_trichotomy j k with h | h | h
    · have := (h4 j h).2; rw [this] at h3; cases h3
    · rw [h]
    · have := (h1 k h).2; rw [this] at h6; cases h6
/-- Does the text from i begin so? -/
theorem extract_get (s : ByteArray) (i j : Nat) (hj : j ≤ s.size) (k : Nat) (hk : i + k < j) : (s.extract i j).get! k = s.get! (i + k) := by
  have h1 : k < (s.extract i j).size := by simp [ByteArray.size_extract]; omega
  have e1 := get_at h1
  have e2 := get_at (s := s) (j := i + k) (by omega)
  have e3 : (s.extract i j)[k] = s[i + k]'(by omega) := by simp [ByteArray.getElem_extract]
  have e4 : (s.extract i j)[k]? = some (s.extract i j)[k] := by simp [h1]
  have e5 : s[i + k]? = some (s[i + k]'(by omega)) := by simp [show i + k < s.size by omega]
  rw [e4] at e1; rw [e5] at e2
  have f1 := Option.some.inj e1
  have f2 := Option.some.inj e2
  rw [← f1, ← f2, e3]
theorem pre3g (s : ByteArray) (i : Nat) (b0 b1 b2 : UInt8) (h : i + 2 < s.size) : ((s.extract i s.size).extract 0 3 = ⟨#[b0, b1, b2]⟩) ↔ (s.get! i = b0 ∧ s.get! (i + 1) = b1 ∧ s.get! (i + 2) = b2) := by
  have hz : (s.extract i s.size).size = s.size - i := by simp [ByteArray.size_extract]
  have hz3 : ((s.extract i s.size).extract 0 3).size = 3 := by simp [ByteArray.size_extract]; omega
  have g : ∀ k, k < 3 → ((s.extract i s.size).extract 0 3).get! k = s.get! (i + k) := fun k hk => by
    rw [extract_get _ 0 3 (by omega) k (by omega), Nat.zero_add, extract_get _ _ _ (Nat.le_refl _) k (by omega)]
  have g0 := g 0 (by decide)
  have g1 := g 1 (by decide)
  have g2 := g 2 (by decide)
  rw [Nat.add_zero] at g0
  constructor
  · intro e
    rw [e] at g0 g1 g2
    exact ⟨g0.symm, g1.symm, g2.symm⟩
  · rintro ⟨h0, h1, h2⟩
    rw [← h0, ← h1, ← h2, ← g0, ← g1, ← g2]
    generalize (s.extract i s.size).extract 0 3 = u at hz3
    rcases u with ⟨d⟩
    have hd : d.size = 3 := hz3
    rcases d with ⟨l⟩
    match l, hd with
    | [x, y, z], _ => rfl
theorem u8eq (b : UInt8) (n : Nat) (c : UInt8) (hc : c.toNat = n) : b = c ↔ b.toNat = n := by
  rw [← hc]; exact UInt8.toNat_inj.symm
theorem pre3 (s : ByteArray) (i : Nat) (h : i + 2 < s.size) : ((s.extract i s.size).extract 0 3 = ⟨#[239, 191, 189]⟩) ↔ ((s.get! i).toNat = 239 ∧ (s.get! (i + 1)).toNat = 191 ∧ (s.get! (i + 2)).toNat = 189) := by
  rw [pre3g s i 239 191 189 h, u8eq _ 239 239 (by decide), u8eq _ 191 191 (by decide), u8eq _ 189 189 (by decide)]
/-- The text from i begins with the sign for bytes that are none, spelt out. -/
def fffd (s : ByteArray) (i : Nat) : Bool := decide (3 ≤ (s.extract i s.size).size) && decide ((s.extract i s.size).extract 0 3 = ⟨#[239, 191, 189]⟩)
theorem fffd_iff (s : ByteArray) (i : Nat) : fffd s i = true ↔ (i + 2 < s.size ∧ (s.get! i).toNat = 239 ∧ (s.get! (i + 1)).toNat = 191 ∧ (s.get! (i + 2)).toNat = 189) := by
  have hz : (s.extract i s.size).size = s.size - i := by simp [ByteArray.size_extract]
  unfold fffd
  rw [Bool.and_eq_true, decide_eq_true_eq, decide_eq_true_eq, hz]
  constructor
  · rintro ⟨h1, h2⟩
    have h : i + 2 < s.size := by omega
    exact ⟨h, (pre3 s i h).1 h2⟩
  · rintro ⟨h1, h2⟩
    exact ⟨by omega, (pre3 s i h1).2 h2⟩
theorem wide_ill {s : ByteArray} {i : Nat} (h : (Utf8.decode s i).1 = 65533) : (Utf8.decode s i).2 = (if fffd s i = true then 3 else 1) ∧ illB s i = !fffd s i := by
  constructor
  · rw [ill_w s i h]
    simp only [fffd_iff]
  · rw [Bool.eq_iff_iff, Bool.not_eq_true', ← Bool.not_eq_true, fffd_iff]
    unfold illB
    rw [h]
    simp only [Bool.and_eq_true, Bool.or_eq_true, decide_eq_true_eq, bne_iff_ne, ne_eq, beq_iff_eq]
    omega
theorem ill_no {s : ByteArray} {i : Nat} (h : (Utf8.decode s i).1 ≠ 65533) : illB s i = false := by
  unfold illB
  have : ((((Utf8.decode s i).1 : Nat) : Int) == 65533) = false := beq_eq_false_iff_ne.2 (by omega)
  rw [this]; rfl
section
variable {P : Program} {w : World} {l : List (Nat × Value)}
theorem d_sliceSH {x hi : Operand} {s : ByteArray} {j : Nat} {k : IntKind} {q : Int} {t ty : TypeId} (hU : P.underlying t = some .string)
    (hx : Ev l x (.string s) := by exact rfl) (hh : Ev l hi (.int k q) := by exact rfl) (hq : q = (j : Int) := by exact rfl) (hj : j ≤ s.size := by omega) :
    Does P l w (.slice t x none (some hi) none) ty (.string (s.extract 0 j)) w := by
  intro ρ hρ d pos af g
  subst hq
  simp [execOp, Instr.sliceAt, Instr.slice, Instr.sliceBounds, run_sliceBound hj, hρ _ _ hx, hρ _ _ hh, run_underlying hU]
end
end Go.Proofs.YtjomihhpglojpaaDoor
end
section
/- What may be quoted, and what Unquote answers: plain laws. -/
namespace Go.Proofs.YtjomihhpglojpaaDoor
open Go.RowKit

theorem ill_iff {s : ByteArray} {i : Nat} : ((Utf8.decode s i).1 = 65533 ∧ (Utf8.decode s i).2 = 1) ↔ illB s i = true := by
  by_cases h : (Utf8.decode s i).1 = 65533
  · obtain ⟨h1, h2⟩ := wide_ill h
    rw [h1, h2]
    cases fffd s i <;> simp [h]
  · rw [ill_no h]; simp [h]
theorem valid_from (s : ByteArray) : ∀ (m k : Nat), s.size - (uSt s k).1 ≤ m → (Lib.validD (s.data.toList.drop (uSt s k).1) = true ↔ ∀ j, k ≤ j → (uSt s j).1 < s.size → illB s (uSt s j).1 = false) := by
  intro m
  induction m with
  | zero =>
    intro k hm
    have hd : s.data.toList.drop (uSt s k).1 = [] := List.drop_eq_nil_of_le (by show s.data.toList.length ≤ _; rw [Array.length_toList]; show s.size ≤ _; omega)
    rw [hd]
    refine ⟨fun _ j hj hlt => ?_, fun _ => rfl⟩
    have := uMono s k (j - k)
    rw [Nat.add_sub_cancel' hj] at this
    omega
  | succ m ih =>
    intro k hm
    by_cases hlt : (uSt s k).1 < s.size
    · have hne : s.data.toList.drop (uSt s k).1 ≠ [] := by
        intro e
        have := congrArg List.length e
        simp only [List.length_drop, Array.length_toList, List.length_nil] at this
        have e2 : s.data.size = s.size := rfl
        omega
      rw [Lib.validD_step _ hne, Lib.decodeL_drop, List.drop_drop, ← uSt_fst]
      have hstep := uSt_lt s k hlt
      have ihk := ih (k + 1) (by omega)
      by_cases hb : illB s (uSt s k).1 = true
      · rw [if_pos (ill_iff.2 hb)]
        constructor
        · intro h; cases h
        · intro h; have := h k (Nat.le_refl _) hlt; rw [hb] at this; cases this
      · rw [if_neg (fun h => hb (ill_iff.1 h)), ihk]
        constructor
        · intro h j hj hl
          by_cases e : j = k
          · subst e; exact Bool.eq_false_iff.2 hb
          · exact h j (by omega) hl
        · intro h j hj hl; exact h j (by omega) hl
    · have hd : s.data.toList.drop (uSt s k).1 = [] := List.drop_eq_nil_of_le (by rw [Array.length_toList]; show s.size ≤ _; omega)
      rw [hd]
      refine ⟨fun _ j hj hl => ?_, fun _ => rfl⟩
      have := uMono s k (j - k)
      rw [Nat.add_sub_cancel' hj] at this
      omega
/-- A text without bytes that are no rune. -/
theorem valid_iff (s : ByteArray) : Lib.validD s.data.toList = true ↔ ∀ j, (uSt s j).1 < s.size → illB s (uSt s j).1 = false := by
  have := valid_from s s.size 0 (by omega)
  rw [show (uSt s 0).1 = 0 from rfl, List.drop_zero] at this
  rw [this]
  exact ⟨fun h j hl => h j (Nat.zero_le _) hl, fun h j _ hl => h j hl⟩
/-- Every unit may be in a text that is quoted. -/
def AllOk (s : ByteArray) : Prop := ∀ k, (uSt s k).1 < s.size → illB s (uSt s k).1 = false ∧ ctl (uR s k) = false
def MayR (s : ByteArray) (n : Int) : Prop := (1024 < s.size ∧ n = 5) ∨ (s.size ≤ 1024 ∧ ((AllOk s ∧ n = 0) ∨ (¬ AllOk s ∧ n = 6)))
theorem may_one {s : ByteArray} {m n : Int} (h : MayR s m) (k : MayR s n) : m = n := by
  rcases h with ⟨h1, h2⟩ | ⟨h1, ⟨h2, h3⟩ | ⟨h2, h3⟩⟩ <;> rcases k with ⟨k1, k2⟩ | ⟨k1, ⟨k2, k3⟩ | ⟨k2, k3⟩⟩ <;> first | omega | exact absurd h2 k2 | exact absurd k2 h2
/-- The walk over what is quoted: the byte, and what was read. -/
def sc (s : ByteArray) : Nat → Nat × List UInt8
  | 0 => (1, [])
  | k + 1 => if (s.get! (sc s k).1).toNat = 92 then ((sc s k).1 + 2, (sc s k).2 ++ [s.get! ((sc s k).1 + 1)]) else ((sc s k).1 + 1, (sc s k).2 ++ [s.get! (sc s k).1])
def goP (s : ByteArray) (i : Nat) : Prop := i < s.size ∧ (s.get! i).toNat ≠ 34 ∧ ((s.get! i).toNat = 92 → i + 1 < s.size ∧ ((s.get! (i + 1)).toNat = 34 ∨ (s.get! (i + 1)).toNat = 92))
def FinR (s : ByteArray) (i : Nat) (l : List UInt8) (n : Int) (t : ByteArray) : Prop :=
  (s.size ≤ i ∧ n = 2 ∧ t = ⟨#[]⟩) ∨ (i < s.size ∧ (s.get! i).toNat = 34 ∧ i + 1 < s.size ∧ n = 3 ∧ t = ⟨#[]⟩) ∨
  (i < s.size ∧ (s.get! i).toNat = 34 ∧ s.size ≤ i + 1 ∧ MayR ⟨l.toArray⟩ n ∧ ((n = 0 ∧ t = ⟨l.toArray⟩) ∨ (n ≠ 0 ∧ t = ⟨#[]⟩))) ∨ (i < s.size ∧ (s.get! i).toNat = 92 ∧ n = 4 ∧ t = ⟨#[]⟩)
def UnqR (s : ByteArray) (n : Int) (t : ByteArray) : Prop :=
  (s.size < 2 ∧ n = 2 ∧ t = ⟨#[]⟩) ∨ (2 ≤ s.size ∧ (s.get! 0).toNat ≠ 34 ∧ n = 4 ∧ t = ⟨#[]⟩) ∨
  (2 ≤ s.size ∧ (s.get! 0).toNat = 34 ∧ ∃ k, (∀ j, j < k → goP s (sc s j).1) ∧ ¬ goP s (sc s k).1 ∧ FinR s (sc s k).1 (sc s k).2 n t)
theorem fin_one {s : ByteArray} {i : Nat} {l : List UInt8} {m n : Int} {t u : ByteArray} (h : FinR s i l m t) (k : FinR s i l n u) : m = n ∧ t = u := by
  rcases h with ⟨h1, h2, h3⟩ | ⟨h0, h1, h2, h3, h4⟩ | ⟨h0, h1, h2, h3, h4⟩ | ⟨h0, h1, h2, h3⟩ <;> rcases k with ⟨k1, k2, k3⟩ | ⟨k0, k1, k2, k3, k4⟩ | ⟨k0, k1, k2, k3, k4⟩ | ⟨k0, k1, k2, k3⟩ <;> first
    | (exfalso; omega)
    | exact ⟨by omega, by simp [*]⟩
    | skip
  have e := may_one h3 k3
  subst e
  refine ⟨rfl, ?_⟩
  rcases h4 with ⟨a, b⟩ | ⟨a, b⟩ <;> rcases k4 with ⟨c, d⟩ | ⟨c, d⟩ <;> first | exact absurd a c | exact absurd c a | rw [b, d]
theorem unq_one {s : ByteArray} {m n : Int} {t u : ByteArray} (h : UnqR s m t) (k : UnqR s n u) : m = n ∧ t = u := by
  rcases h with ⟨h1, h2, h3⟩ | ⟨h1, h2, h3, h4⟩ | ⟨h1, h2, a, h3, h4, h5⟩ <;> rcases k with ⟨k1, k2, k3⟩ | ⟨k1, k2, k3, k4⟩ | ⟨k1, k2, b, k3, k4, k5⟩ <;> first
    | (exfalso; omega)
    | exact ⟨by omega, by simp [*]⟩
    | skip
  have e : a = b := by
    rcases Nat.lt_trichotomy a b with h | h | h
    · exact absurd (k3 a h) h4
    · exact h
    · exact absurd (h3 b h) k4
  subst e
  exact fin_one h5 k5
theorem sc_bnd (s : ByteArray) : ∀ k, (∀ j, j < k → goP s (sc s j).1) → 1 ≤ s.size → k + 1 ≤ (sc s k).1 ∧ (sc s k).1 ≤ s.size ∧ (sc s k).2.length = k
  | 0, _, h => ⟨Nat.le_refl _, h, rfl⟩
  | k + 1, h, h1 => by
    obtain ⟨a, b, c⟩ := sc_bnd s k (fun j hj => h j (by omega)) h1
    obtain ⟨g1, g2, g3⟩ := h k (by omega)
    by_cases e : (s.get! (sc s k).1).toNat = 92
    · have := (g3 e).1
      simp only [sc, if_pos e]
      exact ⟨by omega, by omega, by simp [c]⟩
    · simp only [sc, if_neg e]
      exact ⟨by omega, by omega, by simp [c]⟩
/-- The bytes of a row of the call's own, as a text. -/
theorem d_convOwn {P : Program} {w : World} {l : List (Nat × Value)} {x : Operand} {src dst e ty : TypeId} {base : Nat} {ao : Option Addr} {cap n : Nat} (bs : List UInt8) (hs : P.underlying src = some (.slice e)) (he : P.underlying e = some (.int .u8)) (hd : P.underlying dst = some .string)
    (hown : w.ownsRow base e 1 (.slice ao n cap) n (Lib.byteCells bs)) (hn : bs.length = n) (hx : Ev l x (.slice ao n cap) := by exact rfl) : Does P l w (.convert src dst x) ty (.string ⟨bs.toArray⟩) w := by
  intro ρ hρ d pos af g
  subst hn
  have key : (convert src dst (.slice ao bs.length cap)).run P w = .ok (.string ⟨bs.toArray⟩) w := by
    rcases hown.2 with ⟨h0, _⟩ | ⟨g', cap', cur, h0, _⟩
    · injection h0 with h1 h2 h3
      have hnil : bs = [] := List.length_eq_zero_iff.1 h2
      subst hnil
      rw [h1]
      exact run_convert_bytes_nil w src e hs he _ _ dst hd
    · cases h0
      exact run_convert_bytes_back w src dst e ⟨g', 0, none⟩ cap bs hs he hd (fun j hj => by
        have hj' : j < (Lib.byteCells bs).length := by rw [Lib.byteCells_length]; exact hj
        have := own_cells hown hj'
        rw [addr_add, this]
        simp [Lib.byteCells])
  simp [execOp, hρ _ _ hx, key]
theorem goP_no {s : ByteArray} {i : Nat} (h : ¬ goP s i) (hi : i < s.size) (hq : ¬ (s.get! i).toNat = 34) : (s.get! i).toNat = 92 ∧ ¬ (i + 1 < s.size ∧ ((s.get! (i + 1)).toNat = 34 ∨ (s.get! (i + 1)).toNat = 92)) := by
  by_cases e : (s.get! i).toNat = 92
  · exact ⟨e, fun h2 => h ⟨hi, hq, fun _ => h2⟩⟩
  · exact absurd ⟨hi, hq, fun h2 => absurd h2 e⟩ h
theorem sc_bs {s : ByteArray} {k : Nat} (h : (s.get! (sc s k).1).toNat = 92) : (sc s (k + 1)).1 = (sc s k).1 + 2 ∧ Lib.byteCells (sc s (k + 1)).2 = Lib.byteCells (sc s k).2 ++ [.int .u8 (s.get! ((sc s k).1 + 1)).toNat] := by
  simp only [sc, if_pos h]
  exact ⟨trivial, by simp [Lib.byteCells]⟩
theorem sc_pl {s : ByteArray} {k : Nat} (h : ¬ (s.get! (sc s k).1).toNat = 92) : (sc s (k + 1)).1 = (sc s k).1 + 1 ∧ Lib.byteCells (sc s (k + 1)).2 = Lib.byteCells (sc s k).2 ++ [.int .u8 (s.get! (sc s k).1).toNat] := by
  simp only [sc, if_neg h]
  exact ⟨trivial, by simp [Lib.byteCells]⟩
end Go.Proofs.YtjomihhpglojpaaDoor
end
