/- An append of one element, and which of its two ways it goes: into the room behind, or into a new block. Plain lemmas over any program. -/
import Derived.Test.YtnohefaifbghiaaGreatDoorReg
namespace Go.Proofs.YtnohefaifbghiaaGreatDoor
open Go.RowKit

section
variable {P : Program} {ops : Array Oper} {Q : Exit → Act → World → Prop} {a : Act} {w w' : World} {rest : List Oper} {N : Nat} {l : List (Nat × Value)}

theorem run_append_two (base : Nat) (t ty e : TypeId) (i : TypeInfo) (z : Value) (bytes : Nat) (ht : P.underlying t = some (.slice e)) (hi : P.info? e = some i) (hz : i.zero = some z)
    (hsize : i.size = 1) (hby : i.bytes = bytes) (hzs : z.cells.size = 1) (ao : Option Addr) (cap n : Nat) (xs : List Value) (hown : w.ownsRow base e 1 (.slice ao n cap) n xs)
    (ad : Addr) (c : Nat) (u : Value) (hu : w.cell? ad = some u) (h1 : u.oneCell' = true) (h63 : n + 1 ≤ maxLen) (hbytes : (n + 1) * bytes ≤ 140737488355328) (hbase : base ≤ w.heap.size) :
    ∃ ao' cap' w', (Builtin.append_ #[t, t] ty #[.slice ao n cap, .slice (some ad) 1 c]).run P w = .ok (.slice ao' (n + 1) cap') w' ∧ w'.ownsRow base e 1 (.slice ao' (n + 1) cap') (n + 1) (xs ++ [u]) ∧
      ((ao' = ao ∧ cap' = cap ∧ w.grownBy w' (Value.slice ao n cap).ownBlock) ∨ (ao' = some ⟨w.heap.size, 0, none⟩ ∧ w.grownBy w' none ∧ w.heap.size < w'.heap.size)) := by
  have hnews : ∀ j v, [u][j]? = some v → w.cell? (ad.add j) = some v := by
    intro j v hj
    match j, hj with
    | 0, hj => simp at hj; subst hj; simpa [Addr.add] using hu
  have h1' : ∀ v ∈ [u], v.oneCell' = true := by intro v hv; simp at hv; subst hv; exact h1
  obtain ⟨v', w', hr, hown', hgr, _, hat⟩ := run_append_own_at (P := P) w base t ty e i z 1 bytes ht hi hz hsize hby hzs (by decide) _ n xs hown ad 1 c [u] (by simp) hnews h1' h63 hbytes hbase
  obtain ⟨ao', cap', rfl, _, _⟩ := own_form hown'
  refine ⟨ao', cap', w', hr, hown', ?_⟩
  have hsrc : Src P i.size t (.slice (some ad) 1 c) 1 [u] w := by rw [hsize]; exact Src.ofSlice w ht ad 1 c [u] (by simp) hnews h1'
  by_cases hroom : n + 1 ≤ cap
  · left
    rcases hown.2 with ⟨h0, _⟩ | ⟨g, cap2, cur, h0, hb, hg, hle, hm, hsz, htk⟩
    · cases h0; omega
    · cases h0
      have hc : ∀ j, j < [u].length → (w.cell? ⟨g, 0 + n * i.size + j, none⟩).isSome = true := by
        intro j hj
        simp at hj
        subst hj
        rw [hsize]
        have : n < cur.size := by omega
        rw [show 0 + n * 1 + 0 = n by omega, cell_at hg (Array.getElem?_eq_getElem this)]
        rfl
      have hf : ∀ j, j < [u].length → w.frozen? ⟨g, 0 + n * i.size + j, none⟩ = false := fun j _ => free_at hg
      have hr2 := run_append_room_src (P := P) w t t ty e i ht hi g 0 n cap _ 1 [u] hsrc hroom hc hf
      rw [hr] at hr2
      cases hr2
      exact ⟨rfl, rfl, hgr⟩
  · right
    have hold : (Builtin.firstCells i.size n (.slice ao n cap)).run P w.drew = .ok xs.toArray w.drew := by
      rw [hsize]
      rcases hown.2 with ⟨h0, hx⟩ | ⟨g, cap2, cur, h0, hb, hg, hle, hm, hsz, htk⟩
      · cases h0
        obtain rfl : xs = [] := List.eq_nil_of_length_eq_zero (by have := hown.1; omega)
        simp [Builtin.firstCells]
      · cases h0
        have hl := hown.1
        rw [Nat.mul_one] at hl
        have := run_loadCells_list (P := P) (w := w.drew) ⟨g, 0, none⟩ xs (fun j v hj => by
          rw [addr_add]
          have hj' : j < xs.length := (List.getElem?_eq_some_iff.1 hj).1
          have h2 : (cur.toList.take (n * 1))[j]? = some v := by rw [htk]; exact hj
          rw [List.getElem?_take_of_lt (by omega)] at h2
          have : w.cell? ⟨g, 0 + j, none⟩ = some v := by rw [Nat.zero_add]; exact cell_at hg (by simpa using h2)
          exact this)
        rw [hl] at this
        simpa [Builtin.firstCells] using this
    have hfit : Builtin.nextslicecap (n + 1) cap * i.bytes ≤ 281474976710656 := by
      rw [hby]; exact growslice_fits (by omega) hbytes
    have hr2 := run_append_grow_src (P := P) w t t ty e i z ht hi hz ao n cap xs hold _ 1 [u] hsrc (by omega) (by unfold maxLen at h63; omega) hfit
    rw [hr] at hr2
    cases hr2
    exact ⟨rfl, ⟨rfl, rfl, rfl, by simp, fun k hk _ => heap_alloc_old w.drew _ hk⟩, by simp⟩
/-- A new element behind a row of the call's own, both ways told apart. -/
theorem st_push2 (h : Fr N l a) {d d' : Nat} {x : Operand} {s : Operand} {u z : Value} {t e ty ty' : TypeId} {pos pos' : String} {af af' : Array Edge} {bytes n base cap : Nat} {ao : Option Addr} {xs : List Value}
    (hU : P.underlying t = some (.slice e)) (hi : (P.info? e).map (fun i => (i.zero, i.size, i.bytes)) = some (some z, 1, bytes)) (hz : z.cells.size = 1)
    (hown : w.ownsRow base e 1 (.slice ao n cap) n xs) (hbd : (n + 1) * bytes ≤ 140737488355328) (hm : n + 1 ≤ maxLen) (hbase : base ≤ w.heap.size)
    (hx : Ev l x u := by exact rfl) (hs : Ev ((d, .slice (some ⟨w.heap.size, 0, none⟩) 1 1) :: l) s (.slice ao n cap) := by exact rfl) (hd : Nat.blt d N = true := by exact rfl) (hd' : Nat.blt d' N = true := by exact rfl) (hu : u.oneCell' = true := by exact rfl)
    (k : ∀ a' ao' cap' w', w'.ownsRow base e 1 (.slice ao' (n + 1) cap') (n + 1) (xs ++ [u]) → ((ao' = ao ∧ cap' = cap ∧ w.grownBy w' (Value.slice ao n cap).ownBlock) ∨ (∃ g, ao' = some ⟨g, 0, none⟩ ∧ w.heap.size ≤ g ∧ g < w'.heap.size ∧ w.grownBy w' none)) → Fr N ((d', .slice ao' (n + 1) cap') :: (d, .slice (some ⟨w.heap.size, 0, none⟩) 1 1) :: l) a' → wpList P ops Q rest a' w') :
    wpList P ops Q (⟨some d, .buildSlice t 1 [(0, x)].toArray, ty, pos, af, none⟩ :: ⟨some d', .call { callee := .builtin .append, args := [s, .tmp d].toArray, argTypes := [t, t].toArray }, ty', pos', af', none⟩ :: rest) a w := by
  have hv : u.cells = #[u] := by cases u <;> simp [Value.oneCell'] at hu <;> rfl
  refine st h (d_build1 hU hi hv hx) hd fun a1 h1 => ?_
  obtain ⟨i, g1, g2, g3, g4⟩ := info_parts hi
  obtain ⟨ao', cap', w', hr, hown', hway⟩ := run_append_two (P := P) (w := w.alloc (.cells #[u] e)) base t ty' e i z bytes hU g1 g2 g3 g4 hz ao cap n xs (hown.alloc _) ⟨w.heap.size, 0, none⟩ 1 u
    (cell_at (heap_alloc_new w _) rfl) hu hm hbd (by simp; omega)
  refine st h1 (v := .slice ao' (n + 1) cap') (w' := w') ?_ hd' fun a2 h2 => k a2 ao' cap' w' hown' ?_ h2
  · intro ρ hρ d2 pos af g
    have e1 : ρ s = .slice ao n cap := hρ _ _ hs
    have e2 := hρ (.tmp d) (.slice (some ⟨w.heap.size, 0, none⟩) 1 1) (by simp [Ev, look_cons])
    simp [execOp, resolve, invoke, builtin, e1, e2, hr]
  · rcases hway with ⟨e1, e2, hgr⟩ | ⟨e1, hgr, hlt⟩
    · exact .inl ⟨e1, e2, ⟨hgr.os, hgr.tape, hgr.output, by have := hgr.size; simp at this; omega, fun k hk hne => by rw [hgr.block k (by simp; omega) hne]; exact Below.heap_alloc _ _ _ hk⟩⟩
    · exact .inr ⟨_, e1, by simp, hlt, ⟨hgr.os, hgr.tape, hgr.output, by have := hgr.size; simp at this; omega, fun k hk hne => by rw [hgr.block k (by simp; omega) hne]; exact Below.heap_alloc _ _ _ hk⟩⟩
end
end Go.Proofs.YtnohefaifbghiaaGreatDoor
