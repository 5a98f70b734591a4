/- Laid together by a program of mine: Push Own2 Txt Arr. -/
import Derived.Test.YtjomihhpglojpaaDoorSumLawFewerS3
import Derived.Test.YtjomihhpglojpaaDoorSumLawFewerS5
import Derived.ChangeKeysEq
import Derived.Laws.StructEq
import Derived.Laws.ResultCell
set_option linter.unusedSimpArgs false
set_option linter.unusedVariables false
section
/- An append of one element, and which of its two ways it goes: into the room behind, or into a new block. Plain lemmas over any program. -/
namespace Go.Proofs.YtjomihhpglojpaaDoor
open Go.RowKit

section
variable {P : Program} {ops : Array Oper} {Q : Exit → Act → World → Prop} {a : Act} {w w' : World} {rest : List Oper} {N : Nat} {l : List (Nat × Value)}

theorem run_append_two (base : Nat) (t ty e : TypeId) (i : TypeInfo) (z : Value) (bytes : Nat) (ht : P.underlying t = some (.slice e)) (hi : P.info? e = some i) (hz : i.zero = some z)
    (hsize : i.size = 1) (hby : i.bytes = bytes) (hzs : z.cells.size = 1) (ao : Option Addr) (cap n : Nat) (xs : List Value) (hown : w.ownsRow base e 1 (.slice ao n cap) n xs)
    (ad : Addr) (c : Nat) (u : Value) (hu : w.cell? ad = some u) (h1 : u.oneCell' = true) (h63 : n + 1 ≤ maxLen) (hbytes : (n + 1) * bytes ≤ 140737488355328) (hbase : base ≤ w.heap.size) :
    ∃ ao' cap' w', (Builtin.append_ #[t, t] ty #[.slice ao n cap, .slice (some ad) 1 c]).run P w = .ok (.slice ao' (n + 1) cap') w' ∧ w'.ownsRow base e 1 (.slice ao' (n + 1) cap') (n + 1) (xs ++ [u]) ∧
      ((ao' = ao ∧ cap' = cap ∧ w.grownBy w' (Value.slice ao n cap).ownBlock) ∨ (ao' = some ⟨w.heap.size, 0, none⟩ ∧ w.grownBy w' none ∧ w.heap.size < w'.heap.size)) := by
  have hnews : ∀ j v, [u][j]? = some v → w.cell? (ad.add j) = some v := by
    intro j v hj
    match j, hj with
    | 0, hj => simp at hj; subst hj; simpa [Addr.add] using hu
  have h1' : ∀ v ∈ [u], v.oneCell' = true := by intro v hv; simp at hv; subst hv; exact h1
  obtain ⟨v', w', hr, hown', hgr, _, hat⟩ := run_append_own_at (P := P) w base t ty e i z 1 bytes ht hi hz hsize hby hzs (by decide) _ n xs hown ad 1 c [u] (by simp) hnews h1' h63 hbytes hbase
  obtain ⟨ao', cap', rfl, _, _⟩ := own_form hown'
  refine ⟨ao', cap', w', hr, hown', ?_⟩
  have hsrc : Src P i.size t (.slice (some ad) 1 c) 1 [u] w := by rw [hsize]; exact Src.ofSlice w ht ad 1 c [u] (by simp) hnews h1'
  by_cases hroom : n + 1 ≤ cap
  · left
    rcases hown.2 with ⟨h0, _⟩ | ⟨g, cap2, cur, h0, hb, hg, hle, hm, hsz, htk⟩
    · cases h0; omega
    · cases h0
      have hc : ∀ j, j < [u].length → (w.cell? ⟨g, 0 + n * i.size + j, none⟩).isSome = true := by
        intro j hj
        simp at hj
        subst hj
        rw [hsize]
        have : n < cur.size := by omega
        rw [show 0 + n * 1 + 0 = n by omega, cell_at hg (Array.getElem?_eq_getElem this)]
        rfl
      have hf : ∀ j, j < [u].length → w.frozen? ⟨g, 0 + n * i.size + j, none⟩ = false := fun j _ => free_at hg
      have hr2 := run_append_room_src (P := P) w t t ty e i ht hi g 0 n cap _ 1 [u] hsrc hroom hc hf
      rw [hr] at hr2
      cases hr2
      exact ⟨rfl, rfl, hgr⟩
  · right
    have hold : (Builtin.firstCells i.size n (.slice ao n cap)).run P w.drew = .ok xs.toArray w.drew := by
      rw [hsize]
      rcases hown.2 with ⟨h0, hx⟩ | ⟨g, cap2, cur, h0, hb, hg, hle, hm, hsz, htk⟩
      · cases h0
        obtain rfl : xs = [] := List.eq_nil_of_length_eq_zero (by have := hown.1; omega)
        simp [Builtin.firstCells]
      · cases h0
        have hl := hown.1
        rw [Nat.mul_one] at hl
        have := run_loadCells_list (P := P) (w := w.drew) ⟨g, 0, none⟩ xs (fun j v hj => by
          rw [addr_add]
          have hj' : j < xs.length := (List.getElem?_eq_some_iff.1 hj).1
          have h2 : (cur.toList.take (n * 1))[j]? = some v := by rw [htk]; exact hj
          rw [List.getElem?_take_of_lt (by omega)] at h2
          have : w.cell? ⟨g, 0 + j, none⟩ = some v := by rw [Nat.zero_add]; exact cell_at hg (by simpa using h2)
          exact this)
        rw [hl] at this
        simpa [Builtin.firstCells] using this
    have hfit : Builtin.nextslicecap (n + 1) cap * i.bytes ≤ 281474976710656 := by
      rw [hby]; exact growslice_fits (by omega) hbytes
    have hr2 := run_append_grow_src (P := P) w t t ty e i z ht hi hz ao n cap xs hold _ 1 [u] hsrc (by omega) (by unfold maxLen at h63; omega) hfit
    rw [hr] at hr2
    cases hr2
    exact ⟨rfl, ⟨rfl, rfl, rfl, by simp, fun k hk _ => heap_alloc_old w.drew _ hk⟩, by simp⟩
/-- A new element behind a row of the call's own, both ways told apart. -/
theorem st_push2 (h : Fr N l a) {d d' : Nat} {x : Operand} {s : Operand} {u z : Value} {t e ty ty' : TypeId} {pos pos' : String} {af af' : Array Edge} {bytes n base cap : Nat} {ao : Option Addr} {xs : List Value}
    (hU : P.underlying t = some (.slice e)) (hi : (P.info? e).map (fun i => (i.zero, i.size, i.bytes)) = some (some z, 1, bytes)) (hz : z.cells.size = 1)
    (hown : w.ownsRow base e 1 (.slice ao n cap) n xs) (hbd : (n + 1) * bytes ≤ 140737488355328) (hm : n + 1 ≤ maxLen) (hbase : base ≤ w.heap.size)
    (hx : Ev l x u := by exact rfl) (hs : Ev ((d, .slice (some ⟨w.heap.size, 0, none⟩) 1 1) :: l) s (.slice ao n cap) := by exact rfl) (hd : Nat.blt d N = true := by exact rfl) (hd' : Nat.blt d' N = true := by exact rfl) (hu : u.oneCell' = true := by exact rfl)
    (k : ∀ a' ao' cap' w', w'.ownsRow base e 1 (.slice ao' (n + 1) cap') (n + 1) (xs ++ [u]) → ((ao' = ao ∧ cap' = cap ∧ w.grownBy w' (Value.slice ao n cap).ownBlock) ∨ (∃ g, ao' = some ⟨g, 0, none⟩ ∧ w.heap.size ≤ g ∧ g < w'.heap.size ∧ w.grownBy w' none)) → Fr N ((d', .slice ao' (n + 1) cap') :: (d, .slice (some ⟨w.heap.size, 0, none⟩) 1 1) :: l) a' → wpList P ops Q rest a' w') :
    wpList P ops Q (⟨some d, .buildSlice t 1 [(0, x)].toArray, ty, pos, af, none⟩ :: ⟨some d', .call { callee := .builtin .append, args := [s, .tmp d].toArray, argTypes := [t, t].toArray }, ty', pos', af', none⟩ :: rest) a w := by
  have hv : u.cells = #[u] := by cases u <;> simp [Value.oneCell'] at hu <;> rfl
  refine st h (d_build1 hU hi hv hx) hd fun a1 h1 => ?_
  obtain ⟨i, g1, g2, g3, g4⟩ := info_parts hi
  obtain ⟨ao', cap', w', hr, hown', hway⟩ := run_append_two (P := P) (w := w.alloc (.cells #[u] e)) base t ty' e i z bytes hU g1 g2 g3 g4 hz ao cap n xs (hown.alloc _) ⟨w.heap.size, 0, none⟩ 1 u
    (cell_at (heap_alloc_new w _) rfl) hu hm hbd (by simp; omega)
  refine st h1 (v := .slice ao' (n + 1) cap') (w' := w') ?_ hd' fun a2 h2 => k a2 ao' cap' w' hown' ?_ h2
  · intro ρ hρ d2 pos af g
    have e1 : ρ s = .slice ao n cap := hρ _ _ hs
    have e2 := hρ (.tmp d) (.slice (some ⟨w.heap.size, 0, none⟩) 1 1) (by simp [Ev, look_cons])
    simp [execOp, resolve, invoke, builtin, e1, e2, hr]
  · rcases hway with ⟨e1, e2, hgr⟩ | ⟨e1, hgr, hlt⟩
    · exact .inl ⟨e1, e2, ⟨hgr.os, hgr.tape, hgr.output, by have := hgr.size; simp at this; omega, fun k hk hne => by rw [hgr.block k (by simp; omega) hne]; exact Below.heap_alloc _ _ _ hk⟩⟩
    · exact .inr ⟨_, e1, by simp, hlt, ⟨hgr.os, hgr.tape, hgr.output, by have := hgr.size; simp at this; omega, fun k hk hne => by rw [hgr.block k (by simp; omega) hne]; exact Below.heap_alloc _ _ _ hk⟩⟩
end
end Go.Proofs.YtjomihhpglojpaaDoor
end
section
/- More on rows of the call's own. Plain lemmas over any program. -/
namespace Go.Proofs.YtjomihhpglojpaaDoor
open Go.RowKit

theorem own_prefix {w : World} {base : Nat} {e : TypeId} {g N n c : Nat} {xs : List Value} (h : w.ownsRow base e 1 (.slice (some ⟨g, 0, none⟩) N c) N xs) (hn : n ≤ N) : w.ownsRow base e 1 (.slice (some ⟨g, 0, none⟩) n c) n (xs.take n) := by
  have hl := h.1
  rcases h.2 with ⟨h0, _⟩ | ⟨g', cap', cur, h0, hb, hg, hle, hm, hsz, htk⟩
  · cases h0
  · cases h0
    refine ⟨by simp; omega, .inr ⟨_, _, cur, rfl, hb, hg, by omega, hm, hsz, ?_⟩⟩
    rw [← htk, List.take_take]
    congr 1
    omega
/-- A row stays while another of another type is written. -/
theorem own_keptO {w w' : World} {base base' : Nat} {e e' : TypeId} {s s' : Nat} {v v' : Value} {n n' : Nat} {xs xs' : List Value} (h : w.ownsRow base e s v n xs) (h' : w.ownsRow base' e' s' v' n' xs') (hne : e ≠ e') (hgr : w.grownBy w' v'.ownBlock) : w'.ownsRow base e s v n xs := by
  refine h.kept hgr ?_
  rcases h.2 with ⟨rfl, _⟩ | ⟨g, cap, cur, rfl, _, hg, _⟩
  · exact Or.inl rfl
  · right
    rcases h'.2 with ⟨rfl, _⟩ | ⟨g2, cap2, cur2, rfl, _, hg2, _⟩
    · simp [Value.ownBlock]
    · intro x
      simp only [Value.ownBlock, Option.some.injEq] at x
      subst x
      rw [hg] at hg2
      cases hg2
      exact hne rfl
theorem own_rebase {w : World} {base base' : Nat} {e : TypeId} {s : Nat} {v : Value} {n : Nat} {xs : List Value} (h : w.ownsRow base e s v n xs) (hb : ∀ k, v.ownBlock = some k → base' ≤ k) : w.ownsRow base' e s v n xs := by
  refine ⟨h.1, ?_⟩
  rcases h.2 with h0 | ⟨g, cap, cur, rfl, _, r⟩
  · exact .inl h0
  · exact .inr ⟨g, cap, cur, rfl, hb g rfl, r⟩
/-- A row stays while a block is written that is not its own. -/
theorem own_keptB {w w' : World} {base : Nat} {e : TypeId} {s : Nat} {v : Value} {n : Nat} {xs : List Value} (h : w.ownsRow base e s v n xs) {r : Option Nat} (hgr : w.grownBy w' r) (hne : ∀ k, v.ownBlock = some k → r ≠ some k) : w'.ownsRow base e s v n xs := by
  refine h.kept hgr ?_
  cases hv : v.ownBlock with
  | none => exact Or.inl rfl
  | some k => right; intro x; exact hne k hv x.symm
theorem own_cells {w : World} {base : Nat} {e : TypeId} {g N c : Nat} {xs : List Value} (h : w.ownsRow base e 1 (.slice (some ⟨g, 0, none⟩) N c) N xs) {i : Nat} (hi : i < xs.length) : w.cell? ⟨g, 0 + i, none⟩ = some xs[i] := by
  have hl := h.1
  rw [Nat.mul_one] at hl
  rcases h.2 with ⟨h0, _⟩ | ⟨g', cap', cur, h0, hb, hg, hle, hm, hsz, htk⟩
  · cases h0
  · cases h0
    rw [Nat.zero_add]
    refine cell_at hg ?_
    have : (cur.toList.take (N * 1))[i]? = some xs[i] := by rw [htk]; simp [hi]
    rw [List.getElem?_take_of_lt (by omega)] at this
    simpa using this
/-- Rows of two types lie apart. -/
theorem own_apart {w : World} {base base' : Nat} {e e' : TypeId} {s s' : Nat} {v v' : Value} {n n' : Nat} {xs xs' : List Value} (h : w.ownsRow base e s v n xs) (h' : w.ownsRow base' e' s' v' n' xs') (hne : e ≠ e') {b b' : Nat} (hb : v.ownBlock = some b) (hb' : v'.ownBlock = some b') : b ≠ b' := by
  rcases h.2 with ⟨rfl, _⟩ | ⟨g, cap, cur, rfl, _, hg, _⟩
  · cases hb
  · rcases h'.2 with ⟨rfl, _⟩ | ⟨g2, cap2, cur2, rfl, _, hg2, _⟩
    · cases hb'
    · simp only [Value.ownBlock, Option.some.injEq] at hb hb'
      subst hb; subst hb'
      intro e0
      subst e0
      rw [hg] at hg2
      cases hg2
      exact hne rfl
end Go.Proofs.YtjomihhpglojpaaDoor
end
section
/- Lent texts and signals. -/
namespace Go.Proofs.YtjomihhpglojpaaDoor
open Go.RowKit
set_option linter.unusedSimpArgs false
set_option linter.unusedVariables false
attribute [local irreducible] wpList wpQuiet wpStill Code.wp Exit.then Exit.inBlock bodyPost Calls Does Does0

/-- A mark's bytes. -/
def markB (k i : Int) : List Int := [35, IntKind.u8.wrap k, IntKind.u8.wrap (k / 2 ^ 8), IntKind.u8.wrap i, IntKind.u8.wrap (i / 2 ^ 8)]
def markT (k i : Int) : ByteArray := strOfNums (markB k i)
def marksT : List ByteArray := (List.range 16).map fun i : Nat => markT 90 (i : Int)
theorem marksT_len : marksT.length = 16 := rfl
theorem marksT_get (k : Nat) (h : k < 16) : marksT[k]'(by rw [marksT_len]; exact h) = markT 90 (k : Int) := by
  simp only [marksT, List.getElem_map, List.getElem_range]

set_option maxHeartbeats 2000000 in
theorem mark_ok (w : World) (k i : Int) : Ret Tryd.prog 107 #[.int .i64 k, .int .i64 i] w (fun v w' => v = .string (markT k i) ∧ Below w.heap.size w w') := by
  refine enter2 Tryd.func107 rfl 15 rfl 17 rfl (fun a hF => ?_)
  repeat (first | refine c_seq ?_ | refine c_region _ ?_ | refine wpList_nil ?_ | refine c_then ?_ | ((apply st hF); (first | exact d_move | exact d_assign | exact d_convI (und _ _ rfl) (und _ _ rfl) | exact d_shrI (b := 8)); clear hF; clear a; intro a hF))
  refine st hF (d_buildS (z := .int .u8 0) (by_ := 1) (und _ _ rfl) inf5 rfl (by omega) (by omega) (vs := [(0, .int .u8 35), (1, .int .u8 (IntKind.u8.wrap k)), (2, .int .u8 (IntKind.u8.wrap (k / 2 ^ 8))), (3, .int .u8 (IntKind.u8.wrap i)), (4, .int .u8 (IntKind.u8.wrap (i / 2 ^ 8)))]) (cells := ((markB k i).map (Value.int .u8)).toArray) (by rfl) ⟨rfl, rfl, rfl, rfl, rfl, rfl, rfl, rfl, rfl, rfl, trivial⟩) (k := fun a hF => ?_)
  have hg1 : (w.alloc (.cells ((markB k i).map (Value.int .u8)).toArray 5)).heap[w.heap.size]? = some (.cells ((markB k i).map (Value.int .u8)).toArray 5 (0, 0)) := heap_alloc_new w _
  have hgr1 : w.grownBy (w.alloc (.cells ((markB k i).map (Value.int .u8)).toArray 5)) none := World.grownBy_alloc _ _ _
  generalize w.alloc (.cells ((markB k i).map (Value.int .u8)).toArray 5) = w1 at *
  have hb1 : Below w.heap.size w w1 := (Below.refl _ w).grown hgr1 (Nat.le_refl _) (fun k hk => by cases hk)
  have hcell : ∀ j, j < 5 → w1.cell? ⟨w.heap.size, 0 + j, none⟩ = some (.int .u8 ((markB k i).getD j 0)) := by
    intro j hj
    refine cell_at hg1 ?_
    rw [Nat.zero_add]
    rcases (show j = 0 ∨ j = 1 ∨ j = 2 ∨ j = 3 ∨ j = 4 by omega) with rfl | rfl | rfl | rfl | rfl <;> rfl
  repeat (first | refine wpList_nil ?_ | refine c_then ?_ | refine wp_ret ?_ | ((apply st hF); (first | exact d_assign | exact d_convBS (markB k i) (und _ _ rfl) (und _ _ rfl) (und _ _ rfl) rfl hcell); clear hF; clear a; intro a hF))
  exact ret1 hF rfl rfl ⟨rfl, hb1⟩
theorem marks_ok (w : World) (k i : Int) : Ret Tryd.prog 88 #[.int .i64 k, .int .i64 i] w (fun v w' => v = .string (markT k i) ∧ Below w.heap.size w w') := by
  refine enter2 Tryd.func88 rfl 6 rfl 8 rfl (fun a hF => ?_)
  repeat (first | refine c_seq ?_ | refine c_region _ ?_ | refine wpList_nil ?_ | refine c_then ?_ | ((apply st hF); (first | exact d_move | exact d_assign); clear hF; clear a; intro a hF))
  refine stc hF (mark_ok w k i) cal107 ⟨rfl, rfl, trivial⟩ (k := fun a v w1 hR hF => ?_)
  obtain ⟨rfl, hb1⟩ := hR
  repeat (first | refine wpList_nil ?_ | refine c_then ?_ | refine wp_ret ?_ | ((apply st hF); (exact d_assign); clear hF; clear a; intro a hF))
  exact ret1 hF rfl rfl ⟨rfl, hb1⟩

/-- A lent list of texts: so many, the marks behind. -/
def LentT (base : Nat) (w : World) (v : Value) (xs : List ByteArray) : Prop :=
  ∃ g cap, v = .slice (some ⟨g, 0, none⟩) xs.length cap ∧ w.ownsRow base 9 1 (.slice (some ⟨g, 0, none⟩) (xs.length + 16) cap) (xs.length + 16) ((xs ++ marksT).map .string)

set_option maxHeartbeats 2000000 in
theorem full_texts (w : World) (xs : List ByteArray) (ao : Option Addr) (n c : Nat) (hn : xs.length = n) (h : Rd w ao .string xs) (hb : n * 16 ≤ 140737488351232) :
    Ret Tryd.prog 67 #[.slice ao n c] w (fun v w' => (∃ g cap, v = .slice (some ⟨g, 0, none⟩) (n + 16) cap ∧ w'.ownsRow w.heap.size 9 1 (.slice (some ⟨g, 0, none⟩) (n + 16) cap) (n + 16) ((xs ++ marksT).map .string)) ∧ Below w.heap.size w w') := by
  subst hn
  refine enter1 Tryd.func67 rfl 28 rfl 29 rfl (fun a hF => ?_)
  repeat (first | refine c_seq ?_ | refine c_block ?_ | refine c_region _ ?_ | refine wpList_nil ?_ | refine c_then ?_ | ((apply st hF); (exact d_assign); clear hF; clear a; intro a hF))
  refine c_loop (fun n a wr => ∃ k ao' cap', k ≤ xs.length ∧ n = xs.length - k ∧ Fr 29 [(0, .slice ao xs.length c), (3, .slice ao' k cap'), (4, .int .i64 (k : Nat))] a ∧
    wr.ownsRow w.heap.size 9 1 (.slice ao' k cap') k ((xs.take k).map .string) ∧ Below w.heap.size w wr) xs.length
    ⟨0, none, 0, by omega, rfl, hF.keep' ⟨rfl, rfl, rfl, trivial⟩, by simpa using World.ownsRow_nil _ _ _ _, Below.refl _ _⟩ ?_
  clear hF a
  rintro n a wr ⟨k, ao', cap', hk, rfl, hF, hown, hbel⟩
  have hsz := hbel.size
  by_cases hlt : k < xs.length
  · obtain ⟨b, o, rfl, hc⟩ := h k hlt
    have hc' : wr.cell? ⟨b, o + k, none⟩ = some (.string xs[k]) := (hbel.cell (p := ⟨b, o + k, none⟩) (World.block_lt_of_cell? w _ hc)).trans hc
    repeat (first | refine c_seq ?_ | refine c_block ?_ | refine c_region _ ?_ | refine wpList_nil ?_ | refine c_then ?_ | refine wp_skip ?_ | ((apply st hF); (first | exact d_move | exact d_cmpT | exact d_len (und _ _ rfl) | exact d_indexAddr1 (und _ _ rfl) (isz _ _ rfl) | exact d_load (und _ _ rfl) hc'); clear hF; clear a; intro a hF) | (apply c_cond_t hF; exact rfl; first | exact rfl | assumption))
    refine st_push hF (und _ _ rfl) inf9 rfl hown (by omega) (by unfold maxLen; omega) hsz (k := fun a ao2 cap2 w2 hown2 hgr hF => ?_)
    rw [map_take_snoc _ _ _ hlt] at hown2
    repeat (first | refine c_region _ ?_ | refine wpList_nil ?_ | refine c_then ?_ | refine c_in ?_ | ((apply st hF); (first | exact d_move | exact d_assign | exact d_add); clear hF; clear a; intro a hF))
    exact ⟨xs.length - (k + 1), by omega, k + 1, ao2, cap2, by omega, rfl, hF.keep' ⟨rfl, rfl, rfl, trivial⟩, hown2, below_own hbel hsz hown hgr⟩
  · obtain rfl : k = xs.length := by omega
    rw [List.take_length] at hown
    repeat (first | refine c_seq ?_ | refine c_block ?_ | refine c_region _ ?_ | refine wpList_nil ?_ | refine c_then ?_ | refine c_then_exit ?_ | refine c_in_hit ?_ | refine wp_exit ?_ | ((apply st hF); (first | exact d_move | exact d_assign | exact d_cmpF | exact d_len (und _ _ rfl)); clear hF; clear a; intro a hF) | (apply c_cond_f hF; exact rfl; first | exact rfl | assumption))
    refine c_loop (fun n a wr => ∃ k ao' cap', k ≤ 16 ∧ n = 16 - k ∧ Fr 29 [(0, .slice ao xs.length c), (3, .slice ao' (xs.length + k) cap'), (5, .int .i64 (k : Nat))] a ∧
      wr.ownsRow w.heap.size 9 1 (.slice ao' (xs.length + k) cap') (xs.length + k) ((xs ++ marksT.take k).map .string) ∧ Below w.heap.size w wr) 16
      ⟨0, ao', cap', by omega, rfl, hF.keep' ⟨rfl, rfl, rfl, trivial⟩, by simpa using hown, hbel⟩ ?_
    clear hF a hown hbel hsz wr
    rintro n a wr ⟨k, ao', cap', hk, rfl, hF, hown, hbel⟩
    have hsz := hbel.size
    by_cases hlt2 : k < 16
    · repeat (first | refine c_seq ?_ | refine c_block ?_ | refine c_region _ ?_ | refine wpList_nil ?_ | refine c_then ?_ | refine wp_skip ?_ | ((apply st hF); (first | exact d_move | exact d_cmpT); clear hF; clear a; intro a hF) | (apply c_cond_t hF; exact rfl; first | exact rfl | assumption))
      refine stc hF (marks_ok wr 90 k) cal88 ⟨rfl, rfl, trivial⟩ (k := fun a v w1 hR hF => ?_)
      obtain ⟨rfl, hb1⟩ := hR
      replace hown := own_below hown hb1
      replace hbel := hbel.trans (hb1.mono hsz)
      replace hsz := hbel.size
      skip
      refine st_push hF (und _ _ rfl) inf9 rfl hown (by omega) (by unfold maxLen; omega) hsz (k := fun a ao2 cap2 w2 hown2 hgr hF => ?_)
      have e1 : ((xs ++ marksT.take k).map Value.string) ++ [.string (markT 90 (k : Int))] = (xs ++ marksT.take (k + 1)).map .string := by
        rw [List.take_succ_eq_append_getElem (by rw [marksT_len]; exact hlt2), marksT_get k hlt2]; simp
      rw [e1] at hown2
      repeat (first | refine c_region _ ?_ | refine wpList_nil ?_ | refine c_then ?_ | refine c_in ?_ | ((apply st hF); (first | exact d_move | exact d_assign | exact d_add); clear hF; clear a; intro a hF))
      exact ⟨16 - (k + 1), by omega, k + 1, ao2, cap2, by omega, rfl, hF.keep' ⟨rfl, rfl, rfl, trivial⟩, hown2, below_own hbel hsz hown hgr⟩
    · obtain rfl : k = 16 := by omega
      have e1 : marksT.take 16 = marksT := rfl
      rw [e1] at hown
      obtain ⟨g, rfl, hg⟩ := own_some hown (by omega)
      have hcap := own_cap hown
      repeat (first | refine c_seq ?_ | refine c_region _ ?_ | refine wpList_nil ?_ | refine c_then ?_ | refine c_then_exit ?_ | refine c_in_hit ?_ | refine wp_exit ?_ | refine wp_ret ?_ | ((apply st hF); (first | exact d_move | exact d_assign | exact d_cmpF); clear hF; clear a; intro a hF) | (apply c_cond_f hF; exact rfl; first | exact rfl | assumption))
      exact ret1 hF rfl rfl ⟨⟨g, cap', rfl, hown⟩, hbel⟩

theorem lent_texts (w : World) (xs : List ByteArray) (ao : Option Addr) (n c : Nat) (hn : xs.length = n) (h : Rd w ao .string xs) (hb : n * 16 ≤ 140737488351232) :
    Ret Tryd.prog 43 #[.slice ao n c] w (fun v w' => LentT w.heap.size w' v xs ∧ Below w.heap.size w w') := by
  subst hn
  refine enter1 Tryd.func43 rfl 9 rfl 10 rfl (fun a hF => ?_)
  repeat (first | refine c_seq ?_ | refine c_region _ ?_ | refine wpList_nil ?_ | refine c_then ?_ | ((apply st hF); (first | exact d_move | exact d_assign); clear hF; clear a; intro a hF))
  refine stc hF (full_texts w xs ao _ c rfl h hb) cal67 ⟨rfl, trivial⟩ (k := fun a v w1 hR hF => ?_)
  obtain ⟨⟨g, cap, rfl, hown⟩, hb1⟩ := hR
  have hcap := own_cap hown
  repeat (first | refine c_seq ?_ | refine c_region _ ?_ | refine wpList_nil ?_ | refine c_then ?_ | refine wp_ret ?_ | ((apply st hF); (first | exact d_move | exact d_assign | exact d_len (und _ _ rfl) | exact d_slice (und _ _ rfl) (isz _ _ rfl)); clear hF; clear a; intro a hF))
  exact ret1 hF rfl rfl ⟨⟨g, cap, rfl, hown⟩, hb1⟩

set_option maxHeartbeats 2000000 in
theorem keptfull_texts (w : World) (xs : List ByteArray) (g cap base : Nat) (ao : Option Addr) (n m c : Nat) (hn : xs.length = n) (hm : m = n + 16) (h : Rd w ao .string xs) (hown : w.ownsRow base 9 1 (.slice (some ⟨g, 0, none⟩) (n + 16) cap) (n + 16) ((xs ++ marksT).map .string)) (hb : n * 16 ≤ 140737488351232) :
    Ret Tryd.prog 74 #[.slice (some ⟨g, 0, none⟩) m cap, .slice ao n c] w (fun v w' => v = .bool true ∧ Below w.heap.size w w') := by
  subst hm; subst hn
  have hcap := own_cap hown
  refine enter2 Tryd.func74 rfl 36 rfl 38 rfl (fun a hF => ?_)
  repeat (first | refine c_seq ?_ | refine c_block ?_ | refine c_region _ ?_ | refine wpList_nil ?_ | refine c_then ?_ | refine wp_skip ?_ | ((apply st hF); (first | exact d_move | exact d_assign | exact d_add | exact d_cmpF | exact d_len (und _ _ rfl)); clear hF; clear a; intro a hF) | (apply c_cond_f hF; exact rfl; first | exact rfl | assumption))
  refine c_loop (fun q a w' => ∃ k, k ≤ xs.length + 16 ∧ q = xs.length + 16 - k ∧ Fr 38 [(0, .slice (some ⟨g, 0, none⟩) (xs.length + 16) cap), (1, .slice ao xs.length c), (5, .int .i64 (k : Nat))] a ∧ Below w.heap.size w w') (xs.length + 16)
    ⟨0, by omega, rfl, hF.keep' ⟨rfl, rfl, rfl, trivial⟩, Below.refl _ w⟩ ?_
  clear hF a
  rintro q a w' ⟨k, hk, rfl, hF, hbel⟩
  by_cases hlt : k < xs.length + 16
  · repeat (first | refine c_seq ?_ | refine c_block ?_ | refine c_region _ ?_ | refine wpList_nil ?_ | refine c_then ?_ | refine wp_skip ?_ | ((apply st hF); (first | exact d_move | exact d_sub | exact d_cmpT | exact d_len (und _ _ rfl)); clear hF; clear a; intro a hF) | (apply c_cond_t hF; exact rfl; first | exact rfl | assumption))
    refine stc hF (marks_ok w' 90 ((k : Int) - (xs.length : Int))) cal88 ⟨rfl, rfl, trivial⟩ (k := fun a v w1 hR hF => ?_)
    obtain ⟨rfl, hb1⟩ := hR
    have hbel1 := hbel.trans (hb1.mono hbel.size)
    have hlen : (xs ++ marksT).length = xs.length + 16 := by simp [marksT_len]
    have hc2 := own_cells (own_below hown hbel1) (i := k) (by simp [marksT_len]; omega)
    rw [List.getElem_map] at hc2
    by_cases hx : k < xs.length
    · obtain ⟨b, o, rfl, hc⟩ := h k hx
      have hc' : w1.cell? ⟨b, o + k, none⟩ = some (.string xs[k]) := (hbel1.cell (p := ⟨b, o + k, none⟩) (World.block_lt_of_cell? w _ hc)).trans hc
      rw [List.getElem_append_left hx] at hc2
      have hq : (!decide (xs[k] = xs[k])) = false := by simp
      repeat (first | refine c_seq ?_ | refine c_region _ ?_ | refine wpList_nil ?_ | refine c_then ?_ | refine c_in ?_ | refine wp_skip ?_ | ((apply st hF); (first | exact d_move | exact d_assign | exact d_add | exact d_cmpT | exact d_eqSF | exact d_len (und _ _ rfl) | exact d_indexAddr1 (und _ _ rfl) (isz _ _ rfl) | exact d_load (und _ _ rfl) hc' | exact d_load (und _ _ rfl) hc2); clear hF; clear a; intro a hF) | (apply c_cond_t hF; exact rfl; first | exact rfl | assumption) | (apply c_cond_f hF; exact rfl; first | exact rfl | assumption))
      exact ⟨xs.length + 16 - (k + 1), by omega, k + 1, by omega, rfl, hF.keep' ⟨rfl, rfl, rfl, trivial⟩, hbel1⟩
    · have e3 : (xs ++ marksT)[k]'(by rw [hlen]; omega) = markT 90 ((k : Int) - (xs.length : Int)) := by
        rw [List.getElem_append_right (by omega), marksT_get _ (by omega)]
        congr 1
        omega
      rw [e3] at hc2
      have hq : (!decide (markT 90 ((k : Int) - (xs.length : Int)) = markT 90 ((k : Int) - (xs.length : Int)))) = false := by simp
      repeat (first | refine c_seq ?_ | refine c_region _ ?_ | refine wpList_nil ?_ | refine c_then ?_ | refine c_in ?_ | refine wp_skip ?_ | ((apply st hF); (first | exact d_move | exact d_assign | exact d_add | exact d_cmpF | exact d_eqSF | exact d_len (und _ _ rfl) | exact d_indexAddr1 (und _ _ rfl) (isz _ _ rfl) | exact d_load (und _ _ rfl) hc2); clear hF; clear a; intro a hF) | (apply c_cond_f hF; exact rfl; first | exact rfl | assumption))
      exact ⟨xs.length + 16 - (k + 1), by omega, k + 1, by omega, rfl, hF.keep' ⟨rfl, rfl, rfl, trivial⟩, hbel1⟩
  · repeat (first | refine c_seq ?_ | refine c_region _ ?_ | refine wpList_nil ?_ | refine c_then ?_ | refine c_then_exit ?_ | refine c_in_hit ?_ | refine wp_exit ?_ | refine wp_ret ?_ | ((apply st hF); (first | exact d_move | exact d_assign | exact d_cmpF | exact d_len (und _ _ rfl)); clear hF; clear a; intro a hF) | (apply c_cond_f hF; exact rfl; first | exact rfl | assumption))
    exact ret1 hF rfl rfl ⟨rfl, hbel⟩

theorem kept_texts (w : World) (xs : List ByteArray) (v : Value) (base : Nat) (ao : Option Addr) (n c : Nat) (hn : xs.length = n) (h : Rd w ao .string xs) (hl : LentT base w v xs) (hb : n * 16 ≤ 140737488351232) :
    Ret Tryd.prog 47 #[v, .slice ao n c] w (fun v w' => v = .bool true ∧ Below w.heap.size w w') := by
  subst hn
  obtain ⟨g, cap, rfl, hown⟩ := hl
  have hcap := own_cap hown
  refine enter2 Tryd.func47 rfl 15 rfl 17 rfl (fun a hF => ?_)
  repeat (first | refine c_seq ?_ | refine c_region _ ?_ | refine wpList_nil ?_ | refine c_then ?_ | refine wp_skip ?_ | ((apply st hF); (first | exact d_move | exact d_assign | exact d_add | exact d_cmpF | exact d_len (und _ _ rfl) | exact d_slice (und _ _ rfl) (isz _ _ rfl) (j := xs.length + 16) (hq := by omega)); clear hF; clear a; intro a hF) | (apply c_cond_f hF; exact rfl; first | exact rfl | assumption))
  refine stc hF (keptfull_texts w xs g cap base ao _ _ c rfl rfl h hown hb) cal74 ⟨rfl, rfl, trivial⟩ (k := fun a v w1 hR hF => ?_)
  obtain ⟨rfl, hb1⟩ := hR
  repeat (first | refine wpList_nil ?_ | refine c_then ?_ | refine wp_ret ?_ | ((apply st hF); (exact d_assign); clear hF; clear a; intro a hF))
  exact ret1 hF rfl rfl ⟨rfl, hb1⟩
end Go.Proofs.YtjomihhpglojpaaDoor
end
section
/- Arrays of bools: sets of bits. Plain lemmas over any program. -/
namespace Go.Proofs.YtjomihhpglojpaaDoor
open Go.RowKit

/-- The cells of a set. -/
def setC (xs : List Bool) : Array Value := (xs.map Value.bool).toArray
theorem setC_size (xs : List Bool) : (setC xs).size = xs.length := by simp [setC]
theorem setC_get {xs : List Bool} {j : Nat} (h : j < xs.length) : (setC xs)[j]? = some (.bool xs[j]) := by simp [setC, h]
theorem setC_set (xs : List Bool) (j : Nat) (b : Bool) : (setC xs).setIfInBounds (0 + j) (.bool b) = setC (xs.set j b) := by
  rw [Nat.zero_add]
  apply Array.toList_inj.1
  simp [setC, List.map_set]
theorem setC_cells (xs : List Bool) : ∀ v ∈ setC xs, v.oneCell' = true := by
  intro v hv
  simp [setC] at hv
  rcases hv with ⟨_, rfl⟩ | ⟨_, rfl⟩ <;> rfl

section
variable {P : Program} {ops : Array Oper} {Q : Exit → Act → World → Prop} {a : Act} {w w' : World} {rest : List Oper} {N : Nat} {l : List (Nat × Value)}

theorem run_eqItems_bools (d : Nat) {e : TypeId} (he : P.underlying e = some .bool) (xs ys : List Bool) (hl : xs.length = ys.length) : ∀ is : List Nat, (∀ i ∈ is, i < xs.length) →
    (Op.eqItems (d + 1) e 1 (setC xs) (setC ys) is).run P w = .ok (is.all fun i => xs.getD i false == ys.getD i false) w
  | [], _ => by simp [Op.eqItems]
  | i :: is, h => by
    have hi := h i (by simp)
    have px : (part e (setC xs) (i * 1)).run P w = .ok (.bool (xs.getD i false)) w := by
      simp [part, isAgg, run_underlying he, setC, List.getD, hi]
    have py : (part e (setC ys) (i * 1)).run P w = .ok (.bool (ys.getD i false)) w := by
      simp [part, isAgg, run_underlying he, setC, List.getD, show i < ys.length by omega]
    have pe : (Op.equalIn (d + 1) e (.bool (xs.getD i false)) (.bool (ys.getD i false))).run P w = .ok (xs.getD i false == ys.getD i false) w := run_equalIn_bool d he _ _
    simp only [Op.eqItems, Sem.run_bind, px, py, pe, Result.andThen_ok, List.all_cons]
    cases hq : (xs.getD i false == ys.getD i false) with
    | false => simp
    | true => simpa using run_eqItems_bools d he xs ys hl is (fun j hj => h j (by simp [hj]))
theorem all_range (xs ys : List Bool) (h : xs.length = ys.length) : ((List.range xs.length).all fun i => xs.getD i false == ys.getD i false) = decide (xs = ys) := by
  rw [Bool.eq_iff_iff]
  simp only [List.all_eq_true, List.mem_range, beq_iff_eq, decide_eq_true_eq]
  constructor
  · intro hh
    apply List.ext_getElem h
    intro i h1 h2
    have := hh i h1
    simpa [List.getD, h1, h2] using this
  · rintro rfl i _; rfl
theorem run_equalIn_set (d : Nat) {t e : TypeId} {n : Nat} {i : TypeInfo} (hu : P.underlying t = some (.array n e)) (he : P.underlying e = some .bool) (hi : P.info? e = some i) (hc : P.cellsOf e = 1) (xs ys : List Bool) (hx : xs.length = n) (hy : ys.length = n) :
    (Op.equalIn (d + 2) t (.agg (setC xs)) (.agg (setC ys))).run P w = .ok (decide (xs = ys)) w := by
  rw [run_equalIn_array (P := P) w (d + 1) (setC xs) (setC ys) hu hi, hc, run_eqItems_bools d he xs ys (by omega) _ (by intro j hj; simp at hj; omega), ← hx, all_range xs ys (by omega)]
/-- Sets held against each other. -/
theorem d_eqSet {op : BinOp} {x y : Operand} {xs ys : List Bool} {r : Bool} {t t' ty e : TypeId} {n : Nat} (hu : P.underlying t = some (.array n e)) (he : P.underlying e = some .bool) (hi : (P.info? e).map (·.size) = some 1) (hc : P.cellsOf e = 1) (hm : P.eqGuardType P.depth t = false) (hxl : xs.length = n) (hyl : ys.length = n)
    (hx : Ev l x (.agg (setC xs)) := by exact rfl) (hy : Ev l y (.agg (setC ys)) := by exact rfl) (hr : (match op with | .eql => some (decide (xs = ys)) | .neq => some (!decide (xs = ys)) | _ => none) = some r := by exact rfl) : Does P l w (.binOp op t x y t') ty (.bool r) w := by
  obtain ⟨i, h1, h2⟩ := Option.map_eq_some_iff.1 hi
  intro ρ hρ d pos af g
  have key := run_equalIn_set (P := P) (w := w) 9998 hu he h1 hc xs ys hxl hyl
  cases op <;> simp only [Option.some.injEq, reduceCtorEq] at hr <;> subst hr
  · simp only [execOp, hρ _ _ hx, hρ _ _ hy, Sem.run_bind, run_eqGuard_agg w _ t x y _ _ hm, Result.andThen_ok, run_eql_struct, key]
    rfl
  · simp only [execOp, hρ _ _ hx, hρ _ _ hy, Sem.run_bind, run_eqGuard_agg w _ t x y _ _ hm, Result.andThen_ok, run_neq_struct, key]
    rfl

/-- An element's address in an array. -/
theorem d_indexAddrA {x i : Operand} {b o n : Nat} {k : IntKind} {j : Nat} {q : Int} {t e ty : TypeId} (hU : P.underlying t = some (.array n e)) (hs : (P.info? e).map (·.size) = some 1)
    (hx : Ev l x (.pointer (some ⟨b, o, none⟩)) := by exact rfl) (hi : Ev l i (.int k q) := by exact rfl) (hq : q = (j : Int) := by exact rfl) (hj : j < n := by omega) :
    Does P l w (.indexAddr t x i) ty (.pointer (some ⟨b, o + j, none⟩)) w := by
  intro ρ hρ d pos af g
  subst hq
  obtain ⟨ti, h1, h2⟩ := Option.map_eq_some_iff.1 hs
  have h3 : (0 : Int) ≤ (j : Int) ∧ (j : Int) < (n : Int) := by omega
  simp [execOp, Instr.indexAt, Instr.sureAddr, asIntOf, hρ _ _ hx, hρ _ _ hi, run_underlying hU, sizeOf, typeInfo, h1, h2, hj, addr_add]
/-- An element of an array that is no variable. -/
theorem d_indexA {x i : Operand} {cs : Array Value} {n : Nat} {v : Value} {k : IntKind} {j : Nat} {q : Int} {t e ty : TypeId} {dd : TypeDesc} (hU : P.underlying t = some (.array n e)) (hE : P.underlying e = some dd) (h1' : oneCellType dd = true) (hs : (P.info? e).map (·.size) = some 1) (hv : cs[j]? = some v)
    (hx : Ev l x (.agg cs) := by exact rfl) (hi : Ev l i (.int k q) := by exact rfl) (hq : q = (j : Int) := by exact rfl) (hj : j < n := by omega) :
    Does P l w (.index t x i) ty v w := by
  intro ρ hρ d pos af g
  subst hq
  obtain ⟨ti, h1, h2⟩ := Option.map_eq_some_iff.1 hs
  have h3 : (0 : Int) ≤ (j : Int) ∧ (j : Int) < (n : Int) := by omega
  cases dd <;> simp [oneCellType] at h1' <;> simp [execOp, Instr.index, asIntOf, hρ _ _ hx, hρ _ _ hi, run_underlying hU, sizeOf, typeInfo, h1, h2, hj, part, isAgg, run_underlying hE, hv]

/-! ### results in boxes -/
theorem run_loadVar_agg {t : TypeId} {g : Nat} {cs : Array Value} {e : TypeId} {fr : Nat × Nat} (hU : (P.underlying t).map aggB = some true) (hs : (P.info? t).map (·.size) = some cs.size) (hg : w.heap[g]? = some (.cells cs e fr)) : (loadVar t ⟨g, 0, none⟩).run P w = .ok (.agg cs) w := by
  obtain ⟨ti, h1, h2⟩ := Option.map_eq_some_iff.1 hs
  obtain ⟨dd, h3, h4⟩ := Option.map_eq_some_iff.1 hU
  have hr : (loadCells ⟨g, 0, none⟩ cs.size).run P w = .ok cs w := by
    have := run_loadCells_list (P := P) (w := w) ⟨g, 0, none⟩ cs.toList (fun j v hj => by rw [addr_add]; exact cells_at hg j v (by simpa using hj))
    simpa using this
  cases dd <;> simp [aggB] at h4 <;> simp [loadVar, isAgg, run_underlying h3, sizeOf, typeInfo, h1, h2, hr]
theorem ret_ct {fn : Func} {R : Value → World → Prop} (h : Fr N l a) {p u : Nat} {ty : TypeId} (hres : fn.results = #[.cell p ty, .tmp u]) {g : Nat} {cs : Array Value} {e : TypeId} {fr : Nat × Nat} {y : Value} (hU : (P.underlying ty).map aggB = some true) (hs : (P.info? ty).map (·.size) = some cs.size) (hg : w.heap[g]? = some (.cells cs e fr))
    (hv : look l p = some (.pointer (some ⟨g, 0, none⟩))) (hx : look l u = some y) (hR : R (.tuple #[.agg cs, y]) w) :
    bodyPost P fn (fun e w' => ∃ v, e = .returned v ∧ R v w') .ret a w := by
  refine bodyPost_ret (v := .tuple #[.agg cs, y]) ?_ h.defers ⟨_, rfl, hR⟩
  rw [results_cell_tmp hres, getD_at h hv, getD_at h hx]
  simp [asAddr, run_loadVar_agg hU hs hg]
theorem ret_c {fn : Func} {R : Value → World → Prop} (h : Fr N l a) {p : Nat} {ty : TypeId} (hres : fn.results = #[.cell p ty]) {g : Nat} {cs : Array Value} {e : TypeId} {fr : Nat × Nat} (hU : (P.underlying ty).map aggB = some true) (hs : (P.info? ty).map (·.size) = some cs.size) (hg : w.heap[g]? = some (.cells cs e fr))
    (hv : look l p = some (.pointer (some ⟨g, 0, none⟩))) (hR : R (.agg cs) w) :
    bodyPost P fn (fun e w' => ∃ v, e = .returned v ∧ R v w') .ret a w := by
  refine bodyPost_ret (v := .agg cs) ?_ h.defers ⟨_, rfl, hR⟩
  have e1 : a.tmps[p]? = some (.pointer (some ⟨g, 0, none⟩)) := h.at_ _ _ hv
  simp [results, hres, e1, asAddr, run_loadVar_agg hU hs hg]
end
end Go.Proofs.YtjomihhpglojpaaDoor
end
