/- Laid together by a program of mine: RA. -/
import Derived.Test.YtnohefaifbghiaaGreatDoorSumLawKnownS5
import Derived.Test.YtnohefaifbghiaaGreatDoorSumLawKnownS4
import Derived.RangeFuncIn
import Derived.Test.YtnohefaifbghiaaGreatDoorSumLawKnownS8
set_option linter.unusedSimpArgs false
set_option linter.unusedVariables false
section
/- A range over chars.All: the law of the statement. -/
namespace Go.Proofs.YtnohefaifbghiaaGreatDoor
open Go.RowKit
set_option linter.unusedSimpArgs false
set_option linter.unusedVariables false
attribute [local irreducible] wpList wpQuiet wpStill Code.wp Exit.then Exit.inBlock bodyPost Calls Does Does0
attribute [local irreducible] Code.wpIn wpListIn CallsIn RoundIn

/-- The loop's own four blocks stay as they are. -/
structure KeepB (B : Nat) (W W' : World) : Prop where
  size : W.heap.size ≤ W'.heap.size
  same : ∀ i, B ≤ i → i < B + 4 → W'.heap[i]? = W.heap[i]?
theorem KeepB.refl (B : Nat) (W : World) : KeepB B W W := ⟨Nat.le_refl _, fun _ _ _ => rfl⟩
theorem KeepB.trans {B : Nat} {W W' W'' : World} (h : KeepB B W W') (k : KeepB B W' W'') : KeepB B W W'' := ⟨Nat.le_trans h.size k.size, fun i h1 h2 => (k.same i h1 h2).trans (h.same i h1 h2)⟩
theorem KeepB.grown {B : Nat} {W W' : World} {r : Option Nat} (hgr : W.grownBy W' r) (hB : B + 4 ≤ W.heap.size) (hr : ∀ k, r = some k → k < B ∨ B + 4 ≤ k) : KeepB B W W' :=
  ⟨hgr.size, fun i h1 h2 => hgr.block i (by omega) (fun e => by rcases hr i e.symm with h | h <;> omega)⟩
theorem KeepB.below {B : Nat} {W W' : World} (hb : Below W.heap.size W W') (hB : B + 4 ≤ W.heap.size) : KeepB B W W' := ⟨hb.size, fun i _ h2 => hb.block i (by omega)⟩
/-- How a round may be left. -/
def postB (B : Nat) (I : Nat → World → Prop) (Ix : Code → World → Prop) (k : Nat) (W : World) : Exit → Act → World → Prop
  | .normal, _, W' => KeepB B W W' ∧ I (k + 1) W'
  | .ret, _, W' => KeepB B W W' ∧ Ix .ret W'
  | .exit id, _, W' => KeepB B W W' ∧ Ix (.exit id) W'
  | _, _, _ => False

section
variable {F : Fence} {n : Nat} {P : Program} {ops : Array Oper} {Q : Exit → Act → World → Prop} {a : Act} {w : World} {N : Nat} {l : List (Nat × Value)} {rest : List Oper}
/-- The first operations of a list by the plain walk. -/
theorem seg_in {l2 : List Oper} (hF : IsW F) : ∀ {l1 : List Oper} {a : Act} {w : World}, l1.all nodefB = true → wpList P ops (Qx fun e a' w' => e = .normal ∧ wpListIn F n P ops Q l2 a' w') l1 a w → wpListIn F n P ops Q (l1 ++ l2) a w
  | [], _, _, _, h => by
    simp only [wpList] at h
    exact h.2.2
  | o :: l1, a, w, hd, h => by
    simp only [List.all_cons, Bool.and_eq_true] at hd
    simp only [wpList] at h
    rw [List.cons_append]
    refine wpListIn_step fun K hK => ?_
    split
    · rename_i hw
      rw [if_pos hw] at h
      rcases h with h | ⟨_, h⟩
      · refine Oper.wpIn_mono (fun a' w' h' => hK _ _ (seg_in hF hd.2 h')) (oper_in hF hd.1 (oper_wp_monoQ (Q' := Qx fun e a' w' => e = .normal ∧ wpListIn F n P ops Q l2 a' w') (fun e a w hn h' => absurd h'.2.1 hn) h))
      · exact absurd h not_letsOut_Qx
    · rename_i hw
      rw [if_neg hw] at h
      exact ⟨fun f _ => isW_fn hF f, hK _ _ (seg_in hF hd.2 h)⟩
/-- A call of yield. -/
theorem i_yield (hF : IsW F) (h : Fr N l a) {d : Nat} {y : Operand} {lr : Nat} {r : Loop} {xs : List Operand} {vs : List Value} {ats : Array TypeId} {ty : TypeId} {pos : String} {af : Array Edge} {R : Bool → World → Prop}
    (hrec : w.heap[lr]? = some (.loop r)) (hps : vs.length = r.params.size) (hr : RoundIn F (n - 1) P lr r.fn ((r.params.zip vs.toArray).foldl (fun tmps (t, a) => tmps.setIfInBounds t a) r.tmps) r.assign r.body w (fun e w' => ∃ b, e = .returned (.bool b) ∧ R b w'))
    (hx : Evs l xs vs) (hy : Ev l y (.func (.yield lr) #[] #[]) := by exact rfl) (hd : Nat.blt d N = true := by exact rfl)
    (k : ∀ a' b w', R b w' → Fr N ((d, .bool b) :: l) a' → wpListIn F n P ops Q rest a' w') :
    wpListIn F n P ops Q (⟨some d, .call { callee := .value y, args := xs.toArray, argTypes := ats }, ty, pos, af, none⟩ :: rest) a w :=
  wpListIn_plain rfl fun K hK => by
    refine ⟨fun f _ => isW_fn hF f, ?_⟩
    rw [Oper.semAt_eq _ _ _ (fun c e => by cases e)]
    have e1 : a.eval y = .func (.yield lr) #[] #[] := h.eval _ _ hy
    have e2 := Evs.map h.eval hx
    have hyr := run_yield (P := P) (w := w) (args := vs.toArray) hrec (by simpa using hps)
    have he : (execOp a.eval ⟨some d, .call { callee := .value y, args := xs.toArray, argTypes := ats }, ty, pos, af, none⟩).run P w = .ok (.round lr r.fn ((r.params.zip vs.toArray).foldl (fun tmps (t, a) => tmps.setIfInBounds t a) r.tmps) r.assign r.body) w := by
      simp only [execOp, resolve, Deferred.ofValue, invoke, e1, e2, Sem.run_bind, Sem.run_pure, Result.andThen_ok, List.map_toArray, Array.append_empty, Array.empty_append, hyr]
    rw [he]
    simp only [Oper.uponIn]
    refine ⟨isW_depth hF, RoundIn.mono hr ?_⟩
    rintro e w' ⟨b, rfl, hR⟩
    exact hK _ _ (k _ _ _ hR (h.put hd _))
end

set_option maxHeartbeats 4000000 in
theorem range_all (n : Nat) {Q : Exit → Act → World → Prop} {ac : Act} {w : World} {g : Operand} {p0 p1 : Tmp} {assign body : Code} {s : ByteArray} {gb : Nat}
    (hg : ac.eval g = .func (.func 30) #[] #[.pointer (some ⟨gb, 0, none⟩)]) (hs : w.cell? ⟨gb, 0, none⟩ = some (.string s)) (hsz : s.size ≤ 4611686018427387904)
    (I : Nat → World → Prop) (Ix : Code → World → Prop)
    (hI : ∀ k W W' row, I k W → W.grownBy W' row → (∀ r, row = some r → w.heap.size ≤ r ∧ r < w.heap.size + 4) → I k W')
    (hIx : ∀ c W W' row, Ix c W → W.grownBy W' row → (∀ r, row = some r → w.heap.size ≤ r ∧ r < w.heap.size + 4) → Ix c W')
    (h0 : I 0 w)
    (hround : ∀ m lr k W, (uSt s k).1 < s.size → I k W → w.heap.size + 4 ≤ W.heap.size →
      assign.wpIn (Fence.wide.inRound lr) m Tryz.prog (Exit.then (fun a1 W1 => KeepB w.heap.size W W1 ∧ I k W1 ∧ ∀ W2, W1.grownBy W2 (some (w.heap.size + 1)) → W2.heap.size = W1.heap.size → I k W2 → body.wpIn (Fence.wide.inRound lr) m Tryz.prog (postB w.heap.size I Ix k W2) a1 W2) (fun _ _ _ => False))
        { tmps := (ac.tmps.setIfInBounds p0 (placeV s k)).setIfInBounds p1 (.int .i32 (uR s k)), defers := [] } W)
    (hdone : ∀ k W, ¬ (uSt s k).1 < s.size → (∀ j, j < k → (uSt s j).1 < s.size) → I k W → w.heap.size + 4 ≤ W.heap.size → W.heap[w.heap.size]? = some (.deferred (some [])) → Q .normal { ac with defers := { target := .collected w.heap.size, args := #[] } :: ac.defers } W)
    (hstop : ∀ c W, Ix c W → w.heap.size + 4 ≤ W.heap.size → W.heap[w.heap.size]? = some (.deferred (some [])) → c.wpIn Fence.wide n Tryz.prog Q { ac with defers := { target := .collected w.heap.size, args := #[] } :: ac.defers } W) :
    (Code.rangeFunc g #[p0, p1] assign body).wpIn Fence.wide n Tryz.prog Q ac w := by
  have hW := isW_wide
  refine wpIn_rangeFunc ?_
  intro fn hfn
  obtain ⟨rec, hrec⟩ : ∃ rec : LoopState → Option Code → Loop, rec = fun st pe => { state := st, pending := pe, fn, tmps := ac.tmps, params := #[p0, p1], assign, body, defers := w.heap.size } := ⟨_, rfl⟩
  obtain ⟨W1, hW1⟩ : ∃ W1, (w.alloc (.deferred (some []))).alloc (.loop (rec .ready none)) = W1 := ⟨_, rfl⟩
  have hz1 : W1.heap.size = w.heap.size + 2 := by rw [← hW1]; simp
  have hL1 : W1.heap[w.heap.size + 1]? = some (.loop (rec .ready none)) := by
    rw [← hW1]; have := World.alloc_heap_new (w.alloc (.deferred (some []))) (.loop (rec .ready none)); rwa [World.size_alloc] at this
  have hK1 : W1.heap[w.heap.size]? = some (.deferred (some [])) := by
    rw [← hW1]; exact (Below.heap_alloc _ _ _ (by simp)).trans (World.alloc_heap_new w _)
  have hgr1 : w.grownBy W1 none := by
    rw [← hW1]; exact grown_trans (World.grownBy_alloc _ _ _) (World.grownBy_alloc _ _ _)
  have hI1 : I 0 W1 := hI _ _ _ _ h0 hgr1 (fun r e => by cases e)
  have hs1 : W1.cell? ⟨gb, 0, none⟩ = some (.string s) := by
    have hb : Below w.heap.size w W1 := (Below.refl _ w).grown hgr1 (Nat.le_refl _) (fun k e => by cases e)
    exact (hb.cell (p := ⟨gb, 0, none⟩) (World.block_lt_of_cell? w _ hs)).trans hs
  refine ⟨w.heap.size + 1, [{ target := .collected w.heap.size, args := #[] }], W1, { target := .fn (.func 30) #[.pointer (some ⟨gb, 0, none⟩)], args := #[.func (.yield (w.heap.size + 1)) #[] #[]] }, W1, 30,
    #[.func (.yield (w.heap.size + 1)) #[] #[], .pointer (some ⟨gb, 0, none⟩)], W1, ?_, ?_, fun f' _ => trivial, ?_, isW_depth hW, ?_⟩
  · rw [← hW1, hrec]; exact run_enterLoop_outer _ _ _ _ _
  · have hy : ac.eval (Operand.const (Value.func (Fn.yield (w.heap.size + 1)) #[] #[])) = Value.func (Fn.yield (w.heap.size + 1)) #[] #[] := rfl
    simp only [resolve, hg]
    simp [Deferred.ofValue, hy]
  · have hc := cal30
    obtain ⟨fn', q1, q2, q3⟩ := hc.out
    simp only [invoke, callFunc, Sem.run_bind, Sem.run_pure, Result.andThen_ok, run_program, q1, q2, q3]
    simp
  · refine CallsIn.mono (R := fun e w' => ∃ v, e = .returned v ∧ rangePost Fence.wide n Tryz.prog (w.heap.size + 1) Q { ac with defers := [{ target := .collected w.heap.size, args := #[] }] ++ ac.defers } (.returned v) w') ?_ (by rintro e w' ⟨v, rfl, h⟩; exact h)
    refine callsIn_of_wp Tryz.func30 rfl trivial ?_ rfl
    have hF := Fr.enter [.func (.yield (w.heap.size + 1)) #[] #[], .pointer (some ⟨gb, 0, none⟩)] 27 25 rfl
    refine (show ∀ a, Fr 27 [(0, .func (.yield (w.heap.size + 1)) #[] #[]), (1, .pointer (some ⟨gb, 0, none⟩))] a → Code.wpIn Fence.wide (n - 1) Tryz.prog _ _ a W1 from ?_) _ hF
    clear hF
    intro a hF
    repeat (first | refine wpIn_seq ?_ | refine wpIn_block ?_ | refine i_region _ hW (by rfl) ?_ | refine i_nil ?_ | refine c_then ?_ | refine c_then_exit ?_ | refine c_then_ret ?_ | refine c_in ?_ | refine c_in_ret ?_ | refine c_in_hit ?_ | refine wpIn_skip ?_ | refine wpIn_exit ?_ | refine wpIn_ret ?_ | refine c_in_miss rfl ?_ | (refine q_nil ?_; rintro _ ⟨ndr, rfl⟩) | refine i_region_draw _ hW (by rfl) mixed (by kernel_rfl) ?_ | ((first | apply st hF | apply stg hF | apply s_step hF | apply s_stg hF); (first | exact d_move | exact d_assign | exact d_not | exact d_pickT | exact d_pickF | exact d_add | exact d_sub | exact d_quo | exact d_rem | exact d_cmpT | exact d_cmpF | exact d_cmp | exact d_eqbT (und _ _ rfl) | exact d_eqbF (und _ _ rfl) | exact d_eqb (und _ _ rfl) | exact d_eqST | exact d_eqSF | exact d_eqS | exact d_len (und _ _ rfl) | exact d_lens (und _ _ rfl) | exact d_nilCheck | exact d_indexAddr1 (und _ _ rfl) (isz _ _ rfl) | exact d_fieldAddr (fld _ _ _ _ rfl) (isz _ _ rfl) | exact d_slice (und _ _ rfl) (isz _ _ rfl) | exact d_slice3 (und _ _ rfl) (isz _ _ rfl) | exact d_slice3l (und _ _ rfl) (isz _ _ rfl) | exact d_sliceL (und _ _ rfl) (isz _ _ rfl) | exact d_eqN (ifc _ rfl) | exact d_neN (ifc _ rfl) | exact d_makeI (con _ rfl) | exact d_extract | exact d_build (vs := [(0, .int .i64 1), (1, .int .i64 1)]) (cells := #[.int .i64 1, .int .i64 1]) (by kernel_rfl) ⟨rfl, rfl, rfl, rfl, trivial⟩); clear hF; clear a; intro a hF) | ((first | apply q_step hF | apply q_stg hF); intro wq hwq; (first | exact d_move | exact d_assign | exact d_not | exact d_pickT | exact d_pickF | exact d_add | exact d_sub | exact d_quo | exact d_rem | exact d_cmpT | exact d_cmpF | exact d_cmp | exact d_eqbT (und _ _ rfl) | exact d_eqbF (und _ _ rfl) | exact d_eqb (und _ _ rfl) | exact d_eqST | exact d_eqSF | exact d_eqS | exact d_len (und _ _ rfl) | exact d_lens (und _ _ rfl) | exact d_nilCheck | exact d_indexAddr1 (und _ _ rfl) (isz _ _ rfl) | exact d_fieldAddr (fld _ _ _ _ rfl) (isz _ _ rfl) | exact d_slice (und _ _ rfl) (isz _ _ rfl) | exact d_slice3 (und _ _ rfl) (isz _ _ rfl) | exact d_slice3l (und _ _ rfl) (isz _ _ rfl) | exact d_sliceL (und _ _ rfl) (isz _ _ rfl) | exact d_eqN (ifc _ rfl) | exact d_neN (ifc _ rfl) | exact d_makeI (con _ rfl) | exact d_extract | exact d_build (vs := [(0, .int .i64 1), (1, .int .i64 1)]) (cells := #[.int .i64 1, .int .i64 1]) (by kernel_rfl) ⟨rfl, rfl, rfl, rfl, trivial⟩); clear hF; clear a; intro a hF) | ((first | apply stm hF | apply stu hF | apply q_stm hF | apply q_stu hF); clear hF; clear a; intro a hF) | (apply i_cond_t hF; exact rfl; first | exact rfl | assumption) | (apply i_cond_f hF; exact rfl; first | exact rfl | assumption) | refine s_nil ?_)
    refine st_alloc hF inf43 (k := fun a w2 hg2 hgr2 hsz2 hF => ?_)
    refine st_storeAgg hF (cs := #[.int .i64 1, .int .i64 1]) (isz _ _ rfl) rfl rfl hg2 (by simp [Value.oneCell']) (k := fun a w3 hg3 hgr3 hsz3 hF => ?_)
    have hgr13 : W1.grownBy w3 none ∨ True := .inr trivial
    have hb3 : Below W1.heap.size W1 w3 := ((Below.refl _ W1).grown hgr2 (Nat.le_refl _) (fun k hk => by cases hk)).grown hgr3 (by omega) (fun k hk => by cases hk; exact Nat.le_refl _)
    have hs3 := (hb3.cell (p := ⟨gb, 0, none⟩) (World.block_lt_of_cell? W1 _ hs1)).trans hs1
    have hI3 : I 0 w3 := hI _ _ _ _ (hI _ _ _ _ hI1 hgr2 (fun r e => by cases e)) hgr3 (fun r e => by cases e; omega)
    repeat (first | refine wpIn_seq ?_ | refine wpIn_block ?_ | refine i_region _ hW (by rfl) ?_ | refine i_nil ?_ | refine c_then ?_ | refine c_then_exit ?_ | refine c_then_ret ?_ | refine c_in ?_ | refine c_in_ret ?_ | refine c_in_hit ?_ | refine wpIn_skip ?_ | refine wpIn_exit ?_ | refine wpIn_ret ?_ | refine c_in_miss rfl ?_ | (refine q_nil ?_; rintro _ ⟨ndr, rfl⟩) | refine i_region_draw _ hW (by rfl) mixed (by kernel_rfl) ?_ | ((first | apply st hF | apply stg hF | apply s_step hF | apply s_stg hF); (first | exact d_move | exact d_assign | exact d_not | exact d_pickT | exact d_pickF | exact d_add | exact d_sub | exact d_quo | exact d_rem | exact d_cmpT | exact d_cmpF | exact d_cmp | exact d_eqbT (und _ _ rfl) | exact d_eqbF (und _ _ rfl) | exact d_eqb (und _ _ rfl) | exact d_eqST | exact d_eqSF | exact d_eqS | exact d_len (und _ _ rfl) | exact d_lens (und _ _ rfl) | exact d_nilCheck | exact d_indexAddr1 (und _ _ rfl) (isz _ _ rfl) | exact d_fieldAddr (fld _ _ _ _ rfl) (isz _ _ rfl) | exact d_slice (und _ _ rfl) (isz _ _ rfl) | exact d_slice3 (und _ _ rfl) (isz _ _ rfl) | exact d_slice3l (und _ _ rfl) (isz _ _ rfl) | exact d_sliceL (und _ _ rfl) (isz _ _ rfl) | exact d_eqN (ifc _ rfl) | exact d_neN (ifc _ rfl) | exact d_makeI (con _ rfl) | exact d_extract | exact d_load (und _ _ rfl) hs3); clear hF; clear a; intro a hF) | ((first | apply q_step hF | apply q_stg hF); intro wq hwq; (first | exact d_move | exact d_assign | exact d_not | exact d_pickT | exact d_pickF | exact d_add | exact d_sub | exact d_quo | exact d_rem | exact d_cmpT | exact d_cmpF | exact d_cmp | exact d_eqbT (und _ _ rfl) | exact d_eqbF (und _ _ rfl) | exact d_eqb (und _ _ rfl) | exact d_eqST | exact d_eqSF | exact d_eqS | exact d_len (und _ _ rfl) | exact d_lens (und _ _ rfl) | exact d_nilCheck | exact d_indexAddr1 (und _ _ rfl) (isz _ _ rfl) | exact d_fieldAddr (fld _ _ _ _ rfl) (isz _ _ rfl) | exact d_slice (und _ _ rfl) (isz _ _ rfl) | exact d_slice3 (und _ _ rfl) (isz _ _ rfl) | exact d_slice3l (und _ _ rfl) (isz _ _ rfl) | exact d_sliceL (und _ _ rfl) (isz _ _ rfl) | exact d_eqN (ifc _ rfl) | exact d_neN (ifc _ rfl) | exact d_makeI (con _ rfl) | exact d_extract | exact q_load (und _ _ rfl) hwq (by exact hs3)); clear hF; clear a; intro a hF) | ((first | apply stm hF | apply stu hF | apply q_stm hF | apply q_stu hF); clear hF; clear a; intro a hF) | (apply i_cond_t hF; exact rfl; first | exact rfl | assumption) | (apply i_cond_f hF; exact rfl; first | exact rfl | assumption) | refine s_nil ?_)
    refine st_range hF (und _ _ rfl) (k := fun a w4 hit4 hgr4 hsz4 hF => ?_)
    have hI4 : I 0 w4 := hI _ _ _ _ hI3 hgr4 (fun r e => by cases e)
    have hL4 : w4.heap[w.heap.size + 1]? = some (.loop (rec .ready none)) := blk_kept ((hb3.block _ (lt_at hL1)).trans hL1) hgr4 (by simp)
    have hK4 : w4.heap[w.heap.size]? = some (.deferred (some [])) := blk_kept ((hb3.block _ (lt_at hK1)).trans hK1) hgr4 (by simp)
    have hP4 := blk_kept hg3 hgr4 (by simp)
    rw [show w3.heap.size = w.heap.size + 3 by omega] at hit4 hF
    rw [hz1] at hP4 hF
    repeat (first | refine wpIn_seq ?_ | refine wpIn_block ?_ | refine i_region _ hW (by rfl) ?_ | refine i_nil ?_ | refine c_then ?_ | refine c_then_exit ?_ | refine c_then_ret ?_ | refine c_in ?_ | refine c_in_ret ?_ | refine c_in_hit ?_ | refine wpIn_skip ?_ | refine wpIn_exit ?_ | refine wpIn_ret ?_ | refine c_in_miss rfl ?_ | (refine q_nil ?_; rintro _ ⟨ndr, rfl⟩) | refine i_region_draw _ hW (by rfl) mixed (by kernel_rfl) ?_ | ((first | apply st hF | apply stg hF | apply s_step hF | apply s_stg hF); (first | exact d_move | exact d_assign | exact d_not | exact d_pickT | exact d_pickF | exact d_add | exact d_sub | exact d_quo | exact d_rem | exact d_cmpT | exact d_cmpF | exact d_cmp | exact d_eqbT (und _ _ rfl) | exact d_eqbF (und _ _ rfl) | exact d_eqb (und _ _ rfl) | exact d_eqST | exact d_eqSF | exact d_eqS | exact d_len (und _ _ rfl) | exact d_lens (und _ _ rfl) | exact d_nilCheck | exact d_indexAddr1 (und _ _ rfl) (isz _ _ rfl) | exact d_fieldAddr (fld _ _ _ _ rfl) (isz _ _ rfl) | exact d_slice (und _ _ rfl) (isz _ _ rfl) | exact d_slice3 (und _ _ rfl) (isz _ _ rfl) | exact d_slice3l (und _ _ rfl) (isz _ _ rfl) | exact d_sliceL (und _ _ rfl) (isz _ _ rfl) | exact d_eqN (ifc _ rfl) | exact d_neN (ifc _ rfl) | exact d_makeI (con _ rfl) | exact d_extract); clear hF; clear a; intro a hF) | ((first | apply q_step hF | apply q_stg hF); intro wq hwq; (first | exact d_move | exact d_assign | exact d_not | exact d_pickT | exact d_pickF | exact d_add | exact d_sub | exact d_quo | exact d_rem | exact d_cmpT | exact d_cmpF | exact d_cmp | exact d_eqbT (und _ _ rfl) | exact d_eqbF (und _ _ rfl) | exact d_eqb (und _ _ rfl) | exact d_eqST | exact d_eqSF | exact d_eqS | exact d_len (und _ _ rfl) | exact d_lens (und _ _ rfl) | exact d_nilCheck | exact d_indexAddr1 (und _ _ rfl) (isz _ _ rfl) | exact d_fieldAddr (fld _ _ _ _ rfl) (isz _ _ rfl) | exact d_slice (und _ _ rfl) (isz _ _ rfl) | exact d_slice3 (und _ _ rfl) (isz _ _ rfl) | exact d_slice3l (und _ _ rfl) (isz _ _ rfl) | exact d_sliceL (und _ _ rfl) (isz _ _ rfl) | exact d_eqN (ifc _ rfl) | exact d_neN (ifc _ rfl) | exact d_makeI (con _ rfl) | exact d_extract); clear hF; clear a; intro a hF) | ((first | apply stm hF | apply stu hF | apply q_stm hF | apply q_stu hF); clear hF; clear a; intro a hF) | (apply i_cond_t hF; exact rfl; first | exact rfl | assumption) | (apply i_cond_f hF; exact rfl; first | exact rfl | assumption) | refine s_nil ?_)
    refine i_loop (fun m a W => ∃ k, m = s.size - (uSt s k).1 ∧ (∀ j, j < k → (uSt s j).1 < s.size) ∧ Fr 27 [(0, .func (.yield (w.heap.size + 1)) #[] #[]), (3, .pointer (some ⟨w.heap.size + 2, 0, none⟩)), (8, .pointer (some ⟨w.heap.size + 3, 0, none⟩))] a ∧
      I k W ∧ w.heap.size + 4 ≤ W.heap.size ∧ W.heap[w.heap.size + 1]? = some (.loop (rec .ready none)) ∧ W.heap[w.heap.size]? = some (.deferred (some [])) ∧
      W.heap[w.heap.size + 2]? = some (.cells #[.int .i64 (uSt s k).2.1, .int .i64 (uSt s k).2.2] 43 (0, 0)) ∧ IterAt W (w.heap.size + 3) s (uSt s k).1) s.size
      ⟨0, rfl, fun j hj => absurd hj (Nat.not_lt_zero _), hF.keep' ⟨rfl, rfl, rfl, trivial⟩, hI4, by omega, hL4, hK4, hP4, hit4⟩ ?_
    clear hF a hI4 hL4 hK4 hP4 hit4
    rintro m a W ⟨k, rfl, hpre, hF, hIk, hz, hL, hK, hP, hit⟩
    have hend : (∀ j, j < k → (uSt s j).1 < s.size) → 1 ≤ (uSt s k).2.1 ∧ (uSt s k).2.1 ≤ (uSt s k).1 + 1 ∧ 1 ≤ (uSt s k).2.2 ∧ (uSt s k).2.2 ≤ (uSt s k).1 + 1 := uSt_bnd s k
    obtain ⟨q1, q2, q3, q4⟩ := hend hpre
    clear hend
    by_cases hlt : (uSt s k).1 < s.size
    · have hstep := uSt_fst s k
      have hlt2 := uSt_lt s k hlt
      have hpre2 : ∀ j, j < k + 1 → (uSt s j).1 < s.size := fun j hj => by
        by_cases e : j = k
        · subst e; exact hlt
        · exact hpre j (by omega)
      repeat (first | refine wpIn_seq ?_ | refine wpIn_block ?_ | refine i_region _ hW (by rfl) ?_ | refine i_nil ?_ | refine c_then ?_ | refine c_then_exit ?_ | refine c_then_ret ?_ | refine c_in ?_ | refine c_in_ret ?_ | refine c_in_hit ?_ | refine wpIn_skip ?_ | refine wpIn_exit ?_ | refine wpIn_ret ?_ | refine c_in_miss rfl ?_ | (refine q_nil ?_; rintro _ ⟨ndr, rfl⟩) | refine i_region_draw _ hW (by rfl) mixed (by kernel_rfl) ?_ | ((first | apply st hF | apply stg hF | apply s_step hF | apply s_stg hF); (first | exact d_move | exact d_assign | exact d_not | exact d_pickT | exact d_pickF | exact d_add | exact d_sub | exact d_quo | exact d_rem | exact d_cmpT | exact d_cmpF | exact d_cmp | exact d_eqbT (und _ _ rfl) | exact d_eqbF (und _ _ rfl) | exact d_eqb (und _ _ rfl) | exact d_eqST | exact d_eqSF | exact d_eqS | exact d_len (und _ _ rfl) | exact d_lens (und _ _ rfl) | exact d_nilCheck | exact d_indexAddr1 (und _ _ rfl) (isz _ _ rfl) | exact d_fieldAddr (fld _ _ _ _ rfl) (isz _ _ rfl) | exact d_slice (und _ _ rfl) (isz _ _ rfl) | exact d_slice3 (und _ _ rfl) (isz _ _ rfl) | exact d_slice3l (und _ _ rfl) (isz _ _ rfl) | exact d_sliceL (und _ _ rfl) (isz _ _ rfl) | exact d_eqN (ifc _ rfl) | exact d_neN (ifc _ rfl) | exact d_makeI (con _ rfl) | exact d_extract); clear hF; clear a; intro a hF) | ((first | apply q_step hF | apply q_stg hF); intro wq hwq; (first | exact d_move | exact d_assign | exact d_not | exact d_pickT | exact d_pickF | exact d_add | exact d_sub | exact d_quo | exact d_rem | exact d_cmpT | exact d_cmpF | exact d_cmp | exact d_eqbT (und _ _ rfl) | exact d_eqbF (und _ _ rfl) | exact d_eqb (und _ _ rfl) | exact d_eqST | exact d_eqSF | exact d_eqS | exact d_len (und _ _ rfl) | exact d_lens (und _ _ rfl) | exact d_nilCheck | exact d_indexAddr1 (und _ _ rfl) (isz _ _ rfl) | exact d_fieldAddr (fld _ _ _ _ rfl) (isz _ _ rfl) | exact d_slice (und _ _ rfl) (isz _ _ rfl) | exact d_slice3 (und _ _ rfl) (isz _ _ rfl) | exact d_slice3l (und _ _ rfl) (isz _ _ rfl) | exact d_sliceL (und _ _ rfl) (isz _ _ rfl) | exact d_eqN (ifc _ rfl) | exact d_neN (ifc _ rfl) | exact d_makeI (con _ rfl) | exact d_extract); clear hF; clear a; intro a hF) | ((first | apply stm hF | apply stu hF | apply q_stm hF | apply q_stu hF); clear hF; clear a; intro a hF) | (apply i_cond_t hF; exact rfl; first | exact rfl | assumption) | (apply i_cond_f hF; exact rfl; first | exact rfl | assumption) | refine s_nil ?_)
      refine st_next hF hit hlt (k := fun a W5 hit5 hgr5 hsz5 hF => ?_)
      rw [← hstep] at hit5
      have hI5 : I k W5 := hI _ _ _ _ hIk hgr5 (fun r e => by cases e; omega)
      have hL5 := blk_kept hL hgr5 (by simp)
      have hK5 := blk_kept hK hgr5 (by simp)
      have hP5 := blk_kept hP hgr5 (by simp)
      repeat (first | (refine wpIn_region_lit ?_; refine seg_in (l1 := [_, _, _]) (l2 := [_, _]) hW rfl ?_) | refine wpIn_seq ?_ | refine wpIn_block ?_ | refine i_region _ hW (by rfl) ?_ | refine i_nil ?_ | refine c_then ?_ | refine c_then_exit ?_ | refine c_then_ret ?_ | refine c_in ?_ | refine c_in_ret ?_ | refine c_in_hit ?_ | refine wpIn_skip ?_ | refine wpIn_exit ?_ | refine wpIn_ret ?_ | refine c_in_miss rfl ?_ | (refine wpIn_region_lit ?_; refine seg_in (l1 := [_, _, _]) (l2 := [_, _]) hW rfl ?_) | (refine q_nil ?_; rintro _ ⟨ndr, rfl⟩) | refine i_region_draw _ hW (by rfl) mixed (by kernel_rfl) ?_ | ((first | apply st hF | apply stg hF | apply s_step hF | apply s_stg hF); (first | exact d_move | exact d_assign | exact d_not | exact d_pickT | exact d_pickF | exact d_add | exact d_sub | exact d_quo | exact d_rem | exact d_cmpT | exact d_cmpF | exact d_cmp | exact d_eqbT (und _ _ rfl) | exact d_eqbF (und _ _ rfl) | exact d_eqb (und _ _ rfl) | exact d_eqST | exact d_eqSF | exact d_eqS | exact d_len (und _ _ rfl) | exact d_lens (und _ _ rfl) | exact d_nilCheck | exact d_indexAddr1 (und _ _ rfl) (isz _ _ rfl) | exact d_fieldAddr (fld _ _ _ _ rfl) (isz _ _ rfl) | exact d_slice (und _ _ rfl) (isz _ _ rfl) | exact d_slice3 (und _ _ rfl) (isz _ _ rfl) | exact d_slice3l (und _ _ rfl) (isz _ _ rfl) | exact d_sliceL (und _ _ rfl) (isz _ _ rfl) | exact d_eqN (ifc _ rfl) | exact d_neN (ifc _ rfl) | exact d_makeI (con _ rfl) | exact d_extract | exact d_loadAgg (agg _ rfl) (isz _ _ rfl) rfl (cells_at hP5)); clear hF; clear a; intro a hF) | ((first | apply q_step hF | apply q_stg hF); intro wq hwq; (first | exact d_move | exact d_assign | exact d_not | exact d_pickT | exact d_pickF | exact d_add | exact d_sub | exact d_quo | exact d_rem | exact d_cmpT | exact d_cmpF | exact d_cmp | exact d_eqbT (und _ _ rfl) | exact d_eqbF (und _ _ rfl) | exact d_eqb (und _ _ rfl) | exact d_eqST | exact d_eqSF | exact d_eqS | exact d_len (und _ _ rfl) | exact d_lens (und _ _ rfl) | exact d_nilCheck | exact d_indexAddr1 (und _ _ rfl) (isz _ _ rfl) | exact d_fieldAddr (fld _ _ _ _ rfl) (isz _ _ rfl) | exact d_slice (und _ _ rfl) (isz _ _ rfl) | exact d_slice3 (und _ _ rfl) (isz _ _ rfl) | exact d_slice3l (und _ _ rfl) (isz _ _ rfl) | exact d_sliceL (und _ _ rfl) (isz _ _ rfl) | exact d_eqN (ifc _ rfl) | exact d_neN (ifc _ rfl) | exact d_makeI (con _ rfl) | exact d_extract | exact d_loadAgg (agg _ rfl) (isz _ _ rfl) rfl (cells_at hP5)); clear hF; clear a; intro a hF) | ((first | apply stm hF | apply stu hF | apply q_stm hF | apply q_stu hF); clear hF; clear a; intro a hF) | (apply i_cond_t hF; exact rfl; first | exact rfl | assumption) | (apply i_cond_f hF; exact rfl; first | exact rfl | assumption) | refine s_nil ?_)
      refine ⟨rfl, ?_⟩
      refine i_yield hW hF (xs := [_, _]) (vs := [placeV s k, .int .i32 (uR s k)]) (R := fun b W' => W5.heap.size ≤ W'.heap.size ∧ W'.heap[w.heap.size + 2]? = W5.heap[w.heap.size + 2]? ∧ W'.heap[w.heap.size + 3]? = W5.heap[w.heap.size + 3]? ∧ W'.heap[w.heap.size]? = some (.deferred (some [])) ∧
        ((b = true ∧ I (k + 1) W' ∧ W'.heap[w.heap.size + 1]? = some (.loop (rec .ready none))) ∨ (b = false ∧ ∃ c, Ix c W' ∧ W'.heap[w.heap.size + 1]? = some (.loop (rec .done (some c)))))) hL5 (by rw [hrec]; rfl) ?_ ⟨rfl, rfl, trivial⟩ (k := fun a b W6 hR hF => ?_)
      · have htm : ((#[p0, p1] : Array Tmp).zip [placeV s k, .int .i32 (uR s k)].toArray).foldl (fun tmps (t, a) => tmps.setIfInBounds t a) ac.tmps = (ac.tmps.setIfInBounds p0 (placeV s k)).setIfInBounds p1 (.int .i32 (uR s k)) := by first | rfl | simp
        have hro : (rec .ready none).fn = fn ∧ (rec .ready none).params = #[p0, p1] ∧ (rec .ready none).tmps = ac.tmps ∧ (rec .ready none).assign = assign ∧ (rec .ready none).body = body := by rw [hrec]; exact ⟨rfl, rfl, rfl, rfl, rfl⟩
        obtain ⟨o1, o2, o3, o4, o5⟩ := hro
        rw [o1, o2, o3, o4, o5, htm]
        clear o1 o2 o3 o4 o5 htm
        refine roundIn_of_wpIn hfn (wpIn_mono (hround _ (w.heap.size + 1) k W5 hlt hI5 (by omega)) ?_)
        rintro e a1 Wa h
        cases e <;> simp only [Exit.then] at h ⊢
        obtain ⟨hkb, hIa, hbody⟩ := h
        have hLa := (hkb.same (w.heap.size + 1) (by omega) (by omega)).trans hL5
        have hKa := (hkb.same (w.heap.size) (by omega) (by omega)).trans hK5
        have hrb := run_beginRound (P := Tryz.prog) hLa (by rw [hrec])
        refine ⟨_, hrb, ?_⟩
        have hlta := lt_at hLa
        have hgrb : Wa.grownBy (Wa.putObj (w.heap.size + 1) (.loop { rec .ready none with state := .busy })) (some (w.heap.size + 1)) := ⟨rfl, rfl, rfl, by simp, fun k _ hne => World.putObj_heap_other (fun e => hne (by rw [e]))⟩
        have hIb := hI _ _ _ _ hIa hgrb (fun r e => by cases e; omega)
        obtain ⟨Wb, hWb⟩ : ∃ Wb, Wa.putObj (w.heap.size + 1) (.loop { rec .ready none with state := .busy }) = Wb := ⟨_, rfl⟩
        have hLb : Wb.heap[w.heap.size + 1]? = some (.loop { rec .ready none with state := .busy }) := by rw [← hWb]; exact World.putObj_heap_same hlta
        have hzb : Wb.heap.size = Wa.heap.size := by rw [← hWb]; simp
        rw [hWb] at hgrb hIb ⊢
        have hk5b : ∀ i, w.heap.size ≤ i → i < w.heap.size + 4 → i ≠ w.heap.size + 1 → Wb.heap[i]? = W5.heap[i]? := fun i h1 h2 h3 => by
          rw [← hWb, World.putObj_heap_other h3]; exact hkb.same i h1 h2
        refine wpIn_mono (hbody Wb hgrb hzb hIb) ?_
        have fin : ∀ (jump : Option Code) (W3 : World), KeepB w.heap.size Wb W3 → ∃ W4, (Instr.endRound (w.heap.size + 1) jump).run Tryz.prog W3 = .ok (.bool jump.isNone) W4 ∧ W3.grownBy W4 (some (w.heap.size + 1)) ∧
            W5.heap.size ≤ W4.heap.size ∧ W4.heap[w.heap.size + 2]? = W5.heap[w.heap.size + 2]? ∧ W4.heap[w.heap.size + 3]? = W5.heap[w.heap.size + 3]? ∧ W4.heap[w.heap.size]? = some (.deferred (some [])) ∧ W4.heap[w.heap.size + 1]? = some (.loop (rec (if jump.isNone then .ready else .done) jump)) := fun jump W3 hk3 => by
          have hl3 := (hk3.same (w.heap.size + 1) (by omega) (by omega)).trans hLb
          have hr3 := run_endRound (P := Tryz.prog) jump hl3
          have e3 : ∀ i, w.heap.size ≤ i → i < w.heap.size + 4 → i ≠ w.heap.size + 1 → W3.heap[i]? = W5.heap[i]? := fun i h1 h2 h3 => (hk3.same i h1 h2).trans (hk5b i h1 h2 h3)
          have z1 := hkb.size
          have z2 := hk3.size
          refine ⟨_, hr3, ⟨rfl, rfl, rfl, by simp, fun k _ hne => World.putObj_heap_other (fun e => hne (by rw [e]))⟩, by simp; omega, ?_, ?_, ?_, ?_⟩
          · rw [World.putObj_heap_other (by omega)]; exact e3 _ (by omega) (by omega) (by omega)
          · rw [World.putObj_heap_other (by omega)]; exact e3 _ (by omega) (by omega) (by omega)
          · rw [World.putObj_heap_other (by omega)]; exact (e3 _ (by omega) (by omega) (by omega)).trans hK5
          · rw [World.putObj_heap_same (lt_at hl3), hrec]
        rintro e a3 W3 hp
        cases e with
        | normal =>
          obtain ⟨hk3, hi3⟩ := hp
          obtain ⟨W4, hr, hg4, g1, g2, g3, g4, g5⟩ := fin none W3 hk3
          exact ⟨_, _, hr, true, rfl, g1, g2, g3, g4, .inl ⟨rfl, hI _ _ _ _ hi3 hg4 (fun r e => by cases e; omega), g5⟩⟩
        | ret =>
          obtain ⟨hk3, hi3⟩ := hp
          obtain ⟨W4, hr, hg4, g1, g2, g3, g4, g5⟩ := fin (some .ret) W3 hk3
          exact ⟨_, _, hr, false, rfl, g1, g2, g3, g4, .inr ⟨rfl, .ret, hIx _ _ _ _ hi3 hg4 (fun r e => by cases e; omega), g5⟩⟩
        | exit id =>
          obtain ⟨hk3, hi3⟩ := hp
          obtain ⟨W4, hr, hg4, g1, g2, g3, g4, g5⟩ := fin (some (.exit id)) W3 hk3
          exact ⟨_, _, hr, false, rfl, g1, g2, g3, g4, .inr ⟨rfl, .exit id, hIx _ _ _ _ hi3 hg4 (fun r e => by cases e; omega), g5⟩⟩
        | goto t => exact False.elim hp
        | panic ch => exact False.elim hp
        | outgrown => exact False.elim hp
      obtain ⟨hz6, e2, e3, hK6, hway⟩ := hR
      have hP6 := e2.trans hP5
      have hit6 : IterAt W6 (w.heap.size + 3) s (uSt s (k + 1)).1 := e3.trans hit5
      refine list_in hW rfl ?_
      rcases hway with ⟨rfl, hI6, hL6⟩ | ⟨rfl, c, hx6, hL6⟩
      · have c1 : W6.cell? ⟨w.heap.size + 2, 1, none⟩ = some (.int .i64 (uSt s k).2.2) := cell_at hP6 rfl
        repeat (first | refine wpIn_seq ?_ | refine wpIn_block ?_ | refine i_region _ hW (by rfl) ?_ | refine i_nil ?_ | refine c_then ?_ | refine c_then_exit ?_ | refine c_then_ret ?_ | refine c_in ?_ | refine c_in_ret ?_ | refine c_in_hit ?_ | refine wpIn_skip ?_ | refine wpIn_exit ?_ | refine wpIn_ret ?_ | refine c_in_miss rfl ?_ | (refine q_nil ?_; rintro _ ⟨ndr, rfl⟩) | refine i_region_draw _ hW (by rfl) mixed (by kernel_rfl) ?_ | ((first | apply st hF | apply stg hF | apply s_step hF | apply s_stg hF); (first | exact d_move | exact d_assign | exact d_not | exact d_pickT | exact d_pickF | exact d_add | exact d_sub | exact d_quo | exact d_rem | exact d_cmpT | exact d_cmpF | exact d_cmp | exact d_eqbT (und _ _ rfl) | exact d_eqbF (und _ _ rfl) | exact d_eqb (und _ _ rfl) | exact d_eqST | exact d_eqSF | exact d_eqS | exact d_len (und _ _ rfl) | exact d_lens (und _ _ rfl) | exact d_nilCheck | exact d_indexAddr1 (und _ _ rfl) (isz _ _ rfl) | exact d_fieldAddr (fld _ _ _ _ rfl) (isz _ _ rfl) | exact d_slice (und _ _ rfl) (isz _ _ rfl) | exact d_slice3 (und _ _ rfl) (isz _ _ rfl) | exact d_slice3l (und _ _ rfl) (isz _ _ rfl) | exact d_sliceL (und _ _ rfl) (isz _ _ rfl) | exact d_eqN (ifc _ rfl) | exact d_neN (ifc _ rfl) | exact d_makeI (con _ rfl) | exact d_extract | exact d_load (und _ _ rfl) c1); clear hF; clear a; intro a hF) | ((first | apply q_step hF | apply q_stg hF); intro wq hwq; (first | exact d_move | exact d_assign | exact d_not | exact d_pickT | exact d_pickF | exact d_add | exact d_sub | exact d_quo | exact d_rem | exact d_cmpT | exact d_cmpF | exact d_cmp | exact d_eqbT (und _ _ rfl) | exact d_eqbF (und _ _ rfl) | exact d_eqb (und _ _ rfl) | exact d_eqST | exact d_eqSF | exact d_eqS | exact d_len (und _ _ rfl) | exact d_lens (und _ _ rfl) | exact d_nilCheck | exact d_indexAddr1 (und _ _ rfl) (isz _ _ rfl) | exact d_fieldAddr (fld _ _ _ _ rfl) (isz _ _ rfl) | exact d_slice (und _ _ rfl) (isz _ _ rfl) | exact d_slice3 (und _ _ rfl) (isz _ _ rfl) | exact d_slice3l (und _ _ rfl) (isz _ _ rfl) | exact d_sliceL (und _ _ rfl) (isz _ _ rfl) | exact d_eqN (ifc _ rfl) | exact d_neN (ifc _ rfl) | exact d_makeI (con _ rfl) | exact d_extract | exact q_load (und _ _ rfl) hwq (by exact c1)); clear hF; clear a; intro a hF) | ((first | apply stm hF | apply stu hF | apply q_stm hF | apply q_stu hF); clear hF; clear a; intro a hF) | (apply i_cond_t hF; exact rfl; first | exact rfl | assumption) | (apply i_cond_f hF; exact rfl; first | exact rfl | assumption) | refine s_nil ?_)
        refine st_store hF (isz _ _ rfl) hP6 (i := 1) (by show 1 < 2; decide) rfl rfl rfl (k := fun a W7 hP7 hgr7 hsz7 hF => ?_)
        have hI7 : I (k + 1) W7 := hI _ _ _ _ hI6 hgr7 (fun r e => by cases e; omega)
        have hL7 := blk_kept hL6 hgr7 (by simp)
        have hK7 := blk_kept hK6 hgr7 (by simp)
        have hit7 : IterAt W7 (w.heap.size + 3) s (uSt s (k + 1)).1 := iter_kept hit6 hgr7 (by simp)
        by_cases h10 : (Utf8.decode s (uSt s k).1).1 = 10
        · have hst : uSt s (k + 1) = ((uSt s k).1 + (Utf8.decode s (uSt s k).1).2, (uSt s k).2.1 + 1, 1) := by
            show uStep s (uSt s k) = _
            unfold uStep
            rw [if_pos h10]
          have hq10 : (((Utf8.decode s (uSt s k).1).1 : Int) == 10) = true := beq_iff_eq.2 (by omega)
          have c0 : W7.cell? ⟨w.heap.size + 2, 0, none⟩ = some (.int .i64 (uSt s k).2.1) := cell_at hP7 rfl
          repeat (first | refine wpIn_seq ?_ | refine wpIn_block ?_ | refine i_region _ hW (by rfl) ?_ | refine i_nil ?_ | refine c_then ?_ | refine c_then_exit ?_ | refine c_then_ret ?_ | refine c_in ?_ | refine c_in_ret ?_ | refine c_in_hit ?_ | refine wpIn_skip ?_ | refine wpIn_exit ?_ | refine wpIn_ret ?_ | refine c_in_miss rfl ?_ | (refine q_nil ?_; rintro _ ⟨ndr, rfl⟩) | refine i_region_draw _ hW (by rfl) mixed (by kernel_rfl) ?_ | ((first | apply st hF | apply stg hF | apply s_step hF | apply s_stg hF); (first | exact d_move | exact d_assign | exact d_not | exact d_pickT | exact d_pickF | exact d_add | exact d_sub | exact d_quo | exact d_rem | exact d_cmpT | exact d_cmpF | exact d_cmp | exact d_eqbT (und _ _ rfl) | exact d_eqbF (und _ _ rfl) | exact d_eqb (und _ _ rfl) | exact d_eqST | exact d_eqSF | exact d_eqS | exact d_len (und _ _ rfl) | exact d_lens (und _ _ rfl) | exact d_nilCheck | exact d_indexAddr1 (und _ _ rfl) (isz _ _ rfl) | exact d_fieldAddr (fld _ _ _ _ rfl) (isz _ _ rfl) | exact d_slice (und _ _ rfl) (isz _ _ rfl) | exact d_slice3 (und _ _ rfl) (isz _ _ rfl) | exact d_slice3l (und _ _ rfl) (isz _ _ rfl) | exact d_sliceL (und _ _ rfl) (isz _ _ rfl) | exact d_eqN (ifc _ rfl) | exact d_neN (ifc _ rfl) | exact d_makeI (con _ rfl) | exact d_extract | exact d_build (vs := [(0, .int .i64 ((uSt s k).2.1 + 1)), (1, .int .i64 1)]) (cells := #[.int .i64 ((uSt s k).2.1 + 1), .int .i64 1]) (by kernel_rfl) ⟨rfl, rfl, rfl, rfl, trivial⟩ | exact d_load (und _ _ rfl) c0); clear hF; clear a; intro a hF) | ((first | apply q_step hF | apply q_stg hF); intro wq hwq; (first | exact d_move | exact d_assign | exact d_not | exact d_pickT | exact d_pickF | exact d_add | exact d_sub | exact d_quo | exact d_rem | exact d_cmpT | exact d_cmpF | exact d_cmp | exact d_eqbT (und _ _ rfl) | exact d_eqbF (und _ _ rfl) | exact d_eqb (und _ _ rfl) | exact d_eqST | exact d_eqSF | exact d_eqS | exact d_len (und _ _ rfl) | exact d_lens (und _ _ rfl) | exact d_nilCheck | exact d_indexAddr1 (und _ _ rfl) (isz _ _ rfl) | exact d_fieldAddr (fld _ _ _ _ rfl) (isz _ _ rfl) | exact d_slice (und _ _ rfl) (isz _ _ rfl) | exact d_slice3 (und _ _ rfl) (isz _ _ rfl) | exact d_slice3l (und _ _ rfl) (isz _ _ rfl) | exact d_sliceL (und _ _ rfl) (isz _ _ rfl) | exact d_eqN (ifc _ rfl) | exact d_neN (ifc _ rfl) | exact d_makeI (con _ rfl) | exact d_extract | exact d_build (vs := [(0, .int .i64 ((uSt s k).2.1 + 1)), (1, .int .i64 1)]) (cells := #[.int .i64 ((uSt s k).2.1 + 1), .int .i64 1]) (by kernel_rfl) ⟨rfl, rfl, rfl, rfl, trivial⟩ | exact q_load (und _ _ rfl) hwq (by exact c0)); clear hF; clear a; intro a hF) | ((first | apply stm hF | apply stu hF | apply q_stm hF | apply q_stu hF); clear hF; clear a; intro a hF) | (apply i_cond_t hF; exact rfl; first | exact rfl | assumption) | (apply i_cond_f hF; exact rfl; first | exact rfl | assumption) | refine s_nil ?_)
          refine st_storeAgg hF (cs := #[.int .i64 ((uSt s k).2.1 + 1), .int .i64 1]) (isz _ _ rfl) rfl rfl hP7 (by simp [Value.oneCell']) (k := fun a W8 hP8 hgr8 hsz8 hF => ?_)
          have hI8 : I (k + 1) W8 := hI _ _ _ _ hI7 hgr8 (fun r e => by cases e; omega)
          have hL8 := blk_kept hL7 hgr8 (by simp)
          have hK8 := blk_kept hK7 hgr8 (by simp)
          have hit8 : IterAt W8 (w.heap.size + 3) s (uSt s (k + 1)).1 := iter_kept hit7 hgr8 (by simp)
          repeat (first | refine wpIn_seq ?_ | refine wpIn_block ?_ | refine i_region _ hW (by rfl) ?_ | refine i_nil ?_ | refine c_then ?_ | refine c_then_exit ?_ | refine c_then_ret ?_ | refine c_in ?_ | refine c_in_ret ?_ | refine c_in_hit ?_ | refine wpIn_skip ?_ | refine wpIn_exit ?_ | refine wpIn_ret ?_ | refine c_in_miss rfl ?_ | (refine q_nil ?_; rintro _ ⟨ndr, rfl⟩) | refine i_region_draw _ hW (by rfl) mixed (by kernel_rfl) ?_ | ((first | apply st hF | apply stg hF | apply s_step hF | apply s_stg hF); (first | exact d_move | exact d_assign | exact d_not | exact d_pickT | exact d_pickF | exact d_add | exact d_sub | exact d_quo | exact d_rem | exact d_cmpT | exact d_cmpF | exact d_cmp | exact d_eqbT (und _ _ rfl) | exact d_eqbF (und _ _ rfl) | exact d_eqb (und _ _ rfl) | exact d_eqST | exact d_eqSF | exact d_eqS | exact d_len (und _ _ rfl) | exact d_lens (und _ _ rfl) | exact d_nilCheck | exact d_indexAddr1 (und _ _ rfl) (isz _ _ rfl) | exact d_fieldAddr (fld _ _ _ _ rfl) (isz _ _ rfl) | exact d_slice (und _ _ rfl) (isz _ _ rfl) | exact d_slice3 (und _ _ rfl) (isz _ _ rfl) | exact d_slice3l (und _ _ rfl) (isz _ _ rfl) | exact d_sliceL (und _ _ rfl) (isz _ _ rfl) | exact d_eqN (ifc _ rfl) | exact d_neN (ifc _ rfl) | exact d_makeI (con _ rfl) | exact d_extract); clear hF; clear a; intro a hF) | ((first | apply q_step hF | apply q_stg hF); intro wq hwq; (first | exact d_move | exact d_assign | exact d_not | exact d_pickT | exact d_pickF | exact d_add | exact d_sub | exact d_quo | exact d_rem | exact d_cmpT | exact d_cmpF | exact d_cmp | exact d_eqbT (und _ _ rfl) | exact d_eqbF (und _ _ rfl) | exact d_eqb (und _ _ rfl) | exact d_eqST | exact d_eqSF | exact d_eqS | exact d_len (und _ _ rfl) | exact d_lens (und _ _ rfl) | exact d_nilCheck | exact d_indexAddr1 (und _ _ rfl) (isz _ _ rfl) | exact d_fieldAddr (fld _ _ _ _ rfl) (isz _ _ rfl) | exact d_slice (und _ _ rfl) (isz _ _ rfl) | exact d_slice3 (und _ _ rfl) (isz _ _ rfl) | exact d_slice3l (und _ _ rfl) (isz _ _ rfl) | exact d_sliceL (und _ _ rfl) (isz _ _ rfl) | exact d_eqN (ifc _ rfl) | exact d_neN (ifc _ rfl) | exact d_makeI (con _ rfl) | exact d_extract); clear hF; clear a; intro a hF) | ((first | apply stm hF | apply stu hF | apply q_stm hF | apply q_stu hF); clear hF; clear a; intro a hF) | (apply i_cond_t hF; exact rfl; first | exact rfl | assumption) | (apply i_cond_f hF; exact rfl; first | exact rfl | assumption) | refine s_nil ?_)
          exact ⟨s.size - (uSt s (k + 1)).1, by omega, k + 1, rfl, hpre2, hF.keep' ⟨rfl, rfl, rfl, trivial⟩, hI8, by omega, hL8, hK8, by rw [hst]; exact hP8, hit8⟩
        · have hst : uSt s (k + 1) = ((uSt s k).1 + (Utf8.decode s (uSt s k).1).2, (uSt s k).2.1, (uSt s k).2.2 + 1) := by
            show uStep s (uSt s k) = _
            unfold uStep
            rw [if_neg h10]
          have hq10 : (((Utf8.decode s (uSt s k).1).1 : Int) == 10) = false := beq_eq_false_iff_ne.2 (by omega)
          repeat (first | refine wpIn_seq ?_ | refine wpIn_block ?_ | refine i_region _ hW (by rfl) ?_ | refine i_nil ?_ | refine c_then ?_ | refine c_then_exit ?_ | refine c_then_ret ?_ | refine c_in ?_ | refine c_in_ret ?_ | refine c_in_hit ?_ | refine wpIn_skip ?_ | refine wpIn_exit ?_ | refine wpIn_ret ?_ | refine c_in_miss rfl ?_ | (refine q_nil ?_; rintro _ ⟨ndr, rfl⟩) | refine i_region_draw _ hW (by rfl) mixed (by kernel_rfl) ?_ | ((first | apply st hF | apply stg hF | apply s_step hF | apply s_stg hF); (first | exact d_move | exact d_assign | exact d_not | exact d_pickT | exact d_pickF | exact d_add | exact d_sub | exact d_quo | exact d_rem | exact d_cmpT | exact d_cmpF | exact d_cmp | exact d_eqbT (und _ _ rfl) | exact d_eqbF (und _ _ rfl) | exact d_eqb (und _ _ rfl) | exact d_eqST | exact d_eqSF | exact d_eqS | exact d_len (und _ _ rfl) | exact d_lens (und _ _ rfl) | exact d_nilCheck | exact d_indexAddr1 (und _ _ rfl) (isz _ _ rfl) | exact d_fieldAddr (fld _ _ _ _ rfl) (isz _ _ rfl) | exact d_slice (und _ _ rfl) (isz _ _ rfl) | exact d_slice3 (und _ _ rfl) (isz _ _ rfl) | exact d_slice3l (und _ _ rfl) (isz _ _ rfl) | exact d_sliceL (und _ _ rfl) (isz _ _ rfl) | exact d_eqN (ifc _ rfl) | exact d_neN (ifc _ rfl) | exact d_makeI (con _ rfl) | exact d_extract); clear hF; clear a; intro a hF) | ((first | apply q_step hF | apply q_stg hF); intro wq hwq; (first | exact d_move | exact d_assign | exact d_not | exact d_pickT | exact d_pickF | exact d_add | exact d_sub | exact d_quo | exact d_rem | exact d_cmpT | exact d_cmpF | exact d_cmp | exact d_eqbT (und _ _ rfl) | exact d_eqbF (und _ _ rfl) | exact d_eqb (und _ _ rfl) | exact d_eqST | exact d_eqSF | exact d_eqS | exact d_len (und _ _ rfl) | exact d_lens (und _ _ rfl) | exact d_nilCheck | exact d_indexAddr1 (und _ _ rfl) (isz _ _ rfl) | exact d_fieldAddr (fld _ _ _ _ rfl) (isz _ _ rfl) | exact d_slice (und _ _ rfl) (isz _ _ rfl) | exact d_slice3 (und _ _ rfl) (isz _ _ rfl) | exact d_slice3l (und _ _ rfl) (isz _ _ rfl) | exact d_sliceL (und _ _ rfl) (isz _ _ rfl) | exact d_eqN (ifc _ rfl) | exact d_neN (ifc _ rfl) | exact d_makeI (con _ rfl) | exact d_extract); clear hF; clear a; intro a hF) | ((first | apply stm hF | apply stu hF | apply q_stm hF | apply q_stu hF); clear hF; clear a; intro a hF) | (apply i_cond_t hF; exact rfl; first | exact rfl | assumption) | (apply i_cond_f hF; exact rfl; first | exact rfl | assumption) | refine s_nil ?_)
          exact ⟨s.size - (uSt s (k + 1)).1, by omega, k + 1, rfl, hpre2, hF.keep' ⟨rfl, rfl, rfl, trivial⟩, hI7, by omega, hL7, hK7, by rw [hst]; exact hP7, hit7⟩
      · repeat (first | refine wpIn_seq ?_ | refine wpIn_block ?_ | refine i_region _ hW (by rfl) ?_ | refine i_nil ?_ | refine c_then ?_ | refine c_then_exit ?_ | refine c_then_ret ?_ | refine c_in ?_ | refine c_in_ret ?_ | refine c_in_hit ?_ | refine wpIn_skip ?_ | refine wpIn_exit ?_ | refine wpIn_ret ?_ | refine c_in_miss rfl ?_ | (refine q_nil ?_; rintro _ ⟨ndr, rfl⟩) | refine i_region_draw _ hW (by rfl) mixed (by kernel_rfl) ?_ | ((first | apply st hF | apply stg hF | apply s_step hF | apply s_stg hF); (first | exact d_move | exact d_assign | exact d_not | exact d_pickT | exact d_pickF | exact d_add | exact d_sub | exact d_quo | exact d_rem | exact d_cmpT | exact d_cmpF | exact d_cmp | exact d_eqbT (und _ _ rfl) | exact d_eqbF (und _ _ rfl) | exact d_eqb (und _ _ rfl) | exact d_eqST | exact d_eqSF | exact d_eqS | exact d_len (und _ _ rfl) | exact d_lens (und _ _ rfl) | exact d_nilCheck | exact d_indexAddr1 (und _ _ rfl) (isz _ _ rfl) | exact d_fieldAddr (fld _ _ _ _ rfl) (isz _ _ rfl) | exact d_slice (und _ _ rfl) (isz _ _ rfl) | exact d_slice3 (und _ _ rfl) (isz _ _ rfl) | exact d_slice3l (und _ _ rfl) (isz _ _ rfl) | exact d_sliceL (und _ _ rfl) (isz _ _ rfl) | exact d_eqN (ifc _ rfl) | exact d_neN (ifc _ rfl) | exact d_makeI (con _ rfl) | exact d_extract); clear hF; clear a; intro a hF) | ((first | apply q_step hF | apply q_stg hF); intro wq hwq; (first | exact d_move | exact d_assign | exact d_not | exact d_pickT | exact d_pickF | exact d_add | exact d_sub | exact d_quo | exact d_rem | exact d_cmpT | exact d_cmpF | exact d_cmp | exact d_eqbT (und _ _ rfl) | exact d_eqbF (und _ _ rfl) | exact d_eqb (und _ _ rfl) | exact d_eqST | exact d_eqSF | exact d_eqS | exact d_len (und _ _ rfl) | exact d_lens (und _ _ rfl) | exact d_nilCheck | exact d_indexAddr1 (und _ _ rfl) (isz _ _ rfl) | exact d_fieldAddr (fld _ _ _ _ rfl) (isz _ _ rfl) | exact d_slice (und _ _ rfl) (isz _ _ rfl) | exact d_slice3 (und _ _ rfl) (isz _ _ rfl) | exact d_slice3l (und _ _ rfl) (isz _ _ rfl) | exact d_sliceL (und _ _ rfl) (isz _ _ rfl) | exact d_eqN (ifc _ rfl) | exact d_neN (ifc _ rfl) | exact d_makeI (con _ rfl) | exact d_extract); clear hF; clear a; intro a hF) | ((first | apply stm hF | apply stu hF | apply q_stm hF | apply q_stu hF); clear hF; clear a; intro a hF) | (apply i_cond_t hF; exact rfl; first | exact rfl | assumption) | (apply i_cond_f hF; exact rfl; first | exact rfl | assumption) | refine s_nil ?_)
        refine ret0 hF rfl ?_
        have hre := run_endLoop (P := Tryz.prog) hL6 (by rw [hrec]; simp)
        have hpd : (rec .done (some c)).pending = some c := by rw [hrec]
        have hgo : ∀ o, W6.grownBy (W6.putObj (w.heap.size + 1) o) (some (w.heap.size + 1)) ∧ (W6.putObj (w.heap.size + 1) o).heap.size = W6.heap.size := fun o => ⟨⟨rfl, rfl, rfl, by simp, fun k _ hne => World.putObj_heap_other (fun e => hne (by rw [e]))⟩, by simp⟩
        obtain ⟨hgre, hzre⟩ := hgo (.loop { rec .done (some c) with state := .exhausted })
        generalize W6.putObj (w.heap.size + 1) (.loop { rec .done (some c) with state := .exhausted }) = W7 at hre hgre hzre
        rw [hpd] at hre
        exact ⟨some c, W7, hre, hstop c _ (hIx _ _ _ _ hx6 hgre (fun r e => by cases e; omega)) (by omega) (blk_kept hK6 hgre (by simp))⟩
    · repeat (first | refine wpIn_seq ?_ | refine wpIn_block ?_ | refine i_region _ hW (by rfl) ?_ | refine i_nil ?_ | refine c_then ?_ | refine c_then_exit ?_ | refine c_then_ret ?_ | refine c_in ?_ | refine c_in_ret ?_ | refine c_in_hit ?_ | refine wpIn_skip ?_ | refine wpIn_exit ?_ | refine wpIn_ret ?_ | refine c_in_miss rfl ?_ | (refine q_nil ?_; rintro _ ⟨ndr, rfl⟩) | refine i_region_draw _ hW (by rfl) mixed (by kernel_rfl) ?_ | ((first | apply st hF | apply stg hF | apply s_step hF | apply s_stg hF); (first | exact d_move | exact d_assign | exact d_not | exact d_pickT | exact d_pickF | exact d_add | exact d_sub | exact d_quo | exact d_rem | exact d_cmpT | exact d_cmpF | exact d_cmp | exact d_eqbT (und _ _ rfl) | exact d_eqbF (und _ _ rfl) | exact d_eqb (und _ _ rfl) | exact d_eqST | exact d_eqSF | exact d_eqS | exact d_len (und _ _ rfl) | exact d_lens (und _ _ rfl) | exact d_nilCheck | exact d_indexAddr1 (und _ _ rfl) (isz _ _ rfl) | exact d_fieldAddr (fld _ _ _ _ rfl) (isz _ _ rfl) | exact d_slice (und _ _ rfl) (isz _ _ rfl) | exact d_slice3 (und _ _ rfl) (isz _ _ rfl) | exact d_slice3l (und _ _ rfl) (isz _ _ rfl) | exact d_sliceL (und _ _ rfl) (isz _ _ rfl) | exact d_eqN (ifc _ rfl) | exact d_neN (ifc _ rfl) | exact d_makeI (con _ rfl) | exact d_extract); clear hF; clear a; intro a hF) | ((first | apply q_step hF | apply q_stg hF); intro wq hwq; (first | exact d_move | exact d_assign | exact d_not | exact d_pickT | exact d_pickF | exact d_add | exact d_sub | exact d_quo | exact d_rem | exact d_cmpT | exact d_cmpF | exact d_cmp | exact d_eqbT (und _ _ rfl) | exact d_eqbF (und _ _ rfl) | exact d_eqb (und _ _ rfl) | exact d_eqST | exact d_eqSF | exact d_eqS | exact d_len (und _ _ rfl) | exact d_lens (und _ _ rfl) | exact d_nilCheck | exact d_indexAddr1 (und _ _ rfl) (isz _ _ rfl) | exact d_fieldAddr (fld _ _ _ _ rfl) (isz _ _ rfl) | exact d_slice (und _ _ rfl) (isz _ _ rfl) | exact d_slice3 (und _ _ rfl) (isz _ _ rfl) | exact d_slice3l (und _ _ rfl) (isz _ _ rfl) | exact d_sliceL (und _ _ rfl) (isz _ _ rfl) | exact d_eqN (ifc _ rfl) | exact d_neN (ifc _ rfl) | exact d_makeI (con _ rfl) | exact d_extract); clear hF; clear a; intro a hF) | ((first | apply stm hF | apply stu hF | apply q_stm hF | apply q_stu hF); clear hF; clear a; intro a hF) | (apply i_cond_t hF; exact rfl; first | exact rfl | assumption) | (apply i_cond_f hF; exact rfl; first | exact rfl | assumption) | refine s_nil ?_)
      refine st_nextE hF hit hlt (k := fun a hF => ?_)
      repeat (first | refine wpIn_seq ?_ | refine wpIn_block ?_ | refine i_region _ hW (by rfl) ?_ | refine i_nil ?_ | refine c_then ?_ | refine c_then_exit ?_ | refine c_then_ret ?_ | refine c_in ?_ | refine c_in_ret ?_ | refine c_in_hit ?_ | refine wpIn_skip ?_ | refine wpIn_exit ?_ | refine wpIn_ret ?_ | refine c_in_miss rfl ?_ | (refine q_nil ?_; rintro _ ⟨ndr, rfl⟩) | refine i_region_draw _ hW (by rfl) mixed (by kernel_rfl) ?_ | ((first | apply st hF | apply stg hF | apply s_step hF | apply s_stg hF); (first | exact d_move | exact d_assign | exact d_not | exact d_pickT | exact d_pickF | exact d_add | exact d_sub | exact d_quo | exact d_rem | exact d_cmpT | exact d_cmpF | exact d_cmp | exact d_eqbT (und _ _ rfl) | exact d_eqbF (und _ _ rfl) | exact d_eqb (und _ _ rfl) | exact d_eqST | exact d_eqSF | exact d_eqS | exact d_len (und _ _ rfl) | exact d_lens (und _ _ rfl) | exact d_nilCheck | exact d_indexAddr1 (und _ _ rfl) (isz _ _ rfl) | exact d_fieldAddr (fld _ _ _ _ rfl) (isz _ _ rfl) | exact d_slice (und _ _ rfl) (isz _ _ rfl) | exact d_slice3 (und _ _ rfl) (isz _ _ rfl) | exact d_slice3l (und _ _ rfl) (isz _ _ rfl) | exact d_sliceL (und _ _ rfl) (isz _ _ rfl) | exact d_eqN (ifc _ rfl) | exact d_neN (ifc _ rfl) | exact d_makeI (con _ rfl) | exact d_extract); clear hF; clear a; intro a hF) | ((first | apply q_step hF | apply q_stg hF); intro wq hwq; (first | exact d_move | exact d_assign | exact d_not | exact d_pickT | exact d_pickF | exact d_add | exact d_sub | exact d_quo | exact d_rem | exact d_cmpT | exact d_cmpF | exact d_cmp | exact d_eqbT (und _ _ rfl) | exact d_eqbF (und _ _ rfl) | exact d_eqb (und _ _ rfl) | exact d_eqST | exact d_eqSF | exact d_eqS | exact d_len (und _ _ rfl) | exact d_lens (und _ _ rfl) | exact d_nilCheck | exact d_indexAddr1 (und _ _ rfl) (isz _ _ rfl) | exact d_fieldAddr (fld _ _ _ _ rfl) (isz _ _ rfl) | exact d_slice (und _ _ rfl) (isz _ _ rfl) | exact d_slice3 (und _ _ rfl) (isz _ _ rfl) | exact d_slice3l (und _ _ rfl) (isz _ _ rfl) | exact d_sliceL (und _ _ rfl) (isz _ _ rfl) | exact d_eqN (ifc _ rfl) | exact d_neN (ifc _ rfl) | exact d_makeI (con _ rfl) | exact d_extract); clear hF; clear a; intro a hF) | ((first | apply stm hF | apply stu hF | apply q_stm hF | apply q_stu hF); clear hF; clear a; intro a hF) | (apply i_cond_t hF; exact rfl; first | exact rfl | assumption) | (apply i_cond_f hF; exact rfl; first | exact rfl | assumption) | refine s_nil ?_)
      refine ret0' hF rfl ?_
      have hre := run_endLoop (P := Tryz.prog) hL (by rw [hrec]; simp)
      have hpd : (rec .ready none).pending = none := by rw [hrec]
      have hgo : ∀ o, W.grownBy (W.putObj (w.heap.size + 1) o) (some (w.heap.size + 1)) ∧ (W.putObj (w.heap.size + 1) o).heap.size = W.heap.size := fun o => ⟨⟨rfl, rfl, rfl, by simp, fun k _ hne => World.putObj_heap_other (fun e => hne (by rw [e]))⟩, by simp⟩
      obtain ⟨hgre, hzre⟩ := hgo (.loop { rec .ready none with state := .exhausted })
      generalize W.putObj (w.heap.size + 1) (.loop { rec .ready none with state := .exhausted }) = W7 at hre hgre hzre
      rw [hpd] at hre
      exact ⟨none, W7, hre, hdone k _ hlt hpre (hI _ _ _ _ hIk hgre (fun r e => by cases e; omega)) (by omega) (blk_kept hK hgre (by simp))⟩
end Go.Proofs.YtnohefaifbghiaaGreatDoor
end
