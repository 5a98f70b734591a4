/- Laid together by a program of mine: RefS. -/
import Derived.Test.YtjomihhpglojpaaDoorSumLawSignalS27
set_option linter.unusedSimpArgs false
set_option linter.unusedVariables false
section
/- The reference's fractions: sum, Cmp, Above: walked. -/
namespace Go.Proofs.YtjomihhpglojpaaDoor
open Go.RowKit
section
variable {P : Program} {ops : Array Oper} {Q : Exit → Act → World → Prop} {S : World → Prop} {al : Oper} {L : List Oper} {is : List (Nat × Nat)} {N : Nat} {l : List (Nat × Value)} {a : Act} {w : World}
theorem a_step (h : Fr N l a) {i d : Nat} {op : Op} {ty : TypeId} {pos : String} {af : Array Edge} {v : Value} (ho : L[i]? = some ⟨some d, op, ty, pos, af, none⟩) (hr : ∀ w, S w → Does P l w op ty v w) (hd : Nat.blt d N = true := by exact rfl)
    (k : ∀ a', Fr N ((d, v) :: l) a' → wpMixA P ops Q S al L is a' w) : wpMixA P ops Q S al L ((i, 0) :: is) a w := fun o ho' => by
  rw [ho] at ho'
  cases ho'
  exact ⟨v, .inl ⟨by simp [Region.wanted], fun w hw => hr w hw a.eval h.eval _ _ _ _⟩, k _ (h.put hd v)⟩
theorem a_two {t : Nat} {o : Oper} (ho : L[t]? = some o) (h1 : wpList P ops (fun e a' w' => e = .normal ∧ S w' ∧ wpMixA P ops Q S al L is a' w') [o] a w) (h2 : wpList P ops (fun e a' w' => e = .normal ∧ S w' ∧ wpMix P ops Q S (pickX L (toX ((t, 1) :: is))) a' w') [al] a w) : wpMixA P ops Q S al L ((t, 1) :: is) a w :=
  ⟨fun o' ho' => by rw [ho] at ho'; cases ho'; exact h1, h2⟩
theorem a_al {t k : Nat} (h2 : wpList P ops (fun e a' w' => e = .normal ∧ S w' ∧ wpMix P ops Q S (pickX L (toX ((t, k + 2) :: is))) a' w') [al] a w) : wpMixA P ops Q S al L ((t, k + 2) :: is) a w := h2
end
open Go.RowKit
set_option linter.unusedSimpArgs false
set_option linter.unusedVariables false
attribute [local irreducible] wpList wpQuiet wpStill Code.wp Exit.then Exit.inBlock bodyPost Calls Does Does0
open Nn
set_option maxHeartbeats 8000000 in
theorem sum_ok (w : World) (n1 n2 : Bool) (B1 B2 B3 B4 : Nat) (u1 e1 u2 e2 : Value) (N1 D1 N2 D2 : Nat) (h1 : NatV B1 w u1 N1) (h2 : NatV B2 w e1 D1) (h3 : NatV B3 w u2 N2) (h4 : NatV B4 w e2 D2) (b1 : N1 < B 3) (b2 : D1 < B 3) (b3 : N2 < B 3) (b4 : D2 < B 3) :
    Ret Tryd.prog 111 [.agg (fracC n1 u1 e1), .agg (fracC n2 u2 e2)].toArray w (fun v w' => (∃ rv dv, v = .agg (fracC (diffS n1 (N1 * D2) n2 (N2 * D1)) rv dv) ∧ NatV 0 w' rv (diffN n1 (N1 * D2) n2 (N2 * D1)) ∧ ∃ y, NatV 0 w' dv y) ∧ Below w.heap.size w w') := by
  have hB50 : ∀ z : Nat, z < B 3 → z < B 50 := fun z hz => Nat.lt_of_lt_of_le hz (B_le (by decide))
  have hmul : ∀ p q : Nat, p < B 3 → q < B 3 → p * q < B 6 := fun p q hp hq => by
    rw [show (6 : Nat) = 3 + 3 by rfl, B_add]
    exact Nat.mul_lt_mul'' hp hq
  have h6 : ∀ z : Nat, z < B 6 → z < B 100 := fun z hz => Nat.lt_of_lt_of_le hz (B_le (by decide))
  obtain ⟨pu1, ku1, lu1, rfl, _⟩ := nat_pos h1
  obtain ⟨pe1, ke1, le1, rfl, _⟩ := nat_pos h2
  obtain ⟨pu2, ku2, lu2, rfl, _⟩ := nat_pos h3
  obtain ⟨pe2, ke2, le2, rfl, _⟩ := nat_pos h4
  have hx6 := hmul N1 D2 b1 b4
  have hy6 := hmul N2 D1 b3 b2
  refine enter2 Tryd.func111 rfl 51 rfl 53 rfl (fun a hF => ?_)
  repeat (first | refine c_seq ?_ | refine c_block ?_ | refine c_region _ ?_ | refine wpList_nil ?_ | refine c_then ?_ | refine c_then_exit ?_ | refine c_then_ret ?_ | refine c_in ?_ | refine c_in_ret ?_ | refine c_in_hit ?_ | refine wp_skip ?_ | refine wp_exit ?_ | refine wp_ret ?_ | refine c_in_miss rfl ?_ | (refine q_nil ?_; rintro _ ⟨ndr, rfl⟩) | refine c_region_draw _ mixed (by kernel_rfl) ?_ | ((first | apply st hF | apply stg hF | apply s_step hF | apply s_stg hF); (first | exact d_move | exact d_assign | exact d_cmpT | exact d_cmpF | exact d_cmp | exact d_eqbT (und _ _ rfl) | exact d_eqbF (und _ _ rfl) | exact d_eqb (und _ _ rfl) | exact d_eqST | exact d_eqSF | exact d_eqS | exact d_fieldAddr (fld _ _ _ _ rfl) (isz _ _ rfl) | exact d_eqN (ifc _ rfl) | exact d_neN (ifc _ rfl)); clear hF; clear a; intro a hF) | ((first | apply q_step hF | apply q_stg hF); intro wq hwq; (first | exact d_move | exact d_assign | exact d_cmpT | exact d_cmpF | exact d_cmp | exact d_eqbT (und _ _ rfl) | exact d_eqbF (und _ _ rfl) | exact d_eqb (und _ _ rfl) | exact d_eqST | exact d_eqSF | exact d_eqS | exact d_fieldAddr (fld _ _ _ _ rfl) (isz _ _ rfl) | exact d_eqN (ifc _ rfl) | exact d_neN (ifc _ rfl)); clear hF; clear a; intro a hF) | ((first | apply stm hF | apply stu hF | apply q_stm hF | apply q_stu hF); clear hF; clear a; intro a hF) | (apply c_cond_t hF; exact rfl; first | exact rfl | assumption) | (apply c_cond_f hF; exact rfl; first | exact rfl | assumption) | refine s_nil ?_)
  refine st_box hF (cs := fracC n1 (.slice pu1 lu1 ku1) (.slice pe1 le1 ke1)) rfl (k := fun a w1 hg1 hgr1 hsz1 hF => ?_)
  refine st_box hF (cs := fracC n2 (.slice pu2 lu2 ku2) (.slice pe2 le2 ke2)) rfl (k := fun a w2 hg2 hgr2 hsz2 hF => ?_)
  refine st_alloc hF fracInf (k := fun a w3 hg3 hgr3 hsz3 hF => ?_)
  have hb3 : Below w.heap.size w w3 := (((Below.refl _ w).grown hgr1 (Nat.le_refl _) (fun k hk => by cases hk)).grown hgr2 (by omega) (fun k hk => by cases hk)).grown hgr3 (by omega) (fun k hk => by cases hk)
  replace hg1 := blk_kept (blk_kept hg1 hgr2 (by simp)) hgr3 (by simp)
  replace hg2 := blk_kept hg2 hgr3 (by simp)
  have hz3 : w3.heap.size = w.heap.size + 3 := by omega
  rw [show w1.heap.size = w.heap.size + 1 by omega] at hg2 hF
  rw [show w2.heap.size = w.heap.size + 2 by omega] at hg3 hF
  replace h1 := h1.below hb3
  replace h2 := h2.below hb3
  replace h3 := h3.below hb3
  replace h4 := h4.below hb3
  clear hgr1 hgr2 hgr3 hsz1 hsz2 hsz3
  have q1 : w3.cell? ⟨w.heap.size, 0 + 1, none⟩ = some (.slice pu1 lu1 ku1) := cell_at hg1 rfl
  have q2 : w3.cell? ⟨w.heap.size + 1, 0 + 2, none⟩ = some (.slice pe2 le2 ke2) := cell_at hg2 rfl
  repeat (first | refine c_seq ?_ | refine c_block ?_ | refine c_region _ ?_ | refine wpList_nil ?_ | refine c_then ?_ | refine c_then_exit ?_ | refine c_then_ret ?_ | refine c_in ?_ | refine c_in_ret ?_ | refine c_in_hit ?_ | refine wp_skip ?_ | refine wp_exit ?_ | refine wp_ret ?_ | refine c_in_miss rfl ?_ | (refine q_nil ?_; rintro _ ⟨ndr, rfl⟩) | refine c_region_draw _ mixed (by kernel_rfl) ?_ | ((first | apply st hF | apply stg hF | apply s_step hF | apply s_stg hF); (first | exact d_move | exact d_assign | exact d_cmpT | exact d_cmpF | exact d_cmp | exact d_eqbT (und _ _ rfl) | exact d_eqbF (und _ _ rfl) | exact d_eqb (und _ _ rfl) | exact d_eqST | exact d_eqSF | exact d_eqS | exact d_fieldAddr (fld _ _ _ _ rfl) (isz _ _ rfl) | exact d_eqN (ifc _ rfl) | exact d_neN (ifc _ rfl) | exact d_load (und _ _ rfl) q1 | exact d_load (und _ _ rfl) q2); clear hF; clear a; intro a hF) | ((first | apply q_step hF | apply q_stg hF); intro wq hwq; (first | exact d_move | exact d_assign | exact d_cmpT | exact d_cmpF | exact d_cmp | exact d_eqbT (und _ _ rfl) | exact d_eqbF (und _ _ rfl) | exact d_eqb (und _ _ rfl) | exact d_eqST | exact d_eqSF | exact d_eqS | exact d_fieldAddr (fld _ _ _ _ rfl) (isz _ _ rfl) | exact d_eqN (ifc _ rfl) | exact d_neN (ifc _ rfl) | exact q_load (und _ _ rfl) hwq (by exact q1) | exact q_load (und _ _ rfl) hwq (by exact q2)); clear hF; clear a; intro a hF) | ((first | apply stm hF | apply stu hF | apply q_stm hF | apply q_stu hF); clear hF; clear a; intro a hF) | (apply c_cond_t hF; exact rfl; first | exact rfl | assumption) | (apply c_cond_f hF; exact rfl; first | exact rfl | assumption) | refine s_nil ?_)
  refine stc hF (times_ok w3 _ _ _ _ N1 D2 h1 h4 (hB50 _ b1) (hB50 _ b4)) cal118 ⟨rfl, rfl, trivial⟩ (k := fun a vx w4 hR hF => ?_)
  obtain ⟨hX, hb4⟩ := hR
  have z4 := hb4.size
  replace hg1 := (hb4.block _ (by omega)).trans hg1
  replace hg2 := (hb4.block _ (by omega)).trans hg2
  replace hg3 := (hb4.block _ (by omega)).trans hg3
  have q3 : w4.cell? ⟨w.heap.size + 1, 0 + 1, none⟩ = some (.slice pu2 lu2 ku2) := cell_at hg2 rfl
  have q4 : w4.cell? ⟨w.heap.size, 0 + 2, none⟩ = some (.slice pe1 le1 ke1) := cell_at hg1 rfl
  repeat (first | refine c_seq ?_ | refine c_block ?_ | refine c_region _ ?_ | refine wpList_nil ?_ | refine c_then ?_ | refine c_then_exit ?_ | refine c_then_ret ?_ | refine c_in ?_ | refine c_in_ret ?_ | refine c_in_hit ?_ | refine wp_skip ?_ | refine wp_exit ?_ | refine wp_ret ?_ | refine c_in_miss rfl ?_ | (refine q_nil ?_; rintro _ ⟨ndr, rfl⟩) | refine c_region_draw _ mixed (by kernel_rfl) ?_ | ((first | apply st hF | apply stg hF | apply s_step hF | apply s_stg hF); (first | exact d_move | exact d_assign | exact d_cmpT | exact d_cmpF | exact d_cmp | exact d_eqbT (und _ _ rfl) | exact d_eqbF (und _ _ rfl) | exact d_eqb (und _ _ rfl) | exact d_eqST | exact d_eqSF | exact d_eqS | exact d_fieldAddr (fld _ _ _ _ rfl) (isz _ _ rfl) | exact d_eqN (ifc _ rfl) | exact d_neN (ifc _ rfl) | exact d_load (und _ _ rfl) q3 | exact d_load (und _ _ rfl) q4); clear hF; clear a; intro a hF) | ((first | apply q_step hF | apply q_stg hF); intro wq hwq; (first | exact d_move | exact d_assign | exact d_cmpT | exact d_cmpF | exact d_cmp | exact d_eqbT (und _ _ rfl) | exact d_eqbF (und _ _ rfl) | exact d_eqb (und _ _ rfl) | exact d_eqST | exact d_eqSF | exact d_eqS | exact d_fieldAddr (fld _ _ _ _ rfl) (isz _ _ rfl) | exact d_eqN (ifc _ rfl) | exact d_neN (ifc _ rfl) | exact q_load (und _ _ rfl) hwq (by exact q3) | exact q_load (und _ _ rfl) hwq (by exact q4)); clear hF; clear a; intro a hF) | ((first | apply stm hF | apply stu hF | apply q_stm hF | apply q_stu hF); clear hF; clear a; intro a hF) | (apply c_cond_t hF; exact rfl; first | exact rfl | assumption) | (apply c_cond_f hF; exact rfl; first | exact rfl | assumption) | refine s_nil ?_)
  refine stc hF (times_ok w4 _ _ _ _ N2 D1 (h3.below hb4) (h2.below hb4) (hB50 _ b3) (hB50 _ b2)) cal118 ⟨rfl, rfl, trivial⟩ (k := fun a vy w5 hR hF => ?_)
  obtain ⟨hY, hb5⟩ := hR
  have z5 := hb5.size
  replace hg1 := (hb5.block _ (by omega)).trans hg1
  replace hg2 := (hb5.block _ (by omega)).trans hg2
  replace hg3 := (hb5.block _ (by omega)).trans hg3
  have q5 : w5.cell? ⟨w.heap.size, 0 + 2, none⟩ = some (.slice pe1 le1 ke1) := cell_at hg1 rfl
  have q6 : w5.cell? ⟨w.heap.size + 1, 0 + 2, none⟩ = some (.slice pe2 le2 ke2) := cell_at hg2 rfl
  repeat (first | refine c_seq ?_ | refine c_block ?_ | refine c_region _ ?_ | refine wpList_nil ?_ | refine c_then ?_ | refine c_then_exit ?_ | refine c_then_ret ?_ | refine c_in ?_ | refine c_in_ret ?_ | refine c_in_hit ?_ | refine wp_skip ?_ | refine wp_exit ?_ | refine wp_ret ?_ | refine c_in_miss rfl ?_ | (refine q_nil ?_; rintro _ ⟨ndr, rfl⟩) | refine c_region_draw _ mixed (by kernel_rfl) ?_ | ((first | apply st hF | apply stg hF | apply s_step hF | apply s_stg hF); (first | exact d_move | exact d_assign | exact d_cmpT | exact d_cmpF | exact d_cmp | exact d_eqbT (und _ _ rfl) | exact d_eqbF (und _ _ rfl) | exact d_eqb (und _ _ rfl) | exact d_eqST | exact d_eqSF | exact d_eqS | exact d_fieldAddr (fld _ _ _ _ rfl) (isz _ _ rfl) | exact d_eqN (ifc _ rfl) | exact d_neN (ifc _ rfl) | exact d_load (und _ _ rfl) q5 | exact d_load (und _ _ rfl) q6); clear hF; clear a; intro a hF) | ((first | apply q_step hF | apply q_stg hF); intro wq hwq; (first | exact d_move | exact d_assign | exact d_cmpT | exact d_cmpF | exact d_cmp | exact d_eqbT (und _ _ rfl) | exact d_eqbF (und _ _ rfl) | exact d_eqb (und _ _ rfl) | exact d_eqST | exact d_eqSF | exact d_eqS | exact d_fieldAddr (fld _ _ _ _ rfl) (isz _ _ rfl) | exact d_eqN (ifc _ rfl) | exact d_neN (ifc _ rfl) | exact q_load (und _ _ rfl) hwq (by exact q5) | exact q_load (und _ _ rfl) hwq (by exact q6)); clear hF; clear a; intro a hF) | ((first | apply stm hF | apply stu hF | apply q_stm hF | apply q_stu hF); clear hF; clear a; intro a hF) | (apply c_cond_t hF; exact rfl; first | exact rfl | assumption) | (apply c_cond_f hF; exact rfl; first | exact rfl | assumption) | refine s_nil ?_)
  refine stc hF (times_ok w5 _ _ _ _ D1 D2 ((h2.below hb4).below hb5) ((h4.below hb4).below hb5) (hB50 _ b2) (hB50 _ b4)) cal118 ⟨rfl, rfl, trivial⟩ (k := fun a vd w6 hR hF => ?_)
  obtain ⟨hD, hb6⟩ := hR
  have z6 := hb6.size
  replace hg1 := (hb6.block _ (by omega)).trans hg1
  replace hg2 := (hb6.block _ (by omega)).trans hg2
  replace hg3 := (hb6.block _ (by omega)).trans hg3
  replace hX := ((hX.below hb5).below hb6).mono (B' := w.heap.size + 3) (by omega)
  replace hY := (hY.below hb6).mono (B' := w.heap.size + 3) (by omega)
  replace hD := hD.mono (B' := w.heap.size + 3) (by omega)
  have hbe : Below w.heap.size w w6 := ((hb3.trans (hb4.mono (by omega))).trans (hb5.mono (by omega))).trans (hb6.mono (by omega))
  have hz6 : w.heap.size + 3 ≤ w6.heap.size := by omega
  clear h1 h2 h3 h4 hb3 hb4 hb5 hb6 q1 q2 q3 q4 q5 q6 z4 z5 z6
  obtain ⟨pd, kd, ld, rfl, _⟩ := nat_pos hD
  have c1 : w6.cell? ⟨w.heap.size, 0 + 0, none⟩ = some (.bool n1) := cell_at hg1 rfl
  have c2 : w6.cell? ⟨w.heap.size + 1, 0 + 0, none⟩ = some (.bool n2) := cell_at hg2 rfl
  have fin : ∀ (a : Act) (l : List (Nat × Value)) (w8 : World) (s : Bool) (rv : Value) (x : Nat), Fr 53 l a → look l 4 = some (.pointer (some ⟨w.heap.size + 2, 0, none⟩)) → w8.heap[w.heap.size + 2]? = some (.cells (fracC s rv (.slice pd ld kd)) 202 (0, 0)) →
      s = diffS n1 (N1 * D2) n2 (N2 * D1) → x = diffN n1 (N1 * D2) n2 (N2 * D1) → NatV (w.heap.size + 3) w8 rv x → NatV (w.heap.size + 3) w8 (.slice pd ld kd) (D1 * D2) → Below w.heap.size w w8 →
      bodyPost Tryd.prog Tryd.f111 (fun e w' => ∃ v, e = .returned v ∧ ((∃ rv dv, v = .agg (fracC (diffS n1 (N1 * D2) n2 (N2 * D1)) rv dv) ∧ NatV 0 w' rv (diffN n1 (N1 * D2) n2 (N2 * D1)) ∧ ∃ y, NatV 0 w' dv y) ∧ Below w.heap.size w w')) .ret a w8 := by
    intro a l w8 s rv x hF hl hg es ex hr hd hb
    subst es; subst ex
    exact ret_c hF rfl (agg _ rfl) (isz _ _ rfl) hg hl ⟨⟨rv, _, rfl, hr.mono (Nat.zero_le _), _, hd.mono (Nat.zero_le _)⟩, hb⟩
  by_cases hn : n1 = n2
  · subst hn
    have es : n1 = diffS n1 (N1 * D2) n1 (N2 * D1) := by unfold diffS; rw [if_pos rfl]
    have ex : N1 * D2 + N2 * D1 = diffN n1 (N1 * D2) n1 (N2 * D1) := by unfold diffN; rw [if_pos rfl]
    repeat (first | (refine c_region_mix (fun wq => wq.heap[w.heap.size]? = some (.cells (fracC n1 (.slice pu1 lu1 ku1) (.slice pe1 le1 ke1)) 202 (0, 0))) [(0, true), (1, true), (2, true), (3, true), (5, true), (4, false), (6, true), (7, false)] 5 mixed (by kernel_rfl) hg1 ?_; simp only [pickX, List.filterMap_cons, List.getElem?_cons_zero, List.getElem?_cons_succ, List.filterMap_nil, Option.map_some]) | refine c_seq ?_ | refine c_block ?_ | refine c_region _ ?_ | refine wpList_nil ?_ | refine c_then ?_ | refine c_then_exit ?_ | refine c_then_ret ?_ | refine c_in ?_ | refine c_in_ret ?_ | refine c_in_hit ?_ | refine wp_skip ?_ | refine wp_exit ?_ | refine wp_ret ?_ | refine c_in_miss rfl ?_ | (refine q_nil ?_; rintro _ ⟨ndr, rfl⟩) | refine c_region_draw _ mixed (by kernel_rfl) ?_ | ((first | apply st hF | apply stg hF | apply s_step hF | apply s_stg hF); (first | exact d_move | exact d_assign | exact d_cmpT | exact d_cmpF | exact d_cmp | exact d_eqbT (und _ _ rfl) | exact d_eqbF (und _ _ rfl) | exact d_eqb (und _ _ rfl) | exact d_eqST | exact d_eqSF | exact d_eqS | exact d_fieldAddr (fld _ _ _ _ rfl) (isz _ _ rfl) | exact d_eqN (ifc _ rfl) | exact d_neN (ifc _ rfl) | exact d_load (und _ _ rfl) c1 | exact d_load (und _ _ rfl) c2); clear hF; clear a; intro a hF) | ((first | apply q_step hF | apply q_stg hF); intro wq hwq; (first | exact d_move | exact d_assign | exact d_cmpT | exact d_cmpF | exact d_cmp | exact d_eqbT (und _ _ rfl) | exact d_eqbF (und _ _ rfl) | exact d_eqb (und _ _ rfl) | exact d_eqST | exact d_eqSF | exact d_eqS | exact d_fieldAddr (fld _ _ _ _ rfl) (isz _ _ rfl) | exact d_eqN (ifc _ rfl) | exact d_neN (ifc _ rfl) | exact q_load (und _ _ rfl) hwq (by exact c1) | exact q_load (und _ _ rfl) hwq (by exact c2)); clear hF; clear a; intro a hF) | ((first | apply stm hF | apply stu hF | apply q_stm hF | apply q_stu hF); clear hF; clear a; intro a hF) | (apply c_cond_t hF; exact rfl; first | exact rfl | assumption) | (apply c_cond_f hF; exact rfl; first | exact rfl | assumption) | refine s_nil ?_)
    repeat (first | ((first | apply x_step hF | apply x_stg hF); intro wq hwq; (first | exact d_move | exact d_assign | exact d_cmpT | exact d_cmpF | exact d_cmp | exact d_eqbT (und _ _ rfl) | exact d_eqbF (und _ _ rfl) | exact d_eqb (und _ _ rfl) | exact d_eqST | exact d_eqSF | exact d_eqS | exact d_fieldAddr (fld _ _ _ _ rfl) (isz _ _ rfl) | exact d_eqN (ifc _ rfl) | exact d_neN (ifc _ rfl) | exact d_load (und _ _ rfl) ((show wq.cell? ⟨w.heap.size, 0 + 0, none⟩ = some (.bool n1) from cell_at hwq rfl))); clear hF; clear a; intro a hF) | ((first | apply x_stm hF | apply x_stu hF); clear hF; clear a; intro a hF))
    refine x_one ?_
    have hXd : NatV (w.heap.size + 3) (w6.drewN 1) vx (N1 * D2) := hX
    have hYd : NatV (w.heap.size + 3) (w6.drewN 1) vy (N2 * D1) := hY
    have hDd : NatV (w.heap.size + 3) (w6.drewN 1) (.slice pd ld kd) (D1 * D2) := hD
    have hbd : Below w.heap.size w (w6.drewN 1) := below_more hbe 1
    have hg1d : (w6.drewN 1).heap[w.heap.size]? = some (.cells (fracC n1 (.slice pu1 lu1 ku1) (.slice pe1 le1 ke1)) 202 (0, 0)) := hg1
    have hg3d : (w6.drewN 1).heap[w.heap.size + 2]? = some (.cells (fracC false (.slice none 0 0) (.slice none 0 0)) 202 (0, 0)) := hg3
    have hzd : w.heap.size + 3 ≤ (w6.drewN 1).heap.size := hz6
    generalize w6.drewN 1 = w7 at *
    refine stc hF (plus_ok w7 _ _ vx vy _ _ hXd hYd (h6 _ hx6) (h6 _ hy6)) cal115 ⟨rfl, rfl, trivial⟩ (k := fun a vr w8 hR hF => ?_)
    obtain ⟨hV, hb8⟩ := hR
    have z8 := hb8.size
    have hg18 := (hb8.block _ (by omega)).trans hg1d
    have hg38 := (hb8.block _ (by omega)).trans hg3d
    replace hV := hV.mono (B' := w.heap.size + 3) (by omega)
    have hD8 := hDd.below hb8
    obtain ⟨pr, kr, lr, rfl, _⟩ := nat_pos hV
    refine wpList_nil ⟨rfl, hg18, ?_⟩
    repeat (first | ((first | apply x_step hF | apply x_stg hF); intro wq hwq; (first | exact d_move | exact d_assign | exact d_cmpT | exact d_cmpF | exact d_cmp | exact d_eqbT (und _ _ rfl) | exact d_eqbF (und _ _ rfl) | exact d_eqb (und _ _ rfl) | exact d_eqST | exact d_eqSF | exact d_eqS | exact d_fieldAddr (fld _ _ _ _ rfl) (isz _ _ rfl) | exact d_eqN (ifc _ rfl) | exact d_neN (ifc _ rfl) | exact d_build (vs := [(0, .bool n1), (1, .slice pr lr kr), (2, .slice pd ld kd)]) (cells := fracC n1 (.slice pr lr kr) (.slice pd ld kd)) (by kernel_rfl) ⟨rfl, rfl, rfl, rfl, rfl, rfl, trivial⟩); clear hF; clear a; intro a hF) | ((first | apply x_stm hF | apply x_stu hF); clear hF; clear a; intro a hF))
    refine x_one ?_
    refine st_storeAgg hF (cs := fracC n1 (.slice pr lr kr) (.slice pd ld kd)) (isz _ _ rfl) rfl rfl hg38 (frac_one hV hD8) (k := fun a w9 hf9 hgr9 hsz9 hF => ?_)
    refine wpList_nil ⟨rfl, blk_kept hg18 hgr9 (by simp), x_nil ?_⟩
    repeat (first | refine c_seq ?_ | refine c_block ?_ | refine c_region _ ?_ | refine wpList_nil ?_ | refine c_then ?_ | refine c_then_exit ?_ | refine c_then_ret ?_ | refine c_in ?_ | refine c_in_ret ?_ | refine c_in_hit ?_ | refine wp_skip ?_ | refine wp_exit ?_ | refine wp_ret ?_ | refine c_in_miss rfl ?_ | (refine q_nil ?_; rintro _ ⟨ndr, rfl⟩) | refine c_region_draw _ mixed (by kernel_rfl) ?_ | ((first | apply st hF | apply stg hF | apply s_step hF | apply s_stg hF); (first | exact d_move | exact d_assign | exact d_cmpT | exact d_cmpF | exact d_cmp | exact d_eqbT (und _ _ rfl) | exact d_eqbF (und _ _ rfl) | exact d_eqb (und _ _ rfl) | exact d_eqST | exact d_eqSF | exact d_eqS | exact d_fieldAddr (fld _ _ _ _ rfl) (isz _ _ rfl) | exact d_eqN (ifc _ rfl) | exact d_neN (ifc _ rfl)); clear hF; clear a; intro a hF) | ((first | apply q_step hF | apply q_stg hF); intro wq hwq; (first | exact d_move | exact d_assign | exact d_cmpT | exact d_cmpF | exact d_cmp | exact d_eqbT (und _ _ rfl) | exact d_eqbF (und _ _ rfl) | exact d_eqb (und _ _ rfl) | exact d_eqST | exact d_eqSF | exact d_eqS | exact d_fieldAddr (fld _ _ _ _ rfl) (isz _ _ rfl) | exact d_eqN (ifc _ rfl) | exact d_neN (ifc _ rfl)); clear hF; clear a; intro a hF) | ((first | apply stm hF | apply stu hF | apply q_stm hF | apply q_stu hF); clear hF; clear a; intro a hF) | (apply c_cond_t hF; exact rfl; first | exact rfl | assumption) | (apply c_cond_f hF; exact rfl; first | exact rfl | assumption) | refine s_nil ?_)
    exact fin _ _ _ _ _ _ hF rfl hf9 es ex (hV.kept hgr9 (by omega)) (hD8.kept hgr9 (by omega)) ((hbd.trans (hb8.mono (by omega))).grown hgr9 (by omega) (fun q e => by cases e; omega))
  · have hbf : (n1 == n2) = false := by simpa using hn
    repeat (first | refine c_seq ?_ | refine c_block ?_ | refine c_region _ ?_ | refine wpList_nil ?_ | refine c_then ?_ | refine c_then_exit ?_ | refine c_then_ret ?_ | refine c_in ?_ | refine c_in_ret ?_ | refine c_in_hit ?_ | refine wp_skip ?_ | refine wp_exit ?_ | refine wp_ret ?_ | refine c_in_miss rfl ?_ | (refine q_nil ?_; rintro _ ⟨ndr, rfl⟩) | refine c_region_draw _ mixed (by kernel_rfl) ?_ | ((first | apply st hF | apply stg hF | apply s_step hF | apply s_stg hF); (first | exact d_move | exact d_assign | exact d_cmpT | exact d_cmpF | exact d_cmp | exact d_eqbT (und _ _ rfl) | exact d_eqbF (und _ _ rfl) | exact d_eqb (und _ _ rfl) | exact d_eqST | exact d_eqSF | exact d_eqS | exact d_fieldAddr (fld _ _ _ _ rfl) (isz _ _ rfl) | exact d_eqN (ifc _ rfl) | exact d_neN (ifc _ rfl) | exact d_load (und _ _ rfl) c1 | exact d_load (und _ _ rfl) c2); clear hF; clear a; intro a hF) | ((first | apply q_step hF | apply q_stg hF); intro wq hwq; (first | exact d_move | exact d_assign | exact d_cmpT | exact d_cmpF | exact d_cmp | exact d_eqbT (und _ _ rfl) | exact d_eqbF (und _ _ rfl) | exact d_eqb (und _ _ rfl) | exact d_eqST | exact d_eqSF | exact d_eqS | exact d_fieldAddr (fld _ _ _ _ rfl) (isz _ _ rfl) | exact d_eqN (ifc _ rfl) | exact d_neN (ifc _ rfl) | exact q_load (und _ _ rfl) hwq (by exact c1) | exact q_load (und _ _ rfl) hwq (by exact c2)); clear hF; clear a; intro a hF) | ((first | apply stm hF | apply stu hF | apply q_stm hF | apply q_stu hF); clear hF; clear a; intro a hF) | (apply c_cond_t hF; exact rfl; first | exact rfl | assumption) | (apply c_cond_f hF; exact rfl; first | exact rfl | assumption) | refine s_nil ?_)
    refine stc hF (held_ok w6 _ _ vx vy _ _ hX hY (h6 _ hx6) (h6 _ hy6)) cal116 ⟨rfl, rfl, trivial⟩ (k := fun a v w7 hR hF => ?_)
    obtain ⟨rfl, rfl⟩ := hR
    by_cases hge : N2 * D1 ≤ N1 * D2
    · obtain ⟨z, hz, hz0⟩ := heldI_ge hge
      rw [hz] at hF
      have es : n1 = diffS n1 (N1 * D2) n2 (N2 * D1) := by unfold diffS; rw [if_neg hn, if_pos hge]
      have ex : N1 * D2 - N2 * D1 = diffN n1 (N1 * D2) n2 (N2 * D1) := by unfold diffN; rw [if_neg hn, if_pos hge]
      repeat (first | (refine c_region_mix (fun wq => wq.heap[w.heap.size]? = some (.cells (fracC n1 (.slice pu1 lu1 ku1) (.slice pe1 le1 ke1)) 202 (0, 0))) [(0, true), (1, true), (2, true), (3, true), (5, true), (4, false), (6, true), (7, false)] 7 mixed (by kernel_rfl) hg1 ?_; simp only [pickX, List.filterMap_cons, List.getElem?_cons_zero, List.getElem?_cons_succ, List.filterMap_nil, Option.map_some]) | refine c_seq ?_ | refine c_block ?_ | refine c_region _ ?_ | refine wpList_nil ?_ | refine c_then ?_ | refine c_then_exit ?_ | refine c_then_ret ?_ | refine c_in ?_ | refine c_in_ret ?_ | refine c_in_hit ?_ | refine wp_skip ?_ | refine wp_exit ?_ | refine wp_ret ?_ | refine c_in_miss rfl ?_ | (refine q_nil ?_; rintro _ ⟨ndr, rfl⟩) | refine c_region_draw _ mixed (by kernel_rfl) ?_ | ((first | apply st hF | apply stg hF | apply s_step hF | apply s_stg hF); (first | exact d_move | exact d_assign | exact d_cmpT | exact d_cmpF | exact d_cmp | exact d_eqbT (und _ _ rfl) | exact d_eqbF (und _ _ rfl) | exact d_eqb (und _ _ rfl) | exact d_eqST | exact d_eqSF | exact d_eqS | exact d_fieldAddr (fld _ _ _ _ rfl) (isz _ _ rfl) | exact d_eqN (ifc _ rfl) | exact d_neN (ifc _ rfl)); clear hF; clear a; intro a hF) | ((first | apply q_step hF | apply q_stg hF); intro wq hwq; (first | exact d_move | exact d_assign | exact d_cmpT | exact d_cmpF | exact d_cmp | exact d_eqbT (und _ _ rfl) | exact d_eqbF (und _ _ rfl) | exact d_eqb (und _ _ rfl) | exact d_eqST | exact d_eqSF | exact d_eqS | exact d_fieldAddr (fld _ _ _ _ rfl) (isz _ _ rfl) | exact d_eqN (ifc _ rfl) | exact d_neN (ifc _ rfl)); clear hF; clear a; intro a hF) | ((first | apply stm hF | apply stu hF | apply q_stm hF | apply q_stu hF); clear hF; clear a; intro a hF) | (apply c_cond_t hF; exact rfl; first | exact rfl | assumption) | (apply c_cond_f hF; exact rfl; first | exact rfl | assumption) | refine s_nil ?_)
      repeat (first | ((first | apply x_step hF | apply x_stg hF); intro wq hwq; (first | exact d_move | exact d_assign | exact d_cmpT | exact d_cmpF | exact d_cmp | exact d_eqbT (und _ _ rfl) | exact d_eqbF (und _ _ rfl) | exact d_eqb (und _ _ rfl) | exact d_eqST | exact d_eqSF | exact d_eqS | exact d_fieldAddr (fld _ _ _ _ rfl) (isz _ _ rfl) | exact d_eqN (ifc _ rfl) | exact d_neN (ifc _ rfl) | exact d_load (und _ _ rfl) ((show wq.cell? ⟨w.heap.size, 0 + 0, none⟩ = some (.bool n1) from cell_at hwq rfl))); clear hF; clear a; intro a hF) | ((first | apply x_stm hF | apply x_stu hF); clear hF; clear a; intro a hF))
      refine x_one ?_
      have hXd : NatV (w.heap.size + 3) (w7.drewN 1) vx (N1 * D2) := hX
      have hYd : NatV (w.heap.size + 3) (w7.drewN 1) vy (N2 * D1) := hY
      have hDd : NatV (w.heap.size + 3) (w7.drewN 1) (.slice pd ld kd) (D1 * D2) := hD
      have hbd : Below w.heap.size w (w7.drewN 1) := below_more hbe 1
      have hg1d : (w7.drewN 1).heap[w.heap.size]? = some (.cells (fracC n1 (.slice pu1 lu1 ku1) (.slice pe1 le1 ke1)) 202 (0, 0)) := hg1
      have hg3d : (w7.drewN 1).heap[w.heap.size + 2]? = some (.cells (fracC false (.slice none 0 0) (.slice none 0 0)) 202 (0, 0)) := hg3
      have hzd : w.heap.size + 3 ≤ (w7.drewN 1).heap.size := hz6
      generalize w7.drewN 1 = w7 at *
      refine stc hF (less_ok w7 _ _ vx vy _ _ hXd hYd (h6 _ hx6) hge) cal117 ⟨rfl, rfl, trivial⟩ (k := fun a vr w8 hR hF => ?_)
      obtain ⟨hV, hb8⟩ := hR
      have z8 := hb8.size
      have hg18 := (hb8.block _ (by omega)).trans hg1d
      have hg38 := (hb8.block _ (by omega)).trans hg3d
      replace hV := hV.mono (B' := w.heap.size + 3) (by omega)
      have hD8 := hDd.below hb8
      obtain ⟨pr, kr, lr, rfl, _⟩ := nat_pos hV
      refine wpList_nil ⟨rfl, hg18, ?_⟩
      repeat (first | ((first | apply x_step hF | apply x_stg hF); intro wq hwq; (first | exact d_move | exact d_assign | exact d_cmpT | exact d_cmpF | exact d_cmp | exact d_eqbT (und _ _ rfl) | exact d_eqbF (und _ _ rfl) | exact d_eqb (und _ _ rfl) | exact d_eqST | exact d_eqSF | exact d_eqS | exact d_fieldAddr (fld _ _ _ _ rfl) (isz _ _ rfl) | exact d_eqN (ifc _ rfl) | exact d_neN (ifc _ rfl) | exact d_build (vs := [(0, .bool n1), (1, .slice pr lr kr), (2, .slice pd ld kd)]) (cells := fracC n1 (.slice pr lr kr) (.slice pd ld kd)) (by kernel_rfl) ⟨rfl, rfl, rfl, rfl, rfl, rfl, trivial⟩); clear hF; clear a; intro a hF) | ((first | apply x_stm hF | apply x_stu hF); clear hF; clear a; intro a hF))
      refine x_one ?_
      refine st_storeAgg hF (cs := fracC n1 (.slice pr lr kr) (.slice pd ld kd)) (isz _ _ rfl) rfl rfl hg38 (frac_one hV hD8) (k := fun a w9 hf9 hgr9 hsz9 hF => ?_)
      refine wpList_nil ⟨rfl, blk_kept hg18 hgr9 (by simp), x_nil ?_⟩
      repeat (first | refine c_seq ?_ | refine c_block ?_ | refine c_region _ ?_ | refine wpList_nil ?_ | refine c_then ?_ | refine c_then_exit ?_ | refine c_then_ret ?_ | refine c_in ?_ | refine c_in_ret ?_ | refine c_in_hit ?_ | refine wp_skip ?_ | refine wp_exit ?_ | refine wp_ret ?_ | refine c_in_miss rfl ?_ | (refine q_nil ?_; rintro _ ⟨ndr, rfl⟩) | refine c_region_draw _ mixed (by kernel_rfl) ?_ | ((first | apply st hF | apply stg hF | apply s_step hF | apply s_stg hF); (first | exact d_move | exact d_assign | exact d_cmpT | exact d_cmpF | exact d_cmp | exact d_eqbT (und _ _ rfl) | exact d_eqbF (und _ _ rfl) | exact d_eqb (und _ _ rfl) | exact d_eqST | exact d_eqSF | exact d_eqS | exact d_fieldAddr (fld _ _ _ _ rfl) (isz _ _ rfl) | exact d_eqN (ifc _ rfl) | exact d_neN (ifc _ rfl)); clear hF; clear a; intro a hF) | ((first | apply q_step hF | apply q_stg hF); intro wq hwq; (first | exact d_move | exact d_assign | exact d_cmpT | exact d_cmpF | exact d_cmp | exact d_eqbT (und _ _ rfl) | exact d_eqbF (und _ _ rfl) | exact d_eqb (und _ _ rfl) | exact d_eqST | exact d_eqSF | exact d_eqS | exact d_fieldAddr (fld _ _ _ _ rfl) (isz _ _ rfl) | exact d_eqN (ifc _ rfl) | exact d_neN (ifc _ rfl)); clear hF; clear a; intro a hF) | ((first | apply stm hF | apply stu hF | apply q_stm hF | apply q_stu hF); clear hF; clear a; intro a hF) | (apply c_cond_t hF; exact rfl; first | exact rfl | assumption) | (apply c_cond_f hF; exact rfl; first | exact rfl | assumption) | refine s_nil ?_)
      exact fin _ _ _ _ _ _ hF rfl hf9 es ex (hV.kept hgr9 (by omega)) (hD8.kept hgr9 (by omega)) ((hbd.trans (hb8.mono (by omega))).grown hgr9 (by omega) (fun q e => by cases e; omega))
    · have hlt : N1 * D2 < N2 * D1 := by omega
      rw [heldI_lt hlt] at hF
      have es : n2 = diffS n1 (N1 * D2) n2 (N2 * D1) := by unfold diffS; rw [if_neg hn, if_neg hge]
      have ex : N2 * D1 - N1 * D2 = diffN n1 (N1 * D2) n2 (N2 * D1) := by unfold diffN; rw [if_neg hn, if_neg hge]
      repeat (first | (refine c_region_mix (fun wq => wq.heap[w.heap.size + 1]? = some (.cells (fracC n2 (.slice pu2 lu2 ku2) (.slice pe2 le2 ke2)) 202 (0, 0))) [(0, true), (1, true), (2, true), (3, true), (5, true), (4, false), (6, true), (7, false)] 8 mixed (by kernel_rfl) hg2 ?_; simp only [pickX, List.filterMap_cons, List.getElem?_cons_zero, List.getElem?_cons_succ, List.filterMap_nil, Option.map_some]) | refine c_seq ?_ | refine c_block ?_ | refine c_region _ ?_ | refine wpList_nil ?_ | refine c_then ?_ | refine c_then_exit ?_ | refine c_then_ret ?_ | refine c_in ?_ | refine c_in_ret ?_ | refine c_in_hit ?_ | refine wp_skip ?_ | refine wp_exit ?_ | refine wp_ret ?_ | refine c_in_miss rfl ?_ | (refine q_nil ?_; rintro _ ⟨ndr, rfl⟩) | refine c_region_draw _ mixed (by kernel_rfl) ?_ | ((first | apply st hF | apply stg hF | apply s_step hF | apply s_stg hF); (first | exact d_move | exact d_assign | exact d_cmpT | exact d_cmpF | exact d_cmp | exact d_eqbT (und _ _ rfl) | exact d_eqbF (und _ _ rfl) | exact d_eqb (und _ _ rfl) | exact d_eqST | exact d_eqSF | exact d_eqS | exact d_fieldAddr (fld _ _ _ _ rfl) (isz _ _ rfl) | exact d_eqN (ifc _ rfl) | exact d_neN (ifc _ rfl)); clear hF; clear a; intro a hF) | ((first | apply q_step hF | apply q_stg hF); intro wq hwq; (first | exact d_move | exact d_assign | exact d_cmpT | exact d_cmpF | exact d_cmp | exact d_eqbT (und _ _ rfl) | exact d_eqbF (und _ _ rfl) | exact d_eqb (und _ _ rfl) | exact d_eqST | exact d_eqSF | exact d_eqS | exact d_fieldAddr (fld _ _ _ _ rfl) (isz _ _ rfl) | exact d_eqN (ifc _ rfl) | exact d_neN (ifc _ rfl)); clear hF; clear a; intro a hF) | ((first | apply stm hF | apply stu hF | apply q_stm hF | apply q_stu hF); clear hF; clear a; intro a hF) | (apply c_cond_t hF; exact rfl; first | exact rfl | assumption) | (apply c_cond_f hF; exact rfl; first | exact rfl | assumption) | refine s_nil ?_)
      repeat (first | ((first | apply x_step hF | apply x_stg hF); intro wq hwq; (first | exact d_move | exact d_assign | exact d_cmpT | exact d_cmpF | exact d_cmp | exact d_eqbT (und _ _ rfl) | exact d_eqbF (und _ _ rfl) | exact d_eqb (und _ _ rfl) | exact d_eqST | exact d_eqSF | exact d_eqS | exact d_fieldAddr (fld _ _ _ _ rfl) (isz _ _ rfl) | exact d_eqN (ifc _ rfl) | exact d_neN (ifc _ rfl) | exact d_load (und _ _ rfl) ((show wq.cell? ⟨w.heap.size + 1, 0 + 0, none⟩ = some (.bool n2) from cell_at hwq rfl))); clear hF; clear a; intro a hF) | ((first | apply x_stm hF | apply x_stu hF); clear hF; clear a; intro a hF))
      refine x_one ?_
      have hXd : NatV (w.heap.size + 3) (w7.drewN 1) vx (N1 * D2) := hX
      have hYd : NatV (w.heap.size + 3) (w7.drewN 1) vy (N2 * D1) := hY
      have hDd : NatV (w.heap.size + 3) (w7.drewN 1) (.slice pd ld kd) (D1 * D2) := hD
      have hbd : Below w.heap.size w (w7.drewN 1) := below_more hbe 1
      have hg2d : (w7.drewN 1).heap[w.heap.size + 1]? = some (.cells (fracC n2 (.slice pu2 lu2 ku2) (.slice pe2 le2 ke2)) 202 (0, 0)) := hg2
      have hg3d : (w7.drewN 1).heap[w.heap.size + 2]? = some (.cells (fracC false (.slice none 0 0) (.slice none 0 0)) 202 (0, 0)) := hg3
      have hzd : w.heap.size + 3 ≤ (w7.drewN 1).heap.size := hz6
      generalize w7.drewN 1 = w7 at *
      refine stc hF (less_ok w7 _ _ vy vx _ _ hYd hXd (h6 _ hy6) (by omega)) cal117 ⟨rfl, rfl, trivial⟩ (k := fun a vr w8 hR hF => ?_)
      obtain ⟨hV, hb8⟩ := hR
      have z8 := hb8.size
      have hg28 := (hb8.block _ (by omega)).trans hg2d
      have hg38 := (hb8.block _ (by omega)).trans hg3d
      replace hV := hV.mono (B' := w.heap.size + 3) (by omega)
      have hD8 := hDd.below hb8
      obtain ⟨pr, kr, lr, rfl, _⟩ := nat_pos hV
      refine wpList_nil ⟨rfl, hg28, ?_⟩
      repeat (first | ((first | apply x_step hF | apply x_stg hF); intro wq hwq; (first | exact d_move | exact d_assign | exact d_cmpT | exact d_cmpF | exact d_cmp | exact d_eqbT (und _ _ rfl) | exact d_eqbF (und _ _ rfl) | exact d_eqb (und _ _ rfl) | exact d_eqST | exact d_eqSF | exact d_eqS | exact d_fieldAddr (fld _ _ _ _ rfl) (isz _ _ rfl) | exact d_eqN (ifc _ rfl) | exact d_neN (ifc _ rfl) | exact d_build (vs := [(0, .bool n2), (1, .slice pr lr kr), (2, .slice pd ld kd)]) (cells := fracC n2 (.slice pr lr kr) (.slice pd ld kd)) (by kernel_rfl) ⟨rfl, rfl, rfl, rfl, rfl, rfl, trivial⟩); clear hF; clear a; intro a hF) | ((first | apply x_stm hF | apply x_stu hF); clear hF; clear a; intro a hF))
      refine x_one ?_
      refine st_storeAgg hF (cs := fracC n2 (.slice pr lr kr) (.slice pd ld kd)) (isz _ _ rfl) rfl rfl hg38 (frac_one hV hD8) (k := fun a w9 hf9 hgr9 hsz9 hF => ?_)
      refine wpList_nil ⟨rfl, blk_kept hg28 hgr9 (by simp), x_nil ?_⟩
      repeat (first | refine c_seq ?_ | refine c_block ?_ | refine c_region _ ?_ | refine wpList_nil ?_ | refine c_then ?_ | refine c_then_exit ?_ | refine c_then_ret ?_ | refine c_in ?_ | refine c_in_ret ?_ | refine c_in_hit ?_ | refine wp_skip ?_ | refine wp_exit ?_ | refine wp_ret ?_ | refine c_in_miss rfl ?_ | (refine q_nil ?_; rintro _ ⟨ndr, rfl⟩) | refine c_region_draw _ mixed (by kernel_rfl) ?_ | ((first | apply st hF | apply stg hF | apply s_step hF | apply s_stg hF); (first | exact d_move | exact d_assign | exact d_cmpT | exact d_cmpF | exact d_cmp | exact d_eqbT (und _ _ rfl) | exact d_eqbF (und _ _ rfl) | exact d_eqb (und _ _ rfl) | exact d_eqST | exact d_eqSF | exact d_eqS | exact d_fieldAddr (fld _ _ _ _ rfl) (isz _ _ rfl) | exact d_eqN (ifc _ rfl) | exact d_neN (ifc _ rfl)); clear hF; clear a; intro a hF) | ((first | apply q_step hF | apply q_stg hF); intro wq hwq; (first | exact d_move | exact d_assign | exact d_cmpT | exact d_cmpF | exact d_cmp | exact d_eqbT (und _ _ rfl) | exact d_eqbF (und _ _ rfl) | exact d_eqb (und _ _ rfl) | exact d_eqST | exact d_eqSF | exact d_eqS | exact d_fieldAddr (fld _ _ _ _ rfl) (isz _ _ rfl) | exact d_eqN (ifc _ rfl) | exact d_neN (ifc _ rfl)); clear hF; clear a; intro a hF) | ((first | apply stm hF | apply stu hF | apply q_stm hF | apply q_stu hF); clear hF; clear a; intro a hF) | (apply c_cond_t hF; exact rfl; first | exact rfl | assumption) | (apply c_cond_f hF; exact rfl; first | exact rfl | assumption) | refine s_nil ?_)
      exact fin _ _ _ _ _ _ hF rfl hf9 es ex (hV.kept hgr9 (by omega)) (hD8.kept hgr9 (by omega)) ((hbd.trans (hb8.mono (by omega))).grown hgr9 (by omega) (fun q e => by cases e; omega))
end Go.Proofs.YtjomihhpglojpaaDoor
end
