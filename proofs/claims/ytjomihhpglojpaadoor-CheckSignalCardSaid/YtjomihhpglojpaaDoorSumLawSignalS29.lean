/- Laid together by a program of mine: RefA. -/
import Derived.Test.YtjomihhpglojpaaDoorSumLawSignalS28
set_option linter.unusedSimpArgs false
set_option linter.unusedVariables false
section
/- The reference's fractions: Cmp, Above: walked. -/
namespace Go.Proofs.YtjomihhpglojpaaDoor
open Go.RowKit
set_option linter.unusedSimpArgs false
set_option linter.unusedVariables false
attribute [local irreducible] wpList wpQuiet wpStill Code.wp Exit.then Exit.inBlock bodyPost Calls Does Does0
open Nn
set_option maxHeartbeats 8000000 in
theorem refcmp_ok (w : World) (n1 d1 n2 d2 : Int) (hn1 : -9223372036854775808 ≤ n1 ∧ n1 ≤ 9223372036854775807) (hd1 : -9223372036854775808 ≤ d1 ∧ d1 ≤ 9223372036854775807) (hn2 : -9223372036854775808 ≤ n2 ∧ n2 ≤ 9223372036854775807) (hd2 : -9223372036854775808 ≤ d2 ∧ d2 ≤ 9223372036854775807) :
    Ret Tryd.prog 95 [.agg #[.int .i64 n1, .int .i64 d1], .agg #[.int .i64 n2, .int .i64 d2]].toArray w (fun v w' => (∃ z e : Int, v = .tuple #[.int .i64 z, .int .i64 e] ∧ (0 < z ↔ (rightB n1 d1 = true ∧ rightB n2 d2 = true ∧ aboveP n1 d1 n2 d2))) ∧ Below w.heap.size w w') := by
  refine enter2 Tryd.func95 rfl 25 rfl 27 rfl (fun a hF => ?_)
  repeat (first | refine c_seq ?_ | refine c_block ?_ | refine c_region _ ?_ | refine wpList_nil ?_ | refine c_then ?_ | refine c_then_exit ?_ | refine c_then_ret ?_ | refine c_in ?_ | refine c_in_ret ?_ | refine c_in_hit ?_ | refine wp_skip ?_ | refine wp_exit ?_ | refine wp_ret ?_ | refine c_in_miss rfl ?_ | (refine q_nil ?_; rintro _ ⟨ndr, rfl⟩) | refine c_region_draw _ mixed (by kernel_rfl) ?_ | ((first | apply st hF | apply stg hF | apply s_step hF | apply s_stg hF); (first | exact d_move | exact d_assign | exact d_not | exact d_pickT | exact d_pickF | exact d_cmpT | exact d_cmpF | exact d_cmp | exact d_eqbT (und _ _ rfl) | exact d_eqbF (und _ _ rfl) | exact d_eqb (und _ _ rfl) | exact d_eqST | exact d_eqSF | exact d_eqS | exact d_len (und _ _ rfl) | exact d_lens (und _ _ rfl) | exact d_fieldAddr (fld _ _ _ _ rfl) (isz _ _ rfl) | exact d_eqN (ifc _ rfl) | exact d_neN (ifc _ rfl)); clear hF; clear a; intro a hF) | ((first | apply q_step hF | apply q_stg hF); intro wq hwq; (first | exact d_move | exact d_assign | exact d_not | exact d_pickT | exact d_pickF | exact d_cmpT | exact d_cmpF | exact d_cmp | exact d_eqbT (und _ _ rfl) | exact d_eqbF (und _ _ rfl) | exact d_eqb (und _ _ rfl) | exact d_eqST | exact d_eqSF | exact d_eqS | exact d_len (und _ _ rfl) | exact d_lens (und _ _ rfl) | exact d_fieldAddr (fld _ _ _ _ rfl) (isz _ _ rfl) | exact d_eqN (ifc _ rfl) | exact d_neN (ifc _ rfl)); clear hF; clear a; intro a hF) | ((first | apply stm hF | apply stu hF | apply q_stm hF | apply q_stu hF); clear hF; clear a; intro a hF) | (apply c_cond_t hF; exact rfl; first | exact rfl | assumption) | (apply c_cond_f hF; exact rfl; first | exact rfl | assumption) | refine s_nil ?_)
  refine st_box hF (cs := #[.int .i64 n1, .int .i64 d1]) rfl (k := fun a w1 hg1 hgr1 hsz1 hF => ?_)
  refine st_box hF (cs := #[.int .i64 n2, .int .i64 d2]) rfl (k := fun a w2 hg2 hgr2 hsz2 hF => ?_)
  replace hg1 := blk_kept hg1 hgr2 (by simp)
  have hb2 : Below w.heap.size w w2 := ((Below.refl _ w).grown hgr1 (Nat.le_refl _) (fun k hk => by cases hk)).grown hgr2 (by omega) (fun k hk => by cases hk)
  rw [show w1.heap.size = w.heap.size + 1 by omega] at hg2 hF
  have hz2 : w2.heap.size = w.heap.size + 2 := by omega
  clear hgr1 hgr2 hsz1 hsz2
  repeat (first | refine c_seq ?_ | refine c_block ?_ | refine c_region _ ?_ | refine wpList_nil ?_ | refine c_then ?_ | refine c_then_exit ?_ | refine c_then_ret ?_ | refine c_in ?_ | refine c_in_ret ?_ | refine c_in_hit ?_ | refine wp_skip ?_ | refine wp_exit ?_ | refine wp_ret ?_ | refine c_in_miss rfl ?_ | (refine q_nil ?_; rintro _ ⟨ndr, rfl⟩) | refine c_region_draw _ mixed (by kernel_rfl) ?_ | ((first | apply st hF | apply stg hF | apply s_step hF | apply s_stg hF); (first | exact d_move | exact d_assign | exact d_not | exact d_pickT | exact d_pickF | exact d_cmpT | exact d_cmpF | exact d_cmp | exact d_eqbT (und _ _ rfl) | exact d_eqbF (und _ _ rfl) | exact d_eqb (und _ _ rfl) | exact d_eqST | exact d_eqSF | exact d_eqS | exact d_len (und _ _ rfl) | exact d_lens (und _ _ rfl) | exact d_fieldAddr (fld _ _ _ _ rfl) (isz _ _ rfl) | exact d_eqN (ifc _ rfl) | exact d_neN (ifc _ rfl) | exact d_loadAgg (agg _ rfl) (isz _ _ rfl) rfl (cells_at hg1)); clear hF; clear a; intro a hF) | ((first | apply q_step hF | apply q_stg hF); intro wq hwq; (first | exact d_move | exact d_assign | exact d_not | exact d_pickT | exact d_pickF | exact d_cmpT | exact d_cmpF | exact d_cmp | exact d_eqbT (und _ _ rfl) | exact d_eqbF (und _ _ rfl) | exact d_eqb (und _ _ rfl) | exact d_eqST | exact d_eqSF | exact d_eqS | exact d_len (und _ _ rfl) | exact d_lens (und _ _ rfl) | exact d_fieldAddr (fld _ _ _ _ rfl) (isz _ _ rfl) | exact d_eqN (ifc _ rfl) | exact d_neN (ifc _ rfl) | exact d_loadAgg (agg _ rfl) (isz _ _ rfl) rfl (cells_at hg1)); clear hF; clear a; intro a hF) | ((first | apply stm hF | apply stu hF | apply q_stm hF | apply q_stu hF); clear hF; clear a; intro a hF) | (apply c_cond_t hF; exact rfl; first | exact rfl | assumption) | (apply c_cond_f hF; exact rfl; first | exact rfl | assumption) | refine s_nil ?_)
  refine stc hF (rright_ok w2 n1 d1 hn1 hd1) cal70 ⟨rfl, trivial⟩ (k := fun a v w3 hR hF => ?_)
  obtain ⟨rfl, hb3⟩ := hR
  cases hr1 : rightB n1 d1 with
  | false =>
    rw [hr1] at hF
    repeat (first | refine c_seq ?_ | refine c_block ?_ | refine c_region _ ?_ | refine wpList_nil ?_ | refine c_then ?_ | refine c_then_exit ?_ | refine c_then_ret ?_ | refine c_in ?_ | refine c_in_ret ?_ | refine c_in_hit ?_ | refine wp_skip ?_ | refine wp_exit ?_ | refine wp_ret ?_ | refine c_in_miss rfl ?_ | (refine q_nil ?_; rintro _ ⟨ndr, rfl⟩) | refine c_region_draw _ mixed (by kernel_rfl) ?_ | ((first | apply st hF | apply stg hF | apply s_step hF | apply s_stg hF); (first | exact d_move | exact d_assign | exact d_not | exact d_pickT | exact d_pickF | exact d_cmpT | exact d_cmpF | exact d_cmp | exact d_eqbT (und _ _ rfl) | exact d_eqbF (und _ _ rfl) | exact d_eqb (und _ _ rfl) | exact d_eqST | exact d_eqSF | exact d_eqS | exact d_len (und _ _ rfl) | exact d_lens (und _ _ rfl) | exact d_fieldAddr (fld _ _ _ _ rfl) (isz _ _ rfl) | exact d_eqN (ifc _ rfl) | exact d_neN (ifc _ rfl)); clear hF; clear a; intro a hF) | ((first | apply q_step hF | apply q_stg hF); intro wq hwq; (first | exact d_move | exact d_assign | exact d_not | exact d_pickT | exact d_pickF | exact d_cmpT | exact d_cmpF | exact d_cmp | exact d_eqbT (und _ _ rfl) | exact d_eqbF (und _ _ rfl) | exact d_eqb (und _ _ rfl) | exact d_eqST | exact d_eqSF | exact d_eqS | exact d_len (und _ _ rfl) | exact d_lens (und _ _ rfl) | exact d_fieldAddr (fld _ _ _ _ rfl) (isz _ _ rfl) | exact d_eqN (ifc _ rfl) | exact d_neN (ifc _ rfl)); clear hF; clear a; intro a hF) | ((first | apply stm hF | apply stu hF | apply q_stm hF | apply q_stu hF); clear hF; clear a; intro a hF) | (apply c_cond_t hF; exact rfl; first | exact rfl | assumption) | (apply c_cond_f hF; exact rfl; first | exact rfl | assumption) | refine s_nil ?_)
    exact ret2 hF rfl rfl rfl ⟨⟨_, _, rfl, by simp⟩, hb2.trans (hb3.mono (by omega))⟩
  | true =>
  rw [hr1] at hF
  have z3 := hb3.size
  replace hg1 := (hb3.block _ (by omega)).trans hg1
  replace hg2 := (hb3.block _ (by omega)).trans hg2
  repeat (first | refine c_seq ?_ | refine c_block ?_ | refine c_region _ ?_ | refine wpList_nil ?_ | refine c_then ?_ | refine c_then_exit ?_ | refine c_then_ret ?_ | refine c_in ?_ | refine c_in_ret ?_ | refine c_in_hit ?_ | refine wp_skip ?_ | refine wp_exit ?_ | refine wp_ret ?_ | refine c_in_miss rfl ?_ | (refine q_nil ?_; rintro _ ⟨ndr, rfl⟩) | refine c_region_draw _ mixed (by kernel_rfl) ?_ | ((first | apply st hF | apply stg hF | apply s_step hF | apply s_stg hF); (first | exact d_move | exact d_assign | exact d_not | exact d_pickT | exact d_pickF | exact d_cmpT | exact d_cmpF | exact d_cmp | exact d_eqbT (und _ _ rfl) | exact d_eqbF (und _ _ rfl) | exact d_eqb (und _ _ rfl) | exact d_eqST | exact d_eqSF | exact d_eqS | exact d_len (und _ _ rfl) | exact d_lens (und _ _ rfl) | exact d_fieldAddr (fld _ _ _ _ rfl) (isz _ _ rfl) | exact d_eqN (ifc _ rfl) | exact d_neN (ifc _ rfl) | exact d_loadAgg (agg _ rfl) (isz _ _ rfl) rfl (cells_at hg2)); clear hF; clear a; intro a hF) | ((first | apply q_step hF | apply q_stg hF); intro wq hwq; (first | exact d_move | exact d_assign | exact d_not | exact d_pickT | exact d_pickF | exact d_cmpT | exact d_cmpF | exact d_cmp | exact d_eqbT (und _ _ rfl) | exact d_eqbF (und _ _ rfl) | exact d_eqb (und _ _ rfl) | exact d_eqST | exact d_eqSF | exact d_eqS | exact d_len (und _ _ rfl) | exact d_lens (und _ _ rfl) | exact d_fieldAddr (fld _ _ _ _ rfl) (isz _ _ rfl) | exact d_eqN (ifc _ rfl) | exact d_neN (ifc _ rfl) | exact d_loadAgg (agg _ rfl) (isz _ _ rfl) rfl (cells_at hg2)); clear hF; clear a; intro a hF) | ((first | apply stm hF | apply stu hF | apply q_stm hF | apply q_stu hF); clear hF; clear a; intro a hF) | (apply c_cond_t hF; exact rfl; first | exact rfl | assumption) | (apply c_cond_f hF; exact rfl; first | exact rfl | assumption) | refine s_nil ?_)
  refine stcg hF (rright_ok w3 n2 d2 hn2 hd2) cal70 ⟨rfl, trivial⟩ (k := fun a v w4 hR hF => ?_)
  obtain ⟨rfl, hb4⟩ := hR
  have hb24 : Below w.heap.size w w4 := (hb2.trans (hb3.mono (by omega))).trans (hb4.mono (by omega))
  cases hr2 : rightB n2 d2 with
  | false =>
    rw [hr2] at hF
    repeat (first | refine c_seq ?_ | refine c_block ?_ | refine c_region _ ?_ | refine wpList_nil ?_ | refine c_then ?_ | refine c_then_exit ?_ | refine c_then_ret ?_ | refine c_in ?_ | refine c_in_ret ?_ | refine c_in_hit ?_ | refine wp_skip ?_ | refine wp_exit ?_ | refine wp_ret ?_ | refine c_in_miss rfl ?_ | (refine q_nil ?_; rintro _ ⟨ndr, rfl⟩) | refine c_region_draw _ mixed (by kernel_rfl) ?_ | ((first | apply st hF | apply stg hF | apply s_step hF | apply s_stg hF); (first | exact d_move | exact d_assign | exact d_not | exact d_pickT | exact d_pickF | exact d_cmpT | exact d_cmpF | exact d_cmp | exact d_eqbT (und _ _ rfl) | exact d_eqbF (und _ _ rfl) | exact d_eqb (und _ _ rfl) | exact d_eqST | exact d_eqSF | exact d_eqS | exact d_len (und _ _ rfl) | exact d_lens (und _ _ rfl) | exact d_fieldAddr (fld _ _ _ _ rfl) (isz _ _ rfl) | exact d_eqN (ifc _ rfl) | exact d_neN (ifc _ rfl)); clear hF; clear a; intro a hF) | ((first | apply q_step hF | apply q_stg hF); intro wq hwq; (first | exact d_move | exact d_assign | exact d_not | exact d_pickT | exact d_pickF | exact d_cmpT | exact d_cmpF | exact d_cmp | exact d_eqbT (und _ _ rfl) | exact d_eqbF (und _ _ rfl) | exact d_eqb (und _ _ rfl) | exact d_eqST | exact d_eqSF | exact d_eqS | exact d_len (und _ _ rfl) | exact d_lens (und _ _ rfl) | exact d_fieldAddr (fld _ _ _ _ rfl) (isz _ _ rfl) | exact d_eqN (ifc _ rfl) | exact d_neN (ifc _ rfl)); clear hF; clear a; intro a hF) | ((first | apply stm hF | apply stu hF | apply q_stm hF | apply q_stu hF); clear hF; clear a; intro a hF) | (apply c_cond_t hF; exact rfl; first | exact rfl | assumption) | (apply c_cond_f hF; exact rfl; first | exact rfl | assumption) | refine s_nil ?_)
    exact ret2 hF rfl rfl rfl ⟨⟨_, _, rfl, by simp⟩, hb24⟩
  | true =>
  rw [hr2] at hF
  have z4 := hb4.size
  replace hg1 := (hb4.block _ (by omega)).trans hg1
  replace hg2 := (hb4.block _ (by omega)).trans hg2
  have hp1 : 1 ≤ d1 := by unfold rightB at hr1; exact (of_decide_eq_true hr1).1
  have hp2 : 1 ≤ d2 := by unfold rightB at hr2; exact (of_decide_eq_true hr2).1
  have hz4 : w.heap.size + 2 ≤ w4.heap.size := by omega
  clear hb2 hb3 hb4 z3 z4 hz2
  have hlt3 : ∀ z : Nat, z < 18446744073709551616 → z < B 3 := fun z hz => Nat.lt_of_lt_of_le (by rw [B_2]; exact hz : z < B 2) (B_le (by decide))
  have m1 := hlt3 n1.natAbs (by omega)
  have m2 := hlt3 d1.natAbs (by omega)
  have m3 := hlt3 n2.natAbs (by omega)
  have m4 := hlt3 d2.natAbs (by omega)
  obtain ⟨X, hX⟩ : ∃ X, diffN (decide (n1 < 0)) (n1.natAbs * d2.natAbs) (!decide (n2 < 0)) (n2.natAbs * d1.natAbs) = X := ⟨_, rfl⟩
  obtain ⟨sg, hsg⟩ : ∃ sg, diffS (decide (n1 < 0)) (n1.natAbs * d2.natAbs) (!decide (n2 < 0)) (n2.natAbs * d1.natAbs) = sg := ⟨_, rfl⟩
  have hab := above_diff (n1 := n1) (n2 := n2) hp1 hp2
  rw [hX, hsg] at hab
  repeat (first | (refine c_cutH 3 (fun a' w' => ∃ g p l k dv, Fr 27 [(6, .pointer (some ⟨g, 0, none⟩))] a' ∧ w'.heap[g]? = some (.cells (fracC sg (.slice p l k) dv) 202 (0, 0)) ∧ (l = 0 ↔ X = 0) ∧ Below w.heap.size w w') ?_ ?_) | refine c_seq ?_ | refine c_block ?_ | refine c_region _ ?_ | refine wpList_nil ?_ | refine c_then ?_ | refine c_then_exit ?_ | refine c_then_ret ?_ | refine c_in ?_ | refine c_in_ret ?_ | refine c_in_hit ?_ | refine wp_skip ?_ | refine wp_exit ?_ | refine wp_ret ?_ | refine c_in_miss rfl ?_ | (refine q_nil ?_; rintro _ ⟨ndr, rfl⟩) | refine c_region_draw _ mixed (by kernel_rfl) ?_ | ((first | apply st hF | apply stg hF | apply s_step hF | apply s_stg hF); (first | exact d_move | exact d_assign | exact d_not | exact d_pickT | exact d_pickF | exact d_cmpT | exact d_cmpF | exact d_cmp | exact d_eqbT (und _ _ rfl) | exact d_eqbF (und _ _ rfl) | exact d_eqb (und _ _ rfl) | exact d_eqST | exact d_eqSF | exact d_eqS | exact d_len (und _ _ rfl) | exact d_lens (und _ _ rfl) | exact d_fieldAddr (fld _ _ _ _ rfl) (isz _ _ rfl) | exact d_eqN (ifc _ rfl) | exact d_neN (ifc _ rfl)); clear hF; clear a; intro a hF) | ((first | apply q_step hF | apply q_stg hF); intro wq hwq; (first | exact d_move | exact d_assign | exact d_not | exact d_pickT | exact d_pickF | exact d_cmpT | exact d_cmpF | exact d_cmp | exact d_eqbT (und _ _ rfl) | exact d_eqbF (und _ _ rfl) | exact d_eqb (und _ _ rfl) | exact d_eqST | exact d_eqSF | exact d_eqS | exact d_len (und _ _ rfl) | exact d_lens (und _ _ rfl) | exact d_fieldAddr (fld _ _ _ _ rfl) (isz _ _ rfl) | exact d_eqN (ifc _ rfl) | exact d_neN (ifc _ rfl)); clear hF; clear a; intro a hF) | ((first | apply stm hF | apply stu hF | apply q_stm hF | apply q_stu hF); clear hF; clear a; intro a hF) | (apply c_cond_t hF; exact rfl; first | exact rfl | assumption) | (apply c_cond_f hF; exact rfl; first | exact rfl | assumption) | refine s_nil ?_)
  · -- the region
    refine ⟨?_⟩
    let Sx : World → Prop := fun wq => wq.heap[w.heap.size]? = some (.cells #[.int .i64 n1, .int .i64 d1] 35 (0, 0)) ∧ wq.heap[w.heap.size + 1]? = some (.cells #[.int .i64 n2, .int .i64 d2] 35 (0, 0)) ∧ w.heap.size + 2 ≤ wq.heap.size ∧ Below w.heap.size w wq
    have hSb : ∀ u u' : World, Sx u → Below u.heap.size u u' → Sx u' := fun u u' ⟨s1, s2, s3, s4⟩ hb => ⟨(hb.block _ (by omega)).trans s1, (hb.block _ (by omega)).trans s2, by have := hb.size; omega, s4.trans (hb.mono (by omega))⟩
    refine c_region_mixA Sx 6 [(0, 0), (2, 0), (1, 1), (3, 1), (4, 1), (5, 1), (7, 2)] 3 mixed (by kernel_rfl) ⟨hg1, hg2, hz4, below_more hb24 1⟩ ?_
    intro ao hao
    obtain rfl := (Option.some.inj hao).symm
    show wpMixA Tryd.prog ?opsR ?QR Sx _ ?LR _ _ _
    have hS0 : Sx (w4.drewN 1) := ⟨hg1, hg2, hz4, below_more hb24 1⟩
    have hk : ∀ u u' : World, Sx u → u.grownBy u' none → Sx u' := fun u u' hS hg => hSb u u' hS ((Below.refl _ u).grown hg (Nat.le_refl _) (fun k e => by cases e))
    refine a_step hF rfl (fun wq hq => d_loadAgg (agg _ rfl) (isz _ _ rfl) rfl (cells_at hq.1)) rfl (fun a hF => ?_)
    refine a_step hF rfl (fun wq hq => d_loadAgg (agg _ rfl) (isz _ _ rfl) rfl (cells_at hq.2.1)) rfl (fun a hF => ?_)
    replace hF : Fr 27 [(17, .agg #[.int .i64 n2, .int .i64 d2]), (15, .agg #[.int .i64 n1, .int .i64 d1])] a := hF.keep' ⟨rfl, rfl, trivial⟩
    generalize w4.drewN 1 = w5 at hS0
    clear hg1 hg2 hb24 hz4
    -- the last store
    have R7 : ∀ (u : World) (a : Act) (g : Nat) (rv dv : Value) (y : Nat), Sx u → Fr 27 [(20, .agg (fracC sg rv dv)), (6, .pointer (some ⟨g, 0, none⟩))] a → u.heap[g]? = some (.cells (fracC false (.slice none 0 0) (.slice none 0 0)) 202 (0, 0)) → w.heap.size + 2 ≤ g → NatV 0 u rv X → NatV 0 u dv y →
        wpMix Tryd.prog ?opsR ?QR Sx (pickX ?LR (toX [(7, 2)])) a u := by
      intro u a g rv dv y hS hF hg hgw hr hd
      obtain ⟨p, k, l, rfl, hl0, _⟩ := nat_pos hr
      simp only [toX, List.map_cons, List.map_nil, pickX, List.filterMap_cons, List.getElem?_cons_zero, List.getElem?_cons_succ, List.filterMap_nil, Option.map_some]
      refine x_one ?_
      refine st_storeAgg hF (cs := fracC sg (.slice p l k) dv) (isz _ _ rfl) rfl rfl hg (frac_one hr hd) (k := fun a w9 hf9 hgr9 hsz9 hF => ?_)
      obtain ⟨s1, s2, s3, s4⟩ := hS
      have hb9 : Below w.heap.size w w9 := s4.grown hgr9 (by omega) (fun q e => by cases e; omega)
      exact wpList_nil ⟨rfl, ⟨blk_kept s1 hgr9 (by simp; omega), blk_kept s2 hgr9 (by simp; omega), by omega, hb9⟩, x_nil (c_then ⟨g, p, l, k, dv, hF.keep' ⟨rfl, trivial⟩, hf9, hl0, hb9⟩)⟩
    -- the sum, when the variable is there
    have R5 : ∀ (u : World) (a : Act) (g : Nat) (f1 e1 f2 e2 : Value), Sx u → Fr 27 [(16, .agg (fracC (decide (n1 < 0)) f1 e1)), (19, .agg (fracC (!decide (n2 < 0)) f2 e2)), (6, .pointer (some ⟨g, 0, none⟩))] a → u.heap[g]? = some (.cells (fracC false (.slice none 0 0) (.slice none 0 0)) 202 (0, 0)) → w.heap.size + 2 ≤ g →
        NatV 0 u f1 n1.natAbs → NatV 0 u e1 d1.natAbs → NatV 0 u f2 n2.natAbs → NatV 0 u e2 d2.natAbs → wpMix Tryd.prog ?opsR ?QR Sx (pickX ?LR (toX [(5, 1), (7, 2)])) a u := by
      intro u a g f1 e1 f2 e2 hS hF hg hgw v1 v2 v3 v4
      refine x_one ?_
      refine stc hF (sum_ok u _ _ 0 0 0 0 f1 e1 f2 e2 _ _ _ _ v1 v2 v3 v4 m1 m2 m3 m4) cal111 ⟨rfl, rfl, trivial⟩ (k := fun a v u2 hR hF => ?_)
      obtain ⟨⟨rv, dv, rfl, hr, y, hd⟩, hb⟩ := hR
      rw [hsg] at hF
      rw [hX] at hr
      exact wpList_nil ⟨rfl, hSb _ _ hS hb, R7 u2 _ g rv dv y (hSb _ _ hS hb) (hF.keep' ⟨rfl, rfl, trivial⟩) ((hb.block _ (lt_at hg)).trans hg) hgw hr hd⟩
    have R4 : ∀ (u : World) (a : Act) (g : Nat) (f1 e1 f2 e2 : Value), Sx u → Fr 27 [(16, .agg (fracC (decide (n1 < 0)) f1 e1)), (18, .agg (fracC (decide (n2 < 0)) f2 e2)), (6, .pointer (some ⟨g, 0, none⟩))] a → u.heap[g]? = some (.cells (fracC false (.slice none 0 0) (.slice none 0 0)) 202 (0, 0)) → w.heap.size + 2 ≤ g →
        NatV 0 u f1 n1.natAbs → NatV 0 u e1 d1.natAbs → NatV 0 u f2 n2.natAbs → NatV 0 u e2 d2.natAbs → wpMix Tryd.prog ?opsR ?QR Sx (pickX ?LR (toX [(4, 1), (5, 1), (7, 2)])) a u := by
      intro u a g f1 e1 f2 e2 hS hF hg hgw v1 v2 v3 v4
      refine x_one ?_
      refine stc hF (opp_ok u 0 0 _ f2 e2 _ _ v3 v4) cal113 ⟨rfl, trivial⟩ (k := fun a v u2 hR hF => ?_)
      obtain ⟨rfl, hb⟩ := hR
      exact wpList_nil ⟨rfl, hSb _ _ hS hb, R5 u2 _ g f1 e1 f2 e2 (hSb _ _ hS hb) (hF.keep' ⟨rfl, rfl, rfl, trivial⟩) ((hb.block _ (lt_at hg)).trans hg) hgw (v1.below hb) (v2.below hb) (v3.below hb) (v4.below hb)⟩
    have R3 : ∀ (u : World) (a : Act) (g : Nat) (f1 e1 : Value), Sx u → Fr 27 [(16, .agg (fracC (decide (n1 < 0)) f1 e1)), (17, .agg #[.int .i64 n2, .int .i64 d2]), (6, .pointer (some ⟨g, 0, none⟩))] a → u.heap[g]? = some (.cells (fracC false (.slice none 0 0) (.slice none 0 0)) 202 (0, 0)) → w.heap.size + 2 ≤ g →
        NatV 0 u f1 n1.natAbs → NatV 0 u e1 d1.natAbs → wpMix Tryd.prog ?opsR ?QR Sx (pickX ?LR (toX [(3, 1), (4, 1), (5, 1), (7, 2)])) a u := by
      intro u a g f1 e1 hS hF hg hgw v1 v2
      refine x_one ?_
      refine stc hF (of_ok u n2 d2 hn2 hd2) cal112 ⟨rfl, trivial⟩ (k := fun a v u2 hR hF => ?_)
      obtain ⟨⟨f2, e2, rfl, v3, v4⟩, hb⟩ := hR
      exact wpList_nil ⟨rfl, hSb _ _ hS hb, R4 u2 _ g f1 e1 f2 e2 (hSb _ _ hS hb) (hF.keep' ⟨rfl, rfl, rfl, trivial⟩) ((hb.block _ (lt_at hg)).trans hg) hgw (v1.below hb) (v2.below hb) (v3.mono (Nat.zero_le _)) (v4.mono (Nat.zero_le _))⟩
    have R1 : ∀ (u : World) (a : Act) (g : Nat), Sx u → Fr 27 [(15, .agg #[.int .i64 n1, .int .i64 d1]), (17, .agg #[.int .i64 n2, .int .i64 d2]), (6, .pointer (some ⟨g, 0, none⟩))] a → u.heap[g]? = some (.cells (fracC false (.slice none 0 0) (.slice none 0 0)) 202 (0, 0)) → w.heap.size + 2 ≤ g →
        wpMix Tryd.prog ?opsR ?QR Sx (pickX ?LR (toX [(1, 1), (3, 1), (4, 1), (5, 1), (7, 2)])) a u := by
      intro u a g hS hF hg hgw
      refine x_one ?_
      refine stc hF (of_ok u n1 d1 hn1 hd1) cal112 ⟨rfl, trivial⟩ (k := fun a v u2 hR hF => ?_)
      obtain ⟨⟨f1, e1, rfl, v1, v2⟩, hb⟩ := hR
      exact wpList_nil ⟨rfl, hSb _ _ hS hb, R3 u2 _ g f1 e1 (hSb _ _ hS hb) (hF.keep' ⟨rfl, rfl, rfl, trivial⟩) ((hb.block _ (lt_at hg)).trans hg) hgw (v1.mono (Nat.zero_le _)) (v2.mono (Nat.zero_le _))⟩
    have hgw : ∀ u : World, Sx u → w.heap.size + 2 ≤ u.heap.size := fun u h => h.2.2.1
    have nb : ∀ (u u' : World), u.grownBy u' none → Below u.heap.size u u' := fun u u' hg => (Below.refl _ u).grown hg (Nat.le_refl _) (fun k e => by cases e)
    -- first: Of a, or the variable
    refine a_two rfl ?_ ?_
    rotate_left
    · refine st_alloc hF fracInf (k := fun a u hg hgr hsz hF => ?_)
      exact wpList_nil ⟨rfl, hk _ _ hS0 hgr, R1 u _ _ (hk _ _ hS0 hgr) (hF.keep' ⟨rfl, rfl, rfl, trivial⟩) hg (hgw _ hS0)⟩
    refine stc hF (of_ok w5 n1 d1 hn1 hd1) cal112 ⟨rfl, trivial⟩ (k := fun a v w6 hR hF => ?_)
    obtain ⟨⟨f1, e1, rfl, v1, v2⟩, hb6⟩ := hR
    replace v1 := v1.mono (Nat.zero_le _)
    replace v2 := v2.mono (Nat.zero_le _)
    have hS6 := hSb _ _ hS0 hb6
    refine wpList_nil ⟨rfl, hS6, a_two rfl ?_ ?_⟩
    rotate_left
    · refine st_alloc hF fracInf (k := fun a u hg hgr hsz hF => ?_)
      exact wpList_nil ⟨rfl, hk _ _ hS6 hgr, R3 u _ _ f1 e1 (hk _ _ hS6 hgr) (hF.keep' ⟨rfl, rfl, rfl, trivial⟩) hg (hgw _ hS6) (v1.below (nb _ _ hgr)) (v2.below (nb _ _ hgr))⟩
    refine stc hF (of_ok w6 n2 d2 hn2 hd2) cal112 ⟨rfl, trivial⟩ (k := fun a v w7 hR hF => ?_)
    obtain ⟨⟨f2, e2, rfl, v3, v4⟩, hb7⟩ := hR
    replace v1 := v1.below hb7
    replace v2 := v2.below hb7
    replace v3 := v3.mono (Nat.zero_le _)
    replace v4 := v4.mono (Nat.zero_le _)
    have hS7 := hSb _ _ hS6 hb7
    refine wpList_nil ⟨rfl, hS7, a_two rfl ?_ ?_⟩
    rotate_left
    · refine st_alloc hF fracInf (k := fun a u hg hgr hsz hF => ?_)
      exact wpList_nil ⟨rfl, hk _ _ hS7 hgr, R4 u _ _ f1 e1 f2 e2 (hk _ _ hS7 hgr) (hF.keep' ⟨rfl, rfl, rfl, trivial⟩) hg (hgw _ hS7) (v1.below (nb _ _ hgr)) (v2.below (nb _ _ hgr)) (v3.below (nb _ _ hgr)) (v4.below (nb _ _ hgr))⟩
    refine stc hF (opp_ok w7 0 0 _ f2 e2 _ _ v3 v4) cal113 ⟨rfl, trivial⟩ (k := fun a v w8 hR hF => ?_)
    obtain ⟨rfl, hb8⟩ := hR
    replace v1 := v1.below hb8
    replace v2 := v2.below hb8
    replace v3 := v3.below hb8
    replace v4 := v4.below hb8
    have hS8 := hSb _ _ hS7 hb8
    refine wpList_nil ⟨rfl, hS8, a_two rfl ?_ ?_⟩
    rotate_left
    · refine st_alloc hF fracInf (k := fun a u hg hgr hsz hF => ?_)
      exact wpList_nil ⟨rfl, hk _ _ hS8 hgr, R5 u _ _ f1 e1 f2 e2 (hk _ _ hS8 hgr) (hF.keep' ⟨rfl, rfl, rfl, trivial⟩) hg (hgw _ hS8) (v1.below (nb _ _ hgr)) (v2.below (nb _ _ hgr)) (v3.below (nb _ _ hgr)) (v4.below (nb _ _ hgr))⟩
    refine stc hF (sum_ok w8 _ _ 0 0 0 0 f1 e1 f2 e2 _ _ _ _ v1 v2 v3 v4 m1 m2 m3 m4) cal111 ⟨rfl, rfl, trivial⟩ (k := fun a v w9 hR hF => ?_)
    obtain ⟨⟨rv, dv, rfl, hr, y, hd⟩, hb9⟩ := hR
    rw [hsg] at hF
    rw [hX] at hr
    have hS9 := hSb _ _ hS8 hb9
    refine wpList_nil ⟨rfl, hS9, a_al ?_⟩
    refine st_alloc hF fracInf (k := fun a u hg hgr hsz hF => ?_)
    exact wpList_nil ⟨rfl, hk _ _ hS9 hgr, R7 u _ _ rv dv y (hk _ _ hS9 hgr) (hF.keep' ⟨rfl, rfl, trivial⟩) hg (hgw _ hS9) (hr.below (nb _ _ hgr)) (hd.below (nb _ _ hgr))⟩
  · rintro a wq ⟨g, p, l, k, dv, hF, hg, hl, hb⟩
    have c0 : wq.cell? ⟨g, 0 + 0, none⟩ = some (.bool sg) := cell_at hg rfl
    have c1 : wq.cell? ⟨g, 0 + 1, none⟩ = some (.slice p l k) := cell_at hg rfl
    by_cases h0 : l = 0
    · subst h0
      have hX0 : X = 0 := hl.1 rfl
      repeat (first | refine c_seq ?_ | refine c_block ?_ | refine c_region _ ?_ | refine wpList_nil ?_ | refine c_then ?_ | refine c_then_exit ?_ | refine c_then_ret ?_ | refine c_in ?_ | refine c_in_ret ?_ | refine c_in_hit ?_ | refine wp_skip ?_ | refine wp_exit ?_ | refine wp_ret ?_ | refine c_in_miss rfl ?_ | (refine q_nil ?_; rintro _ ⟨ndr, rfl⟩) | refine c_region_draw _ mixed (by kernel_rfl) ?_ | ((first | apply st hF | apply stg hF | apply s_step hF | apply s_stg hF); (first | exact d_move | exact d_assign | exact d_not | exact d_pickT | exact d_pickF | exact d_cmpT | exact d_cmpF | exact d_cmp | exact d_eqbT (und _ _ rfl) | exact d_eqbF (und _ _ rfl) | exact d_eqb (und _ _ rfl) | exact d_eqST | exact d_eqSF | exact d_eqS | exact d_len (und _ _ rfl) | exact d_lens (und _ _ rfl) | exact d_fieldAddr (fld _ _ _ _ rfl) (isz _ _ rfl) | exact d_eqN (ifc _ rfl) | exact d_neN (ifc _ rfl) | exact d_load (und _ _ rfl) c0 | exact d_load (und _ _ rfl) c1); clear hF; clear a; intro a hF) | ((first | apply q_step hF | apply q_stg hF); intro wq hwq; (first | exact d_move | exact d_assign | exact d_not | exact d_pickT | exact d_pickF | exact d_cmpT | exact d_cmpF | exact d_cmp | exact d_eqbT (und _ _ rfl) | exact d_eqbF (und _ _ rfl) | exact d_eqb (und _ _ rfl) | exact d_eqST | exact d_eqSF | exact d_eqS | exact d_len (und _ _ rfl) | exact d_lens (und _ _ rfl) | exact d_fieldAddr (fld _ _ _ _ rfl) (isz _ _ rfl) | exact d_eqN (ifc _ rfl) | exact d_neN (ifc _ rfl) | exact q_load (und _ _ rfl) hwq (by exact c0) | exact q_load (und _ _ rfl) hwq (by exact c1)); clear hF; clear a; intro a hF) | ((first | apply stm hF | apply stu hF | apply q_stm hF | apply q_stu hF); clear hF; clear a; intro a hF) | (apply c_cond_t hF; exact rfl; first | exact rfl | assumption) | (apply c_cond_f hF; exact rfl; first | exact rfl | assumption) | refine s_nil ?_)
      exact ret2 hF rfl rfl rfl ⟨⟨_, _, rfl, by rw [← hab]; simp [hX0]⟩, hb⟩
    · have hX0 : X ≠ 0 := fun e => h0 (hl.2 e)
      cases hs : sg with
      | true =>
        rw [hs] at c0
        repeat (first | refine c_seq ?_ | refine c_block ?_ | refine c_region _ ?_ | refine wpList_nil ?_ | refine c_then ?_ | refine c_then_exit ?_ | refine c_then_ret ?_ | refine c_in ?_ | refine c_in_ret ?_ | refine c_in_hit ?_ | refine wp_skip ?_ | refine wp_exit ?_ | refine wp_ret ?_ | refine c_in_miss rfl ?_ | (refine q_nil ?_; rintro _ ⟨ndr, rfl⟩) | refine c_region_draw _ mixed (by kernel_rfl) ?_ | ((first | apply st hF | apply stg hF | apply s_step hF | apply s_stg hF); (first | exact d_move | exact d_assign | exact d_not | exact d_pickT | exact d_pickF | exact d_cmpT | exact d_cmpF | exact d_cmp | exact d_eqbT (und _ _ rfl) | exact d_eqbF (und _ _ rfl) | exact d_eqb (und _ _ rfl) | exact d_eqST | exact d_eqSF | exact d_eqS | exact d_len (und _ _ rfl) | exact d_lens (und _ _ rfl) | exact d_fieldAddr (fld _ _ _ _ rfl) (isz _ _ rfl) | exact d_eqN (ifc _ rfl) | exact d_neN (ifc _ rfl) | exact d_load (und _ _ rfl) c0 | exact d_load (und _ _ rfl) c1); clear hF; clear a; intro a hF) | ((first | apply q_step hF | apply q_stg hF); intro wq hwq; (first | exact d_move | exact d_assign | exact d_not | exact d_pickT | exact d_pickF | exact d_cmpT | exact d_cmpF | exact d_cmp | exact d_eqbT (und _ _ rfl) | exact d_eqbF (und _ _ rfl) | exact d_eqb (und _ _ rfl) | exact d_eqST | exact d_eqSF | exact d_eqS | exact d_len (und _ _ rfl) | exact d_lens (und _ _ rfl) | exact d_fieldAddr (fld _ _ _ _ rfl) (isz _ _ rfl) | exact d_eqN (ifc _ rfl) | exact d_neN (ifc _ rfl) | exact q_load (und _ _ rfl) hwq (by exact c0) | exact q_load (und _ _ rfl) hwq (by exact c1)); clear hF; clear a; intro a hF) | ((first | apply stm hF | apply stu hF | apply q_stm hF | apply q_stu hF); clear hF; clear a; intro a hF) | (apply c_cond_t hF; exact rfl; first | exact rfl | assumption) | (apply c_cond_f hF; exact rfl; first | exact rfl | assumption) | refine s_nil ?_)
        exact ret2 hF rfl rfl rfl ⟨⟨_, _, rfl, by rw [← hab, hs]; simp⟩, hb⟩
      | false =>
        rw [hs] at c0
        repeat (first | refine c_seq ?_ | refine c_block ?_ | refine c_region _ ?_ | refine wpList_nil ?_ | refine c_then ?_ | refine c_then_exit ?_ | refine c_then_ret ?_ | refine c_in ?_ | refine c_in_ret ?_ | refine c_in_hit ?_ | refine wp_skip ?_ | refine wp_exit ?_ | refine wp_ret ?_ | refine c_in_miss rfl ?_ | (refine q_nil ?_; rintro _ ⟨ndr, rfl⟩) | refine c_region_draw _ mixed (by kernel_rfl) ?_ | ((first | apply st hF | apply stg hF | apply s_step hF | apply s_stg hF); (first | exact d_move | exact d_assign | exact d_not | exact d_pickT | exact d_pickF | exact d_cmpT | exact d_cmpF | exact d_cmp | exact d_eqbT (und _ _ rfl) | exact d_eqbF (und _ _ rfl) | exact d_eqb (und _ _ rfl) | exact d_eqST | exact d_eqSF | exact d_eqS | exact d_len (und _ _ rfl) | exact d_lens (und _ _ rfl) | exact d_fieldAddr (fld _ _ _ _ rfl) (isz _ _ rfl) | exact d_eqN (ifc _ rfl) | exact d_neN (ifc _ rfl) | exact d_load (und _ _ rfl) c0 | exact d_load (und _ _ rfl) c1); clear hF; clear a; intro a hF) | ((first | apply q_step hF | apply q_stg hF); intro wq hwq; (first | exact d_move | exact d_assign | exact d_not | exact d_pickT | exact d_pickF | exact d_cmpT | exact d_cmpF | exact d_cmp | exact d_eqbT (und _ _ rfl) | exact d_eqbF (und _ _ rfl) | exact d_eqb (und _ _ rfl) | exact d_eqST | exact d_eqSF | exact d_eqS | exact d_len (und _ _ rfl) | exact d_lens (und _ _ rfl) | exact d_fieldAddr (fld _ _ _ _ rfl) (isz _ _ rfl) | exact d_eqN (ifc _ rfl) | exact d_neN (ifc _ rfl) | exact q_load (und _ _ rfl) hwq (by exact c0) | exact q_load (und _ _ rfl) hwq (by exact c1)); clear hF; clear a; intro a hF) | ((first | apply stm hF | apply stu hF | apply q_stm hF | apply q_stu hF); clear hF; clear a; intro a hF) | (apply c_cond_t hF; exact rfl; first | exact rfl | assumption) | (apply c_cond_f hF; exact rfl; first | exact rfl | assumption) | refine s_nil ?_)
        exact ret2 hF rfl rfl rfl ⟨⟨_, _, rfl, by rw [← hab, hs]; simp [hX0]⟩, hb⟩
theorem above_ok (w : World) (n1 d1 n2 d2 : Int) (hn1 : -9223372036854775808 ≤ n1 ∧ n1 ≤ 9223372036854775807) (hd1 : -9223372036854775808 ≤ d1 ∧ d1 ≤ 9223372036854775807) (hn2 : -9223372036854775808 ≤ n2 ∧ n2 ≤ 9223372036854775807) (hd2 : -9223372036854775808 ≤ d2 ∧ d2 ≤ 9223372036854775807) :
    Ret Tryd.prog 71 [.agg #[.int .i64 n1, .int .i64 d1], .agg #[.int .i64 n2, .int .i64 d2]].toArray w (fun v w' => (∃ b, v = .bool b ∧ (b = true ↔ (rightB n1 d1 = true ∧ rightB n2 d2 = true ∧ aboveP n1 d1 n2 d2))) ∧ Below w.heap.size w w') := by
  refine enter2 Tryd.func71 rfl 13 rfl 15 rfl (fun a hF => ?_)
  repeat (first | refine c_seq ?_ | refine c_block ?_ | refine c_region _ ?_ | refine wpList_nil ?_ | refine c_then ?_ | refine c_then_exit ?_ | refine c_then_ret ?_ | refine c_in ?_ | refine c_in_ret ?_ | refine c_in_hit ?_ | refine wp_skip ?_ | refine wp_exit ?_ | refine wp_ret ?_ | refine c_in_miss rfl ?_ | ((first | apply st hF | apply stg hF | apply s_step hF | apply s_stg hF); (first | exact d_move | exact d_assign | exact d_cmpT | exact d_cmpF | exact d_cmp | exact d_extract); clear hF; clear a; intro a hF) | ((first | apply stm hF | apply stu hF); clear hF; clear a; intro a hF) | (apply c_cond_t hF; exact rfl; first | exact rfl | assumption) | (apply c_cond_f hF; exact rfl; first | exact rfl | assumption) | refine s_nil ?_)
  refine st_box hF (cs := #[.int .i64 n1, .int .i64 d1]) rfl (k := fun a w1 hg1 hgr1 hsz1 hF => ?_)
  refine st_box hF (cs := #[.int .i64 n2, .int .i64 d2]) rfl (k := fun a w2 hg2 hgr2 hsz2 hF => ?_)
  replace hg1 := blk_kept hg1 hgr2 (by simp)
  have hb2 : Below w.heap.size w w2 := ((Below.refl _ w).grown hgr1 (Nat.le_refl _) (fun k hk => by cases hk)).grown hgr2 (by omega) (fun k hk => by cases hk)
  repeat (first | refine c_seq ?_ | refine c_block ?_ | refine c_region _ ?_ | refine wpList_nil ?_ | refine c_then ?_ | refine c_then_exit ?_ | refine c_then_ret ?_ | refine c_in ?_ | refine c_in_ret ?_ | refine c_in_hit ?_ | refine wp_skip ?_ | refine wp_exit ?_ | refine wp_ret ?_ | refine c_in_miss rfl ?_ | ((first | apply st hF | apply stg hF | apply s_step hF | apply s_stg hF); (first | exact d_move | exact d_assign | exact d_cmpT | exact d_cmpF | exact d_cmp | exact d_extract | exact d_loadAgg (agg _ rfl) (isz _ _ rfl) rfl (cells_at hg1) | exact d_loadAgg (agg _ rfl) (isz _ _ rfl) rfl (cells_at hg2)); clear hF; clear a; intro a hF) | ((first | apply stm hF | apply stu hF); clear hF; clear a; intro a hF) | (apply c_cond_t hF; exact rfl; first | exact rfl | assumption) | (apply c_cond_f hF; exact rfl; first | exact rfl | assumption) | refine s_nil ?_)
  refine stc hF (refcmp_ok w2 n1 d1 n2 d2 hn1 hd1 hn2 hd2) cal95 ⟨rfl, rfl, trivial⟩ (k := fun a v w3 hR hF => ?_)
  obtain ⟨⟨z, e, rfl, hz⟩, hb3⟩ := hR
  have hB : Below w.heap.size w w3 := hb2.trans (hb3.mono (by omega))
  by_cases h0 : 0 < z
  · repeat (first | refine c_seq ?_ | refine c_block ?_ | refine c_region _ ?_ | refine wpList_nil ?_ | refine c_then ?_ | refine c_then_exit ?_ | refine c_then_ret ?_ | refine c_in ?_ | refine c_in_ret ?_ | refine c_in_hit ?_ | refine wp_skip ?_ | refine wp_exit ?_ | refine wp_ret ?_ | refine c_in_miss rfl ?_ | ((first | apply st hF | apply stg hF | apply s_step hF | apply s_stg hF); (first | exact d_move | exact d_assign | exact d_cmpT | exact d_cmpF | exact d_cmp | exact d_extract); clear hF; clear a; intro a hF) | ((first | apply stm hF | apply stu hF); clear hF; clear a; intro a hF) | (apply c_cond_t hF; exact rfl; first | exact rfl | assumption) | (apply c_cond_f hF; exact rfl; first | exact rfl | assumption) | refine s_nil ?_)
    exact ret1 hF rfl rfl ⟨⟨_, rfl, by simp [← hz, h0]⟩, hB⟩
  · repeat (first | refine c_seq ?_ | refine c_block ?_ | refine c_region _ ?_ | refine wpList_nil ?_ | refine c_then ?_ | refine c_then_exit ?_ | refine c_then_ret ?_ | refine c_in ?_ | refine c_in_ret ?_ | refine c_in_hit ?_ | refine wp_skip ?_ | refine wp_exit ?_ | refine wp_ret ?_ | refine c_in_miss rfl ?_ | ((first | apply st hF | apply stg hF | apply s_step hF | apply s_stg hF); (first | exact d_move | exact d_assign | exact d_cmpT | exact d_cmpF | exact d_cmp | exact d_extract); clear hF; clear a; intro a hF) | ((first | apply stm hF | apply stu hF); clear hF; clear a; intro a hF) | (apply c_cond_t hF; exact rfl; first | exact rfl | assumption) | (apply c_cond_f hF; exact rfl; first | exact rfl | assumption) | refine s_nil ?_)
    exact ret1 hF rfl rfl ⟨⟨_, rfl, by simp [← hz, h0]⟩, hB⟩
end Go.Proofs.YtjomihhpglojpaaDoor
end
