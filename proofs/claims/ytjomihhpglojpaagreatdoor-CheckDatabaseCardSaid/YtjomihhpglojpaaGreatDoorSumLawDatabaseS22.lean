/- Laid together by a program of mine: RefA AloneW KeyN MapU. -/
import Derived.Test.YtjomihhpglojpaaGreatDoorSumLawDatabaseS21
import Derived.Test.YtjomihhpglojpaaGreatDoorSumLawDatabaseS17
import Derived.Test.YtjomihhpglojpaaGreatDoorSumLawDatabaseS20
import Derived.Test.YtjomihhpglojpaaGreatDoorSumLawDatabaseS4
import Derived.Test.YtjomihhpglojpaaGreatDoorSumLawDatabaseS18
import Derived.DeepKeys4
import Derived.Test.YtjomihhpglojpaaGreatDoorSumLawDatabaseS16
import Derived.Test.YtjomihhpglojpaaGreatDoorSumLawDatabaseS13
set_option linter.unusedSimpArgs false
set_option linter.unusedVariables false
section
/- The reference's fractions: Cmp, Above: walked. -/
namespace Go.Proofs.YtjomihhpglojpaaGreatDoor
open Go.RowKit
set_option linter.unusedSimpArgs false
set_option linter.unusedVariables false
attribute [local irreducible] wpList wpQuiet wpStill Code.wp Exit.then Exit.inBlock bodyPost Calls Does Does0
open Nn
set_option maxHeartbeats 8000000 in
theorem refcmp_ok (w : World) (n1 d1 n2 d2 : Int) (hn1 : -9223372036854775808 ≤ n1 ∧ n1 ≤ 9223372036854775807) (hd1 : -9223372036854775808 ≤ d1 ∧ d1 ≤ 9223372036854775807) (hn2 : -9223372036854775808 ≤ n2 ∧ n2 ≤ 9223372036854775807) (hd2 : -9223372036854775808 ≤ d2 ∧ d2 ≤ 9223372036854775807) :
    Ret Tryz.prog 83 [.agg #[.int .i64 n1, .int .i64 d1], .agg #[.int .i64 n2, .int .i64 d2]].toArray w (fun v w' => (∃ z e : Int, v = .tuple #[.int .i64 z, .int .i64 e] ∧ (0 < z ↔ (rightB n1 d1 = true ∧ rightB n2 d2 = true ∧ aboveP n1 d1 n2 d2))) ∧ Below w.heap.size w w') := by
  refine enter2 Tryz.func83 rfl 25 rfl 27 rfl (fun a hF => ?_)
  repeat (first | refine c_seq ?_ | refine c_region _ ?_)
  refine st_box hF (cs := #[.int .i64 n1, .int .i64 d1]) rfl (k := fun a w1 hg1 hgr1 hsz1 hF => ?_)
  refine st_box hF (cs := #[.int .i64 n2, .int .i64 d2]) rfl (k := fun a w2 hg2 hgr2 hsz2 hF => ?_)
  replace hg1 := blk_kept hg1 hgr2 (by simp)
  have hb2 : Below w.heap.size w w2 := ((Below.refl _ w).grown hgr1 (Nat.le_refl _) (fun k hk => by cases hk)).grown hgr2 (by omega) (fun k hk => by cases hk)
  rw [show w1.heap.size = w.heap.size + 1 by omega] at hg2 hF
  have hz2 : w2.heap.size = w.heap.size + 2 := by omega
  clear hgr1 hgr2 hsz1 hsz2
  repeat (first | refine c_seq ?_ | refine c_region _ ?_ | refine wpList_nil ?_ | refine c_then ?_ | ((apply st hF); (first | exact d_assign | exact d_loadAgg (agg _ rfl) (isz _ _ rfl) rfl (cells_at hg1)); clear hF; clear a; intro a hF))
  refine stc hF (rright_ok w2 n1 d1 hn1 hd1) cal53 ⟨rfl, trivial⟩ (k := fun a v w3 hR hF => ?_)
  obtain ⟨rfl, hb3⟩ := hR
  cases hr1 : rightB n1 d1 with
  | false =>
    rw [hr1] at hF
    repeat (first | refine c_seq ?_ | refine c_region _ ?_ | refine wpList_nil ?_ | refine c_then ?_ | refine c_then_ret ?_ | refine wp_ret ?_ | ((apply st hF); (first | exact d_move | exact d_assign | exact d_not | exact d_pickT); clear hF; clear a; intro a hF) | ((apply stm hF); clear hF; clear a; intro a hF) | (apply c_cond_t hF; exact rfl; first | exact rfl | assumption))
    exact ret2 hF rfl rfl rfl ⟨⟨_, _, rfl, by simp⟩, hb2.trans (hb3.mono (by omega))⟩
  | true =>
  rw [hr1] at hF
  have z3 := hb3.size
  replace hg1 := (hb3.block _ (by omega)).trans hg1
  replace hg2 := (hb3.block _ (by omega)).trans hg2
  repeat (((first | apply st hF | apply stg hF); (first | exact d_move | exact d_not | exact d_loadAgg (agg _ rfl) (isz _ _ rfl) rfl (cells_at hg2)); clear hF; clear a; intro a hF))
  refine stcg hF (rright_ok w3 n2 d2 hn2 hd2) cal53 ⟨rfl, trivial⟩ (k := fun a v w4 hR hF => ?_)
  obtain ⟨rfl, hb4⟩ := hR
  have hb24 : Below w.heap.size w w4 := (hb2.trans (hb3.mono (by omega))).trans (hb4.mono (by omega))
  cases hr2 : rightB n2 d2 with
  | false =>
    rw [hr2] at hF
    repeat (first | refine c_seq ?_ | refine c_region _ ?_ | refine wpList_nil ?_ | refine c_then ?_ | refine c_then_ret ?_ | refine wp_ret ?_ | ((first | apply st hF | apply stg hF); (first | exact d_assign | exact d_not | exact d_pickF); clear hF; clear a; intro a hF) | (apply c_cond_t hF; exact rfl; first | exact rfl | assumption))
    exact ret2 hF rfl rfl rfl ⟨⟨_, _, rfl, by simp⟩, hb24⟩
  | true =>
  rw [hr2] at hF
  have z4 := hb4.size
  replace hg1 := (hb4.block _ (by omega)).trans hg1
  replace hg2 := (hb4.block _ (by omega)).trans hg2
  have hp1 : 1 ≤ d1 := by unfold rightB at hr1; exact (of_decide_eq_true hr1).1
  have hp2 : 1 ≤ d2 := by unfold rightB at hr2; exact (of_decide_eq_true hr2).1
  have hz4 : w.heap.size + 2 ≤ w4.heap.size := by omega
  clear hb2 hb3 hb4 z3 z4 hz2
  have hlt3 : ∀ z : Nat, z < 18446744073709551616 → z < B 3 := fun z hz => Nat.lt_of_lt_of_le (by rw [B_2]; exact hz : z < B 2) (B_le (by decide))
  have m1 := hlt3 n1.natAbs (by omega)
  have m2 := hlt3 d1.natAbs (by omega)
  have m3 := hlt3 n2.natAbs (by omega)
  have m4 := hlt3 d2.natAbs (by omega)
  obtain ⟨X, hX⟩ : ∃ X, diffN (decide (n1 < 0)) (n1.natAbs * d2.natAbs) (!decide (n2 < 0)) (n2.natAbs * d1.natAbs) = X := ⟨_, rfl⟩
  obtain ⟨sg, hsg⟩ : ∃ sg, diffS (decide (n1 < 0)) (n1.natAbs * d2.natAbs) (!decide (n2 < 0)) (n2.natAbs * d1.natAbs) = sg := ⟨_, rfl⟩
  have hab := above_diff (n1 := n1) (n2 := n2) hp1 hp2
  rw [hX, hsg] at hab
  repeat (first | (refine c_cutH 3 (fun a' w' => ∃ g p l k dv, Fr 27 [(6, .pointer (some ⟨g, 0, none⟩))] a' ∧ w'.heap[g]? = some (.cells (fracC sg (.slice p l k) dv) 187 (0, 0)) ∧ (l = 0 ↔ X = 0) ∧ Below w.heap.size w w') ?_ ?_) | refine wpList_nil ?_ | refine c_then ?_ | refine wp_skip ?_ | ((first | apply st hF | apply stg hF); (first | exact d_not | exact d_pickF); clear hF; clear a; intro a hF) | (apply c_cond_f hF; exact rfl; first | exact rfl | assumption))
  · -- the region
    refine ⟨?_⟩
    let Sx : World → Prop := fun wq => wq.heap[w.heap.size]? = some (.cells #[.int .i64 n1, .int .i64 d1] 60 (0, 0)) ∧ wq.heap[w.heap.size + 1]? = some (.cells #[.int .i64 n2, .int .i64 d2] 60 (0, 0)) ∧ w.heap.size + 2 ≤ wq.heap.size ∧ Below w.heap.size w wq
    have hSb : ∀ u u' : World, Sx u → Below u.heap.size u u' → Sx u' := fun u u' ⟨s1, s2, s3, s4⟩ hb => ⟨(hb.block _ (by omega)).trans s1, (hb.block _ (by omega)).trans s2, by have := hb.size; omega, s4.trans (hb.mono (by omega))⟩
    refine c_region_mixA Sx 6 [(0, 0), (2, 0), (1, 1), (3, 1), (4, 1), (5, 1), (7, 2)] 3 mixed (by kernel_rfl) ⟨hg1, hg2, hz4, below_more hb24 1⟩ ?_
    intro ao hao
    obtain rfl := (Option.some.inj hao).symm
    show wpMixA Tryz.prog ?opsR ?QR Sx _ ?LR _ _ _
    have hS0 : Sx (w4.drewN 1) := ⟨hg1, hg2, hz4, below_more hb24 1⟩
    have hk : ∀ u u' : World, Sx u → u.grownBy u' none → Sx u' := fun u u' hS hg => hSb u u' hS ((Below.refl _ u).grown hg (Nat.le_refl _) (fun k e => by cases e))
    refine a_step hF rfl (fun wq hq => d_loadAgg (agg _ rfl) (isz _ _ rfl) rfl (cells_at hq.1)) rfl (fun a hF => ?_)
    refine a_step hF rfl (fun wq hq => d_loadAgg (agg _ rfl) (isz _ _ rfl) rfl (cells_at hq.2.1)) rfl (fun a hF => ?_)
    replace hF : Fr 27 [(17, .agg #[.int .i64 n2, .int .i64 d2]), (15, .agg #[.int .i64 n1, .int .i64 d1])] a := hF.keep' ⟨rfl, rfl, trivial⟩
    generalize w4.drewN 1 = w5 at hS0
    clear hg1 hg2 hb24 hz4
    -- the last store
    have R7 : ∀ (u : World) (a : Act) (g : Nat) (rv dv : Value) (y : Nat), Sx u → Fr 27 [(20, .agg (fracC sg rv dv)), (6, .pointer (some ⟨g, 0, none⟩))] a → u.heap[g]? = some (.cells (fracC false (.slice none 0 0) (.slice none 0 0)) 187 (0, 0)) → w.heap.size + 2 ≤ g → NatV 0 u rv X → NatV 0 u dv y →
        wpMix Tryz.prog ?opsR ?QR Sx (pickX ?LR (toX [(7, 2)])) a u := by
      intro u a g rv dv y hS hF hg hgw hr hd
      obtain ⟨p, k, l, rfl, hl0, _⟩ := nat_pos hr
      simp only [toX, List.map_cons, List.map_nil, pickX, List.filterMap_cons, List.getElem?_cons_zero, List.getElem?_cons_succ, List.filterMap_nil, Option.map_some]
      refine x_one ?_
      refine st_storeAgg hF (cs := fracC sg (.slice p l k) dv) (isz _ _ rfl) rfl rfl hg (frac_one hr hd) (k := fun a w9 hf9 hgr9 hsz9 hF => ?_)
      obtain ⟨s1, s2, s3, s4⟩ := hS
      have hb9 : Below w.heap.size w w9 := s4.grown hgr9 (by omega) (fun q e => by cases e; omega)
      exact wpList_nil ⟨rfl, ⟨blk_kept s1 hgr9 (by simp; omega), blk_kept s2 hgr9 (by simp; omega), by omega, hb9⟩, x_nil (c_then ⟨g, p, l, k, dv, hF.keep' ⟨rfl, trivial⟩, hf9, hl0, hb9⟩)⟩
    -- the sum, when the variable is there
    have R5 : ∀ (u : World) (a : Act) (g : Nat) (f1 e1 f2 e2 : Value), Sx u → Fr 27 [(16, .agg (fracC (decide (n1 < 0)) f1 e1)), (19, .agg (fracC (!decide (n2 < 0)) f2 e2)), (6, .pointer (some ⟨g, 0, none⟩))] a → u.heap[g]? = some (.cells (fracC false (.slice none 0 0) (.slice none 0 0)) 187 (0, 0)) → w.heap.size + 2 ≤ g →
        NatV 0 u f1 n1.natAbs → NatV 0 u e1 d1.natAbs → NatV 0 u f2 n2.natAbs → NatV 0 u e2 d2.natAbs → wpMix Tryz.prog ?opsR ?QR Sx (pickX ?LR (toX [(5, 1), (7, 2)])) a u := by
      intro u a g f1 e1 f2 e2 hS hF hg hgw v1 v2 v3 v4
      refine x_one ?_
      refine stc hF (sum_ok u _ _ 0 0 0 0 f1 e1 f2 e2 _ _ _ _ v1 v2 v3 v4 m1 m2 m3 m4) cal106 ⟨rfl, rfl, trivial⟩ (k := fun a v u2 hR hF => ?_)
      obtain ⟨⟨rv, dv, rfl, hr, y, hd⟩, hb⟩ := hR
      rw [hsg] at hF
      rw [hX] at hr
      exact wpList_nil ⟨rfl, hSb _ _ hS hb, R7 u2 _ g rv dv y (hSb _ _ hS hb) (hF.keep' ⟨rfl, rfl, trivial⟩) ((hb.block _ (lt_at hg)).trans hg) hgw hr hd⟩
    have R4 : ∀ (u : World) (a : Act) (g : Nat) (f1 e1 f2 e2 : Value), Sx u → Fr 27 [(16, .agg (fracC (decide (n1 < 0)) f1 e1)), (18, .agg (fracC (decide (n2 < 0)) f2 e2)), (6, .pointer (some ⟨g, 0, none⟩))] a → u.heap[g]? = some (.cells (fracC false (.slice none 0 0) (.slice none 0 0)) 187 (0, 0)) → w.heap.size + 2 ≤ g →
        NatV 0 u f1 n1.natAbs → NatV 0 u e1 d1.natAbs → NatV 0 u f2 n2.natAbs → NatV 0 u e2 d2.natAbs → wpMix Tryz.prog ?opsR ?QR Sx (pickX ?LR (toX [(4, 1), (5, 1), (7, 2)])) a u := by
      intro u a g f1 e1 f2 e2 hS hF hg hgw v1 v2 v3 v4
      refine x_one ?_
      refine stc hF (opp_ok u 0 0 _ f2 e2 _ _ v3 v4) cal108 ⟨rfl, trivial⟩ (k := fun a v u2 hR hF => ?_)
      obtain ⟨rfl, hb⟩ := hR
      exact wpList_nil ⟨rfl, hSb _ _ hS hb, R5 u2 _ g f1 e1 f2 e2 (hSb _ _ hS hb) (hF.keep' ⟨rfl, rfl, rfl, trivial⟩) ((hb.block _ (lt_at hg)).trans hg) hgw (v1.below hb) (v2.below hb) (v3.below hb) (v4.below hb)⟩
    have R3 : ∀ (u : World) (a : Act) (g : Nat) (f1 e1 : Value), Sx u → Fr 27 [(16, .agg (fracC (decide (n1 < 0)) f1 e1)), (17, .agg #[.int .i64 n2, .int .i64 d2]), (6, .pointer (some ⟨g, 0, none⟩))] a → u.heap[g]? = some (.cells (fracC false (.slice none 0 0) (.slice none 0 0)) 187 (0, 0)) → w.heap.size + 2 ≤ g →
        NatV 0 u f1 n1.natAbs → NatV 0 u e1 d1.natAbs → wpMix Tryz.prog ?opsR ?QR Sx (pickX ?LR (toX [(3, 1), (4, 1), (5, 1), (7, 2)])) a u := by
      intro u a g f1 e1 hS hF hg hgw v1 v2
      refine x_one ?_
      refine stc hF (of_ok u n2 d2 hn2 hd2) cal107 ⟨rfl, trivial⟩ (k := fun a v u2 hR hF => ?_)
      obtain ⟨⟨f2, e2, rfl, v3, v4⟩, hb⟩ := hR
      exact wpList_nil ⟨rfl, hSb _ _ hS hb, R4 u2 _ g f1 e1 f2 e2 (hSb _ _ hS hb) (hF.keep' ⟨rfl, rfl, rfl, trivial⟩) ((hb.block _ (lt_at hg)).trans hg) hgw (v1.below hb) (v2.below hb) (v3.mono (Nat.zero_le _)) (v4.mono (Nat.zero_le _))⟩
    have R1 : ∀ (u : World) (a : Act) (g : Nat), Sx u → Fr 27 [(15, .agg #[.int .i64 n1, .int .i64 d1]), (17, .agg #[.int .i64 n2, .int .i64 d2]), (6, .pointer (some ⟨g, 0, none⟩))] a → u.heap[g]? = some (.cells (fracC false (.slice none 0 0) (.slice none 0 0)) 187 (0, 0)) → w.heap.size + 2 ≤ g →
        wpMix Tryz.prog ?opsR ?QR Sx (pickX ?LR (toX [(1, 1), (3, 1), (4, 1), (5, 1), (7, 2)])) a u := by
      intro u a g hS hF hg hgw
      refine x_one ?_
      refine stc hF (of_ok u n1 d1 hn1 hd1) cal107 ⟨rfl, trivial⟩ (k := fun a v u2 hR hF => ?_)
      obtain ⟨⟨f1, e1, rfl, v1, v2⟩, hb⟩ := hR
      exact wpList_nil ⟨rfl, hSb _ _ hS hb, R3 u2 _ g f1 e1 (hSb _ _ hS hb) (hF.keep' ⟨rfl, rfl, rfl, trivial⟩) ((hb.block _ (lt_at hg)).trans hg) hgw (v1.mono (Nat.zero_le _)) (v2.mono (Nat.zero_le _))⟩
    have hgw : ∀ u : World, Sx u → w.heap.size + 2 ≤ u.heap.size := fun u h => h.2.2.1
    have nb : ∀ (u u' : World), u.grownBy u' none → Below u.heap.size u u' := fun u u' hg => (Below.refl _ u).grown hg (Nat.le_refl _) (fun k e => by cases e)
    -- first: Of a, or the variable
    refine a_two rfl ?_ ?_
    rotate_left
    · refine st_alloc hF fracInf (k := fun a u hg hgr hsz hF => ?_)
      exact wpList_nil ⟨rfl, hk _ _ hS0 hgr, R1 u _ _ (hk _ _ hS0 hgr) (hF.keep' ⟨rfl, rfl, rfl, trivial⟩) hg (hgw _ hS0)⟩
    refine stc hF (of_ok w5 n1 d1 hn1 hd1) cal107 ⟨rfl, trivial⟩ (k := fun a v w6 hR hF => ?_)
    obtain ⟨⟨f1, e1, rfl, v1, v2⟩, hb6⟩ := hR
    replace v1 := v1.mono (Nat.zero_le _)
    replace v2 := v2.mono (Nat.zero_le _)
    have hS6 := hSb _ _ hS0 hb6
    refine wpList_nil ⟨rfl, hS6, a_two rfl ?_ ?_⟩
    rotate_left
    · refine st_alloc hF fracInf (k := fun a u hg hgr hsz hF => ?_)
      exact wpList_nil ⟨rfl, hk _ _ hS6 hgr, R3 u _ _ f1 e1 (hk _ _ hS6 hgr) (hF.keep' ⟨rfl, rfl, rfl, trivial⟩) hg (hgw _ hS6) (v1.below (nb _ _ hgr)) (v2.below (nb _ _ hgr))⟩
    refine stc hF (of_ok w6 n2 d2 hn2 hd2) cal107 ⟨rfl, trivial⟩ (k := fun a v w7 hR hF => ?_)
    obtain ⟨⟨f2, e2, rfl, v3, v4⟩, hb7⟩ := hR
    replace v1 := v1.below hb7
    replace v2 := v2.below hb7
    replace v3 := v3.mono (Nat.zero_le _)
    replace v4 := v4.mono (Nat.zero_le _)
    have hS7 := hSb _ _ hS6 hb7
    refine wpList_nil ⟨rfl, hS7, a_two rfl ?_ ?_⟩
    rotate_left
    · refine st_alloc hF fracInf (k := fun a u hg hgr hsz hF => ?_)
      exact wpList_nil ⟨rfl, hk _ _ hS7 hgr, R4 u _ _ f1 e1 f2 e2 (hk _ _ hS7 hgr) (hF.keep' ⟨rfl, rfl, rfl, trivial⟩) hg (hgw _ hS7) (v1.below (nb _ _ hgr)) (v2.below (nb _ _ hgr)) (v3.below (nb _ _ hgr)) (v4.below (nb _ _ hgr))⟩
    refine stc hF (opp_ok w7 0 0 _ f2 e2 _ _ v3 v4) cal108 ⟨rfl, trivial⟩ (k := fun a v w8 hR hF => ?_)
    obtain ⟨rfl, hb8⟩ := hR
    replace v1 := v1.below hb8
    replace v2 := v2.below hb8
    replace v3 := v3.below hb8
    replace v4 := v4.below hb8
    have hS8 := hSb _ _ hS7 hb8
    refine wpList_nil ⟨rfl, hS8, a_two rfl ?_ ?_⟩
    rotate_left
    · refine st_alloc hF fracInf (k := fun a u hg hgr hsz hF => ?_)
      exact wpList_nil ⟨rfl, hk _ _ hS8 hgr, R5 u _ _ f1 e1 f2 e2 (hk _ _ hS8 hgr) (hF.keep' ⟨rfl, rfl, rfl, trivial⟩) hg (hgw _ hS8) (v1.below (nb _ _ hgr)) (v2.below (nb _ _ hgr)) (v3.below (nb _ _ hgr)) (v4.below (nb _ _ hgr))⟩
    refine stc hF (sum_ok w8 _ _ 0 0 0 0 f1 e1 f2 e2 _ _ _ _ v1 v2 v3 v4 m1 m2 m3 m4) cal106 ⟨rfl, rfl, trivial⟩ (k := fun a v w9 hR hF => ?_)
    obtain ⟨⟨rv, dv, rfl, hr, y, hd⟩, hb9⟩ := hR
    rw [hsg] at hF
    rw [hX] at hr
    have hS9 := hSb _ _ hS8 hb9
    refine wpList_nil ⟨rfl, hS9, a_al ?_⟩
    refine st_alloc hF fracInf (k := fun a u hg hgr hsz hF => ?_)
    exact wpList_nil ⟨rfl, hk _ _ hS9 hgr, R7 u _ _ rv dv y (hk _ _ hS9 hgr) (hF.keep' ⟨rfl, rfl, trivial⟩) hg (hgw _ hS9) (hr.below (nb _ _ hgr)) (hd.below (nb _ _ hgr))⟩
  · rintro a wq ⟨g, p, l, k, dv, hF, hg, hl, hb⟩
    have c0 : wq.cell? ⟨g, 0 + 0, none⟩ = some (.bool sg) := cell_at hg rfl
    have c1 : wq.cell? ⟨g, 0 + 1, none⟩ = some (.slice p l k) := cell_at hg rfl
    by_cases h0 : l = 0
    · subst h0
      have hX0 : X = 0 := hl.1 rfl
      repeat (first | refine c_seq ?_ | refine c_region _ ?_ | refine wpList_nil ?_ | refine c_then ?_ | refine c_then_ret ?_ | refine wp_ret ?_ | ((apply st hF); (first | exact d_assign | exact d_cmpT | exact d_len (und _ _ rfl) | exact d_fieldAddr (fld _ _ _ _ rfl) (isz _ _ rfl) | exact d_load (und _ _ rfl) c1); clear hF; clear a; intro a hF) | (apply c_cond_t hF; exact rfl; first | exact rfl | assumption))
      exact ret2 hF rfl rfl rfl ⟨⟨_, _, rfl, by rw [← hab]; simp [hX0]⟩, hb⟩
    · have hX0 : X ≠ 0 := fun e => h0 (hl.2 e)
      cases hs : sg with
      | true =>
        rw [hs] at c0
        repeat (first | refine c_seq ?_ | refine c_region _ ?_ | refine wpList_nil ?_ | refine c_then ?_ | refine c_then_ret ?_ | refine wp_skip ?_ | refine wp_ret ?_ | ((apply st hF); (first | exact d_assign | exact d_cmpF | exact d_len (und _ _ rfl) | exact d_fieldAddr (fld _ _ _ _ rfl) (isz _ _ rfl) | exact d_load (und _ _ rfl) c0 | exact d_load (und _ _ rfl) c1); clear hF; clear a; intro a hF) | (apply c_cond_t hF; exact rfl; first | exact rfl | assumption) | (apply c_cond_f hF; exact rfl; first | exact rfl | assumption))
        exact ret2 hF rfl rfl rfl ⟨⟨_, _, rfl, by rw [← hab, hs]; simp⟩, hb⟩
      | false =>
        rw [hs] at c0
        repeat (first | refine c_seq ?_ | refine c_region _ ?_ | refine wpList_nil ?_ | refine c_then ?_ | refine wp_skip ?_ | refine wp_ret ?_ | ((apply st hF); (first | exact d_assign | exact d_cmpF | exact d_len (und _ _ rfl) | exact d_fieldAddr (fld _ _ _ _ rfl) (isz _ _ rfl) | exact d_load (und _ _ rfl) c0 | exact d_load (und _ _ rfl) c1); clear hF; clear a; intro a hF) | (apply c_cond_f hF; exact rfl; first | exact rfl | assumption))
        exact ret2 hF rfl rfl rfl ⟨⟨_, _, rfl, by rw [← hab, hs]; simp [hX0]⟩, hb⟩
theorem above_ok (w : World) (n1 d1 n2 d2 : Int) (hn1 : -9223372036854775808 ≤ n1 ∧ n1 ≤ 9223372036854775807) (hd1 : -9223372036854775808 ≤ d1 ∧ d1 ≤ 9223372036854775807) (hn2 : -9223372036854775808 ≤ n2 ∧ n2 ≤ 9223372036854775807) (hd2 : -9223372036854775808 ≤ d2 ∧ d2 ≤ 9223372036854775807) :
    Ret Tryz.prog 54 [.agg #[.int .i64 n1, .int .i64 d1], .agg #[.int .i64 n2, .int .i64 d2]].toArray w (fun v w' => (∃ b, v = .bool b ∧ (b = true ↔ (rightB n1 d1 = true ∧ rightB n2 d2 = true ∧ aboveP n1 d1 n2 d2))) ∧ Below w.heap.size w w') := by
  refine enter2 Tryz.func54 rfl 13 rfl 15 rfl (fun a hF => ?_)
  repeat (first | refine c_seq ?_ | refine c_region _ ?_)
  refine st_box hF (cs := #[.int .i64 n1, .int .i64 d1]) rfl (k := fun a w1 hg1 hgr1 hsz1 hF => ?_)
  refine st_box hF (cs := #[.int .i64 n2, .int .i64 d2]) rfl (k := fun a w2 hg2 hgr2 hsz2 hF => ?_)
  replace hg1 := blk_kept hg1 hgr2 (by simp)
  have hb2 : Below w.heap.size w w2 := ((Below.refl _ w).grown hgr1 (Nat.le_refl _) (fun k hk => by cases hk)).grown hgr2 (by omega) (fun k hk => by cases hk)
  repeat (first | refine c_seq ?_ | refine c_region _ ?_ | refine wpList_nil ?_ | refine c_then ?_ | ((apply st hF); (first | exact d_assign | exact d_loadAgg (agg _ rfl) (isz _ _ rfl) rfl (cells_at hg1) | exact d_loadAgg (agg _ rfl) (isz _ _ rfl) rfl (cells_at hg2)); clear hF; clear a; intro a hF))
  refine stc hF (refcmp_ok w2 n1 d1 n2 d2 hn1 hd1 hn2 hd2) cal83 ⟨rfl, rfl, trivial⟩ (k := fun a v w3 hR hF => ?_)
  obtain ⟨⟨z, e, rfl, hz⟩, hb3⟩ := hR
  have hB : Below w.heap.size w w3 := hb2.trans (hb3.mono (by omega))
  by_cases h0 : 0 < z
  · repeat (first | refine c_seq ?_ | refine c_region _ ?_ | refine wpList_nil ?_ | refine c_then ?_ | refine wp_ret ?_ | ((apply st hF); (first | exact d_move | exact d_assign | exact d_cmpT | exact d_extract); clear hF; clear a; intro a hF))
    exact ret1 hF rfl rfl ⟨⟨_, rfl, by simp [← hz, h0]⟩, hB⟩
  · repeat (first | refine c_seq ?_ | refine c_region _ ?_ | refine wpList_nil ?_ | refine c_then ?_ | refine wp_ret ?_ | ((apply st hF); (first | exact d_move | exact d_assign | exact d_cmpF | exact d_extract); clear hF; clear a; intro a hF))
    exact ret1 hF rfl rfl ⟨⟨_, rfl, by simp [← hz, h0]⟩, hB⟩
end Go.Proofs.YtjomihhpglojpaaGreatDoor
end
section
/- The reference's alone, walked. -/
namespace Go.Proofs.YtjomihhpglojpaaGreatDoor
open Go.RowKit
set_option linter.unusedSimpArgs false
set_option linter.unusedVariables false
attribute [local irreducible] wpList wpQuiet wpStill Code.wp Exit.then Exit.inBlock bodyPost Calls Does Does0
set_option maxRecDepth 100000
set_option maxHeartbeats 8000000 in
theorem ralone_ok (w : World) (s : Sig) (ss : List ByteArray) (n : Int) (hs : SigIn w s ss) (hB : SigB s) :
    Ret Tryz.prog 23 [.agg (Sig.cells s).toArray, .int .i64 n].toArray w (fun v w' => v = .int .i64 (aloneE s ss n) ∧ Below w.heap.size w w') := by
  refine enter2 Tryz.func23 rfl 72 rfl 74 rfl (fun a hF => ?_)
  unfold aloneE
  repeat (first | refine c_seq ?_ | refine c_region _ ?_)
  refine st_box hF (cs := (Sig.cells s).toArray) rfl (k := fun a w1 hg1 hgr1 hsz1 hF => ?_)
  have hb1 : Below w.heap.size w w1 := (Below.refl _ w).grown hgr1 (Nat.le_refl _) (fun k hk => by cases hk)
  have sc : ∀ (wq : World) (o : Nat) (x : Value), wq.heap[w.heap.size]? = some (.cells (Sig.cells s).toArray 62 (0, 0)) → (Sig.cells s)[o]? = some x → wq.cell? ⟨w.heap.size, 0 + o, none⟩ = some x := fun wq o x hg h => cell_at hg (by simpa using h)
  have pr : ∀ (wq : World) (o : Nat) (x y : Value), wq.heap[w.heap.size]? = some (.cells (Sig.cells s).toArray 62 (0, 0)) → (Sig.cells s)[o]? = some x → (Sig.cells s)[o + 1]? = some y → ∀ j v, (#[x, y] : Array Value)[j]? = some v → wq.cell? ⟨w.heap.size, 0 + o + j, none⟩ = some v := by
    intro wq o x y hg h0 h1 j v hj
    rcases j with _ | _ | j
    · simp at hj; subst hj; rw [Nat.add_zero, Nat.zero_add]; exact cell_at hg (by simpa using h0)
    · simp at hj; subst hj; rw [Nat.zero_add]; exact cell_at hg (by simpa using h1)
    · simp at hj
  repeat (first | refine c_seq ?_ | refine c_region _ ?_ | refine wpList_nil ?_ | refine c_then ?_ | ((apply st hF); (first | exact d_assign | exact d_fieldAddr (fld _ _ _ _ rfl) (isz _ _ rfl) | exact d_load (und _ _ rfl) (sc w1 2 _ hg1 rfl)); clear hF; clear a; intro a hF))
  refine stc hF (rword_ok' w1 s.name) cal51 ⟨rfl, trivial⟩ (k := fun a v w2 hR hF => ?_)
  obtain ⟨rfl, hb2⟩ := hR
  have hB2 := hb1.trans (hb2.mono hb1.size)
  have hg2 := (hb2.block _ (lt_at hg1)).trans hg1
  cases hw : wordB s.name with
  | false =>
    rw [hw] at hF
    repeat (first | refine c_seq ?_ | refine c_region _ ?_ | refine wpList_nil ?_ | refine c_then ?_ | refine c_then_ret ?_ | refine wp_ret ?_ | ((apply st hF); (first | exact d_assign | exact d_not); clear hF; clear a; intro a hF) | (apply c_cond_t hF; exact rfl; first | exact rfl | assumption))
    exact ret1 hF rfl rfl ⟨by rw [if_pos rfl], hB2⟩
  | true =>
  rw [hw] at hF
  rw [if_neg (by decide)]
  have go : roleB s ∨ ¬ roleB s := Classical.em _
  have r0 := sc w2 3 _ hg2 rfl
  have r1 := sc w2 4 _ hg2 rfl
  rcases go with hr | hr
  · rw [if_pos hr]
    by_cases c1 : s.role < 0
    · repeat (first | refine c_seq ?_ | refine c_region _ ?_ | refine wpList_nil ?_ | refine c_then ?_ | refine c_then_ret ?_ | refine wp_skip ?_ | refine wp_ret ?_ | ((apply st hF); (first | exact d_move | exact d_assign | exact d_not | exact d_pickT | exact d_cmpT | exact d_fieldAddr (fld _ _ _ _ rfl) (isz _ _ rfl) | exact d_load (und _ _ rfl) r0); clear hF; clear a; intro a hF) | ((first | apply stm hF | apply stu hF); clear hF; clear a; intro a hF) | (apply c_cond_t hF; exact rfl; first | exact rfl | assumption) | (apply c_cond_f hF; exact rfl; first | exact rfl | assumption))
      exact ret1 hF rfl rfl ⟨rfl, hB2⟩
    by_cases c2 : s.role > 2
    · repeat (first | refine c_seq ?_ | refine c_region _ ?_ | refine wpList_nil ?_ | refine c_then ?_ | refine c_then_ret ?_ | refine wp_skip ?_ | refine wp_ret ?_ | ((first | apply st hF | apply stg hF); (first | exact d_move | exact d_assign | exact d_not | exact d_pickT | exact d_pickF | exact d_cmpT | exact d_cmpF | exact d_fieldAddr (fld _ _ _ _ rfl) (isz _ _ rfl) | exact d_load (und _ _ rfl) r0); clear hF; clear a; intro a hF) | ((first | apply stm hF | apply stu hF); clear hF; clear a; intro a hF) | (apply c_cond_t hF; exact rfl; first | exact rfl | assumption) | (apply c_cond_f hF; exact rfl; first | exact rfl | assumption))
      exact ret1 hF rfl rfl ⟨rfl, hB2⟩
    obtain ⟨c3, c4⟩ : s.branch ≠ 0 ∧ s.role ≠ 2 := by
      rcases hr with h | h | h
      · exact absurd h c1
      · exact absurd h c2
      · exact h
    repeat (first | refine c_seq ?_ | refine c_region _ ?_ | refine wpList_nil ?_ | refine c_then ?_ | refine c_then_ret ?_ | refine wp_skip ?_ | refine wp_ret ?_ | ((first | apply st hF | apply stg hF); (first | exact d_move | exact d_assign | exact d_not | exact d_pickT | exact d_pickF | exact d_cmpT | exact d_cmpF | exact d_fieldAddr (fld _ _ _ _ rfl) (isz _ _ rfl) | exact d_load (und _ _ rfl) r0 | exact d_load (und _ _ rfl) r1); clear hF; clear a; intro a hF) | (apply c_cond_t hF; exact rfl; first | exact rfl | assumption) | (apply c_cond_f hF; exact rfl; first | exact rfl | assumption))
    exact ret1 hF rfl rfl ⟨rfl, hB2⟩
  rw [if_neg hr]
  have c1 : ¬ s.role < 0 := fun h => hr (.inl h)
  have c2 : ¬ s.role > 2 := fun h => hr (.inr (.inl h))
  have c3 : s.branch = 0 ∨ s.role = 2 := by
    by_cases h : s.branch = 0
    · exact .inl h
    · exact .inr (Classical.byContradiction fun h2 => hr (.inr (.inr ⟨h, h2⟩)))
  clear hr r0 r1 hb1 hb2 hg1
  rcases Classical.em (s.branch = 0) with c4 | c4
  all_goals
    repeat (first | refine c_seq ?_ | refine c_region _ ?_ | refine wpList_nil ?_ | refine c_then ?_ | refine wp_skip ?_ | ((first | apply st hF | apply stg hF); (first | exact d_move | exact d_not | exact d_pickT | exact d_pickF | exact d_cmpT | exact d_cmpF | exact d_fieldAddr (fld _ _ _ _ rfl) (isz _ _ rfl) | exact d_loadAgg (agg _ rfl) (isz _ _ rfl) rfl (cells_at hg2) | exact d_load (und _ _ rfl) (sc w2 3 _ hg2 rfl) | exact d_load (und _ _ rfl) (sc w2 4 _ hg2 rfl)); clear hF; clear a; intro a hF) | ((apply stm hF); clear hF; clear a; intro a hF) | (apply c_cond_f hF; exact rfl; first | exact rfl | assumption))
    refine stc hF (rwhere_ok w2 (Sig.cells s).toArray s.start s.size n s.mot ⟨rfl, rfl, rfl, rfl⟩) cal52 ⟨rfl, rfl, trivial⟩ (k := fun a v w3 hR hF => ?_)
    obtain ⟨rfl, hb3⟩ := hR
    have hB3 := hB2.trans (hb3.mono hB2.size)
    have hg3 := (hb3.block _ (lt_at hg2)).trans hg2
    clear hb3 hg2
    replace hF := hF.keep' (l' := [(2, .pointer (some ⟨w.heap.size, 0, none⟩)), (30, .int .i64 (Pl.whereE s.start s.size s.mot n)), (4, .int .i64 0)]) ⟨rfl, rfl, rfl, trivial⟩
    generalize Pl.whereE s.start s.size s.mot n = we at hF ⊢
    by_cases hwe : we = 0
    case neg =>
      rw [if_pos hwe]
      repeat (first | refine c_seq ?_ | refine c_region _ ?_ | refine wpList_nil ?_ | refine c_then ?_ | refine c_then_ret ?_ | refine wp_ret ?_ | ((apply st hF); (first | exact d_move | exact d_assign | exact d_cmpT); clear hF; clear a; intro a hF) | (apply c_cond_t hF; exact rfl; first | exact rfl | assumption))
      exact ret1 hF rfl rfl ⟨rfl, hB3⟩
    rw [if_neg (fun h => h hwe)]
    repeat (first | refine c_seq ?_ | refine c_region _ ?_ | refine wpList_nil ?_ | refine c_then ?_ | refine wp_skip ?_ | ((apply st hF); (first | exact d_move | exact d_assign | exact d_cmpF | exact d_fieldAddr (fld _ _ _ _ rfl) (isz _ _ rfl) | exact d_loadAgg (agg _ rfl) (isz _ _ rfl) rfl (pr w3 9 (.int .i64 s.sn) (.int .i64 s.sd) hg3 rfl rfl)); clear hF; clear a; intro a hF) | (apply c_cond_f hF; exact rfl; first | exact rfl | assumption))
    refine stc hF (rright_ok w3 s.sn s.sd hB.sn hB.sd) cal53 ⟨rfl, trivial⟩ (k := fun a v w4 hR hF => ?_)
    obtain ⟨rfl, hb4⟩ := hR
    have hB4 := hB3.trans (hb4.mono hB3.size)
    have hg4 := (hb4.block _ (lt_at hg3)).trans hg3
    clear hb4 hg3
    cases h0 : rightB s.sn s.sd with
    | false =>
      rw [h0] at hF
      rw [ranged_bad (j := 0) (by decide) h0, if_pos (by decide)]
      repeat (first | refine c_seq ?_ | refine c_region _ ?_ | refine wpList_nil ?_ | refine c_then ?_ | refine c_then_ret ?_ | refine wp_ret ?_ | ((apply st hF); (first | exact d_move | exact d_assign | exact d_not | exact d_pickT); clear hF; clear a; intro a hF) | ((apply stm hF); clear hF; clear a; intro a hF) | (apply c_cond_t hF; exact rfl; first | exact rfl | assumption))
      exact ret1 hF rfl rfl ⟨rfl, hB4⟩
    | true =>
    rw [h0] at hF
    repeat (((first | apply st hF | apply stg hF); (first | exact d_move | exact d_not | exact d_fieldAddr (fld _ _ _ _ rfl) (isz _ _ rfl) | exact d_loadAgg (agg _ rfl) (isz _ _ rfl) rfl (pr w4 11 (.int .i64 s.fn) (.int .i64 s.fd) hg4 rfl rfl)); clear hF; clear a; intro a hF))
    refine stcg hF (rright_ok w4 s.fn s.fd hB.fn hB.fd) cal53 ⟨rfl, trivial⟩ (k := fun a v w5 hR hF => ?_)
    obtain ⟨rfl, hb5⟩ := hR
    have hB5 := hB4.trans (hb5.mono hB4.size)
    have hg5 := (hb5.block _ (lt_at hg4)).trans hg4
    clear hb5 hg4
    cases h1 : rightB s.fn s.fd with
    | false =>
      rw [h1] at hF
      rw [ranged_bad (j := 1) (by decide) h1, if_pos (by decide)]
      repeat (first | refine c_seq ?_ | refine c_region _ ?_ | refine wpList_nil ?_ | refine c_then ?_ | refine c_then_ret ?_ | refine wp_ret ?_ | ((first | apply st hF | apply stg hF); (first | exact d_move | exact d_assign | exact d_not | exact d_pickT | exact d_pickF); clear hF; clear a; intro a hF) | ((apply stm hF); clear hF; clear a; intro a hF) | (apply c_cond_t hF; exact rfl; first | exact rfl | assumption))
      exact ret1 hF rfl rfl ⟨rfl, hB5⟩
    | true =>
    rw [h1] at hF
    repeat (((first | apply st hF | apply stg hF); (first | exact d_move | exact d_not | exact d_pickF | exact d_fieldAddr (fld _ _ _ _ rfl) (isz _ _ rfl) | exact d_loadAgg (agg _ rfl) (isz _ _ rfl) rfl (pr w5 13 (.int .i64 s.mn) (.int .i64 s.md) hg5 rfl rfl)); clear hF; clear a; intro a hF))
    refine stcg hF (rright_ok w5 s.mn s.md hB.mn hB.md) cal53 ⟨rfl, trivial⟩ (k := fun a v w6 hR hF => ?_)
    obtain ⟨rfl, hb6⟩ := hR
    have hB6 := hB5.trans (hb6.mono hB5.size)
    have hg6 := (hb6.block _ (lt_at hg5)).trans hg5
    clear hb6 hg5
    cases h2 : rightB s.mn s.md with
    | false =>
      rw [h2] at hF
      rw [ranged_bad (j := 2) (by decide) h2, if_pos (by decide)]
      repeat (first | refine c_seq ?_ | refine c_region _ ?_ | refine wpList_nil ?_ | refine c_then ?_ | refine c_then_ret ?_ | refine wp_ret ?_ | ((first | apply st hF | apply stg hF); (first | exact d_move | exact d_assign | exact d_not | exact d_pickT | exact d_pickF); clear hF; clear a; intro a hF) | ((apply stm hF); clear hF; clear a; intro a hF) | (apply c_cond_t hF; exact rfl; first | exact rfl | assumption))
      exact ret1 hF rfl rfl ⟨rfl, hB6⟩
    | true =>
    rw [h2] at hF
    repeat (((first | apply st hF | apply stg hF); (first | exact d_move | exact d_not | exact d_pickF | exact d_fieldAddr (fld _ _ _ _ rfl) (isz _ _ rfl) | exact d_loadAgg (agg _ rfl) (isz _ _ rfl) rfl (pr w6 15 (.int .i64 s.xn) (.int .i64 s.xd) hg6 rfl rfl)); clear hF; clear a; intro a hF))
    refine stcg hF (rright_ok w6 s.xn s.xd hB.xn hB.xd) cal53 ⟨rfl, trivial⟩ (k := fun a v w7 hR hF => ?_)
    obtain ⟨rfl, hb7⟩ := hR
    have hB7 := hB6.trans (hb7.mono hB6.size)
    have hg7 := (hb7.block _ (lt_at hg6)).trans hg6
    clear hb7 hg6
    cases h3 : rightB s.xn s.xd with
    | false =>
      rw [h3] at hF
      rw [ranged_bad (j := 3) (by decide) h3, if_pos (by decide)]
      repeat (first | refine c_seq ?_ | refine c_region _ ?_ | refine wpList_nil ?_ | refine c_then ?_ | refine c_then_ret ?_ | refine wp_ret ?_ | ((first | apply st hF | apply stg hF); (first | exact d_assign | exact d_not | exact d_pickF); clear hF; clear a; intro a hF) | (apply c_cond_t hF; exact rfl; first | exact rfl | assumption))
      exact ret1 hF rfl rfl ⟨rfl, hB7⟩
    | true =>
    rw [h3] at hF
    have hrg : rangedE s = if s.sn = 0 then 10 else if aboveP s.mn s.md s.xn s.xd then 18 else 0 := ranged_ok' (fun j hj => by
      rcases (show j = 0 ∨ j = 1 ∨ j = 2 ∨ j = 3 by omega) with rfl | rfl | rfl | rfl
      · exact h0
      · exact h1
      · exact h2
      · exact h3)
    rw [hrg]
    by_cases hz : s.sn = 0
    · rw [if_pos hz, if_pos (by decide)]
      repeat (first | refine c_seq ?_ | refine c_region _ ?_ | refine wpList_nil ?_ | refine c_then ?_ | refine c_then_ret ?_ | refine wp_skip ?_ | refine wp_ret ?_ | ((first | apply st hF | apply stg hF); (first | exact d_assign | exact d_not | exact d_pickF | exact d_cmpT | exact d_fieldAddr (fld _ _ _ _ rfl) (isz _ _ rfl) | exact d_load (und _ _ rfl) (sc w7 9 _ hg7 rfl)); clear hF; clear a; intro a hF) | (apply c_cond_t hF; exact rfl; first | exact rfl | assumption) | (apply c_cond_f hF; exact rfl; first | exact rfl | assumption))
      exact ret1 hF rfl rfl ⟨rfl, hB7⟩
    rw [if_neg hz]
    repeat (first | refine c_seq ?_ | refine c_region _ ?_ | refine wpList_nil ?_ | refine c_then ?_ | refine wp_skip ?_ | ((first | apply st hF | apply stg hF); (first | exact d_not | exact d_pickF | exact d_cmpF | exact d_fieldAddr (fld _ _ _ _ rfl) (isz _ _ rfl) | exact d_loadAgg (agg _ rfl) (isz _ _ rfl) rfl (pr w7 13 (.int .i64 s.mn) (.int .i64 s.md) hg7 rfl rfl) | exact d_loadAgg (agg _ rfl) (isz _ _ rfl) rfl (pr w7 15 (.int .i64 s.xn) (.int .i64 s.xd) hg7 rfl rfl) | exact d_load (und _ _ rfl) (sc w7 9 _ hg7 rfl)); clear hF; clear a; intro a hF) | (apply c_cond_f hF; exact rfl; first | exact rfl | assumption))
    refine stc hF (above_ok w7 s.mn s.md s.xn s.xd hB.mn hB.md hB.xn hB.xd) cal54 ⟨rfl, rfl, trivial⟩ (k := fun a v w8 hR hF => ?_)
    obtain ⟨⟨b, rfl, hb⟩, hb8⟩ := hR
    have hB8 := hB7.trans (hb8.mono hB7.size)
    have hg8 := (hb8.block _ (lt_at hg7)).trans hg7
    clear hb8 hg7
    cases b with
    | true =>
      rw [if_pos (hb.1 rfl).2.2, if_pos (by decide)]
      repeat (first | refine c_seq ?_ | refine c_region _ ?_ | refine wpList_nil ?_ | refine c_then ?_ | refine c_then_ret ?_ | refine wp_ret ?_ | ((apply st hF); (exact d_assign); clear hF; clear a; intro a hF) | (apply c_cond_t hF; exact rfl; first | exact rfl | assumption))
      exact ret1 hF rfl rfl ⟨rfl, hB8⟩
    | false =>
    rw [if_neg (c := aboveP _ _ _ _) (fun h => Bool.noConfusion (hb.2 ⟨h2, h3, h⟩)), if_neg (fun h => h rfl)]
    repeat (first | refine c_seq ?_ | refine c_region _ ?_ | refine wpList_nil ?_ | refine c_then ?_ | refine wp_skip ?_ | ((apply st hF); (first | exact d_fieldAddr (fld _ _ _ _ rfl) (isz _ _ rfl) | exact d_load (und _ _ rfl) (sc w8 17 _ hg8 rfl)); clear hF; clear a; intro a hF) | (apply c_cond_f hF; exact rfl; first | exact rfl | assumption))
    refine stc hF (rmay_ok w8 s.unit) cal37 ⟨rfl, trivial⟩ (k := fun a v w9 hR hF => ?_)
    obtain ⟨m, rfl, hm, hb9⟩ := hR
    rw [text_is hm] at hF
    have hB9 := hB8.trans (hb9.mono hB8.size)
    have hg9 := (hb9.block _ (lt_at hg8)).trans hg8
    clear hb9 hg8
    generalize textE s.unit = te at hF ⊢
    by_cases hte : te = 0
    case neg =>
      rw [if_pos hte]
      repeat (first | refine c_seq ?_ | refine c_region _ ?_ | refine wpList_nil ?_ | refine c_then ?_ | refine c_then_ret ?_ | refine wp_ret ?_ | ((apply st hF); (first | exact d_move | exact d_assign | exact d_cmpT); clear hF; clear a; intro a hF) | (apply c_cond_t hF; exact rfl; first | exact rfl | assumption))
      exact ret1 hF rfl rfl ⟨rfl, hB9⟩
    rw [if_neg (fun h => h hte)]
    repeat (first | refine c_seq ?_ | refine c_region _ ?_ | refine wpList_nil ?_ | refine c_then ?_ | refine wp_skip ?_ | ((apply st hF); (first | exact d_move | exact d_assign | exact d_cmpF | exact d_fieldAddr (fld _ _ _ _ rfl) (isz _ _ rfl) | exact d_load (und _ _ rfl) (sc w9 18 _ hg9 rfl)); clear hF; clear a; intro a hF) | (apply c_cond_f hF; exact rfl; first | exact rfl | assumption))
    have hcap := hs.cap
    have hby := hs.bytes
    refine stc hF (rnames_ok w9 ss s.toA s.toN s.toC hs.len (hs.below hB9).rd (by omega)) cal55 ⟨rfl, trivial⟩ (k := fun a v w10 hR hF => ?_)
    obtain ⟨rfl, hb10⟩ := hR
    repeat (first | refine wpList_nil ?_ | refine c_then ?_ | refine wp_ret ?_ | ((apply st hF); (exact d_assign); clear hF; clear a; intro a hF))
    exact ret1 hF rfl rfl ⟨rfl, hB9.trans (hb10.mono hB9.size)⟩
end Go.Proofs.YtjomihhpglojpaaGreatDoor
end
section
/- The key of a signal: a message's number, its kind, a name. -/
namespace Go.Proofs.YtjomihhpglojpaaGreatDoor
open Go.RowKit
set_option linter.unusedSimpArgs false
set_option linter.unusedVariables false
attribute [local irreducible] wpList wpQuiet wpStill Code.wp Exit.then Exit.inBlock bodyPost Calls Does Does0
set_option maxRecDepth 100000
def nmV (id : Int) (wide : Bool) (name : ByteArray) : Value := .agg #[.int .u32 id, .bool wide, .string name]
def keyN (id : Int) (wide : Bool) (name : ByteArray) : Lit := .string (keyBytes [.int .u32 id, .bool wide, .string name.data.toList])
theorem named_law : Go.WideMaps.KeyLaw Tryz.prog 86 := Go.deep_law_laid (m := Tryz.prog.types.size + 1) (by kernel_rfl) (of_decide_eq_true (by kernel_rfl)) (of_decide_eq_true (by kernel_rfl)) (by kernel_rfl) (by kernel_rfl)
theorem named_und : ∃ a b c, Tryz.prog.underlying 86 = some (.struct #[a, b, c]) ∧ a.type = 24 ∧ b.type = 4 ∧ c.type = 9 ∧ a.offset = 0 ∧ b.offset = 1 ∧ c.offset = 2 ∧ a.name = "id" ∧ b.name = "wide" ∧ c.name = "name" := ⟨_, _, _, rfl, rfl, rfl, rfl, rfl, rfl, rfl, rfl, rfl, rfl⟩
theorem key_named {id : Int} {wide : Bool} {name : ByteArray} (hid : (Lit.int .u32 id).wf = true) (hs : name.size ≤ maxLen) : keyOf Tryz.prog 86 (nmV id wide name) = some (keyN id wide name) := by
  obtain ⟨fa, fb, fc, hu, ha, hb, hc, oa, ob, oc, na, nb, nc⟩ := named_und
  have h1 : Tryz.prog.keyType 86 = true := by kernel_rfl
  have h2 : (nmV id wide name).formed Tryz.prog 86 = true := by kernel_rfl
  have h3 : Tryz.prog.cellsOf 86 = 3 := by kernel_rfl
  have c1 : Tryz.prog.cellsOf 24 = 1 := by kernel_rfl
  have c2 : Tryz.prog.cellsOf 4 = 1 := by kernel_rfl
  have c3 : Tryz.prog.cellsOf 9 = 1 := by kernel_rfl
  obtain ⟨n, hn⟩ : ∃ n, Tryz.prog.types.size = n + 1 := ⟨Tryz.prog.types.size - 1, by have : 1 ≤ Tryz.prog.types.size := of_decide_eq_true (by kernel_rfl); omega⟩
  unfold keyOf
  rw [hu]
  dsimp only
  rw [h1, h2]
  simp only [Bool.and_self, if_true]
  rw [hn]
  have e : (nmV id wide name).cells.toList = [.int .u32 id, .bool wide, .string name] := rfl
  rw [e]
  unfold Program.keyLits
  rw [hu]
  simp only [h3, List.length_cons, List.length_nil, List.mapM_cons, List.mapM_nil, ha, hb, hc, oa, ob, oc, c1, c2, c3, List.drop_zero, List.drop_succ_cons, List.take_succ_cons, List.take_zero, Program.keyLits, Tryz.underlying24, Tryz.underlying4, Tryz.underlying9]
  simp [na, nb, nc, hid, hs, keyN]
theorem keyN_inj {id id' : Int} {wide wide' : Bool} {name name' : ByteArray} (hid : (Lit.int .u32 id).wf = true) (hs : name.size ≤ maxLen) (hid' : (Lit.int .u32 id').wf = true) (hs' : name'.size ≤ maxLen) (h : keyN id wide name = keyN id' wide' name') : id = id' ∧ wide = wide' ∧ name = name' := by
  have h1 := key_named (wide := wide) hid hs
  have h2 := key_named (wide := wide') hid' hs'
  rw [← h] at h2
  have e := named_law.inj h1 h2
  unfold nmV at e
  injection e with e
  have := congrArg Array.toList e
  simp at this
  exact ⟨this.1, this.2.1, this.2.2⟩
theorem wf_mk32 {x : Int} (h : 0 ≤ x ∧ x < 4294967296) : (Lit.int .u32 x).wf = true := by
  have e1 : IntKind.u32.min = 0 := by decide
  have e2 : IntKind.u32.max = 4294967295 := by decide
  simp only [Lit.wf, e1, e2, decide_eq_true_eq, Bool.and_eq_true]
  omega
end Go.Proofs.YtjomihhpglojpaaGreatDoor
end
section
/- Maps of the call's own from numbers to sets of bits. -/
namespace Go.Proofs.YtjomihhpglojpaaGreatDoor
open Go.RowKit
open Go.Maps (Keyed IsMap)
section
variable {P : Program} {w w' : World}
def encB (s : List Bool) : List UInt8 := s.map fun b => if b then 1 else 0
theorem encB_inj : ∀ {s t : List Bool}, encB s = encB t → s = t
  | [], [], _ => rfl
  | [], _ :: _, h => by simp [encB] at h
  | _ :: _, [], h => by simp [encB] at h
  | a :: s, b :: t, h => by
    unfold encB at h
    rw [List.map_cons, List.map_cons, List.cons.injEq] at h
    have h2 := encB_inj (s := s) (t := t) h.2
    subst h2
    cases a <;> cases b <;> simp at h <;> rfl
theorem setC_one {s t : List Bool} (h : setC s = setC t) : s = t := by
  have e : s.map Value.bool = t.map Value.bool := by
    have := congrArg Array.toList h
    simpa [setC] using this
  exact (List.map_inj_right (fun a b hab => Value.bool.inj hab)).1 e
open Classical in
noncomputable def setElem (v : Value) : Option (DataW Unit × List MemPlace) :=
  if h : ∃ s : List Bool, v = .agg (setC s) then some (.lit (.string (encB (Classical.choose h))), []) else none
theorem setElem_set (s : List Bool) : setElem (.agg (setC s)) = some (.lit (.string (encB s)), []) := by
  unfold setElem
  have h : ∃ t : List Bool, Value.agg (setC s) = .agg (setC t) := ⟨s, rfl⟩
  rw [dif_pos h]
  have hc := Classical.choose_spec h
  have e : Classical.choose h = s := (setC_one (Value.agg.inj hc)).symm
  rw [e]
theorem setElem_inv {v : Value} {s : List Bool} {ps : List MemPlace} (h : setElem v = some (.lit (.string (encB s)), ps)) : v = .agg (setC s) := by
  unfold setElem at h
  split at h
  · rename_i hx
    have hc := Classical.choose_spec hx
    injection h with h
    injection h with h1 h2
    injection h1 with h1
    injection h1 with h1
    rw [← encB_inj h1]; exact hc
  · cases h
def keyU (k : Int) : Lit := .int .u64 k
/-- What the map holds, the latest first. -/
def kvD : List (Int × List Bool) → DataW Unit
  | [] => .map []
  | p :: r => (kvD r).put (keyU p.1) (.lit (.string (encB p.2)))
def kvAt (k : Int) : List (Int × List Bool) → List Bool
  | [] => Pl.emptyS
  | p :: r => if k = p.1 then p.2 else kvAt k r
theorem kvD_map : ∀ ks, IsMap (kvD ks)
  | [] => ⟨_, rfl⟩
  | p :: r => by
    obtain ⟨es, h⟩ := kvD_map r
    unfold kvD
    rw [h]
    exact ⟨_, rfl⟩
theorem kvD_at (t : Int) : ∀ ks, (kvD ks).atKey (keyU t) (.lit (.string (encB Pl.emptyS))) = .lit (.string (encB (kvAt t ks)))
  | [] => rfl
  | p :: r => by
    unfold kvD kvAt
    by_cases e : t = p.1
    · rw [if_pos e, e, Maps.atKey_put_same (kvD_map r) (by trivial)]
    · rw [if_neg e, Maps.atKey_put_other (fun h => e (by injection h)), kvD_at t r]
/-- Block b is a map of the call's own: it holds ks. -/
def SetU (P : Program) (k : TypeId) (w : World) (b : Nat) (ks : List (Int × List Bool)) : Prop := w.ownsMap P k setElem b ks.length (kvD ks)
theorem SetU.new {k : TypeId} (w : World) : SetU P k (w.alloc (.map #[] 0)) w.heap.size [] := World.ownsMap_made w P k _
theorem SetU.kept {k : TypeId} {b : Nat} {ks : List (Int × List Bool)} {row : Option Nat} (h : SetU P k w b ks) (hg : w.grownBy w' row) (hne : some b ≠ row) : SetU P k w' b ks := World.ownsMap.kept h hg hne
theorem SetU.lt {k : TypeId} {b : Nat} {ks : List (Int × List Bool)} (h : SetU P k w b ks) : b < w.heap.size := World.ownsMap.lt h
theorem SetU.below {k : TypeId} {b : Nat} {ks : List (Int × List Bool)} (h : SetU P k w b ks) (hb : Below w.heap.size w w') : SetU P k w' b ks := by
  have hlt := h.lt
  obtain ⟨es, clock, h1, h2⟩ := h
  exact ⟨es, clock, (hb.block b hlt).trans h1, h2⟩
theorem key_u64 {k : TypeId} (hk : P.underlying k = some (.int .u64)) {v : Int} (hw : (Lit.int .u64 v).wf = true) : keyOf P k (.int .u64 v) = some (keyU v) := Go.Maps.keyOf_int_mk hk hw
theorem SetU.look {t k e : TypeId} {b : Nat} {ks : List (Int × List Bool)} (h : SetU P k w b ks) (ht : P.underlying t = some (.map k e)) (hk : P.underlying k = some (.int .u64)) (hz : (zeroValue e).run P w = .ok (.agg (setC Pl.emptyS)) w) (v : Int) (hw : (Lit.int .u64 v).wf = true) :
    (Instr.lookup t (.map (some b)) (.int .u64 v) false).run P w = .ok (.agg (setC (kvAt v ks))) w := by
  obtain ⟨x, ps, hr, hv⟩ := World.ownsMap.lookup h (Maps.int_keyed hk) ht hz (setElem_set _) (key_u64 hk hw)
  rw [kvD_at] at hv
  rw [hr, setElem_inv hv]
theorem SetU.put {t k e : TypeId} {b : Nat} {ks : List (Int × List Bool)} (h : SetU P k w b ks) (ht : P.underlying t = some (.map k e)) (hk : P.underlying k = some (.int .u64)) (v : Int) (hw : (Lit.int .u64 v).wf = true) (s : List Bool) (hn : ks.length < maxLen) :
    ∃ w', (Instr.mapUpdate t (.map (some b)) (.int .u64 v) (.agg (setC s))).run P w = .ok () w' ∧ SetU P k w' b ((v, s) :: ks) ∧ w.grownBy w' (some b) ∧ w'.heap.size = w.heap.size := by
  obtain ⟨w', hr, ho, ht2⟩ := World.ownsMap.store (P := P) (w := w) (b := b) (k := k) (R := setElem) h (Maps.int_keyed hk) ht hn (key_u64 hk hw) (setElem_set s)
  refine ⟨w', hr, ho, ht2.grown, ?_⟩
  obtain ⟨_, _, _, _, _, rfl⟩ := ht2
  simp [Go.ChangeMaps.setBlock]
end
end Go.Proofs.YtjomihhpglojpaaGreatDoor
end
