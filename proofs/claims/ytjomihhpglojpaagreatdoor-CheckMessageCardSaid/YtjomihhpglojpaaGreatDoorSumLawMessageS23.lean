/- Laid together by a program of mine: RefS RefA. -/
import Derived.Test.YtjomihhpglojpaaGreatDoorSumLawMessageS22
set_option linter.unusedSimpArgs false
set_option linter.unusedVariables false
section
/- The reference's fractions: sum, Cmp, Above: walked. -/
namespace Go.Proofs.YtjomihhpglojpaaGreatDoor
open Go.RowKit
section
variable {P : Program} {ops : Array Oper} {Q : Exit → Act → World → Prop} {S : World → Prop} {al : Oper} {L : List Oper} {is : List (Nat × Nat)} {N : Nat} {l : List (Nat × Value)} {a : Act} {w : World}
theorem a_step (h : Fr N l a) {i d : Nat} {op : Op} {ty : TypeId} {pos : String} {af : Array Edge} {v : Value} (ho : L[i]? = some ⟨some d, op, ty, pos, af, none⟩) (hr : ∀ w, S w → Does P l w op ty v w) (hd : Nat.blt d N = true := by exact rfl)
    (k : ∀ a', Fr N ((d, v) :: l) a' → wpMixA P ops Q S al L is a' w) : wpMixA P ops Q S al L ((i, 0) :: is) a w := fun o ho' => by
  rw [ho] at ho'
  cases ho'
  exact ⟨v, .inl ⟨by simp [Region.wanted], fun w hw => hr w hw a.eval h.eval _ _ _ _⟩, k _ (h.put hd v)⟩
theorem a_two {t : Nat} {o : Oper} (ho : L[t]? = some o) (h1 : wpList P ops (fun e a' w' => e = .normal ∧ S w' ∧ wpMixA P ops Q S al L is a' w') [o] a w) (h2 : wpList P ops (fun e a' w' => e = .normal ∧ S w' ∧ wpMix P ops Q S (pickX L (toX ((t, 1) :: is))) a' w') [al] a w) : wpMixA P ops Q S al L ((t, 1) :: is) a w :=
  ⟨fun o' ho' => by rw [ho] at ho'; cases ho'; exact h1, h2⟩
theorem a_al {t k : Nat} (h2 : wpList P ops (fun e a' w' => e = .normal ∧ S w' ∧ wpMix P ops Q S (pickX L (toX ((t, k + 2) :: is))) a' w') [al] a w) : wpMixA P ops Q S al L ((t, k + 2) :: is) a w := h2
end
open Go.RowKit
set_option linter.unusedSimpArgs false
set_option linter.unusedVariables false
attribute [local irreducible] wpList wpQuiet wpStill Code.wp Exit.then Exit.inBlock bodyPost Calls Does Does0
open Nn
set_option maxHeartbeats 8000000 in
theorem sum_ok (w : World) (n1 n2 : Bool) (B1 B2 B3 B4 : Nat) (u1 e1 u2 e2 : Value) (N1 D1 N2 D2 : Nat) (h1 : NatV B1 w u1 N1) (h2 : NatV B2 w e1 D1) (h3 : NatV B3 w u2 N2) (h4 : NatV B4 w e2 D2) (b1 : N1 < B 3) (b2 : D1 < B 3) (b3 : N2 < B 3) (b4 : D2 < B 3) :
    Ret Tryz.prog 106 [.agg (fracC n1 u1 e1), .agg (fracC n2 u2 e2)].toArray w (fun v w' => (∃ rv dv, v = .agg (fracC (diffS n1 (N1 * D2) n2 (N2 * D1)) rv dv) ∧ NatV 0 w' rv (diffN n1 (N1 * D2) n2 (N2 * D1)) ∧ ∃ y, NatV 0 w' dv y) ∧ Below w.heap.size w w') := by
  have hB50 : ∀ z : Nat, z < B 3 → z < B 50 := fun z hz => Nat.lt_of_lt_of_le hz (B_le (by decide))
  have hmul : ∀ p q : Nat, p < B 3 → q < B 3 → p * q < B 6 := fun p q hp hq => by
    rw [show (6 : Nat) = 3 + 3 by rfl, B_add]
    exact Nat.mul_lt_mul'' hp hq
  have h6 : ∀ z : Nat, z < B 6 → z < B 100 := fun z hz => Nat.lt_of_lt_of_le hz (B_le (by decide))
  obtain ⟨pu1, ku1, lu1, rfl, _⟩ := nat_pos h1
  obtain ⟨pe1, ke1, le1, rfl, _⟩ := nat_pos h2
  obtain ⟨pu2, ku2, lu2, rfl, _⟩ := nat_pos h3
  obtain ⟨pe2, ke2, le2, rfl, _⟩ := nat_pos h4
  have hx6 := hmul N1 D2 b1 b4
  have hy6 := hmul N2 D1 b3 b2
  refine enter2 Tryz.func106 rfl 51 rfl 53 rfl (fun a hF => ?_)
  repeat (first | refine c_seq ?_ | refine c_region _ ?_)
  refine st_box hF (cs := fracC n1 (.slice pu1 lu1 ku1) (.slice pe1 le1 ke1)) rfl (k := fun a w1 hg1 hgr1 hsz1 hF => ?_)
  refine st_box hF (cs := fracC n2 (.slice pu2 lu2 ku2) (.slice pe2 le2 ke2)) rfl (k := fun a w2 hg2 hgr2 hsz2 hF => ?_)
  refine st_alloc hF fracInf (k := fun a w3 hg3 hgr3 hsz3 hF => ?_)
  have hb3 : Below w.heap.size w w3 := (((Below.refl _ w).grown hgr1 (Nat.le_refl _) (fun k hk => by cases hk)).grown hgr2 (by omega) (fun k hk => by cases hk)).grown hgr3 (by omega) (fun k hk => by cases hk)
  replace hg1 := blk_kept (blk_kept hg1 hgr2 (by simp)) hgr3 (by simp)
  replace hg2 := blk_kept hg2 hgr3 (by simp)
  have hz3 : w3.heap.size = w.heap.size + 3 := by omega
  rw [show w1.heap.size = w.heap.size + 1 by omega] at hg2 hF
  rw [show w2.heap.size = w.heap.size + 2 by omega] at hg3 hF
  replace h1 := h1.below hb3
  replace h2 := h2.below hb3
  replace h3 := h3.below hb3
  replace h4 := h4.below hb3
  clear hgr1 hgr2 hgr3 hsz1 hsz2 hsz3
  have q1 : w3.cell? ⟨w.heap.size, 0 + 1, none⟩ = some (.slice pu1 lu1 ku1) := cell_at hg1 rfl
  have q2 : w3.cell? ⟨w.heap.size + 1, 0 + 2, none⟩ = some (.slice pe2 le2 ke2) := cell_at hg2 rfl
  repeat (first | refine c_seq ?_ | refine c_region _ ?_ | refine wpList_nil ?_ | refine c_then ?_ | ((apply st hF); (first | exact d_fieldAddr (fld _ _ _ _ rfl) (isz _ _ rfl) | exact d_load (und _ _ rfl) q1 | exact d_load (und _ _ rfl) q2); clear hF; clear a; intro a hF))
  refine stc hF (times_ok w3 _ _ _ _ N1 D2 h1 h4 (hB50 _ b1) (hB50 _ b4)) cal119 ⟨rfl, rfl, trivial⟩ (k := fun a vx w4 hR hF => ?_)
  obtain ⟨hX, hb4⟩ := hR
  have z4 := hb4.size
  replace hg1 := (hb4.block _ (by omega)).trans hg1
  replace hg2 := (hb4.block _ (by omega)).trans hg2
  replace hg3 := (hb4.block _ (by omega)).trans hg3
  have q3 : w4.cell? ⟨w.heap.size + 1, 0 + 1, none⟩ = some (.slice pu2 lu2 ku2) := cell_at hg2 rfl
  have q4 : w4.cell? ⟨w.heap.size, 0 + 2, none⟩ = some (.slice pe1 le1 ke1) := cell_at hg1 rfl
  repeat (first | refine c_seq ?_ | refine c_region _ ?_ | refine wpList_nil ?_ | refine c_then ?_ | ((apply st hF); (first | exact d_assign | exact d_fieldAddr (fld _ _ _ _ rfl) (isz _ _ rfl) | exact d_load (und _ _ rfl) q3 | exact d_load (und _ _ rfl) q4); clear hF; clear a; intro a hF))
  refine stc hF (times_ok w4 _ _ _ _ N2 D1 (h3.below hb4) (h2.below hb4) (hB50 _ b3) (hB50 _ b2)) cal119 ⟨rfl, rfl, trivial⟩ (k := fun a vy w5 hR hF => ?_)
  obtain ⟨hY, hb5⟩ := hR
  have z5 := hb5.size
  replace hg1 := (hb5.block _ (by omega)).trans hg1
  replace hg2 := (hb5.block _ (by omega)).trans hg2
  replace hg3 := (hb5.block _ (by omega)).trans hg3
  have q5 : w5.cell? ⟨w.heap.size, 0 + 2, none⟩ = some (.slice pe1 le1 ke1) := cell_at hg1 rfl
  have q6 : w5.cell? ⟨w.heap.size + 1, 0 + 2, none⟩ = some (.slice pe2 le2 ke2) := cell_at hg2 rfl
  repeat (first | refine c_seq ?_ | refine c_region _ ?_ | refine wpList_nil ?_ | refine c_then ?_ | ((apply st hF); (first | exact d_assign | exact d_fieldAddr (fld _ _ _ _ rfl) (isz _ _ rfl) | exact d_load (und _ _ rfl) q5 | exact d_load (und _ _ rfl) q6); clear hF; clear a; intro a hF))
  refine stc hF (times_ok w5 _ _ _ _ D1 D2 ((h2.below hb4).below hb5) ((h4.below hb4).below hb5) (hB50 _ b2) (hB50 _ b4)) cal119 ⟨rfl, rfl, trivial⟩ (k := fun a vd w6 hR hF => ?_)
  obtain ⟨hD, hb6⟩ := hR
  have z6 := hb6.size
  replace hg1 := (hb6.block _ (by omega)).trans hg1
  replace hg2 := (hb6.block _ (by omega)).trans hg2
  replace hg3 := (hb6.block _ (by omega)).trans hg3
  replace hX := ((hX.below hb5).below hb6).mono (B' := w.heap.size + 3) (by omega)
  replace hY := (hY.below hb6).mono (B' := w.heap.size + 3) (by omega)
  replace hD := hD.mono (B' := w.heap.size + 3) (by omega)
  have hbe : Below w.heap.size w w6 := ((hb3.trans (hb4.mono (by omega))).trans (hb5.mono (by omega))).trans (hb6.mono (by omega))
  have hz6 : w.heap.size + 3 ≤ w6.heap.size := by omega
  clear h1 h2 h3 h4 hb3 hb4 hb5 hb6 q1 q2 q3 q4 q5 q6 z4 z5 z6
  obtain ⟨pd, kd, ld, rfl, _⟩ := nat_pos hD
  have c1 : w6.cell? ⟨w.heap.size, 0 + 0, none⟩ = some (.bool n1) := cell_at hg1 rfl
  have c2 : w6.cell? ⟨w.heap.size + 1, 0 + 0, none⟩ = some (.bool n2) := cell_at hg2 rfl
  have fin : ∀ (a : Act) (l : List (Nat × Value)) (w8 : World) (s : Bool) (rv : Value) (x : Nat), Fr 53 l a → look l 4 = some (.pointer (some ⟨w.heap.size + 2, 0, none⟩)) → w8.heap[w.heap.size + 2]? = some (.cells (fracC s rv (.slice pd ld kd)) 187 (0, 0)) →
      s = diffS n1 (N1 * D2) n2 (N2 * D1) → x = diffN n1 (N1 * D2) n2 (N2 * D1) → NatV (w.heap.size + 3) w8 rv x → NatV (w.heap.size + 3) w8 (.slice pd ld kd) (D1 * D2) → Below w.heap.size w w8 →
      bodyPost Tryz.prog Tryz.f106 (fun e w' => ∃ v, e = .returned v ∧ ((∃ rv dv, v = .agg (fracC (diffS n1 (N1 * D2) n2 (N2 * D1)) rv dv) ∧ NatV 0 w' rv (diffN n1 (N1 * D2) n2 (N2 * D1)) ∧ ∃ y, NatV 0 w' dv y) ∧ Below w.heap.size w w')) .ret a w8 := by
    intro a l w8 s rv x hF hl hg es ex hr hd hb
    subst es; subst ex
    exact ret_c hF rfl (agg _ rfl) (isz _ _ rfl) hg hl ⟨⟨rv, _, rfl, hr.mono (Nat.zero_le _), _, hd.mono (Nat.zero_le _)⟩, hb⟩
  by_cases hn : n1 = n2
  · subst hn
    have es : n1 = diffS n1 (N1 * D2) n1 (N2 * D1) := by unfold diffS; rw [if_pos rfl]
    have ex : N1 * D2 + N2 * D1 = diffN n1 (N1 * D2) n1 (N2 * D1) := by unfold diffN; rw [if_pos rfl]
    repeat (first | (refine c_region_mix (fun wq => wq.heap[w.heap.size]? = some (.cells (fracC n1 (.slice pu1 lu1 ku1) (.slice pe1 le1 ke1)) 187 (0, 0))) [(0, true), (1, true), (2, true), (3, true), (5, true), (4, false), (6, true), (7, false)] 5 mixed (by kernel_rfl) hg1 ?_; simp only [pickX, List.filterMap_cons, List.getElem?_cons_zero, List.getElem?_cons_succ, List.filterMap_nil, Option.map_some]) | refine c_seq ?_ | refine c_region _ ?_ | refine wpList_nil ?_ | refine c_then ?_ | ((apply st hF); (first | exact d_assign | exact d_eqbT (und _ _ rfl) | exact d_fieldAddr (fld _ _ _ _ rfl) (isz _ _ rfl) | exact d_load (und _ _ rfl) c1 | exact d_load (und _ _ rfl) c2); clear hF; clear a; intro a hF) | (apply c_cond_t hF; exact rfl; first | exact rfl | assumption))
    repeat (((apply x_step hF); intro wq hwq; (first | exact d_move | exact d_fieldAddr (fld _ _ _ _ rfl) (isz _ _ rfl) | exact d_load (und _ _ rfl) ((show wq.cell? ⟨w.heap.size, 0 + 0, none⟩ = some (.bool n1) from cell_at hwq rfl))); clear hF; clear a; intro a hF))
    refine x_one ?_
    have hXd : NatV (w.heap.size + 3) (w6.drewN 1) vx (N1 * D2) := hX
    have hYd : NatV (w.heap.size + 3) (w6.drewN 1) vy (N2 * D1) := hY
    have hDd : NatV (w.heap.size + 3) (w6.drewN 1) (.slice pd ld kd) (D1 * D2) := hD
    have hbd : Below w.heap.size w (w6.drewN 1) := below_more hbe 1
    have hg1d : (w6.drewN 1).heap[w.heap.size]? = some (.cells (fracC n1 (.slice pu1 lu1 ku1) (.slice pe1 le1 ke1)) 187 (0, 0)) := hg1
    have hg3d : (w6.drewN 1).heap[w.heap.size + 2]? = some (.cells (fracC false (.slice none 0 0) (.slice none 0 0)) 187 (0, 0)) := hg3
    have hzd : w.heap.size + 3 ≤ (w6.drewN 1).heap.size := hz6
    generalize w6.drewN 1 = w7 at *
    refine stc hF (plus_ok w7 _ _ vx vy _ _ hXd hYd (h6 _ hx6) (h6 _ hy6)) cal116 ⟨rfl, rfl, trivial⟩ (k := fun a vr w8 hR hF => ?_)
    obtain ⟨hV, hb8⟩ := hR
    have z8 := hb8.size
    have hg18 := (hb8.block _ (by omega)).trans hg1d
    have hg38 := (hb8.block _ (by omega)).trans hg3d
    replace hV := hV.mono (B' := w.heap.size + 3) (by omega)
    have hD8 := hDd.below hb8
    obtain ⟨pr, kr, lr, rfl, _⟩ := nat_pos hV
    refine wpList_nil ⟨rfl, hg18, ?_⟩
    repeat (((apply x_step hF); intro wq hwq; (exact d_build (vs := [(0, .bool n1), (1, .slice pr lr kr), (2, .slice pd ld kd)]) (cells := fracC n1 (.slice pr lr kr) (.slice pd ld kd)) (by kernel_rfl) ⟨rfl, rfl, rfl, rfl, rfl, rfl, trivial⟩); clear hF; clear a; intro a hF))
    refine x_one ?_
    refine st_storeAgg hF (cs := fracC n1 (.slice pr lr kr) (.slice pd ld kd)) (isz _ _ rfl) rfl rfl hg38 (frac_one hV hD8) (k := fun a w9 hf9 hgr9 hsz9 hF => ?_)
    refine wpList_nil ⟨rfl, blk_kept hg18 hgr9 (by simp), x_nil ?_⟩
    repeat (first | refine c_then ?_ | refine c_then_ret ?_ | refine wp_ret ?_)
    exact fin _ _ _ _ _ _ hF rfl hf9 es ex (hV.kept hgr9 (by omega)) (hD8.kept hgr9 (by omega)) ((hbd.trans (hb8.mono (by omega))).grown hgr9 (by omega) (fun q e => by cases e; omega))
  · have hbf : (n1 == n2) = false := by simpa using hn
    repeat (first | refine c_seq ?_ | refine c_region _ ?_ | refine wpList_nil ?_ | refine c_then ?_ | refine wp_skip ?_ | ((apply st hF); (first | exact d_move | exact d_assign | exact d_eqbF (und _ _ rfl) | exact d_fieldAddr (fld _ _ _ _ rfl) (isz _ _ rfl) | exact d_load (und _ _ rfl) c1 | exact d_load (und _ _ rfl) c2); clear hF; clear a; intro a hF) | (apply c_cond_f hF; exact rfl; first | exact rfl | assumption))
    refine stc hF (held_ok w6 _ _ vx vy _ _ hX hY (h6 _ hx6) (h6 _ hy6)) cal117 ⟨rfl, rfl, trivial⟩ (k := fun a v w7 hR hF => ?_)
    obtain ⟨rfl, rfl⟩ := hR
    by_cases hge : N2 * D1 ≤ N1 * D2
    · obtain ⟨z, hz, hz0⟩ := heldI_ge hge
      rw [hz] at hF
      have es : n1 = diffS n1 (N1 * D2) n2 (N2 * D1) := by unfold diffS; rw [if_neg hn, if_pos hge]
      have ex : N1 * D2 - N2 * D1 = diffN n1 (N1 * D2) n2 (N2 * D1) := by unfold diffN; rw [if_neg hn, if_pos hge]
      repeat (first | (refine c_region_mix (fun wq => wq.heap[w.heap.size]? = some (.cells (fracC n1 (.slice pu1 lu1 ku1) (.slice pe1 le1 ke1)) 187 (0, 0))) [(0, true), (1, true), (2, true), (3, true), (5, true), (4, false), (6, true), (7, false)] 7 mixed (by kernel_rfl) hg1 ?_; simp only [pickX, List.filterMap_cons, List.getElem?_cons_zero, List.getElem?_cons_succ, List.filterMap_nil, Option.map_some]) | refine c_seq ?_ | refine wpList_nil ?_ | refine c_then ?_ | ((apply st hF); (exact d_cmpT); clear hF; clear a; intro a hF) | (apply c_cond_t hF; exact rfl; first | exact rfl | assumption))
      repeat (((apply x_step hF); intro wq hwq; (first | exact d_move | exact d_fieldAddr (fld _ _ _ _ rfl) (isz _ _ rfl) | exact d_load (und _ _ rfl) ((show wq.cell? ⟨w.heap.size, 0 + 0, none⟩ = some (.bool n1) from cell_at hwq rfl))); clear hF; clear a; intro a hF))
      refine x_one ?_
      have hXd : NatV (w.heap.size + 3) (w7.drewN 1) vx (N1 * D2) := hX
      have hYd : NatV (w.heap.size + 3) (w7.drewN 1) vy (N2 * D1) := hY
      have hDd : NatV (w.heap.size + 3) (w7.drewN 1) (.slice pd ld kd) (D1 * D2) := hD
      have hbd : Below w.heap.size w (w7.drewN 1) := below_more hbe 1
      have hg1d : (w7.drewN 1).heap[w.heap.size]? = some (.cells (fracC n1 (.slice pu1 lu1 ku1) (.slice pe1 le1 ke1)) 187 (0, 0)) := hg1
      have hg3d : (w7.drewN 1).heap[w.heap.size + 2]? = some (.cells (fracC false (.slice none 0 0) (.slice none 0 0)) 187 (0, 0)) := hg3
      have hzd : w.heap.size + 3 ≤ (w7.drewN 1).heap.size := hz6
      generalize w7.drewN 1 = w7 at *
      refine stc hF (less_ok w7 _ _ vx vy _ _ hXd hYd (h6 _ hx6) hge) cal118 ⟨rfl, rfl, trivial⟩ (k := fun a vr w8 hR hF => ?_)
      obtain ⟨hV, hb8⟩ := hR
      have z8 := hb8.size
      have hg18 := (hb8.block _ (by omega)).trans hg1d
      have hg38 := (hb8.block _ (by omega)).trans hg3d
      replace hV := hV.mono (B' := w.heap.size + 3) (by omega)
      have hD8 := hDd.below hb8
      obtain ⟨pr, kr, lr, rfl, _⟩ := nat_pos hV
      refine wpList_nil ⟨rfl, hg18, ?_⟩
      repeat (((apply x_step hF); intro wq hwq; (exact d_build (vs := [(0, .bool n1), (1, .slice pr lr kr), (2, .slice pd ld kd)]) (cells := fracC n1 (.slice pr lr kr) (.slice pd ld kd)) (by kernel_rfl) ⟨rfl, rfl, rfl, rfl, rfl, rfl, trivial⟩); clear hF; clear a; intro a hF))
      refine x_one ?_
      refine st_storeAgg hF (cs := fracC n1 (.slice pr lr kr) (.slice pd ld kd)) (isz _ _ rfl) rfl rfl hg38 (frac_one hV hD8) (k := fun a w9 hf9 hgr9 hsz9 hF => ?_)
      refine wpList_nil ⟨rfl, blk_kept hg18 hgr9 (by simp), x_nil ?_⟩
      repeat (first | refine c_then ?_ | refine c_then_ret ?_ | refine wp_ret ?_)
      exact fin _ _ _ _ _ _ hF rfl hf9 es ex (hV.kept hgr9 (by omega)) (hD8.kept hgr9 (by omega)) ((hbd.trans (hb8.mono (by omega))).grown hgr9 (by omega) (fun q e => by cases e; omega))
    · have hlt : N1 * D2 < N2 * D1 := by omega
      rw [heldI_lt hlt] at hF
      have es : n2 = diffS n1 (N1 * D2) n2 (N2 * D1) := by unfold diffS; rw [if_neg hn, if_neg hge]
      have ex : N2 * D1 - N1 * D2 = diffN n1 (N1 * D2) n2 (N2 * D1) := by unfold diffN; rw [if_neg hn, if_neg hge]
      repeat (first | (refine c_region_mix (fun wq => wq.heap[w.heap.size + 1]? = some (.cells (fracC n2 (.slice pu2 lu2 ku2) (.slice pe2 le2 ke2)) 187 (0, 0))) [(0, true), (1, true), (2, true), (3, true), (5, true), (4, false), (6, true), (7, false)] 8 mixed (by kernel_rfl) hg2 ?_; simp only [pickX, List.filterMap_cons, List.getElem?_cons_zero, List.getElem?_cons_succ, List.filterMap_nil, Option.map_some]) | refine c_seq ?_ | refine wpList_nil ?_ | refine c_then ?_ | refine wp_skip ?_ | ((apply st hF); (exact d_cmpF); clear hF; clear a; intro a hF) | (apply c_cond_f hF; exact rfl; first | exact rfl | assumption))
      repeat (((apply x_step hF); intro wq hwq; (first | exact d_move | exact d_fieldAddr (fld _ _ _ _ rfl) (isz _ _ rfl) | exact d_load (und _ _ rfl) ((show wq.cell? ⟨w.heap.size + 1, 0 + 0, none⟩ = some (.bool n2) from cell_at hwq rfl))); clear hF; clear a; intro a hF))
      refine x_one ?_
      have hXd : NatV (w.heap.size + 3) (w7.drewN 1) vx (N1 * D2) := hX
      have hYd : NatV (w.heap.size + 3) (w7.drewN 1) vy (N2 * D1) := hY
      have hDd : NatV (w.heap.size + 3) (w7.drewN 1) (.slice pd ld kd) (D1 * D2) := hD
      have hbd : Below w.heap.size w (w7.drewN 1) := below_more hbe 1
      have hg2d : (w7.drewN 1).heap[w.heap.size + 1]? = some (.cells (fracC n2 (.slice pu2 lu2 ku2) (.slice pe2 le2 ke2)) 187 (0, 0)) := hg2
      have hg3d : (w7.drewN 1).heap[w.heap.size + 2]? = some (.cells (fracC false (.slice none 0 0) (.slice none 0 0)) 187 (0, 0)) := hg3
      have hzd : w.heap.size + 3 ≤ (w7.drewN 1).heap.size := hz6
      generalize w7.drewN 1 = w7 at *
      refine stc hF (less_ok w7 _ _ vy vx _ _ hYd hXd (h6 _ hy6) (by omega)) cal118 ⟨rfl, rfl, trivial⟩ (k := fun a vr w8 hR hF => ?_)
      obtain ⟨hV, hb8⟩ := hR
      have z8 := hb8.size
      have hg28 := (hb8.block _ (by omega)).trans hg2d
      have hg38 := (hb8.block _ (by omega)).trans hg3d
      replace hV := hV.mono (B' := w.heap.size + 3) (by omega)
      have hD8 := hDd.below hb8
      obtain ⟨pr, kr, lr, rfl, _⟩ := nat_pos hV
      refine wpList_nil ⟨rfl, hg28, ?_⟩
      repeat (((apply x_step hF); intro wq hwq; (exact d_build (vs := [(0, .bool n2), (1, .slice pr lr kr), (2, .slice pd ld kd)]) (cells := fracC n2 (.slice pr lr kr) (.slice pd ld kd)) (by kernel_rfl) ⟨rfl, rfl, rfl, rfl, rfl, rfl, trivial⟩); clear hF; clear a; intro a hF))
      refine x_one ?_
      refine st_storeAgg hF (cs := fracC n2 (.slice pr lr kr) (.slice pd ld kd)) (isz _ _ rfl) rfl rfl hg38 (frac_one hV hD8) (k := fun a w9 hf9 hgr9 hsz9 hF => ?_)
      refine wpList_nil ⟨rfl, blk_kept hg28 hgr9 (by simp), x_nil ?_⟩
      repeat (first | refine c_then ?_ | refine wp_ret ?_)
      exact fin _ _ _ _ _ _ hF rfl hf9 es ex (hV.kept hgr9 (by omega)) (hD8.kept hgr9 (by omega)) ((hbd.trans (hb8.mono (by omega))).grown hgr9 (by omega) (fun q e => by cases e; omega))
end Go.Proofs.YtjomihhpglojpaaGreatDoor
end
section
/- The reference's fractions: Cmp, Above: walked. -/
namespace Go.Proofs.YtjomihhpglojpaaGreatDoor
open Go.RowKit
set_option linter.unusedSimpArgs false
set_option linter.unusedVariables false
attribute [local irreducible] wpList wpQuiet wpStill Code.wp Exit.then Exit.inBlock bodyPost Calls Does Does0
open Nn
set_option maxHeartbeats 8000000 in
theorem refcmp_ok (w : World) (n1 d1 n2 d2 : Int) (hn1 : -9223372036854775808 ≤ n1 ∧ n1 ≤ 9223372036854775807) (hd1 : -9223372036854775808 ≤ d1 ∧ d1 ≤ 9223372036854775807) (hn2 : -9223372036854775808 ≤ n2 ∧ n2 ≤ 9223372036854775807) (hd2 : -9223372036854775808 ≤ d2 ∧ d2 ≤ 9223372036854775807) :
    Ret Tryz.prog 83 [.agg #[.int .i64 n1, .int .i64 d1], .agg #[.int .i64 n2, .int .i64 d2]].toArray w (fun v w' => (∃ z e : Int, v = .tuple #[.int .i64 z, .int .i64 e] ∧ (0 < z ↔ (rightB n1 d1 = true ∧ rightB n2 d2 = true ∧ aboveP n1 d1 n2 d2))) ∧ Below w.heap.size w w') := by
  refine enter2 Tryz.func83 rfl 25 rfl 27 rfl (fun a hF => ?_)
  repeat (first | refine c_seq ?_ | refine c_region _ ?_)
  refine st_box hF (cs := #[.int .i64 n1, .int .i64 d1]) rfl (k := fun a w1 hg1 hgr1 hsz1 hF => ?_)
  refine st_box hF (cs := #[.int .i64 n2, .int .i64 d2]) rfl (k := fun a w2 hg2 hgr2 hsz2 hF => ?_)
  replace hg1 := blk_kept hg1 hgr2 (by simp)
  have hb2 : Below w.heap.size w w2 := ((Below.refl _ w).grown hgr1 (Nat.le_refl _) (fun k hk => by cases hk)).grown hgr2 (by omega) (fun k hk => by cases hk)
  rw [show w1.heap.size = w.heap.size + 1 by omega] at hg2 hF
  have hz2 : w2.heap.size = w.heap.size + 2 := by omega
  clear hgr1 hgr2 hsz1 hsz2
  repeat (first | refine c_seq ?_ | refine c_region _ ?_ | refine wpList_nil ?_ | refine c_then ?_ | ((apply st hF); (first | exact d_assign | exact d_loadAgg (agg _ rfl) (isz _ _ rfl) rfl (cells_at hg1)); clear hF; clear a; intro a hF))
  refine stc hF (rright_ok w2 n1 d1 hn1 hd1) cal53 ⟨rfl, trivial⟩ (k := fun a v w3 hR hF => ?_)
  obtain ⟨rfl, hb3⟩ := hR
  cases hr1 : rightB n1 d1 with
  | false =>
    rw [hr1] at hF
    repeat (first | refine c_seq ?_ | refine c_region _ ?_ | refine wpList_nil ?_ | refine c_then ?_ | refine c_then_ret ?_ | refine wp_ret ?_ | ((apply st hF); (first | exact d_move | exact d_assign | exact d_not | exact d_pickT); clear hF; clear a; intro a hF) | ((apply stm hF); clear hF; clear a; intro a hF) | (apply c_cond_t hF; exact rfl; first | exact rfl | assumption))
    exact ret2 hF rfl rfl rfl ⟨⟨_, _, rfl, by simp⟩, hb2.trans (hb3.mono (by omega))⟩
  | true =>
  rw [hr1] at hF
  have z3 := hb3.size
  replace hg1 := (hb3.block _ (by omega)).trans hg1
  replace hg2 := (hb3.block _ (by omega)).trans hg2
  repeat (((first | apply st hF | apply stg hF); (first | exact d_move | exact d_not | exact d_loadAgg (agg _ rfl) (isz _ _ rfl) rfl (cells_at hg2)); clear hF; clear a; intro a hF))
  refine stcg hF (rright_ok w3 n2 d2 hn2 hd2) cal53 ⟨rfl, trivial⟩ (k := fun a v w4 hR hF => ?_)
  obtain ⟨rfl, hb4⟩ := hR
  have hb24 : Below w.heap.size w w4 := (hb2.trans (hb3.mono (by omega))).trans (hb4.mono (by omega))
  cases hr2 : rightB n2 d2 with
  | false =>
    rw [hr2] at hF
    repeat (first | refine c_seq ?_ | refine c_region _ ?_ | refine wpList_nil ?_ | refine c_then ?_ | refine c_then_ret ?_ | refine wp_ret ?_ | ((first | apply st hF | apply stg hF); (first | exact d_assign | exact d_not | exact d_pickF); clear hF; clear a; intro a hF) | (apply c_cond_t hF; exact rfl; first | exact rfl | assumption))
    exact ret2 hF rfl rfl rfl ⟨⟨_, _, rfl, by simp⟩, hb24⟩
  | true =>
  rw [hr2] at hF
  have z4 := hb4.size
  replace hg1 := (hb4.block _ (by omega)).trans hg1
  replace hg2 := (hb4.block _ (by omega)).trans hg2
  have hp1 : 1 ≤ d1 := by unfold rightB at hr1; exact (of_decide_eq_true hr1).1
  have hp2 : 1 ≤ d2 := by unfold rightB at hr2; exact (of_decide_eq_true hr2).1
  have hz4 : w.heap.size + 2 ≤ w4.heap.size := by omega
  clear hb2 hb3 hb4 z3 z4 hz2
  have hlt3 : ∀ z : Nat, z < 18446744073709551616 → z < B 3 := fun z hz => Nat.lt_of_lt_of_le (by rw [B_2]; exact hz : z < B 2) (B_le (by decide))
  have m1 := hlt3 n1.natAbs (by omega)
  have m2 := hlt3 d1.natAbs (by omega)
  have m3 := hlt3 n2.natAbs (by omega)
  have m4 := hlt3 d2.natAbs (by omega)
  obtain ⟨X, hX⟩ : ∃ X, diffN (decide (n1 < 0)) (n1.natAbs * d2.natAbs) (!decide (n2 < 0)) (n2.natAbs * d1.natAbs) = X := ⟨_, rfl⟩
  obtain ⟨sg, hsg⟩ : ∃ sg, diffS (decide (n1 < 0)) (n1.natAbs * d2.natAbs) (!decide (n2 < 0)) (n2.natAbs * d1.natAbs) = sg := ⟨_, rfl⟩
  have hab := above_diff (n1 := n1) (n2 := n2) hp1 hp2
  rw [hX, hsg] at hab
  repeat (first | (refine c_cutH 3 (fun a' w' => ∃ g p l k dv, Fr 27 [(6, .pointer (some ⟨g, 0, none⟩))] a' ∧ w'.heap[g]? = some (.cells (fracC sg (.slice p l k) dv) 187 (0, 0)) ∧ (l = 0 ↔ X = 0) ∧ Below w.heap.size w w') ?_ ?_) | refine wpList_nil ?_ | refine c_then ?_ | refine wp_skip ?_ | ((first | apply st hF | apply stg hF); (first | exact d_not | exact d_pickF); clear hF; clear a; intro a hF) | (apply c_cond_f hF; exact rfl; first | exact rfl | assumption))
  · -- the region
    refine ⟨?_⟩
    let Sx : World → Prop := fun wq => wq.heap[w.heap.size]? = some (.cells #[.int .i64 n1, .int .i64 d1] 60 (0, 0)) ∧ wq.heap[w.heap.size + 1]? = some (.cells #[.int .i64 n2, .int .i64 d2] 60 (0, 0)) ∧ w.heap.size + 2 ≤ wq.heap.size ∧ Below w.heap.size w wq
    have hSb : ∀ u u' : World, Sx u → Below u.heap.size u u' → Sx u' := fun u u' ⟨s1, s2, s3, s4⟩ hb => ⟨(hb.block _ (by omega)).trans s1, (hb.block _ (by omega)).trans s2, by have := hb.size; omega, s4.trans (hb.mono (by omega))⟩
    refine c_region_mixA Sx 6 [(0, 0), (2, 0), (1, 1), (3, 1), (4, 1), (5, 1), (7, 2)] 3 mixed (by kernel_rfl) ⟨hg1, hg2, hz4, below_more hb24 1⟩ ?_
    intro ao hao
    obtain rfl := (Option.some.inj hao).symm
    show wpMixA Tryz.prog ?opsR ?QR Sx _ ?LR _ _ _
    have hS0 : Sx (w4.drewN 1) := ⟨hg1, hg2, hz4, below_more hb24 1⟩
    have hk : ∀ u u' : World, Sx u → u.grownBy u' none → Sx u' := fun u u' hS hg => hSb u u' hS ((Below.refl _ u).grown hg (Nat.le_refl _) (fun k e => by cases e))
    refine a_step hF rfl (fun wq hq => d_loadAgg (agg _ rfl) (isz _ _ rfl) rfl (cells_at hq.1)) rfl (fun a hF => ?_)
    refine a_step hF rfl (fun wq hq => d_loadAgg (agg _ rfl) (isz _ _ rfl) rfl (cells_at hq.2.1)) rfl (fun a hF => ?_)
    replace hF : Fr 27 [(17, .agg #[.int .i64 n2, .int .i64 d2]), (15, .agg #[.int .i64 n1, .int .i64 d1])] a := hF.keep' ⟨rfl, rfl, trivial⟩
    generalize w4.drewN 1 = w5 at hS0
    clear hg1 hg2 hb24 hz4
    -- the last store
    have R7 : ∀ (u : World) (a : Act) (g : Nat) (rv dv : Value) (y : Nat), Sx u → Fr 27 [(20, .agg (fracC sg rv dv)), (6, .pointer (some ⟨g, 0, none⟩))] a → u.heap[g]? = some (.cells (fracC false (.slice none 0 0) (.slice none 0 0)) 187 (0, 0)) → w.heap.size + 2 ≤ g → NatV 0 u rv X → NatV 0 u dv y →
        wpMix Tryz.prog ?opsR ?QR Sx (pickX ?LR (toX [(7, 2)])) a u := by
      intro u a g rv dv y hS hF hg hgw hr hd
      obtain ⟨p, k, l, rfl, hl0, _⟩ := nat_pos hr
      simp only [toX, List.map_cons, List.map_nil, pickX, List.filterMap_cons, List.getElem?_cons_zero, List.getElem?_cons_succ, List.filterMap_nil, Option.map_some]
      refine x_one ?_
      refine st_storeAgg hF (cs := fracC sg (.slice p l k) dv) (isz _ _ rfl) rfl rfl hg (frac_one hr hd) (k := fun a w9 hf9 hgr9 hsz9 hF => ?_)
      obtain ⟨s1, s2, s3, s4⟩ := hS
      have hb9 : Below w.heap.size w w9 := s4.grown hgr9 (by omega) (fun q e => by cases e; omega)
      exact wpList_nil ⟨rfl, ⟨blk_kept s1 hgr9 (by simp; omega), blk_kept s2 hgr9 (by simp; omega), by omega, hb9⟩, x_nil (c_then ⟨g, p, l, k, dv, hF.keep' ⟨rfl, trivial⟩, hf9, hl0, hb9⟩)⟩
    -- the sum, when the variable is there
    have R5 : ∀ (u : World) (a : Act) (g : Nat) (f1 e1 f2 e2 : Value), Sx u → Fr 27 [(16, .agg (fracC (decide (n1 < 0)) f1 e1)), (19, .agg (fracC (!decide (n2 < 0)) f2 e2)), (6, .pointer (some ⟨g, 0, none⟩))] a → u.heap[g]? = some (.cells (fracC false (.slice none 0 0) (.slice none 0 0)) 187 (0, 0)) → w.heap.size + 2 ≤ g →
        NatV 0 u f1 n1.natAbs → NatV 0 u e1 d1.natAbs → NatV 0 u f2 n2.natAbs → NatV 0 u e2 d2.natAbs → wpMix Tryz.prog ?opsR ?QR Sx (pickX ?LR (toX [(5, 1), (7, 2)])) a u := by
      intro u a g f1 e1 f2 e2 hS hF hg hgw v1 v2 v3 v4
      refine x_one ?_
      refine stc hF (sum_ok u _ _ 0 0 0 0 f1 e1 f2 e2 _ _ _ _ v1 v2 v3 v4 m1 m2 m3 m4) cal106 ⟨rfl, rfl, trivial⟩ (k := fun a v u2 hR hF => ?_)
      obtain ⟨⟨rv, dv, rfl, hr, y, hd⟩, hb⟩ := hR
      rw [hsg] at hF
      rw [hX] at hr
      exact wpList_nil ⟨rfl, hSb _ _ hS hb, R7 u2 _ g rv dv y (hSb _ _ hS hb) (hF.keep' ⟨rfl, rfl, trivial⟩) ((hb.block _ (lt_at hg)).trans hg) hgw hr hd⟩
    have R4 : ∀ (u : World) (a : Act) (g : Nat) (f1 e1 f2 e2 : Value), Sx u → Fr 27 [(16, .agg (fracC (decide (n1 < 0)) f1 e1)), (18, .agg (fracC (decide (n2 < 0)) f2 e2)), (6, .pointer (some ⟨g, 0, none⟩))] a → u.heap[g]? = some (.cells (fracC false (.slice none 0 0) (.slice none 0 0)) 187 (0, 0)) → w.heap.size + 2 ≤ g →
        NatV 0 u f1 n1.natAbs → NatV 0 u e1 d1.natAbs → NatV 0 u f2 n2.natAbs → NatV 0 u e2 d2.natAbs → wpMix Tryz.prog ?opsR ?QR Sx (pickX ?LR (toX [(4, 1), (5, 1), (7, 2)])) a u := by
      intro u a g f1 e1 f2 e2 hS hF hg hgw v1 v2 v3 v4
      refine x_one ?_
      refine stc hF (opp_ok u 0 0 _ f2 e2 _ _ v3 v4) cal108 ⟨rfl, trivial⟩ (k := fun a v u2 hR hF => ?_)
      obtain ⟨rfl, hb⟩ := hR
      exact wpList_nil ⟨rfl, hSb _ _ hS hb, R5 u2 _ g f1 e1 f2 e2 (hSb _ _ hS hb) (hF.keep' ⟨rfl, rfl, rfl, trivial⟩) ((hb.block _ (lt_at hg)).trans hg) hgw (v1.below hb) (v2.below hb) (v3.below hb) (v4.below hb)⟩
    have R3 : ∀ (u : World) (a : Act) (g : Nat) (f1 e1 : Value), Sx u → Fr 27 [(16, .agg (fracC (decide (n1 < 0)) f1 e1)), (17, .agg #[.int .i64 n2, .int .i64 d2]), (6, .pointer (some ⟨g, 0, none⟩))] a → u.heap[g]? = some (.cells (fracC false (.slice none 0 0) (.slice none 0 0)) 187 (0, 0)) → w.heap.size + 2 ≤ g →
        NatV 0 u f1 n1.natAbs → NatV 0 u e1 d1.natAbs → wpMix Tryz.prog ?opsR ?QR Sx (pickX ?LR (toX [(3, 1), (4, 1), (5, 1), (7, 2)])) a u := by
      intro u a g f1 e1 hS hF hg hgw v1 v2
      refine x_one ?_
      refine stc hF (of_ok u n2 d2 hn2 hd2) cal107 ⟨rfl, trivial⟩ (k := fun a v u2 hR hF => ?_)
      obtain ⟨⟨f2, e2, rfl, v3, v4⟩, hb⟩ := hR
      exact wpList_nil ⟨rfl, hSb _ _ hS hb, R4 u2 _ g f1 e1 f2 e2 (hSb _ _ hS hb) (hF.keep' ⟨rfl, rfl, rfl, trivial⟩) ((hb.block _ (lt_at hg)).trans hg) hgw (v1.below hb) (v2.below hb) (v3.mono (Nat.zero_le _)) (v4.mono (Nat.zero_le _))⟩
    have R1 : ∀ (u : World) (a : Act) (g : Nat), Sx u → Fr 27 [(15, .agg #[.int .i64 n1, .int .i64 d1]), (17, .agg #[.int .i64 n2, .int .i64 d2]), (6, .pointer (some ⟨g, 0, none⟩))] a → u.heap[g]? = some (.cells (fracC false (.slice none 0 0) (.slice none 0 0)) 187 (0, 0)) → w.heap.size + 2 ≤ g →
        wpMix Tryz.prog ?opsR ?QR Sx (pickX ?LR (toX [(1, 1), (3, 1), (4, 1), (5, 1), (7, 2)])) a u := by
      intro u a g hS hF hg hgw
      refine x_one ?_
      refine stc hF (of_ok u n1 d1 hn1 hd1) cal107 ⟨rfl, trivial⟩ (k := fun a v u2 hR hF => ?_)
      obtain ⟨⟨f1, e1, rfl, v1, v2⟩, hb⟩ := hR
      exact wpList_nil ⟨rfl, hSb _ _ hS hb, R3 u2 _ g f1 e1 (hSb _ _ hS hb) (hF.keep' ⟨rfl, rfl, rfl, trivial⟩) ((hb.block _ (lt_at hg)).trans hg) hgw (v1.mono (Nat.zero_le _)) (v2.mono (Nat.zero_le _))⟩
    have hgw : ∀ u : World, Sx u → w.heap.size + 2 ≤ u.heap.size := fun u h => h.2.2.1
    have nb : ∀ (u u' : World), u.grownBy u' none → Below u.heap.size u u' := fun u u' hg => (Below.refl _ u).grown hg (Nat.le_refl _) (fun k e => by cases e)
    -- first: Of a, or the variable
    refine a_two rfl ?_ ?_
    rotate_left
    · refine st_alloc hF fracInf (k := fun a u hg hgr hsz hF => ?_)
      exact wpList_nil ⟨rfl, hk _ _ hS0 hgr, R1 u _ _ (hk _ _ hS0 hgr) (hF.keep' ⟨rfl, rfl, rfl, trivial⟩) hg (hgw _ hS0)⟩
    refine stc hF (of_ok w5 n1 d1 hn1 hd1) cal107 ⟨rfl, trivial⟩ (k := fun a v w6 hR hF => ?_)
    obtain ⟨⟨f1, e1, rfl, v1, v2⟩, hb6⟩ := hR
    replace v1 := v1.mono (Nat.zero_le _)
    replace v2 := v2.mono (Nat.zero_le _)
    have hS6 := hSb _ _ hS0 hb6
    refine wpList_nil ⟨rfl, hS6, a_two rfl ?_ ?_⟩
    rotate_left
    · refine st_alloc hF fracInf (k := fun a u hg hgr hsz hF => ?_)
      exact wpList_nil ⟨rfl, hk _ _ hS6 hgr, R3 u _ _ f1 e1 (hk _ _ hS6 hgr) (hF.keep' ⟨rfl, rfl, rfl, trivial⟩) hg (hgw _ hS6) (v1.below (nb _ _ hgr)) (v2.below (nb _ _ hgr))⟩
    refine stc hF (of_ok w6 n2 d2 hn2 hd2) cal107 ⟨rfl, trivial⟩ (k := fun a v w7 hR hF => ?_)
    obtain ⟨⟨f2, e2, rfl, v3, v4⟩, hb7⟩ := hR
    replace v1 := v1.below hb7
    replace v2 := v2.below hb7
    replace v3 := v3.mono (Nat.zero_le _)
    replace v4 := v4.mono (Nat.zero_le _)
    have hS7 := hSb _ _ hS6 hb7
    refine wpList_nil ⟨rfl, hS7, a_two rfl ?_ ?_⟩
    rotate_left
    · refine st_alloc hF fracInf (k := fun a u hg hgr hsz hF => ?_)
      exact wpList_nil ⟨rfl, hk _ _ hS7 hgr, R4 u _ _ f1 e1 f2 e2 (hk _ _ hS7 hgr) (hF.keep' ⟨rfl, rfl, rfl, trivial⟩) hg (hgw _ hS7) (v1.below (nb _ _ hgr)) (v2.below (nb _ _ hgr)) (v3.below (nb _ _ hgr)) (v4.below (nb _ _ hgr))⟩
    refine stc hF (opp_ok w7 0 0 _ f2 e2 _ _ v3 v4) cal108 ⟨rfl, trivial⟩ (k := fun a v w8 hR hF => ?_)
    obtain ⟨rfl, hb8⟩ := hR
    replace v1 := v1.below hb8
    replace v2 := v2.below hb8
    replace v3 := v3.below hb8
    replace v4 := v4.below hb8
    have hS8 := hSb _ _ hS7 hb8
    refine wpList_nil ⟨rfl, hS8, a_two rfl ?_ ?_⟩
    rotate_left
    · refine st_alloc hF fracInf (k := fun a u hg hgr hsz hF => ?_)
      exact wpList_nil ⟨rfl, hk _ _ hS8 hgr, R5 u _ _ f1 e1 f2 e2 (hk _ _ hS8 hgr) (hF.keep' ⟨rfl, rfl, rfl, trivial⟩) hg (hgw _ hS8) (v1.below (nb _ _ hgr)) (v2.below (nb _ _ hgr)) (v3.below (nb _ _ hgr)) (v4.below (nb _ _ hgr))⟩
    refine stc hF (sum_ok w8 _ _ 0 0 0 0 f1 e1 f2 e2 _ _ _ _ v1 v2 v3 v4 m1 m2 m3 m4) cal106 ⟨rfl, rfl, trivial⟩ (k := fun a v w9 hR hF => ?_)
    obtain ⟨⟨rv, dv, rfl, hr, y, hd⟩, hb9⟩ := hR
    rw [hsg] at hF
    rw [hX] at hr
    have hS9 := hSb _ _ hS8 hb9
    refine wpList_nil ⟨rfl, hS9, a_al ?_⟩
    refine st_alloc hF fracInf (k := fun a u hg hgr hsz hF => ?_)
    exact wpList_nil ⟨rfl, hk _ _ hS9 hgr, R7 u _ _ rv dv y (hk _ _ hS9 hgr) (hF.keep' ⟨rfl, rfl, trivial⟩) hg (hgw _ hS9) (hr.below (nb _ _ hgr)) (hd.below (nb _ _ hgr))⟩
  · rintro a wq ⟨g, p, l, k, dv, hF, hg, hl, hb⟩
    have c0 : wq.cell? ⟨g, 0 + 0, none⟩ = some (.bool sg) := cell_at hg rfl
    have c1 : wq.cell? ⟨g, 0 + 1, none⟩ = some (.slice p l k) := cell_at hg rfl
    by_cases h0 : l = 0
    · subst h0
      have hX0 : X = 0 := hl.1 rfl
      repeat (first | refine c_seq ?_ | refine c_region _ ?_ | refine wpList_nil ?_ | refine c_then ?_ | refine c_then_ret ?_ | refine wp_ret ?_ | ((apply st hF); (first | exact d_assign | exact d_cmpT | exact d_len (und _ _ rfl) | exact d_fieldAddr (fld _ _ _ _ rfl) (isz _ _ rfl) | exact d_load (und _ _ rfl) c1); clear hF; clear a; intro a hF) | (apply c_cond_t hF; exact rfl; first | exact rfl | assumption))
      exact ret2 hF rfl rfl rfl ⟨⟨_, _, rfl, by rw [← hab]; simp [hX0]⟩, hb⟩
    · have hX0 : X ≠ 0 := fun e => h0 (hl.2 e)
      cases hs : sg with
      | true =>
        rw [hs] at c0
        repeat (first | refine c_seq ?_ | refine c_region _ ?_ | refine wpList_nil ?_ | refine c_then ?_ | refine c_then_ret ?_ | refine wp_skip ?_ | refine wp_ret ?_ | ((apply st hF); (first | exact d_assign | exact d_cmpF | exact d_len (und _ _ rfl) | exact d_fieldAddr (fld _ _ _ _ rfl) (isz _ _ rfl) | exact d_load (und _ _ rfl) c0 | exact d_load (und _ _ rfl) c1); clear hF; clear a; intro a hF) | (apply c_cond_t hF; exact rfl; first | exact rfl | assumption) | (apply c_cond_f hF; exact rfl; first | exact rfl | assumption))
        exact ret2 hF rfl rfl rfl ⟨⟨_, _, rfl, by rw [← hab, hs]; simp⟩, hb⟩
      | false =>
        rw [hs] at c0
        repeat (first | refine c_seq ?_ | refine c_region _ ?_ | refine wpList_nil ?_ | refine c_then ?_ | refine wp_skip ?_ | refine wp_ret ?_ | ((apply st hF); (first | exact d_assign | exact d_cmpF | exact d_len (und _ _ rfl) | exact d_fieldAddr (fld _ _ _ _ rfl) (isz _ _ rfl) | exact d_load (und _ _ rfl) c0 | exact d_load (und _ _ rfl) c1); clear hF; clear a; intro a hF) | (apply c_cond_f hF; exact rfl; first | exact rfl | assumption))
        exact ret2 hF rfl rfl rfl ⟨⟨_, _, rfl, by rw [← hab, hs]; simp [hX0]⟩, hb⟩
theorem above_ok (w : World) (n1 d1 n2 d2 : Int) (hn1 : -9223372036854775808 ≤ n1 ∧ n1 ≤ 9223372036854775807) (hd1 : -9223372036854775808 ≤ d1 ∧ d1 ≤ 9223372036854775807) (hn2 : -9223372036854775808 ≤ n2 ∧ n2 ≤ 9223372036854775807) (hd2 : -9223372036854775808 ≤ d2 ∧ d2 ≤ 9223372036854775807) :
    Ret Tryz.prog 54 [.agg #[.int .i64 n1, .int .i64 d1], .agg #[.int .i64 n2, .int .i64 d2]].toArray w (fun v w' => (∃ b, v = .bool b ∧ (b = true ↔ (rightB n1 d1 = true ∧ rightB n2 d2 = true ∧ aboveP n1 d1 n2 d2))) ∧ Below w.heap.size w w') := by
  refine enter2 Tryz.func54 rfl 13 rfl 15 rfl (fun a hF => ?_)
  repeat (first | refine c_seq ?_ | refine c_region _ ?_)
  refine st_box hF (cs := #[.int .i64 n1, .int .i64 d1]) rfl (k := fun a w1 hg1 hgr1 hsz1 hF => ?_)
  refine st_box hF (cs := #[.int .i64 n2, .int .i64 d2]) rfl (k := fun a w2 hg2 hgr2 hsz2 hF => ?_)
  replace hg1 := blk_kept hg1 hgr2 (by simp)
  have hb2 : Below w.heap.size w w2 := ((Below.refl _ w).grown hgr1 (Nat.le_refl _) (fun k hk => by cases hk)).grown hgr2 (by omega) (fun k hk => by cases hk)
  repeat (first | refine c_seq ?_ | refine c_region _ ?_ | refine wpList_nil ?_ | refine c_then ?_ | ((apply st hF); (first | exact d_assign | exact d_loadAgg (agg _ rfl) (isz _ _ rfl) rfl (cells_at hg1) | exact d_loadAgg (agg _ rfl) (isz _ _ rfl) rfl (cells_at hg2)); clear hF; clear a; intro a hF))
  refine stc hF (refcmp_ok w2 n1 d1 n2 d2 hn1 hd1 hn2 hd2) cal83 ⟨rfl, rfl, trivial⟩ (k := fun a v w3 hR hF => ?_)
  obtain ⟨⟨z, e, rfl, hz⟩, hb3⟩ := hR
  have hB : Below w.heap.size w w3 := hb2.trans (hb3.mono (by omega))
  by_cases h0 : 0 < z
  · repeat (first | refine c_seq ?_ | refine c_region _ ?_ | refine wpList_nil ?_ | refine c_then ?_ | refine wp_ret ?_ | ((apply st hF); (first | exact d_move | exact d_assign | exact d_cmpT | exact d_extract); clear hF; clear a; intro a hF))
    exact ret1 hF rfl rfl ⟨⟨_, rfl, by simp [← hz, h0]⟩, hB⟩
  · repeat (first | refine c_seq ?_ | refine c_region _ ?_ | refine wpList_nil ?_ | refine c_then ?_ | refine wp_ret ?_ | ((apply st hF); (first | exact d_move | exact d_assign | exact d_cmpF | exact d_extract); clear hF; clear a; intro a hF))
    exact ret1 hF rfl rfl ⟨⟨_, rfl, by simp [← hz, h0]⟩, hB⟩
end Go.Proofs.YtjomihhpglojpaaGreatDoor
end
