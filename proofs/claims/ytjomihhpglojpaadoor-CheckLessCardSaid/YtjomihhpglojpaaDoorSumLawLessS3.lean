/- Laid together by a program of mine: LessW. -/
import Derived.Test.YtjomihhpglojpaaDoorSumLawLessS2
set_option linter.unusedSimpArgs false
set_option linter.unusedVariables false
section
/- CheckLess, walked. -/
namespace Go.Proofs.YtjomihhpglojpaaDoor
open Go.RowKit
set_option linter.unusedSimpArgs false
set_option linter.unusedVariables false
attribute [local irreducible] wpList wpQuiet wpStill Code.wp Exit.then Exit.inBlock bodyPost Calls Does Does0
set_option maxRecDepth 100000
theorem head_less {m m' : Msg} (h : headE m = 0) (h1 : m'.name = m.name) (h2 : m'.id = m.id) (h3 : m'.wide = m.wide) (h4 : m'.size = m.size) (h5 : m'.sender = m.sender) (h6 : m'.sgN ≤ m.sgN) : headE m' = 0 := by
  have hmo : mostE m' = mostE m := by unfold mostE; rw [h3]
  unfold headE at h ⊢
  rw [h1, h2, hmo, h4, h5]
  by_cases e1 : wordB m.name = false
  · rw [if_pos e1] at h; cases h
  rw [if_neg e1] at h ⊢
  by_cases e2 : mostE m < m.id
  · rw [if_pos e2] at h; cases h
  rw [if_neg e2] at h ⊢
  by_cases e3 : m.size < 0 ∨ 8 < m.size
  · rw [if_pos e3] at h; cases h
  rw [if_neg e3] at h ⊢
  by_cases e4 : wordB m.sender = false
  · rw [if_pos e4] at h; cases h
  rw [if_neg e4] at h ⊢
  by_cases e5 : 64 < m.sgN
  · rw [if_pos e5] at h; cases h
  rw [if_neg (by omega)]
set_option maxHeartbeats 16000000 in
theorem checkless_ok (w : World) (m : Msg) (ps : List SigT) (which : Int) (hin : MsgIn w m ps) (hB : ∀ p ∈ ps, SigB p.1) (hT : Tabs w) :
    Ret Tryd.prog 3 #[.agg (Msg.cells m).toArray, .int .i64 which] w (fun v w' => v = .bool true ∧ Below w.heap.size w w') := by
  have hlen := hin.len
  have hby := hin.bytes
  refine enter2 Tryd.func3 rfl 44 rfl 46 rfl (fun a hF => ?_)
  repeat (first | refine c_seq ?_ | refine c_block ?_ | refine c_region _ ?_ | refine wpList_nil ?_ | refine c_then ?_ | refine c_then_exit ?_ | refine c_then_ret ?_ | refine c_in ?_ | refine c_in_ret ?_ | refine c_in_hit ?_ | refine wp_skip ?_ | refine wp_exit ?_ | refine wp_ret ?_ | refine c_in_miss rfl ?_ | (refine q_nil ?_; rintro _ ⟨ndr, rfl⟩) | refine c_region_draw _ mixed (by kernel_rfl) ?_ | ((first | apply st hF | apply stg hF | apply s_step hF | apply s_stg hF); (first | exact d_move | exact d_assign | exact d_not | exact d_pickT | exact d_pickF | exact d_add | exact d_cmpT | exact d_cmpF | exact d_cmp | exact d_eqbT (und _ _ rfl) | exact d_eqbF (und _ _ rfl) | exact d_eqb (und _ _ rfl) | exact d_eqST | exact d_eqSF | exact d_eqS | exact d_len (und _ _ rfl) | exact d_lens (und _ _ rfl) | exact d_indexAddr1 (und _ _ rfl) (isz _ _ rfl) | exact d_fieldAddr (fld _ _ _ _ rfl) (isz _ _ rfl) | exact d_slice (und _ _ rfl) (isz _ _ rfl) | exact d_slice3 (und _ _ rfl) (isz _ _ rfl) | exact d_slice3l (und _ _ rfl) (isz _ _ rfl) | exact d_sliceL (und _ _ rfl) (isz _ _ rfl) | exact d_eqN (ifc _ rfl) | exact d_neN (ifc _ rfl)); clear hF; clear a; intro a hF) | ((first | apply q_step hF | apply q_stg hF); intro wq hwq; (first | exact d_move | exact d_assign | exact d_not | exact d_pickT | exact d_pickF | exact d_add | exact d_cmpT | exact d_cmpF | exact d_cmp | exact d_eqbT (und _ _ rfl) | exact d_eqbF (und _ _ rfl) | exact d_eqb (und _ _ rfl) | exact d_eqST | exact d_eqSF | exact d_eqS | exact d_len (und _ _ rfl) | exact d_lens (und _ _ rfl) | exact d_indexAddr1 (und _ _ rfl) (isz _ _ rfl) | exact d_fieldAddr (fld _ _ _ _ rfl) (isz _ _ rfl) | exact d_slice (und _ _ rfl) (isz _ _ rfl) | exact d_slice3 (und _ _ rfl) (isz _ _ rfl) | exact d_slice3l (und _ _ rfl) (isz _ _ rfl) | exact d_sliceL (und _ _ rfl) (isz _ _ rfl) | exact d_eqN (ifc _ rfl) | exact d_neN (ifc _ rfl)); clear hF; clear a; intro a hF) | ((first | apply stm hF | apply stu hF | apply q_stm hF | apply q_stu hF); clear hF; clear a; intro a hF) | (apply c_cond_t hF; exact rfl; first | exact rfl | assumption) | (apply c_cond_f hF; exact rfl; first | exact rfl | assumption) | refine s_nil ?_)
  refine st_box hF (cs := (Msg.cells m).toArray) rfl (k := fun a w1 hg1 hgr1 hsz1 hF => ?_)
  have hb1 : Below w.heap.size w w1 := (Below.refl _ w).grown hgr1 (Nat.le_refl _) (fun k hk => by cases hk)
  have hm1 : MgAt w.heap.size m w1 := hg1
  clear hg1 hgr1
  repeat (first | refine c_seq ?_ | refine c_block ?_ | refine c_region _ ?_ | refine wpList_nil ?_ | refine c_then ?_ | refine c_then_exit ?_ | refine c_then_ret ?_ | refine c_in ?_ | refine c_in_ret ?_ | refine c_in_hit ?_ | refine wp_skip ?_ | refine wp_exit ?_ | refine wp_ret ?_ | refine c_in_miss rfl ?_ | (refine q_nil ?_; rintro _ ⟨ndr, rfl⟩) | refine c_region_draw _ mixed (by kernel_rfl) ?_ | ((first | apply st hF | apply stg hF | apply s_step hF | apply s_stg hF); (first | exact d_move | exact d_assign | exact d_not | exact d_pickT | exact d_pickF | exact d_add | exact d_cmpT | exact d_cmpF | exact d_cmp | exact d_eqbT (und _ _ rfl) | exact d_eqbF (und _ _ rfl) | exact d_eqb (und _ _ rfl) | exact d_eqST | exact d_eqSF | exact d_eqS | exact d_len (und _ _ rfl) | exact d_lens (und _ _ rfl) | exact d_indexAddr1 (und _ _ rfl) (isz _ _ rfl) | exact d_fieldAddr (fld _ _ _ _ rfl) (isz _ _ rfl) | exact d_slice (und _ _ rfl) (isz _ _ rfl) | exact d_slice3 (und _ _ rfl) (isz _ _ rfl) | exact d_slice3l (und _ _ rfl) (isz _ _ rfl) | exact d_sliceL (und _ _ rfl) (isz _ _ rfl) | exact d_eqN (ifc _ rfl) | exact d_neN (ifc _ rfl)); clear hF; clear a; intro a hF) | ((first | apply q_step hF | apply q_stg hF); intro wq hwq; (first | exact d_move | exact d_assign | exact d_not | exact d_pickT | exact d_pickF | exact d_add | exact d_cmpT | exact d_cmpF | exact d_cmp | exact d_eqbT (und _ _ rfl) | exact d_eqbF (und _ _ rfl) | exact d_eqb (und _ _ rfl) | exact d_eqST | exact d_eqSF | exact d_eqS | exact d_len (und _ _ rfl) | exact d_lens (und _ _ rfl) | exact d_indexAddr1 (und _ _ rfl) (isz _ _ rfl) | exact d_fieldAddr (fld _ _ _ _ rfl) (isz _ _ rfl) | exact d_slice (und _ _ rfl) (isz _ _ rfl) | exact d_slice3 (und _ _ rfl) (isz _ _ rfl) | exact d_slice3l (und _ _ rfl) (isz _ _ rfl) | exact d_sliceL (und _ _ rfl) (isz _ _ rfl) | exact d_eqN (ifc _ rfl) | exact d_neN (ifc _ rfl)); clear hF; clear a; intro a hF) | ((first | apply stm hF | apply stu hF | apply q_stm hF | apply q_stu hF); clear hF; clear a; intro a hF) | (apply c_cond_t hF; exact rfl; first | exact rfl | assumption) | (apply c_cond_f hF; exact rfl; first | exact rfl | assumption) | refine s_nil ?_)
  refine stc hF (works_ok w1 (hT.below hb1)) cal9 trivial (k := fun a v w2 hR hF => ?_)
  obtain ⟨rfl, hb2⟩ := hR
  have hm2 := hm1.below hb2
  replace hb2 := hb1.trans (hb2.mono hb1.size)
  repeat (first | refine c_seq ?_ | refine c_block ?_ | refine c_region _ ?_ | refine wpList_nil ?_ | refine c_then ?_ | refine c_then_exit ?_ | refine c_then_ret ?_ | refine c_in ?_ | refine c_in_ret ?_ | refine c_in_hit ?_ | refine wp_skip ?_ | refine wp_exit ?_ | refine wp_ret ?_ | refine c_in_miss rfl ?_ | (refine q_nil ?_; rintro _ ⟨ndr, rfl⟩) | refine c_region_draw _ mixed (by kernel_rfl) ?_ | ((first | apply st hF | apply stg hF | apply s_step hF | apply s_stg hF); (first | exact d_move | exact d_assign | exact d_not | exact d_pickT | exact d_pickF | exact d_add | exact d_cmpT | exact d_cmpF | exact d_cmp | exact d_eqbT (und _ _ rfl) | exact d_eqbF (und _ _ rfl) | exact d_eqb (und _ _ rfl) | exact d_eqST | exact d_eqSF | exact d_eqS | exact d_len (und _ _ rfl) | exact d_lens (und _ _ rfl) | exact d_indexAddr1 (und _ _ rfl) (isz _ _ rfl) | exact d_fieldAddr (fld _ _ _ _ rfl) (isz _ _ rfl) | exact d_slice (und _ _ rfl) (isz _ _ rfl) | exact d_slice3 (und _ _ rfl) (isz _ _ rfl) | exact d_slice3l (und _ _ rfl) (isz _ _ rfl) | exact d_sliceL (und _ _ rfl) (isz _ _ rfl) | exact d_eqN (ifc _ rfl) | exact d_neN (ifc _ rfl) | exact d_loadAgg (agg _ rfl) (isz _ _ rfl) rfl (cells_at hm2)); clear hF; clear a; intro a hF) | ((first | apply q_step hF | apply q_stg hF); intro wq hwq; (first | exact d_move | exact d_assign | exact d_not | exact d_pickT | exact d_pickF | exact d_add | exact d_cmpT | exact d_cmpF | exact d_cmp | exact d_eqbT (und _ _ rfl) | exact d_eqbF (und _ _ rfl) | exact d_eqb (und _ _ rfl) | exact d_eqST | exact d_eqSF | exact d_eqS | exact d_len (und _ _ rfl) | exact d_lens (und _ _ rfl) | exact d_indexAddr1 (und _ _ rfl) (isz _ _ rfl) | exact d_fieldAddr (fld _ _ _ _ rfl) (isz _ _ rfl) | exact d_slice (und _ _ rfl) (isz _ _ rfl) | exact d_slice3 (und _ _ rfl) (isz _ _ rfl) | exact d_slice3l (und _ _ rfl) (isz _ _ rfl) | exact d_sliceL (und _ _ rfl) (isz _ _ rfl) | exact d_eqN (ifc _ rfl) | exact d_neN (ifc _ rfl) | exact d_loadAgg (agg _ rfl) (isz _ _ rfl) rfl (cells_at hm2)); clear hF; clear a; intro a hF) | ((first | apply stm hF | apply stu hF | apply q_stm hF | apply q_stu hF); clear hF; clear a; intro a hF) | (apply c_cond_t hF; exact rfl; first | exact rfl | assumption) | (apply c_cond_f hF; exact rfl; first | exact rfl | assumption) | refine s_nil ?_)
  refine stc hF (cmsg_ok w2 m ps (SigsIn.below hin hb2) hB (hT.below hb2)) cal10 ⟨rfl, trivial⟩ (k := fun a v w3 hR hF => ?_)
  obtain ⟨rfl, hb3⟩ := hR
  have hm3 := hm2.below hb3
  replace hb3 := hb2.trans (hb3.mono hb2.size)
  by_cases h0 : (msgE m ps).1 = 0
  case neg =>
    rw [show ∀ x y, atV (msgE m ps).1 x y = fltV (msgE m ps).1 x y from fun x y => if_neg h0] at hF
    repeat (first | refine c_seq ?_ | refine c_block ?_ | refine c_region _ ?_ | refine wpList_nil ?_ | refine c_then ?_ | refine c_then_exit ?_ | refine c_then_ret ?_ | refine c_in ?_ | refine c_in_ret ?_ | refine c_in_hit ?_ | refine wp_skip ?_ | refine wp_exit ?_ | refine wp_ret ?_ | refine c_in_miss rfl ?_ | (refine q_nil ?_; rintro _ ⟨ndr, rfl⟩) | refine c_region_draw _ mixed (by kernel_rfl) ?_ | ((first | apply st hF | apply stg hF | apply s_step hF | apply s_stg hF); (first | exact d_move | exact d_assign | exact d_not | exact d_pickT | exact d_pickF | exact d_add | exact d_cmpT | exact d_cmpF | exact d_cmp | exact d_eqbT (und _ _ rfl) | exact d_eqbF (und _ _ rfl) | exact d_eqb (und _ _ rfl) | exact d_eqST | exact d_eqSF | exact d_eqS | exact d_len (und _ _ rfl) | exact d_lens (und _ _ rfl) | exact d_indexAddr1 (und _ _ rfl) (isz _ _ rfl) | exact d_fieldAddr (fld _ _ _ _ rfl) (isz _ _ rfl) | exact d_slice (und _ _ rfl) (isz _ _ rfl) | exact d_slice3 (und _ _ rfl) (isz _ _ rfl) | exact d_slice3l (und _ _ rfl) (isz _ _ rfl) | exact d_sliceL (und _ _ rfl) (isz _ _ rfl) | exact d_eqN (ifc _ rfl) | exact d_neN (ifc _ rfl) | exact d_load (und _ _ rfl) (hm3.c 7 _ rfl)); clear hF; clear a; intro a hF) | ((first | apply q_step hF | apply q_stg hF); intro wq hwq; (first | exact d_move | exact d_assign | exact d_not | exact d_pickT | exact d_pickF | exact d_add | exact d_cmpT | exact d_cmpF | exact d_cmp | exact d_eqbT (und _ _ rfl) | exact d_eqbF (und _ _ rfl) | exact d_eqb (und _ _ rfl) | exact d_eqST | exact d_eqSF | exact d_eqS | exact d_len (und _ _ rfl) | exact d_lens (und _ _ rfl) | exact d_indexAddr1 (und _ _ rfl) (isz _ _ rfl) | exact d_fieldAddr (fld _ _ _ _ rfl) (isz _ _ rfl) | exact d_slice (und _ _ rfl) (isz _ _ rfl) | exact d_slice3 (und _ _ rfl) (isz _ _ rfl) | exact d_slice3l (und _ _ rfl) (isz _ _ rfl) | exact d_sliceL (und _ _ rfl) (isz _ _ rfl) | exact d_eqN (ifc _ rfl) | exact d_neN (ifc _ rfl) | exact q_load (und _ _ rfl) hwq (by exact (hm3.c 7 _ rfl))); clear hF; clear a; intro a hF) | ((first | apply stm hF | apply stu hF | apply q_stm hF | apply q_stu hF); clear hF; clear a; intro a hF) | (apply c_cond_t hF; exact rfl; first | exact rfl | assumption) | (apply c_cond_f hF; exact rfl; first | exact rfl | assumption) | refine s_nil ?_)
    exact ret1 hF rfl rfl ⟨rfl, hb3⟩
  rw [show ∀ x y, atV (msgE m ps).1 x y = .nilIface from fun x y => if_pos h0] at hF
  have hgood := msgE_zero.1 h0
  by_cases hn0 : (m.sgN : Int) = 0
  · repeat (first | refine c_seq ?_ | refine c_block ?_ | refine c_region _ ?_ | refine wpList_nil ?_ | refine c_then ?_ | refine c_then_exit ?_ | refine c_then_ret ?_ | refine c_in ?_ | refine c_in_ret ?_ | refine c_in_hit ?_ | refine wp_skip ?_ | refine wp_exit ?_ | refine wp_ret ?_ | refine c_in_miss rfl ?_ | (refine q_nil ?_; rintro _ ⟨ndr, rfl⟩) | refine c_region_draw _ mixed (by kernel_rfl) ?_ | ((first | apply st hF | apply stg hF | apply s_step hF | apply s_stg hF); (first | exact d_move | exact d_assign | exact d_not | exact d_pickT | exact d_pickF | exact d_add | exact d_cmpT | exact d_cmpF | exact d_cmp | exact d_eqbT (und _ _ rfl) | exact d_eqbF (und _ _ rfl) | exact d_eqb (und _ _ rfl) | exact d_eqST | exact d_eqSF | exact d_eqS | exact d_len (und _ _ rfl) | exact d_lens (und _ _ rfl) | exact d_indexAddr1 (und _ _ rfl) (isz _ _ rfl) | exact d_fieldAddr (fld _ _ _ _ rfl) (isz _ _ rfl) | exact d_slice (und _ _ rfl) (isz _ _ rfl) | exact d_slice3 (und _ _ rfl) (isz _ _ rfl) | exact d_slice3l (und _ _ rfl) (isz _ _ rfl) | exact d_sliceL (und _ _ rfl) (isz _ _ rfl) | exact d_eqN (ifc _ rfl) | exact d_neN (ifc _ rfl) | exact d_load (und _ _ rfl) (hm3.c 7 _ rfl)); clear hF; clear a; intro a hF) | ((first | apply q_step hF | apply q_stg hF); intro wq hwq; (first | exact d_move | exact d_assign | exact d_not | exact d_pickT | exact d_pickF | exact d_add | exact d_cmpT | exact d_cmpF | exact d_cmp | exact d_eqbT (und _ _ rfl) | exact d_eqbF (und _ _ rfl) | exact d_eqb (und _ _ rfl) | exact d_eqST | exact d_eqSF | exact d_eqS | exact d_len (und _ _ rfl) | exact d_lens (und _ _ rfl) | exact d_indexAddr1 (und _ _ rfl) (isz _ _ rfl) | exact d_fieldAddr (fld _ _ _ _ rfl) (isz _ _ rfl) | exact d_slice (und _ _ rfl) (isz _ _ rfl) | exact d_slice3 (und _ _ rfl) (isz _ _ rfl) | exact d_slice3l (und _ _ rfl) (isz _ _ rfl) | exact d_sliceL (und _ _ rfl) (isz _ _ rfl) | exact d_eqN (ifc _ rfl) | exact d_neN (ifc _ rfl) | exact q_load (und _ _ rfl) hwq (by exact (hm3.c 7 _ rfl))); clear hF; clear a; intro a hF) | ((first | apply stm hF | apply stu hF | apply q_stm hF | apply q_stu hF); clear hF; clear a; intro a hF) | (apply c_cond_t hF; exact rfl; first | exact rfl | assumption) | (apply c_cond_f hF; exact rfl; first | exact rfl | assumption) | refine s_nil ?_)
    exact ret1 hF rfl rfl ⟨rfl, hb3⟩
  repeat (first | refine c_seq ?_ | refine c_block ?_ | refine c_region _ ?_ | refine wpList_nil ?_ | refine c_then ?_ | refine c_then_exit ?_ | refine c_then_ret ?_ | refine c_in ?_ | refine c_in_ret ?_ | refine c_in_hit ?_ | refine wp_skip ?_ | refine wp_exit ?_ | refine wp_ret ?_ | refine c_in_miss rfl ?_ | (refine q_nil ?_; rintro _ ⟨ndr, rfl⟩) | refine c_region_draw _ mixed (by kernel_rfl) ?_ | ((first | apply st hF | apply stg hF | apply s_step hF | apply s_stg hF); (first | exact d_move | exact d_assign | exact d_not | exact d_pickT | exact d_pickF | exact d_add | exact d_cmpT | exact d_cmpF | exact d_cmp | exact d_eqbT (und _ _ rfl) | exact d_eqbF (und _ _ rfl) | exact d_eqb (und _ _ rfl) | exact d_eqST | exact d_eqSF | exact d_eqS | exact d_len (und _ _ rfl) | exact d_lens (und _ _ rfl) | exact d_indexAddr1 (und _ _ rfl) (isz _ _ rfl) | exact d_fieldAddr (fld _ _ _ _ rfl) (isz _ _ rfl) | exact d_slice (und _ _ rfl) (isz _ _ rfl) | exact d_slice3 (und _ _ rfl) (isz _ _ rfl) | exact d_slice3l (und _ _ rfl) (isz _ _ rfl) | exact d_sliceL (und _ _ rfl) (isz _ _ rfl) | exact d_eqN (ifc _ rfl) | exact d_neN (ifc _ rfl) | exact d_load (und _ _ rfl) (hm3.c 7 _ rfl)); clear hF; clear a; intro a hF) | ((first | apply q_step hF | apply q_stg hF); intro wq hwq; (first | exact d_move | exact d_assign | exact d_not | exact d_pickT | exact d_pickF | exact d_add | exact d_cmpT | exact d_cmpF | exact d_cmp | exact d_eqbT (und _ _ rfl) | exact d_eqbF (und _ _ rfl) | exact d_eqb (und _ _ rfl) | exact d_eqST | exact d_eqSF | exact d_eqS | exact d_len (und _ _ rfl) | exact d_lens (und _ _ rfl) | exact d_indexAddr1 (und _ _ rfl) (isz _ _ rfl) | exact d_fieldAddr (fld _ _ _ _ rfl) (isz _ _ rfl) | exact d_slice (und _ _ rfl) (isz _ _ rfl) | exact d_slice3 (und _ _ rfl) (isz _ _ rfl) | exact d_slice3l (und _ _ rfl) (isz _ _ rfl) | exact d_sliceL (und _ _ rfl) (isz _ _ rfl) | exact d_eqN (ifc _ rfl) | exact d_neN (ifc _ rfl) | exact q_load (und _ _ rfl) hwq (by exact (hm3.c 7 _ rfl))); clear hF; clear a; intro a hF) | ((first | apply stm hF | apply stu hF | apply q_stm hF | apply q_stu hF); clear hF; clear a; intro a hF) | (apply c_cond_t hF; exact rfl; first | exact rfl | assumption) | (apply c_cond_f hF; exact rfl; first | exact rfl | assumption) | refine s_nil ?_)
  refine stc hF (pick_ok w3 which m.sgN (by omega) (by omega)) cal11 ⟨rfl, rfl, trivial⟩ (k := fun a v w3' hR hF => ?_)
  obtain ⟨rfl, rfl⟩ := hR
  obtain ⟨j, hj⟩ : ∃ j : Nat, which % (m.sgN : Int) = (j : Int) := ⟨(which % (m.sgN : Int)).toNat, by have := Int.emod_nonneg which (show (m.sgN : Int) ≠ 0 by omega); omega⟩
  have hjn : j < m.sgN := by have := Int.emod_lt_of_pos which (show 0 < (m.sgN : Int) by omega); omega
  rw [hj] at hF
  have hjl : j < ps.length := by omega
  obtain ⟨b, o, hao, hc⟩ := sig_cells_at hin hb3 hjl
  have c7 := hm3.c 7 _ rfl
  rw [hao] at c7
  by_cases hr : (sg ps j).role = 1
  · repeat (first | refine c_seq ?_ | refine c_block ?_ | refine c_region _ ?_ | refine wpList_nil ?_ | refine c_then ?_ | refine c_then_exit ?_ | refine c_then_ret ?_ | refine c_in ?_ | refine c_in_ret ?_ | refine c_in_hit ?_ | refine wp_skip ?_ | refine wp_exit ?_ | refine wp_ret ?_ | refine c_in_miss rfl ?_ | (refine q_nil ?_; rintro _ ⟨ndr, rfl⟩) | refine c_region_draw _ mixed (by kernel_rfl) ?_ | ((first | apply st hF | apply stg hF | apply s_step hF | apply s_stg hF); (first | exact d_move | exact d_assign | exact d_not | exact d_pickT | exact d_pickF | exact d_add | exact d_cmpT | exact d_cmpF | exact d_cmp | exact d_eqbT (und _ _ rfl) | exact d_eqbF (und _ _ rfl) | exact d_eqb (und _ _ rfl) | exact d_eqST | exact d_eqSF | exact d_eqS | exact d_len (und _ _ rfl) | exact d_lens (und _ _ rfl) | exact d_indexAddr1 (und _ _ rfl) (isz _ _ rfl) | exact d_fieldAddr (fld _ _ _ _ rfl) (isz _ _ rfl) | exact d_slice (und _ _ rfl) (isz _ _ rfl) | exact d_slice3 (und _ _ rfl) (isz _ _ rfl) | exact d_slice3l (und _ _ rfl) (isz _ _ rfl) | exact d_sliceL (und _ _ rfl) (isz _ _ rfl) | exact d_eqN (ifc _ rfl) | exact d_neN (ifc _ rfl) | exact d_indexAddrS (und _ _ rfl) (isz _ _ rfl) (j := j) | exact d_load (und _ _ rfl) c7 | exact d_load (und _ _ rfl) (hc 3 _ rfl)); clear hF; clear a; intro a hF) | ((first | apply q_step hF | apply q_stg hF); intro wq hwq; (first | exact d_move | exact d_assign | exact d_not | exact d_pickT | exact d_pickF | exact d_add | exact d_cmpT | exact d_cmpF | exact d_cmp | exact d_eqbT (und _ _ rfl) | exact d_eqbF (und _ _ rfl) | exact d_eqb (und _ _ rfl) | exact d_eqST | exact d_eqSF | exact d_eqS | exact d_len (und _ _ rfl) | exact d_lens (und _ _ rfl) | exact d_indexAddr1 (und _ _ rfl) (isz _ _ rfl) | exact d_fieldAddr (fld _ _ _ _ rfl) (isz _ _ rfl) | exact d_slice (und _ _ rfl) (isz _ _ rfl) | exact d_slice3 (und _ _ rfl) (isz _ _ rfl) | exact d_slice3l (und _ _ rfl) (isz _ _ rfl) | exact d_sliceL (und _ _ rfl) (isz _ _ rfl) | exact d_eqN (ifc _ rfl) | exact d_neN (ifc _ rfl) | exact d_indexAddrS (und _ _ rfl) (isz _ _ rfl) (j := j) | exact q_load (und _ _ rfl) hwq (by exact c7) | exact q_load (und _ _ rfl) hwq (by exact (hc 3 _ rfl))); clear hF; clear a; intro a hF) | ((first | apply stm hF | apply stu hF | apply q_stm hF | apply q_stu hF); clear hF; clear a; intro a hF) | (apply c_cond_t hF; exact rfl; first | exact rfl | assumption) | (apply c_cond_f hF; exact rfl; first | exact rfl | assumption) | refine s_nil ?_)
    exact ret1 hF rfl rfl ⟨rfl, hb3⟩
  repeat (first | refine c_seq ?_ | refine c_block ?_ | refine c_region _ ?_ | refine wpList_nil ?_ | refine c_then ?_ | refine c_then_exit ?_ | refine c_then_ret ?_ | refine c_in ?_ | refine c_in_ret ?_ | refine c_in_hit ?_ | refine wp_skip ?_ | refine wp_exit ?_ | refine wp_ret ?_ | refine c_in_miss rfl ?_ | (refine q_nil ?_; rintro _ ⟨ndr, rfl⟩) | refine c_region_draw _ mixed (by kernel_rfl) ?_ | ((first | apply st hF | apply stg hF | apply s_step hF | apply s_stg hF); (first | exact d_move | exact d_assign | exact d_not | exact d_pickT | exact d_pickF | exact d_add | exact d_cmpT | exact d_cmpF | exact d_cmp | exact d_eqbT (und _ _ rfl) | exact d_eqbF (und _ _ rfl) | exact d_eqb (und _ _ rfl) | exact d_eqST | exact d_eqSF | exact d_eqS | exact d_len (und _ _ rfl) | exact d_lens (und _ _ rfl) | exact d_indexAddr1 (und _ _ rfl) (isz _ _ rfl) | exact d_fieldAddr (fld _ _ _ _ rfl) (isz _ _ rfl) | exact d_slice (und _ _ rfl) (isz _ _ rfl) | exact d_slice3 (und _ _ rfl) (isz _ _ rfl) | exact d_slice3l (und _ _ rfl) (isz _ _ rfl) | exact d_sliceL (und _ _ rfl) (isz _ _ rfl) | exact d_eqN (ifc _ rfl) | exact d_neN (ifc _ rfl) | exact d_indexAddrS (und _ _ rfl) (isz _ _ rfl) (j := j) | exact d_loadAgg (agg _ rfl) (isz _ _ rfl) rfl (cells_at hm3) | exact d_load (und _ _ rfl) c7 | exact d_load (und _ _ rfl) (hc 3 _ rfl)); clear hF; clear a; intro a hF) | ((first | apply q_step hF | apply q_stg hF); intro wq hwq; (first | exact d_move | exact d_assign | exact d_not | exact d_pickT | exact d_pickF | exact d_add | exact d_cmpT | exact d_cmpF | exact d_cmp | exact d_eqbT (und _ _ rfl) | exact d_eqbF (und _ _ rfl) | exact d_eqb (und _ _ rfl) | exact d_eqST | exact d_eqSF | exact d_eqS | exact d_len (und _ _ rfl) | exact d_lens (und _ _ rfl) | exact d_indexAddr1 (und _ _ rfl) (isz _ _ rfl) | exact d_fieldAddr (fld _ _ _ _ rfl) (isz _ _ rfl) | exact d_slice (und _ _ rfl) (isz _ _ rfl) | exact d_slice3 (und _ _ rfl) (isz _ _ rfl) | exact d_slice3l (und _ _ rfl) (isz _ _ rfl) | exact d_sliceL (und _ _ rfl) (isz _ _ rfl) | exact d_eqN (ifc _ rfl) | exact d_neN (ifc _ rfl) | exact d_indexAddrS (und _ _ rfl) (isz _ _ rfl) (j := j) | exact d_loadAgg (agg _ rfl) (isz _ _ rfl) rfl (cells_at hm3) | exact q_load (und _ _ rfl) hwq (by exact c7) | exact q_load (und _ _ rfl) hwq (by exact (hc 3 _ rfl))); clear hF; clear a; intro a hF) | ((first | apply stm hF | apply stu hF | apply q_stm hF | apply q_stu hF); clear hF; clear a; intro a hF) | (apply c_cond_t hF; exact rfl; first | exact rfl | assumption) | (apply c_cond_f hF; exact rfl; first | exact rfl | assumption) | refine s_nil ?_)
  refine stc hF (copy_message w3' m ps (SigsIn.below hin hb3)) cal12 ⟨rfl, trivial⟩ (k := fun a v w4 hR hF => ?_)
  obtain ⟨ac, cap, ls, rfl, hcs, hb4⟩ := hR
  have hz3 := hb3.size
  have hz4 := hb4.size
  replace hb4 := hb3.trans (hb4.mono hb3.size)
  refine st_alloc hF inf27 (k := fun a w5 hg5 hgr5 hsz5 hF => ?_)
  refine st_storeAgg hF (cs := (Msg.cells (m.cp ac cap)).toArray) (isz _ _ rfl) rfl rfl hg5 (msg_cells _) (k := fun a w6 hg6 hgr6 hsz6 hF => ?_)
  have hb46 : Below w4.heap.size w4 w6 := ((Below.refl _ w4).grown hgr5 (Nat.le_refl _) (fun k hk => by cases hk)).grown hgr6 (by omega) (fun k hk => by cases hk; exact Nat.le_refl _)
  have hcs6 := hcs.below hb46
  have hx6 : MgAt w4.heap.size (m.cp ac cap) w6 := hg6
  have hb6 : Below w.heap.size w w6 := hb4.trans (hb46.mono hb4.size)
  clear hg5 hg6 hgr5 hgr6 hcs hb46
  have hspec : ∀ i, i < ps.length → SigIn w (sg ps i) (tx ps i) := fun i hi => tx_in hin hi
  repeat (first | (refine c_region_tree (fun _ => True) (.read 0 (.read 2 (.read 4 (.read 6 (.read 7 (.two 1 5 (.read 3 (.sole 5 (.read 8 (.sole 9 (.sole 10 (.sole 11 .done)))))) (.read 8 (.sole 1 (.read 3 (.sole 9 (.sole 10 (.sole 11 .done)))))))))))) 9 mixed (by kernel_rfl) trivial ?_) | refine c_seq ?_ | refine c_block ?_ | refine c_region _ ?_ | refine wpList_nil ?_ | refine c_then ?_ | refine c_then_exit ?_ | refine c_then_ret ?_ | refine c_in ?_ | refine c_in_ret ?_ | refine c_in_hit ?_ | refine wp_skip ?_ | refine wp_exit ?_ | refine wp_ret ?_ | refine c_in_miss rfl ?_ | (refine q_nil ?_; rintro _ ⟨ndr, rfl⟩) | refine c_region_draw _ mixed (by kernel_rfl) ?_ | ((first | apply st hF | apply stg hF | apply s_step hF | apply s_stg hF); (first | exact d_move | exact d_assign | exact d_not | exact d_pickT | exact d_pickF | exact d_add | exact d_cmpT | exact d_cmpF | exact d_cmp | exact d_eqbT (und _ _ rfl) | exact d_eqbF (und _ _ rfl) | exact d_eqb (und _ _ rfl) | exact d_eqST | exact d_eqSF | exact d_eqS | exact d_len (und _ _ rfl) | exact d_lens (und _ _ rfl) | exact d_indexAddr1 (und _ _ rfl) (isz _ _ rfl) | exact d_fieldAddr (fld _ _ _ _ rfl) (isz _ _ rfl) | exact d_slice (und _ _ rfl) (isz _ _ rfl) | exact d_slice3 (und _ _ rfl) (isz _ _ rfl) | exact d_slice3l (und _ _ rfl) (isz _ _ rfl) | exact d_sliceL (und _ _ rfl) (isz _ _ rfl) | exact d_eqN (ifc _ rfl) | exact d_neN (ifc _ rfl)); clear hF; clear a; intro a hF) | ((first | apply q_step hF | apply q_stg hF); intro wq hwq; (first | exact d_move | exact d_assign | exact d_not | exact d_pickT | exact d_pickF | exact d_add | exact d_cmpT | exact d_cmpF | exact d_cmp | exact d_eqbT (und _ _ rfl) | exact d_eqbF (und _ _ rfl) | exact d_eqb (und _ _ rfl) | exact d_eqST | exact d_eqSF | exact d_eqS | exact d_len (und _ _ rfl) | exact d_lens (und _ _ rfl) | exact d_indexAddr1 (und _ _ rfl) (isz _ _ rfl) | exact d_fieldAddr (fld _ _ _ _ rfl) (isz _ _ rfl) | exact d_slice (und _ _ rfl) (isz _ _ rfl) | exact d_slice3 (und _ _ rfl) (isz _ _ rfl) | exact d_slice3l (und _ _ rfl) (isz _ _ rfl) | exact d_sliceL (und _ _ rfl) (isz _ _ rfl) | exact d_eqN (ifc _ rfl) | exact d_neN (ifc _ rfl)); clear hF; clear a; intro a hF) | ((first | apply stm hF | apply stu hF | apply q_stm hF | apply q_stu hF); clear hF; clear a; intro a hF) | (apply c_cond_t hF; exact rfl; first | exact rfl | assumption) | (apply c_cond_f hF; exact rfl; first | exact rfl | assumption) | refine s_nil ?_)
  have hdb : Below w6.heap.size w6 (w6.drewN 1) := below_more (Below.refl _ w6) 1
  generalize w6.drewN 1 = w7 at *
  have hcs7 := hcs6.below hdb
  have hx7 := hx6.below hdb
  have hb7 : Below w.heap.size w w7 := hb6.trans (hdb.mono hb6.size)
  have hz7 := hdb.size
  have hlx7 := lt_at hx7
  clear hcs6 hx6 hb6 hdb
  obtain ⟨g, hgo, hgb⟩ := own_some hcs7.own (by omega)
  have hcw := own_cap' hcs7.own
  have x7 : w7.cell? ⟨w4.heap.size, 0 + 7, none⟩ = some (.slice (some ⟨g, 0, none⟩) m.sgN cap) := by
    have := hx7.c 7 _ rfl
    rw [← hgo]; exact this
  have hrow := hcs7.own
  rw [hgo, hlen] at hrow
  have hpre := own_pre hrow (m := j) (by omega)
  rw [flat_take sigc_len] at hpre
  have hrdx : RdS w7 (some ⟨g, 0, none⟩) 19 Sig.cells ls := own_rdS sigc_len hrow (by rw [hcs7.len, hlen])
  have hrdd := hrdx.drop (j + 1) cap (by rw [hcs7.len]; omega)
  refine r_read hF rfl (fun wq _ => d_fieldAddr (fld _ _ _ _ rfl) (isz _ _ rfl)) rfl (fun a hF => ?_)
  refine r_read hF rfl (fun wq _ => d_move) rfl (fun a hF => ?_)
  refine r_read hF rfl (fun wq _ => d_fieldAddr (fld _ _ _ _ rfl) (isz _ _ rfl)) rfl (fun a hF => ?_)
  refine r_read hF rfl (fun wq _ => d_move) rfl (fun a hF => ?_)
  refine r_read hF rfl (fun wq _ => d_add) rfl (fun a hF => ?_)
  refine r_two rfl rfl ?_ ?_
  · refine st hF (d_load (und _ _ rfl) x7) rfl (fun a hF => wpList_nil ⟨rfl, trivial, ?_⟩)
    refine r_read hF rfl (fun wq _ => d_slice (und _ _ rfl) (isz _ _ rfl) (j := j)) rfl (fun a hF => ?_)
    refine r_sole rfl ?_
    refine st hF (d_load (und _ _ rfl) x7) rfl (fun a hF => wpList_nil ⟨rfl, trivial, ?_⟩)
    refine r_read hF rfl (fun wq _ => d_sliceL (und _ _ rfl) (isz _ _ rfl) (i := j + 1)) rfl (fun a hF => ?_)
    replace hF := hF.keep' (l' := [(35, .slice (some ⟨g, 0, none⟩) j cap), (40, .slice (if cap = j + 1 then some ⟨g, 0, none⟩ else (some (⟨g, 0, none⟩ : Addr)).map (·.add ((j + 1) * 19))) (m.sgN - (j + 1)) (cap - (j + 1))), (6, .pointer (some ⟨w4.heap.size, 0, none⟩))]) ⟨rfl, rfl, rfl, trivial⟩
    refine r_sole rfl ?_
    refine st_appendS hF sigc_len (by decide) (und _ _ rfl) inf38 rfl hpre (by rw [List.length_drop, hcs7.len, hlen]) hrdd (fun y v hv => sig_cells y v (by simpa using hv)) (by omega) (by unfold maxLen; omega) (by omega) (k := fun a ao2 cap2 w8 hown8 hgr8 hF => wpList_nil ⟨rfl, trivial, ?_⟩)
    refine r_sole rfl ?_
    refine st hF (d_fieldAddr (fld _ _ _ _ rfl) (isz _ _ rfl)) rfl (fun a hF => wpList_nil ⟨rfl, trivial, ?_⟩)
    refine r_sole rfl ?_
    have hx8 : MgAt w4.heap.size (m.cp ac cap) w8 := blk_kept hx7 hgr8 (own_ne hcs7.own hx7 (by decide) |> fun h => by rw [hgo] at h; exact h)
    have hok8 : ∀ i, i < ps.length → CopyOk w3'.heap.size w8 ps ls i := fun i hi => (hcs7.ok i hi).keptO hpre (by decide) hgr8
    have hb8 : Below w.heap.size w w8 := hb7.grown hgr8 (by omega) (fun k hk => by have := (own_geC hpre hk).1; omega)
    have hz8 := hgr8.size
    refine st_store hF (isz _ _ rfl) hx8 (i := 0 + 7) (by show 0 + 7 < 8; decide) rfl rfl rfl (k := fun a w9 hg9 hgr9 hsz9 hF => wpList_nil ⟨rfl, trivial, r_done ?_⟩)
    obtain ⟨mx, hmx⟩ : ∃ x : Msg, x = { m with sg := ao2, sgN := j + (m.sgN - (j + 1)), sgC := cap2 } := ⟨_, rfl⟩
    have hx9 : MgAt w4.heap.size mx w9 := by rw [hmx]; exact hg9
    have hown9 : w9.ownsRow w3'.heap.size 38 19 (.slice ao2 (j + (m.sgN - (j + 1))) cap2) (j + (m.sgN - (j + 1))) ((ls.take j).flatMap Sig.cells ++ (ls.drop (j + 1)).flatMap Sig.cells) := by
      refine own_keptB hown8 hgr9 fun k hk e => ?_
      cases e
      exact own_ne hown8 hx8 (by decide) hk.symm
    have hok9 : ∀ i, i < ps.length → CopyOk w3'.heap.size w9 ps ls i := fun i hi => by
      obtain ⟨p, aa, c, h1, h2, h3⟩ := hok8 i hi
      refine ⟨p, aa, c, h1, h2, own_keptB h3 hgr9 fun k hk e => ?_⟩
      cases e
      exact own_ne h3 hx8 (by decide) hk.symm
    have hb9 : Below w.heap.size w w9 := hb8.grown hgr9 (by omega) (fun k hk => by cases hk; omega)
    have hle : (ps.eraseIdx j).length = j + (m.sgN - (j + 1)) := by rw [List.length_eraseIdx_of_lt hjl]; omega
    have hll : (ls.eraseIdx j).length = (ps.eraseIdx j).length := by rw [List.length_eraseIdx_of_lt hjl, List.length_eraseIdx_of_lt (by rw [hcs7.len]; exact hjl), hcs7.len]
    have hso := some_erase hjl hr
    have hgx : ∀ i, i < ps.length - 1 → (ls.eraseIdx j).getD i sigM = ls.getD (if i < j then i else i + 1) sigM := by
      intro i hi
      rw [List.getD_eq_getElem?_getD, List.getD_eq_getElem?_getD, List.getElem?_eraseIdx]
      split <;> rfl
    have hfl : ∀ i, i < (ps.eraseIdx j).length → ∃ aa cc, (ls.eraseIdx j).getD i sigM = (sg (ps.eraseIdx j) i).cp aa cc ∧ SigIn w9 ((sg (ps.eraseIdx j) i).cp aa cc) (tx (ps.eraseIdx j) i) := by
      intro i hi
      have hi2 : i < ps.length - 1 := by rw [List.length_eraseIdx_of_lt hjl] at hi; exact hi
      have hfi := hso.lt i hi
      obtain ⟨aa, cc, h1, h2, h3⟩ := copy_sig hfi (hok9 _ hfi) ((hspec _ hfi).below hb9)
      rw [hso.sgE i hi, hso.txE i hi, hgx i hi2]
      exact ⟨aa, cc, h1, h3⟩
    have hinx : MsgIn w9 mx (zipP (ls.eraseIdx j) (ps.eraseIdx j)) := by
      unfold MsgIn
      rw [hmx]
      dsimp only
      rw [← hle]
      refine sigs_in hll (base := w3'.heap.size) ?_ (fun i hi => ?_) (by rw [hle]; omega)
      · rw [hle, List.eraseIdx_eq_take_drop_succ, List.flatMap_append]
        exact hown9
      · obtain ⟨aa, cc, h1, h2⟩ := hfl i hi
        rw [h1]; exact h2
    have hBx : ∀ p ∈ zipP (ls.eraseIdx j) (ps.eraseIdx j), SigB p.1 := by
      intro p hp
      obtain ⟨i, hi, rfl⟩ := List.getElem_of_mem hp
      have hi' : i < (ps.eraseIdx j).length := by rw [zipP_len hll] at hi; exact hi
      have h1 := zipP_sg hll hi'
      rw [sg_lt hi] at h1
      obtain ⟨aa, cc, h2, _⟩ := hfl i hi'
      rw [h1, h2, hso.sgE i hi']
      exact sigB_cp (by rw [sg_lt (hso.lt i hi')]; exact hB _ (List.getElem_mem _)) _ _
    have hhx : headE mx = 0 := head_less hgood.head (by rw [hmx]) (by rw [hmx]) (by rw [hmx]) (by rw [hmx]) (by rw [hmx]) (by rw [hmx]; show j + (m.sgN - (j + 1)) ≤ m.sgN; omega)
    have hze : msgE mx (zipP (ls.eraseIdx j) (ps.eraseIdx j)) = (0, none) := by
      rw [msgE_same (m := mx) (ps := ps.eraseIdx j) (zipP_len hll) rfl rfl (fun i hi => by
        rw [zipP_sg hll hi, zipP_tx hll hi]
        obtain ⟨aa, cc, h1, _⟩ := hfl i hi
        rw [h1]
        exact ⟨same_cp _ _ _, rfl⟩)]
      exact msgE_none (msgE_zero.2 (good_some hso hgood hhx (by rw [hmx])))
    repeat (first | refine c_seq ?_ | refine c_block ?_ | refine c_region _ ?_ | refine wpList_nil ?_ | refine c_then ?_ | refine c_then_exit ?_ | refine c_then_ret ?_ | refine c_in ?_ | refine c_in_ret ?_ | refine c_in_hit ?_ | refine wp_skip ?_ | refine wp_exit ?_ | refine wp_ret ?_ | refine c_in_miss rfl ?_ | (refine q_nil ?_; rintro _ ⟨ndr, rfl⟩) | refine c_region_draw _ mixed (by kernel_rfl) ?_ | ((first | apply st hF | apply stg hF | apply s_step hF | apply s_stg hF); (first | exact d_move | exact d_assign | exact d_not | exact d_pickT | exact d_pickF | exact d_add | exact d_cmpT | exact d_cmpF | exact d_cmp | exact d_eqbT (und _ _ rfl) | exact d_eqbF (und _ _ rfl) | exact d_eqb (und _ _ rfl) | exact d_eqST | exact d_eqSF | exact d_eqS | exact d_len (und _ _ rfl) | exact d_lens (und _ _ rfl) | exact d_indexAddr1 (und _ _ rfl) (isz _ _ rfl) | exact d_fieldAddr (fld _ _ _ _ rfl) (isz _ _ rfl) | exact d_slice (und _ _ rfl) (isz _ _ rfl) | exact d_slice3 (und _ _ rfl) (isz _ _ rfl) | exact d_slice3l (und _ _ rfl) (isz _ _ rfl) | exact d_sliceL (und _ _ rfl) (isz _ _ rfl) | exact d_eqN (ifc _ rfl) | exact d_neN (ifc _ rfl) | exact d_loadAgg (agg _ rfl) (isz _ _ rfl) rfl (cells_at hx9)); clear hF; clear a; intro a hF) | ((first | apply q_step hF | apply q_stg hF); intro wq hwq; (first | exact d_move | exact d_assign | exact d_not | exact d_pickT | exact d_pickF | exact d_add | exact d_cmpT | exact d_cmpF | exact d_cmp | exact d_eqbT (und _ _ rfl) | exact d_eqbF (und _ _ rfl) | exact d_eqb (und _ _ rfl) | exact d_eqST | exact d_eqSF | exact d_eqS | exact d_len (und _ _ rfl) | exact d_lens (und _ _ rfl) | exact d_indexAddr1 (und _ _ rfl) (isz _ _ rfl) | exact d_fieldAddr (fld _ _ _ _ rfl) (isz _ _ rfl) | exact d_slice (und _ _ rfl) (isz _ _ rfl) | exact d_slice3 (und _ _ rfl) (isz _ _ rfl) | exact d_slice3l (und _ _ rfl) (isz _ _ rfl) | exact d_sliceL (und _ _ rfl) (isz _ _ rfl) | exact d_eqN (ifc _ rfl) | exact d_neN (ifc _ rfl) | exact d_loadAgg (agg _ rfl) (isz _ _ rfl) rfl (cells_at hx9)); clear hF; clear a; intro a hF) | ((first | apply stm hF | apply stu hF | apply q_stm hF | apply q_stu hF); clear hF; clear a; intro a hF) | (apply c_cond_t hF; exact rfl; first | exact rfl | assumption) | (apply c_cond_f hF; exact rfl; first | exact rfl | assumption) | refine s_nil ?_)
    refine stc hF (cmsg_ok w9 mx _ hinx hBx (hT.below hb9)) cal10 ⟨rfl, trivial⟩ (k := fun a v w10 hR hF => ?_)
    obtain ⟨rfl, hb10⟩ := hR
    rw [hze, show ∀ x y, atV (0, (none : Option Nat)).1 x y = .nilIface from fun x y => if_pos rfl] at hF
    repeat (first | refine c_seq ?_ | refine c_block ?_ | refine c_region _ ?_ | refine wpList_nil ?_ | refine c_then ?_ | refine c_then_exit ?_ | refine c_then_ret ?_ | refine c_in ?_ | refine c_in_ret ?_ | refine c_in_hit ?_ | refine wp_skip ?_ | refine wp_exit ?_ | refine wp_ret ?_ | refine c_in_miss rfl ?_ | (refine q_nil ?_; rintro _ ⟨ndr, rfl⟩) | refine c_region_draw _ mixed (by kernel_rfl) ?_ | ((first | apply st hF | apply stg hF | apply s_step hF | apply s_stg hF); (first | exact d_move | exact d_assign | exact d_not | exact d_pickT | exact d_pickF | exact d_add | exact d_cmpT | exact d_cmpF | exact d_cmp | exact d_eqbT (und _ _ rfl) | exact d_eqbF (und _ _ rfl) | exact d_eqb (und _ _ rfl) | exact d_eqST | exact d_eqSF | exact d_eqS | exact d_len (und _ _ rfl) | exact d_lens (und _ _ rfl) | exact d_indexAddr1 (und _ _ rfl) (isz _ _ rfl) | exact d_fieldAddr (fld _ _ _ _ rfl) (isz _ _ rfl) | exact d_slice (und _ _ rfl) (isz _ _ rfl) | exact d_slice3 (und _ _ rfl) (isz _ _ rfl) | exact d_slice3l (und _ _ rfl) (isz _ _ rfl) | exact d_sliceL (und _ _ rfl) (isz _ _ rfl) | exact d_eqN (ifc _ rfl) | exact d_neN (ifc _ rfl)); clear hF; clear a; intro a hF) | ((first | apply q_step hF | apply q_stg hF); intro wq hwq; (first | exact d_move | exact d_assign | exact d_not | exact d_pickT | exact d_pickF | exact d_add | exact d_cmpT | exact d_cmpF | exact d_cmp | exact d_eqbT (und _ _ rfl) | exact d_eqbF (und _ _ rfl) | exact d_eqb (und _ _ rfl) | exact d_eqST | exact d_eqSF | exact d_eqS | exact d_len (und _ _ rfl) | exact d_lens (und _ _ rfl) | exact d_indexAddr1 (und _ _ rfl) (isz _ _ rfl) | exact d_fieldAddr (fld _ _ _ _ rfl) (isz _ _ rfl) | exact d_slice (und _ _ rfl) (isz _ _ rfl) | exact d_slice3 (und _ _ rfl) (isz _ _ rfl) | exact d_slice3l (und _ _ rfl) (isz _ _ rfl) | exact d_sliceL (und _ _ rfl) (isz _ _ rfl) | exact d_eqN (ifc _ rfl) | exact d_neN (ifc _ rfl)); clear hF; clear a; intro a hF) | ((first | apply stm hF | apply stu hF | apply q_stm hF | apply q_stu hF); clear hF; clear a; intro a hF) | (apply c_cond_t hF; exact rfl; first | exact rfl | assumption) | (apply c_cond_f hF; exact rfl; first | exact rfl | assumption) | refine s_nil ?_)
    exact ret1 hF rfl rfl ⟨rfl, hb9.trans (hb10.mono hb9.size)⟩
  · refine st hF (d_load (und _ _ rfl) x7) rfl (fun a hF => wpList_nil ⟨rfl, trivial, ?_⟩)
    refine r_read hF rfl (fun wq _ => d_sliceL (und _ _ rfl) (isz _ _ rfl) (i := j + 1)) rfl (fun a hF => ?_)
    refine r_sole rfl ?_
    refine st hF (d_load (und _ _ rfl) x7) rfl (fun a hF => wpList_nil ⟨rfl, trivial, ?_⟩)
    refine r_read hF rfl (fun wq _ => d_slice (und _ _ rfl) (isz _ _ rfl) (j := j)) rfl (fun a hF => ?_)
    replace hF := hF.keep' (l' := [(35, .slice (some ⟨g, 0, none⟩) j cap), (40, .slice (if cap = j + 1 then some ⟨g, 0, none⟩ else (some (⟨g, 0, none⟩ : Addr)).map (·.add ((j + 1) * 19))) (m.sgN - (j + 1)) (cap - (j + 1))), (6, .pointer (some ⟨w4.heap.size, 0, none⟩))]) ⟨rfl, rfl, rfl, trivial⟩
    refine r_sole rfl ?_
    refine st_appendS hF sigc_len (by decide) (und _ _ rfl) inf38 rfl hpre (by rw [List.length_drop, hcs7.len, hlen]) hrdd (fun y v hv => sig_cells y v (by simpa using hv)) (by omega) (by unfold maxLen; omega) (by omega) (k := fun a ao2 cap2 w8 hown8 hgr8 hF => wpList_nil ⟨rfl, trivial, ?_⟩)
    refine r_sole rfl ?_
    refine st hF (d_fieldAddr (fld _ _ _ _ rfl) (isz _ _ rfl)) rfl (fun a hF => wpList_nil ⟨rfl, trivial, ?_⟩)
    refine r_sole rfl ?_
    have hx8 : MgAt w4.heap.size (m.cp ac cap) w8 := blk_kept hx7 hgr8 (own_ne hcs7.own hx7 (by decide) |> fun h => by rw [hgo] at h; exact h)
    have hok8 : ∀ i, i < ps.length → CopyOk w3'.heap.size w8 ps ls i := fun i hi => (hcs7.ok i hi).keptO hpre (by decide) hgr8
    have hb8 : Below w.heap.size w w8 := hb7.grown hgr8 (by omega) (fun k hk => by have := (own_geC hpre hk).1; omega)
    have hz8 := hgr8.size
    refine st_store hF (isz _ _ rfl) hx8 (i := 0 + 7) (by show 0 + 7 < 8; decide) rfl rfl rfl (k := fun a w9 hg9 hgr9 hsz9 hF => wpList_nil ⟨rfl, trivial, r_done ?_⟩)
    obtain ⟨mx, hmx⟩ : ∃ x : Msg, x = { m with sg := ao2, sgN := j + (m.sgN - (j + 1)), sgC := cap2 } := ⟨_, rfl⟩
    have hx9 : MgAt w4.heap.size mx w9 := by rw [hmx]; exact hg9
    have hown9 : w9.ownsRow w3'.heap.size 38 19 (.slice ao2 (j + (m.sgN - (j + 1))) cap2) (j + (m.sgN - (j + 1))) ((ls.take j).flatMap Sig.cells ++ (ls.drop (j + 1)).flatMap Sig.cells) := by
      refine own_keptB hown8 hgr9 fun k hk e => ?_
      cases e
      exact own_ne hown8 hx8 (by decide) hk.symm
    have hok9 : ∀ i, i < ps.length → CopyOk w3'.heap.size w9 ps ls i := fun i hi => by
      obtain ⟨p, aa, c, h1, h2, h3⟩ := hok8 i hi
      refine ⟨p, aa, c, h1, h2, own_keptB h3 hgr9 fun k hk e => ?_⟩
      cases e
      exact own_ne h3 hx8 (by decide) hk.symm
    have hb9 : Below w.heap.size w w9 := hb8.grown hgr9 (by omega) (fun k hk => by cases hk; omega)
    have hle : (ps.eraseIdx j).length = j + (m.sgN - (j + 1)) := by rw [List.length_eraseIdx_of_lt hjl]; omega
    have hll : (ls.eraseIdx j).length = (ps.eraseIdx j).length := by rw [List.length_eraseIdx_of_lt hjl, List.length_eraseIdx_of_lt (by rw [hcs7.len]; exact hjl), hcs7.len]
    have hso := some_erase hjl hr
    have hgx : ∀ i, i < ps.length - 1 → (ls.eraseIdx j).getD i sigM = ls.getD (if i < j then i else i + 1) sigM := by
      intro i hi
      rw [List.getD_eq_getElem?_getD, List.getD_eq_getElem?_getD, List.getElem?_eraseIdx]
      split <;> rfl
    have hfl : ∀ i, i < (ps.eraseIdx j).length → ∃ aa cc, (ls.eraseIdx j).getD i sigM = (sg (ps.eraseIdx j) i).cp aa cc ∧ SigIn w9 ((sg (ps.eraseIdx j) i).cp aa cc) (tx (ps.eraseIdx j) i) := by
      intro i hi
      have hi2 : i < ps.length - 1 := by rw [List.length_eraseIdx_of_lt hjl] at hi; exact hi
      have hfi := hso.lt i hi
      obtain ⟨aa, cc, h1, h2, h3⟩ := copy_sig hfi (hok9 _ hfi) ((hspec _ hfi).below hb9)
      rw [hso.sgE i hi, hso.txE i hi, hgx i hi2]
      exact ⟨aa, cc, h1, h3⟩
    have hinx : MsgIn w9 mx (zipP (ls.eraseIdx j) (ps.eraseIdx j)) := by
      unfold MsgIn
      rw [hmx]
      dsimp only
      rw [← hle]
      refine sigs_in hll (base := w3'.heap.size) ?_ (fun i hi => ?_) (by rw [hle]; omega)
      · rw [hle, List.eraseIdx_eq_take_drop_succ, List.flatMap_append]
        exact hown9
      · obtain ⟨aa, cc, h1, h2⟩ := hfl i hi
        rw [h1]; exact h2
    have hBx : ∀ p ∈ zipP (ls.eraseIdx j) (ps.eraseIdx j), SigB p.1 := by
      intro p hp
      obtain ⟨i, hi, rfl⟩ := List.getElem_of_mem hp
      have hi' : i < (ps.eraseIdx j).length := by rw [zipP_len hll] at hi; exact hi
      have h1 := zipP_sg hll hi'
      rw [sg_lt hi] at h1
      obtain ⟨aa, cc, h2, _⟩ := hfl i hi'
      rw [h1, h2, hso.sgE i hi']
      exact sigB_cp (by rw [sg_lt (hso.lt i hi')]; exact hB _ (List.getElem_mem _)) _ _
    have hhx : headE mx = 0 := head_less hgood.head (by rw [hmx]) (by rw [hmx]) (by rw [hmx]) (by rw [hmx]) (by rw [hmx]) (by rw [hmx]; show j + (m.sgN - (j + 1)) ≤ m.sgN; omega)
    have hze : msgE mx (zipP (ls.eraseIdx j) (ps.eraseIdx j)) = (0, none) := by
      rw [msgE_same (m := mx) (ps := ps.eraseIdx j) (zipP_len hll) rfl rfl (fun i hi => by
        rw [zipP_sg hll hi, zipP_tx hll hi]
        obtain ⟨aa, cc, h1, _⟩ := hfl i hi
        rw [h1]
        exact ⟨same_cp _ _ _, rfl⟩)]
      exact msgE_none (msgE_zero.2 (good_some hso hgood hhx (by rw [hmx])))
    repeat (first | refine c_seq ?_ | refine c_block ?_ | refine c_region _ ?_ | refine wpList_nil ?_ | refine c_then ?_ | refine c_then_exit ?_ | refine c_then_ret ?_ | refine c_in ?_ | refine c_in_ret ?_ | refine c_in_hit ?_ | refine wp_skip ?_ | refine wp_exit ?_ | refine wp_ret ?_ | refine c_in_miss rfl ?_ | (refine q_nil ?_; rintro _ ⟨ndr, rfl⟩) | refine c_region_draw _ mixed (by kernel_rfl) ?_ | ((first | apply st hF | apply stg hF | apply s_step hF | apply s_stg hF); (first | exact d_move | exact d_assign | exact d_not | exact d_pickT | exact d_pickF | exact d_add | exact d_cmpT | exact d_cmpF | exact d_cmp | exact d_eqbT (und _ _ rfl) | exact d_eqbF (und _ _ rfl) | exact d_eqb (und _ _ rfl) | exact d_eqST | exact d_eqSF | exact d_eqS | exact d_len (und _ _ rfl) | exact d_lens (und _ _ rfl) | exact d_indexAddr1 (und _ _ rfl) (isz _ _ rfl) | exact d_fieldAddr (fld _ _ _ _ rfl) (isz _ _ rfl) | exact d_slice (und _ _ rfl) (isz _ _ rfl) | exact d_slice3 (und _ _ rfl) (isz _ _ rfl) | exact d_slice3l (und _ _ rfl) (isz _ _ rfl) | exact d_sliceL (und _ _ rfl) (isz _ _ rfl) | exact d_eqN (ifc _ rfl) | exact d_neN (ifc _ rfl) | exact d_loadAgg (agg _ rfl) (isz _ _ rfl) rfl (cells_at hx9)); clear hF; clear a; intro a hF) | ((first | apply q_step hF | apply q_stg hF); intro wq hwq; (first | exact d_move | exact d_assign | exact d_not | exact d_pickT | exact d_pickF | exact d_add | exact d_cmpT | exact d_cmpF | exact d_cmp | exact d_eqbT (und _ _ rfl) | exact d_eqbF (und _ _ rfl) | exact d_eqb (und _ _ rfl) | exact d_eqST | exact d_eqSF | exact d_eqS | exact d_len (und _ _ rfl) | exact d_lens (und _ _ rfl) | exact d_indexAddr1 (und _ _ rfl) (isz _ _ rfl) | exact d_fieldAddr (fld _ _ _ _ rfl) (isz _ _ rfl) | exact d_slice (und _ _ rfl) (isz _ _ rfl) | exact d_slice3 (und _ _ rfl) (isz _ _ rfl) | exact d_slice3l (und _ _ rfl) (isz _ _ rfl) | exact d_sliceL (und _ _ rfl) (isz _ _ rfl) | exact d_eqN (ifc _ rfl) | exact d_neN (ifc _ rfl) | exact d_loadAgg (agg _ rfl) (isz _ _ rfl) rfl (cells_at hx9)); clear hF; clear a; intro a hF) | ((first | apply stm hF | apply stu hF | apply q_stm hF | apply q_stu hF); clear hF; clear a; intro a hF) | (apply c_cond_t hF; exact rfl; first | exact rfl | assumption) | (apply c_cond_f hF; exact rfl; first | exact rfl | assumption) | refine s_nil ?_)
    refine stc hF (cmsg_ok w9 mx _ hinx hBx (hT.below hb9)) cal10 ⟨rfl, trivial⟩ (k := fun a v w10 hR hF => ?_)
    obtain ⟨rfl, hb10⟩ := hR
    rw [hze, show ∀ x y, atV (0, (none : Option Nat)).1 x y = .nilIface from fun x y => if_pos rfl] at hF
    repeat (first | refine c_seq ?_ | refine c_block ?_ | refine c_region _ ?_ | refine wpList_nil ?_ | refine c_then ?_ | refine c_then_exit ?_ | refine c_then_ret ?_ | refine c_in ?_ | refine c_in_ret ?_ | refine c_in_hit ?_ | refine wp_skip ?_ | refine wp_exit ?_ | refine wp_ret ?_ | refine c_in_miss rfl ?_ | (refine q_nil ?_; rintro _ ⟨ndr, rfl⟩) | refine c_region_draw _ mixed (by kernel_rfl) ?_ | ((first | apply st hF | apply stg hF | apply s_step hF | apply s_stg hF); (first | exact d_move | exact d_assign | exact d_not | exact d_pickT | exact d_pickF | exact d_add | exact d_cmpT | exact d_cmpF | exact d_cmp | exact d_eqbT (und _ _ rfl) | exact d_eqbF (und _ _ rfl) | exact d_eqb (und _ _ rfl) | exact d_eqST | exact d_eqSF | exact d_eqS | exact d_len (und _ _ rfl) | exact d_lens (und _ _ rfl) | exact d_indexAddr1 (und _ _ rfl) (isz _ _ rfl) | exact d_fieldAddr (fld _ _ _ _ rfl) (isz _ _ rfl) | exact d_slice (und _ _ rfl) (isz _ _ rfl) | exact d_slice3 (und _ _ rfl) (isz _ _ rfl) | exact d_slice3l (und _ _ rfl) (isz _ _ rfl) | exact d_sliceL (und _ _ rfl) (isz _ _ rfl) | exact d_eqN (ifc _ rfl) | exact d_neN (ifc _ rfl)); clear hF; clear a; intro a hF) | ((first | apply q_step hF | apply q_stg hF); intro wq hwq; (first | exact d_move | exact d_assign | exact d_not | exact d_pickT | exact d_pickF | exact d_add | exact d_cmpT | exact d_cmpF | exact d_cmp | exact d_eqbT (und _ _ rfl) | exact d_eqbF (und _ _ rfl) | exact d_eqb (und _ _ rfl) | exact d_eqST | exact d_eqSF | exact d_eqS | exact d_len (und _ _ rfl) | exact d_lens (und _ _ rfl) | exact d_indexAddr1 (und _ _ rfl) (isz _ _ rfl) | exact d_fieldAddr (fld _ _ _ _ rfl) (isz _ _ rfl) | exact d_slice (und _ _ rfl) (isz _ _ rfl) | exact d_slice3 (und _ _ rfl) (isz _ _ rfl) | exact d_slice3l (und _ _ rfl) (isz _ _ rfl) | exact d_sliceL (und _ _ rfl) (isz _ _ rfl) | exact d_eqN (ifc _ rfl) | exact d_neN (ifc _ rfl)); clear hF; clear a; intro a hF) | ((first | apply stm hF | apply stu hF | apply q_stm hF | apply q_stu hF); clear hF; clear a; intro a hF) | (apply c_cond_t hF; exact rfl; first | exact rfl | assumption) | (apply c_cond_f hF; exact rfl; first | exact rfl | assumption) | refine s_nil ?_)
    exact ret1 hF rfl rfl ⟨rfl, hb9.trans (hb10.mono hb9.size)⟩
end Go.Proofs.YtjomihhpglojpaaDoor
end
