/- Laid together by a program of mine: LentR Sigs MsgK. -/
import Derived.Test.YtjomihhpglojpaaGreatDoorSumLawDatabaseS6
import Derived.Test.YtjomihhpglojpaaGreatDoorSumLawDatabaseS11
import Derived.Test.YtjomihhpglojpaaGreatDoorSumLawDatabaseS31
import Derived.Test.YtjomihhpglojpaaGreatDoorSumLawDatabaseS7
set_option linter.unusedSimpArgs false
set_option linter.unusedVariables false
section
/- Rows, lent and kept. -/
namespace Go.Proofs.YtjomihhpglojpaaGreatDoor
open Go.RowKit
set_option linter.unusedSimpArgs false
set_option linter.unusedVariables false
attribute [local irreducible] wpList wpQuiet wpStill Code.wp Exit.then Exit.inBlock bodyPost Calls Does Does0
set_option maxRecDepth 100000
def markR (i : Int) : RowV := ⟨-7, markT 90 i⟩
def marksR : List RowV := (List.range 16).map fun i : Nat => markR (i : Int)
theorem marksR_len : marksR.length = 16 := rfl
theorem marksR_get (k : Nat) (h : k < 16) : marksR[k]'(by rw [marksR_len]; exact h) = markR (k : Int) := by
  simp only [marksR, List.getElem_map, List.getElem_range]
theorem self_rowv (r : RowV) : SelfEq Tryz.prog 121 (RowV.cells r).toArray := self_row r.value r.text
/-- A lent list of rows: so many, the marks behind. -/
def LentR (base : Nat) (w : World) (v : Value) (rs : List RowV) : Prop :=
  ∃ g cap, v = .slice (some ⟨g, 0, none⟩) rs.length cap ∧ w.ownsRow base 121 2 (.slice (some ⟨g, 0, none⟩) (rs.length + 16) cap) (rs.length + 16) ((rs ++ marksR).flatMap RowV.cells)
theorem LentR.below {base : Nat} {w w' : World} {v : Value} {rs : List RowV} (h : LentR base w v rs) (hb : Below w.heap.size w w') : LentR base w' v rs := by
  obtain ⟨g, cap, e, hown⟩ := h
  exact ⟨g, cap, e, own_below hown hb⟩
theorem markrow_ok (w : World) (i : Int) : Ret Tryz.prog 120 #[.int .i64 90, .int .i64 i] w (fun v w' => v = .agg (RowV.cells (markR i)).toArray ∧ Below w.heap.size w w') := by
  refine enter2 Tryz.func120 rfl 7 rfl 9 rfl (fun a hF => ?_)
  repeat (first | refine c_seq ?_ | refine c_region _ ?_)
  refine st_alloc hF inf121 (k := fun a w1 hg1 hgr1 hsz1 hF => ?_)
  have hb1 : Below w.heap.size w w1 := (Below.refl _ w).grown hgr1 (Nat.le_refl _) (fun k hk => by cases hk)
  repeat (first | refine c_seq ?_ | refine c_region _ ?_ | refine wpList_nil ?_ | refine c_then ?_ | ((apply st hF); (exact d_move); clear hF; clear a; intro a hF))
  refine stc hF (mark_ok w1 90 i) cal121 ⟨rfl, rfl, trivial⟩ (k := fun a v w2 hR hF => ?_)
  obtain ⟨rfl, hb2⟩ := hR
  have hg2 := (hb2.block _ (lt_at hg1)).trans hg1
  have hB2 := hb1.trans (hb2.mono hb1.size)
  repeat (((apply st hF); (exact d_build (vs := [(0, .int .i64 (-7)), (1, .string (markT 90 i))]) (cells := (RowV.cells (markR i)).toArray) (by kernel_rfl) ⟨rfl, rfl, rfl, rfl, trivial⟩); clear hF; clear a; intro a hF))
  refine st_storeAgg hF (cs := (RowV.cells (markR i)).toArray) (isz _ _ rfl) rfl rfl hg2 (row_cells _) (k := fun a w3 hg3 hgr3 hsz3 hF => ?_)
  repeat (first | refine wpList_nil ?_ | refine c_then ?_ | refine wp_ret ?_)
  exact ret_c hF rfl (agg _ rfl) (isz _ _ rfl) hg3 rfl ⟨rfl, hB2.grown hgr3 hB2.size (fun k hk => by cases hk; exact Nat.le_refl _)⟩
set_option maxHeartbeats 4000000 in
theorem full_rows (w : World) (xs : List RowV) (ao : Option Addr) (n c : Nat) (hn : xs.length = n) (h : RdS w ao 2 RowV.cells xs) (hb : n * 24 ≤ 140737488351232) :
    Ret Tryz.prog 109 #[.slice ao n c] w (fun v w' => (∃ g cap, v = .slice (some ⟨g, 0, none⟩) (n + 16) cap ∧ w'.ownsRow w.heap.size 121 2 (.slice (some ⟨g, 0, none⟩) (n + 16) cap) (n + 16) ((xs ++ marksR).flatMap RowV.cells)) ∧ Below w.heap.size w w') := by
  subst hn
  refine enter1 Tryz.func109 rfl 28 rfl 29 rfl (fun a hF => ?_)
  repeat (first | refine c_seq ?_ | refine c_block ?_ | refine c_region _ ?_ | refine wpList_nil ?_ | refine c_then ?_ | ((apply st hF); (exact d_assign); clear hF; clear a; intro a hF))
  refine c_loop (fun n a wr => ∃ k ao' cap', k ≤ xs.length ∧ n = xs.length - k ∧ Fr 29 [(0, .slice ao xs.length c), (3, .slice ao' k cap'), (4, .int .i64 (k : Nat))] a ∧
    wr.ownsRow w.heap.size 121 2 (.slice ao' k cap') k ((xs.take k).flatMap RowV.cells) ∧ Below w.heap.size w wr) xs.length
    ⟨0, none, 0, by omega, rfl, hF.keep' ⟨rfl, rfl, rfl, trivial⟩, by simpa using World.ownsRow_nil _ _ _ _, Below.refl _ _⟩ ?_
  clear hF a
  rintro n a wr ⟨k, ao', cap', hk, rfl, hF, hown, hbel⟩
  have hsz := hbel.size
  by_cases hlt : k < xs.length
  · obtain ⟨b, o, hao, hc⟩ := h.below hbel k hlt
    rw [hao] at hF
    repeat (first | refine c_seq ?_ | refine c_block ?_ | refine c_region _ ?_ | refine wpList_nil ?_ | refine c_then ?_ | refine wp_skip ?_ | ((apply st hF); (first | exact d_move | exact d_cmpT | exact d_len (und _ _ rfl) | exact d_indexAddrS (und _ _ rfl) (isz _ _ rfl) (j := k) | exact d_loadAgg (agg _ rfl) (isz _ _ rfl) rfl (arr_cells hc)); clear hF; clear a; intro a hF) | (apply c_cond_t hF; exact rfl; first | exact rfl | assumption))
    refine st_pushS hF (us := (RowV.cells xs[k]).toArray) (und _ _ rfl) inf121 rfl (by decide) (by decide) rfl (row_cells _) hown (by omega) (by unfold maxLen; omega) hsz (k := fun a ao2 cap2 w2 hown2 hgr hat hF => ?_)
    repeat (first | refine c_region _ ?_ | refine wpList_nil ?_ | refine c_then ?_ | refine c_in ?_ | ((apply st hF); (first | exact d_move | exact d_assign | exact d_add); clear hF; clear a; intro a hF))
    refine ⟨xs.length - (k + 1), by omega, k + 1, ao2, cap2, by omega, rfl, hao.symm ▸ hF.keep' ⟨rfl, rfl, rfl, trivial⟩, ?_, below_own hbel hsz hown hgr⟩
    rw [List.take_succ_eq_append_getElem hlt, List.flatMap_append]
    simpa using hown2
  · obtain rfl : k = xs.length := by omega
    rw [List.take_length] at hown
    repeat (first | refine c_seq ?_ | refine c_block ?_ | refine c_region _ ?_ | refine wpList_nil ?_ | refine c_then ?_ | refine c_then_exit ?_ | refine c_in_hit ?_ | refine wp_exit ?_ | ((apply st hF); (first | exact d_move | exact d_assign | exact d_cmpF | exact d_len (und _ _ rfl)); clear hF; clear a; intro a hF) | (apply c_cond_f hF; exact rfl; first | exact rfl | assumption))
    refine c_loop (fun n a wr => ∃ k ao' cap', k ≤ 16 ∧ n = 16 - k ∧ Fr 29 [(0, .slice ao xs.length c), (3, .slice ao' (xs.length + k) cap'), (5, .int .i64 (k : Nat))] a ∧
      wr.ownsRow w.heap.size 121 2 (.slice ao' (xs.length + k) cap') (xs.length + k) ((xs ++ marksR.take k).flatMap RowV.cells) ∧ Below w.heap.size w wr) 16
      ⟨0, ao', cap', by omega, rfl, hF.keep' ⟨rfl, rfl, rfl, trivial⟩, by simpa using hown, hbel⟩ ?_
    clear hF a hown hbel hsz wr
    rintro n a wr ⟨k, ao', cap', hk, rfl, hF, hown, hbel⟩
    have hsz := hbel.size
    by_cases hlt2 : k < 16
    · repeat (first | refine c_seq ?_ | refine c_block ?_ | refine c_region _ ?_ | refine wpList_nil ?_ | refine c_then ?_ | refine wp_skip ?_ | ((apply st hF); (first | exact d_move | exact d_cmpT); clear hF; clear a; intro a hF) | (apply c_cond_t hF; exact rfl; first | exact rfl | assumption))
      refine stc hF (markrow_ok wr k) cal120 ⟨rfl, rfl, trivial⟩ (k := fun a v w1 hR hF => ?_)
      obtain ⟨rfl, hb1⟩ := hR
      replace hown := own_below hown hb1
      replace hbel := hbel.trans (hb1.mono hsz)
      replace hsz := hbel.size
      skip
      refine st_pushS hF (us := (RowV.cells (markR k)).toArray) (und _ _ rfl) inf121 rfl (by decide) (by decide) rfl (row_cells _) hown (by omega) (by unfold maxLen; omega) hsz (k := fun a ao2 cap2 w2 hown2 hgr hat hF => ?_)
      have e1 : (xs ++ marksR.take (k + 1)).flatMap RowV.cells = ((xs ++ marksR.take k).flatMap RowV.cells) ++ (RowV.cells (markR k)).toArray.toList := by
        rw [List.take_succ_eq_append_getElem (by rw [marksR_len]; exact hlt2), marksR_get k hlt2]; simp
      rw [← e1] at hown2
      repeat (first | refine c_region _ ?_ | refine wpList_nil ?_ | refine c_then ?_ | refine c_in ?_ | ((apply st hF); (first | exact d_move | exact d_assign | exact d_add); clear hF; clear a; intro a hF))
      exact ⟨16 - (k + 1), by omega, k + 1, ao2, cap2, by omega, rfl, hF.keep' ⟨rfl, rfl, rfl, trivial⟩, hown2, below_own hbel hsz hown hgr⟩
    · obtain rfl : k = 16 := by omega
      have e1 : marksR.take 16 = marksR := rfl
      rw [e1] at hown
      obtain ⟨g, rfl, hg⟩ := own_some hown (by omega)
      have hcap := own_cap' hown
      repeat (first | refine c_seq ?_ | refine c_region _ ?_ | refine wpList_nil ?_ | refine c_then ?_ | refine c_then_exit ?_ | refine c_in_hit ?_ | refine wp_exit ?_ | refine wp_ret ?_ | ((apply st hF); (first | exact d_move | exact d_assign | exact d_cmpF); clear hF; clear a; intro a hF) | (apply c_cond_f hF; exact rfl; first | exact rfl | assumption))
      exact ret1 hF rfl rfl ⟨⟨g, cap', rfl, hown⟩, hbel⟩
theorem lent_rows (w : World) (xs : List RowV) (ao : Option Addr) (n c : Nat) (hn : xs.length = n) (h : RdS w ao 2 RowV.cells xs) (hb : n * 24 ≤ 140737488351232) :
    Ret Tryz.prog 85 #[.slice ao n c] w (fun v w' => LentR w.heap.size w' v xs ∧ Below w.heap.size w w') := by
  subst hn
  refine enter1 Tryz.func85 rfl 9 rfl 10 rfl (fun a hF => ?_)
  repeat (first | refine c_seq ?_ | refine c_region _ ?_ | refine wpList_nil ?_ | refine c_then ?_ | ((apply st hF); (first | exact d_move | exact d_assign); clear hF; clear a; intro a hF))
  refine stc hF (full_rows w xs ao _ c rfl h hb) cal109 ⟨rfl, trivial⟩ (k := fun a v w1 hR hF => ?_)
  obtain ⟨⟨g, cap, rfl, hown⟩, hb1⟩ := hR
  have hcap := own_cap' hown
  repeat (first | refine c_seq ?_ | refine c_region _ ?_ | refine wpList_nil ?_ | refine c_then ?_ | refine wp_ret ?_ | ((apply st hF); (first | exact d_move | exact d_assign | exact d_len (und _ _ rfl) | exact d_slice (und _ _ rfl) (isz _ _ rfl)); clear hF; clear a; intro a hF))
  exact ret1 hF rfl rfl ⟨⟨g, cap, rfl, hown⟩, hb1⟩
set_option maxHeartbeats 4000000 in
theorem keptfull_rows (w : World) (xs : List RowV) (g cap base : Nat) (ao : Option Addr) (n m c : Nat) (hn : xs.length = n) (hm : m = n + 16) (h : RdS w ao 2 RowV.cells xs) (hown : w.ownsRow base 121 2 (.slice (some ⟨g, 0, none⟩) (n + 16) cap) (n + 16) ((xs ++ marksR).flatMap RowV.cells)) (hb : n * 24 ≤ 140737488351232) :
    Ret Tryz.prog 112 #[.slice (some ⟨g, 0, none⟩) m cap, .slice ao n c] w (fun v w' => v = .bool true ∧ Below w.heap.size w w') := by
  subst hm; subst hn
  have hcap := own_cap' hown
  have hR := own_rdS rowc_len hown (by simp [marksR_len])
  refine enter2 Tryz.func112 rfl 36 rfl 38 rfl (fun a hF => ?_)
  repeat (first | refine c_seq ?_ | refine c_block ?_ | refine c_region _ ?_ | refine wpList_nil ?_ | refine c_then ?_ | refine wp_skip ?_ | ((apply st hF); (first | exact d_move | exact d_assign | exact d_add | exact d_cmpF | exact d_len (und _ _ rfl)); clear hF; clear a; intro a hF) | (apply c_cond_f hF; exact rfl; first | exact rfl | assumption))
  refine c_loop (fun q a w' => ∃ k, k ≤ xs.length + 16 ∧ q = xs.length + 16 - k ∧ Fr 38 [(0, .slice (some ⟨g, 0, none⟩) (xs.length + 16) cap), (1, .slice ao xs.length c), (5, .int .i64 (k : Nat))] a ∧ Below w.heap.size w w') (xs.length + 16)
    ⟨0, by omega, rfl, hF.keep' ⟨rfl, rfl, rfl, trivial⟩, Below.refl _ w⟩ ?_
  clear hF a
  rintro q a wr ⟨k, hk, rfl, hF, hbel⟩
  by_cases hlt : k < xs.length + 16
  · repeat (first | refine c_seq ?_ | refine c_block ?_ | refine c_region _ ?_ | refine wpList_nil ?_ | refine c_then ?_ | refine wp_skip ?_ | ((apply st hF); (first | exact d_move | exact d_sub | exact d_cmpT | exact d_len (und _ _ rfl)); clear hF; clear a; intro a hF) | (apply c_cond_t hF; exact rfl; first | exact rfl | assumption))
    refine stc hF (markrow_ok wr ((k : Int) - (xs.length : Int))) cal120 ⟨rfl, rfl, trivial⟩ (k := fun a v w1 hRr hF => ?_)
    obtain ⟨rfl, hb1⟩ := hRr
    have hbel1 := hbel.trans (hb1.mono hbel.size)
    obtain ⟨mk, hmk⟩ : ∃ x, x = markR ((k : Int) - (xs.length : Int)) := ⟨_, rfl⟩
    rw [← hmk] at hF
    refine st_alloc hF inf121 (k := fun a w2 hg2 hgr2 hsz2 hF => ?_)
    refine st_storeAgg hF (cs := (RowV.cells mk).toArray) (isz _ _ rfl) rfl rfl hg2 (row_cells _) (k := fun a w3 hg3 hgr3 hsz3 hF => ?_)
    have hz1 := hb1.size
    have hb3 : Below w1.heap.size w1 w3 := ((Below.refl _ w1).grown hgr2 (Nat.le_refl _) (fun k hk => by cases hk)).grown hgr3 (by omega) (fun k hk => by cases hk; exact Nat.le_refl _)
    have hB3 : Below w.heap.size w w3 := hbel1.trans (hb3.mono hbel1.size)
    have hlen : (xs ++ marksR).length = xs.length + 16 := by simp [marksR_len]
    obtain ⟨b1, o1, ee, hc1⟩ := hR.below hB3 k (by rw [hlen]; omega)
    cases ee
    by_cases hx : k < xs.length
    · obtain ⟨b, o, hao, hc⟩ := h.below hB3 k hx
      rw [hao] at hF
      rw [List.getElem_append_left hx] at hc1
      repeat (first | refine c_seq ?_ | refine c_region _ ?_ | refine wpList_nil ?_ | refine c_then ?_ | ((apply st hF); (first | exact d_move | exact d_cmpT | exact d_len (und _ _ rfl) | exact d_indexAddrS (und _ _ rfl) (isz _ _ rfl) (j := k) | exact d_loadAgg (agg _ rfl) (isz _ _ rfl) rfl (arr_cells hc)); clear hF; clear a; intro a hF) | (apply c_cond_t hF; exact rfl; first | exact rfl | assumption))
      refine st_storeAgg hF (cs := (RowV.cells xs[k]).toArray) (isz _ _ rfl) rfl rfl hg3 (row_cells _) (k := fun a w4 hg4 hgr4 hsz4 hF => ?_)
      have hb4 : Below w1.heap.size w1 w4 := hb3.grown hgr4 (by omega) (fun k hk => by cases hk; exact Nat.le_refl _)
      have hB4 : Below w.heap.size w w4 := hbel1.trans (hb4.mono hbel1.size)
      obtain ⟨b2, o2, ee2, hc2⟩ := hR.below hB4 k (by rw [hlen]; omega)
      cases ee2
      rw [List.getElem_append_left hx] at hc2
      repeat (first | (refine c_region_drawC (fun wx => Below w4.heap.size w4 wx) _ mixed (by kernel_rfl) (below_more (Below.refl _ w4) 1) ?_) | refine c_seq ?_ | refine wpList_nil ?_ | refine c_then ?_ | ((apply q_step hF); intro wq hwq; (exact d_move); clear hF; clear a; intro a hF))
      repeat (((apply q_step hF); intro wq hwq; (first | exact d_indexAddrS (und _ _ rfl) (isz _ _ rfl) (j := k) | exact d_loadAgg (agg _ rfl) (isz _ _ rfl) rfl (arr_cells (fun q v hq => (hwq.cell (p := ⟨g, 0 + k * 2 + q, none⟩) (World.block_lt_of_cell? w4 _ (hc2 q v hq))).trans (hc2 q v hq))) | exact d_loadAgg (agg _ rfl) (isz _ _ rfl) rfl (cells_at ((hwq.block _ (lt_at hg4)).trans hg4)) | exact d_neSelf (self_rowv _)); clear hF; clear a; intro a hF))
      refine q_nil ?_
      intro w5 hb5
      repeat (first | refine c_region _ ?_ | refine wpList_nil ?_ | refine c_then ?_ | refine c_in ?_ | refine wp_skip ?_ | ((apply st hF); (first | exact d_move | exact d_assign | exact d_add); clear hF; clear a; intro a hF) | (apply c_cond_f hF; exact rfl; first | exact rfl | assumption))
      exact ⟨xs.length + 16 - (k + 1), by omega, k + 1, by omega, rfl, by rw [hao]; exact hF.keep' ⟨rfl, rfl, rfl, trivial⟩, hB4.trans (hb5.mono hB4.size)⟩
    · have e3 : (xs ++ marksR)[k]'(by rw [hlen]; omega) = mk := by
        rw [hmk, List.getElem_append_right (by omega), marksR_get _ (by omega)]
        congr 1
        omega
      rw [e3] at hc1
      repeat (first | (refine c_region_drawC (fun wx => Below w3.heap.size w3 wx) _ mixed (by kernel_rfl) (below_more (Below.refl _ w3) 1) ?_) | refine c_seq ?_ | refine c_region _ ?_ | refine wpList_nil ?_ | refine c_then ?_ | refine wp_skip ?_ | ((apply st hF); (first | exact d_move | exact d_cmpF | exact d_len (und _ _ rfl)); clear hF; clear a; intro a hF) | ((apply q_step hF); intro wq hwq; (exact d_move); clear hF; clear a; intro a hF) | (apply c_cond_f hF; exact rfl; first | exact rfl | assumption))
      repeat (((apply q_step hF); intro wq hwq; (first | exact d_indexAddrS (und _ _ rfl) (isz _ _ rfl) (j := k) | exact d_loadAgg (agg _ rfl) (isz _ _ rfl) rfl (arr_cells (fun q v hq => (hwq.cell (p := ⟨g, 0 + k * 2 + q, none⟩) (World.block_lt_of_cell? w3 _ (hc1 q v hq))).trans (hc1 q v hq))) | exact d_loadAgg (agg _ rfl) (isz _ _ rfl) rfl (cells_at ((hwq.block _ (lt_at hg3)).trans hg3)) | exact d_neSelf (self_rowv _)); clear hF; clear a; intro a hF))
      refine q_nil ?_
      intro w5 hb5
      repeat (first | refine c_region _ ?_ | refine wpList_nil ?_ | refine c_then ?_ | refine c_in ?_ | refine wp_skip ?_ | ((apply st hF); (first | exact d_move | exact d_assign | exact d_add); clear hF; clear a; intro a hF) | (apply c_cond_f hF; exact rfl; first | exact rfl | assumption))
      exact ⟨xs.length + 16 - (k + 1), by omega, k + 1, by omega, rfl, hF.keep' ⟨rfl, rfl, rfl, trivial⟩, hB3.trans (hb5.mono hB3.size)⟩
  · repeat (first | refine c_seq ?_ | refine c_region _ ?_ | refine wpList_nil ?_ | refine c_then ?_ | refine c_then_exit ?_ | refine c_in_hit ?_ | refine wp_exit ?_ | refine wp_ret ?_ | ((apply st hF); (first | exact d_move | exact d_assign | exact d_cmpF | exact d_len (und _ _ rfl)); clear hF; clear a; intro a hF) | (apply c_cond_f hF; exact rfl; first | exact rfl | assumption))
    exact ret1 hF rfl rfl ⟨rfl, hbel⟩
theorem kept_rows (w : World) (xs : List RowV) (v : Value) (base : Nat) (ao : Option Addr) (n c : Nat) (hn : xs.length = n) (h : RdS w ao 2 RowV.cells xs) (hl : LentR base w v xs) (hb : n * 24 ≤ 140737488351232) :
    Ret Tryz.prog 91 #[v, .slice ao n c] w (fun v w' => v = .bool true ∧ Below w.heap.size w w') := by
  subst hn
  obtain ⟨g, cap, rfl, hown⟩ := hl
  have hcap := own_cap' hown
  refine enter2 Tryz.func91 rfl 15 rfl 17 rfl (fun a hF => ?_)
  repeat (first | refine c_seq ?_ | refine c_region _ ?_ | refine wpList_nil ?_ | refine c_then ?_ | refine wp_skip ?_ | ((apply st hF); (first | exact d_move | exact d_assign | exact d_add | exact d_cmpF | exact d_len (und _ _ rfl) | exact d_slice (und _ _ rfl) (isz _ _ rfl) (j := xs.length + 16) (hq := by omega)); clear hF; clear a; intro a hF) | (apply c_cond_f hF; exact rfl; first | exact rfl | assumption))
  refine stc hF (keptfull_rows w xs g cap base ao _ _ c rfl rfl h hown hb) cal112 ⟨rfl, rfl, trivial⟩ (k := fun a v w1 hR hF => ?_)
  obtain ⟨rfl, hb1⟩ := hR
  repeat (first | refine wpList_nil ?_ | refine c_then ?_ | refine wp_ret ?_ | ((apply st hF); (exact d_assign); clear hF; clear a; intro a hF))
  exact ret1 hF rfl rfl ⟨rfl, hb1⟩
end Go.Proofs.YtjomihhpglojpaaGreatDoor
end
section
/- Lists of signals, lent and kept. -/
namespace Go.Proofs.YtjomihhpglojpaaGreatDoor
open Go.RowKit
set_option linter.unusedSimpArgs false
set_option linter.unusedVariables false
attribute [local irreducible] wpList wpQuiet wpStill Code.wp Exit.then Exit.inBlock bodyPost Calls Does Does0

set_option maxHeartbeats 4000000 in
theorem lent_signals (w : World) (ps : List SigT) (ao : Option Addr) (n c : Nat) (hs : SigsIn w ao n c ps) :
    Ret Tryz.prog 14 #[.slice ao n c] w (fun v w' => LentS w.heap.size w' v ps ∧ Below w.heap.size w w') := by
  obtain ⟨hn, hrd, heach, hcap, hby⟩ := hs
  subst hn
  refine enter1 Tryz.func14 rfl 33 rfl 34 rfl (fun a hF => ?_)
  repeat (first | refine c_seq ?_ | refine c_block ?_ | refine c_region _ ?_ | refine wpList_nil ?_ | refine c_then ?_ | ((apply st hF); (exact d_assign); clear hF; clear a; intro a hF))
  refine c_loop (fun q a wr => ∃ k ao' cap' ls, k ≤ ps.length ∧ q = ps.length - k ∧ Fr 34 [(0, .slice ao ps.length c), (3, .slice ao' k cap'), (4, .int .i64 (k : Nat))] a ∧ ls.length = k ∧
    wr.ownsRow w.heap.size 62 19 (.slice ao' k cap') k (ls.flatMap Sig.cells) ∧ (∀ i, i < k → LentOk w.heap.size wr ps ls i) ∧ Below w.heap.size w wr) ps.length
    ⟨0, none, 0, [], by omega, rfl, hF.keep' ⟨rfl, rfl, rfl, trivial⟩, rfl, by simpa using World.ownsRow_nil _ _ _ _, fun i hi => absurd hi (Nat.not_lt_zero _), Below.refl _ _⟩ ?_
  clear hF a
  rintro q a wr ⟨k, ao', cap', ls, hk, rfl, hF, hll, hown, hok, hbel⟩
  have hsz := hbel.size
  by_cases hlt : k < ps.length
  · obtain ⟨b, o, rfl, hc⟩ := hrd k (by simpa using hlt)
    rw [at_map hlt] at hc
    have hc' : ∀ q v, (Sig.cells ps[k].1)[q]? = some v → wr.cell? ⟨b, o + k * 19 + q, none⟩ = some v := fun q v hq => (hbel.cell (p := ⟨b, o + k * 19 + q, none⟩) (World.block_lt_of_cell? w _ (hc q v hq))).trans (hc q v hq)
    have hin := heach ps[k] (List.getElem_mem hlt)
    repeat (first | refine c_seq ?_ | refine c_block ?_ | refine c_region _ ?_ | refine wpList_nil ?_ | refine c_then ?_ | refine wp_skip ?_ | ((apply st hF); (first | exact d_move | exact d_cmpT | exact d_len (und _ _ rfl) | exact d_indexAddrS (und _ _ rfl) (isz _ _ rfl) | exact d_loadAgg (agg _ rfl) (isz _ _ rfl) rfl (arr_cells hc')); clear hF; clear a; intro a hF) | (apply c_cond_t hF; exact rfl; first | exact rfl | assumption))
    refine stc hF (lent_signal wr ps[k].1 ps[k].2 (hin.below hbel)) cal44 ⟨rfl, trivial⟩ (k := fun a v w1 hR hF => ?_)
    obtain ⟨g, cap, rfl, hl1, hb1⟩ := hR
    have hB1 : Below w.heap.size w w1 := hbel.trans (hb1.mono hsz)
    have hown1 := own_below hown hb1
    refine st_alloc hF inf62 (k := fun a w2 hg2 hgr2 hsz2 hF => ?_)
    have hb2 : Below w1.heap.size w1 w2 := (Below.refl _ w1).grown hgr2 (Nat.le_refl _) (fun k hk => by cases hk)
    refine st_storeAgg hF (cs := (Sig.cells (ps[k].1.at g cap)).toArray) (isz _ _ rfl) rfl rfl hg2 (sig_cells _) (k := fun a w3 hg3 hgr3 hsz3 hF => ?_)
    have hb3 : Below w1.heap.size w1 w3 := hb2.grown hgr3 (by omega) (fun k hk => by cases hk; exact Nat.le_refl _)
    have hB3 : Below w.heap.size w w3 := hB1.trans (hb3.mono hB1.size)
    have hown3 := own_below hown1 hb3
    have hl3 := (hl1.below hb3).rebase hsz
    have hok3 : ∀ i, i < k → LentOk w.heap.size w3 ps ls i := fun i hi => ((hok i hi).below hb1).below hb3
    repeat (first | refine c_region _ ?_ | refine wpList_nil ?_ | refine c_then ?_ | ((apply st hF); (first | exact d_move | exact d_loadAgg (agg _ rfl) (isz _ _ rfl) rfl (cells_at hg3)); clear hF; clear a; intro a hF))
    refine st_pushS hF (us := (Sig.cells (ps[k].1.at g cap)).toArray) (und _ _ rfl) inf62 rfl (by decide) (by decide) rfl (sig_cells _) hown3 (by omega) (by unfold maxLen; omega) hB3.size (k := fun a ao2 cap2 w4 hown4 hgr4 hat hF => ?_)
    have hB4 := below_own hB3 hB3.size hown3 hgr4
    repeat (first | refine c_region _ ?_ | refine wpList_nil ?_ | refine c_then ?_ | refine c_in ?_ | ((apply st hF); (first | exact d_move | exact d_assign | exact d_add); clear hF; clear a; intro a hF))
    refine ⟨ps.length - (k + 1), by omega, k + 1, ao2, cap2, ls ++ [ps[k].1.at g cap], by omega, rfl, hF.keep' ⟨rfl, rfl, rfl, trivial⟩, by simp [hll], by simpa using hown4, fun i hi => ?_, hB4⟩
    by_cases hik : i < k
    · obtain ⟨p, g', c', h1, h2, h3⟩ := (hok3 i hik).keptO hown3 (by decide) hgr4
      exact ⟨p, g', c', h1, by rw [List.getElem?_append_left (by omega)]; exact h2, h3⟩
    · obtain rfl : i = k := by omega
      obtain ⟨g', c', e, hlo⟩ := hl3
      exact ⟨ps[i], g, cap, by simp [hlt], by rw [List.getElem?_append_right (by omega), hll]; simp, g', c', e, own_keptO hlo hown3 (by decide) hgr4⟩
  · obtain rfl : k = ps.length := by omega
    repeat (first | refine c_seq ?_ | refine c_block ?_ | refine c_region _ ?_ | refine wpList_nil ?_ | refine c_then ?_ | refine c_then_exit ?_ | refine c_in_hit ?_ | refine wp_exit ?_ | ((apply st hF); (first | exact d_move | exact d_assign | exact d_cmpF | exact d_len (und _ _ rfl)); clear hF; clear a; intro a hF) | (apply c_cond_f hF; exact rfl; first | exact rfl | assumption))
    refine c_loop (fun q a wr => ∃ k ao' cap', k ≤ 16 ∧ q = 16 - k ∧ Fr 34 [(0, .slice ao ps.length c), (3, .slice ao' (ps.length + k) cap'), (6, .int .i64 (k : Nat))] a ∧
      wr.ownsRow w.heap.size 62 19 (.slice ao' (ps.length + k) cap') (ps.length + k) ((ls ++ List.replicate k sigM).flatMap Sig.cells) ∧ (∀ i, i < ps.length → LentOk w.heap.size wr ps ls i) ∧ Below w.heap.size w wr) 16
      ⟨0, ao', cap', by omega, rfl, hF.keep' ⟨rfl, rfl, rfl, trivial⟩, by simpa using hown, hok, hbel⟩ ?_
    clear hF a hown hok hbel hsz wr
    rintro q a wr ⟨k, ao', cap', hk, rfl, hF, hown, hok, hbel⟩
    have hsz := hbel.size
    by_cases hlt2 : k < 16
    · repeat (first | refine c_seq ?_ | refine c_block ?_ | refine c_region _ ?_ | refine wpList_nil ?_ | refine c_then ?_ | refine wp_skip ?_ | ((apply st hF); (first | exact d_move | exact d_cmpT | exact d_build (vs := [(4, .int .i64 (-7))]) (cells := (Sig.cells sigM).toArray) (by kernel_rfl) ⟨rfl, rfl, trivial⟩); clear hF; clear a; intro a hF) | (apply c_cond_t hF; exact rfl; first | exact rfl | assumption))
      refine st_pushS hF (us := (Sig.cells sigM).toArray) (und _ _ rfl) inf62 rfl (by decide) (by decide) rfl (sig_cells _) hown (by omega) (by unfold maxLen; omega) hsz (k := fun a ao2 cap2 w4 hown4 hgr4 hat hF => ?_)
      repeat (first | refine c_region _ ?_ | refine wpList_nil ?_ | refine c_then ?_ | refine c_in ?_ | ((apply st hF); (first | exact d_move | exact d_assign | exact d_add); clear hF; clear a; intro a hF))
      refine ⟨16 - (k + 1), by omega, k + 1, ao2, cap2, by omega, rfl, hF.keep' ⟨rfl, rfl, rfl, trivial⟩, ?_, fun i hi => (hok i hi).keptO hown (by decide) hgr4, below_own hbel hsz hown hgr4⟩
      rw [List.replicate_succ', ← List.append_assoc, List.flatMap_append]
      simpa [Nat.add_assoc] using hown4
    · obtain rfl : k = 16 := by omega
      obtain ⟨g, rfl, _⟩ := own_some hown (by omega)
      have hcap' := own_cap' hown
      repeat (first | refine c_seq ?_ | refine c_region _ ?_ | refine wpList_nil ?_ | refine c_then ?_ | refine c_then_exit ?_ | refine c_in_hit ?_ | refine wp_exit ?_ | refine wp_ret ?_ | ((apply st hF); (first | exact d_move | exact d_assign | exact d_cmpF | exact d_len (und _ _ rfl) | exact d_slice (und _ _ rfl) (isz _ _ rfl)); clear hF; clear a; intro a hF) | (apply c_cond_f hF; exact rfl; first | exact rfl | assumption))
      exact ret1 hF rfl rfl ⟨⟨g, cap', ls, rfl, hll, hown, hok⟩, hbel⟩

set_option maxHeartbeats 4000000 in
theorem kept_signals (w : World) (ps : List SigT) (v : Value) (base : Nat) (ao : Option Addr) (n c : Nat) (hs : SigsIn w ao n c ps) (hl : LentS base w v ps) :
    Ret Tryz.prog 28 #[v, .slice ao n c] w (fun v w' => v = .bool true ∧ Below w.heap.size w w') := by
  obtain ⟨hn, hrd, heach, hcap, hby⟩ := hs
  subst hn
  obtain ⟨g, cap, ls, rfl, hll, hown, hok⟩ := hl
  have hcap2 := own_cap' hown
  have hR := own_rdS sigc_len hown (by simp [hll])
  refine enter2 Tryz.func28 rfl 46 rfl 48 rfl (fun a hF => ?_)
  repeat (first | refine c_seq ?_ | refine c_block ?_ | refine c_region _ ?_ | refine wpList_nil ?_ | refine c_then ?_ | refine wp_skip ?_ | ((apply st hF); (first | exact d_move | exact d_assign | exact d_add | exact d_cmpF | exact d_len (und _ _ rfl) | exact d_slice (und _ _ rfl) (isz _ _ rfl) (j := ps.length + 16) (hq := by omega)); clear hF; clear a; intro a hF) | (apply c_cond_f hF; exact rfl; first | exact rfl | assumption))
  refine c_loop (fun q a w' => ∃ k, k ≤ ps.length ∧ q = ps.length - k ∧ Fr 48 [(1, .slice ao ps.length c), (5, .int .i64 ps.length), (6, .slice (some ⟨g, 0, none⟩) (ps.length + 16) cap), (7, .int .i64 (k : Nat))] a ∧ Below w.heap.size w w') ps.length
    ⟨0, by omega, rfl, hF.keep' ⟨rfl, rfl, rfl, rfl, trivial⟩, Below.refl _ w⟩ ?_
  clear hF a
  rintro q a wr ⟨k, hk, rfl, hF, hbel⟩
  by_cases hlt : k < ps.length
  · obtain ⟨p, gi, ci, hp, hli, hlt'⟩ := hok k hlt
    have hpe : ps[k] = p := by rw [List.getElem?_eq_getElem hlt] at hp; exact Option.some.inj hp
    obtain ⟨b, o, rfl, hc⟩ := hrd k (by simpa using hlt)
    rw [at_map hlt, hpe] at hc
    obtain ⟨b2, o2, e2, hc2⟩ := hR k (by simp; omega)
    cases e2
    have hle : (ls ++ List.replicate 16 sigM)[k]'(by simp; omega) = p.1.at gi ci := by
      rw [List.getElem_append_left (by omega)]
      rw [List.getElem?_eq_getElem (by omega)] at hli
      exact Option.some.inj hli
    rw [hle] at hc2
    have hin := heach p (by rw [← hpe]; exact List.getElem_mem hlt)
    have hx : ∀ w', Below w.heap.size w w' → ∀ q v, (Sig.cells (p.1.at gi ci))[q]? = some v → w'.cell? ⟨g, 0 + k * 19 + q, none⟩ = some v := fun w' h q v hq => (h.cell (p := ⟨g, 0 + k * 19 + q, none⟩) (World.block_lt_of_cell? w _ (hc2 q v hq))).trans (hc2 q v hq)
    have hy : ∀ w', Below w.heap.size w w' → ∀ q v, (Sig.cells p.1)[q]? = some v → w'.cell? ⟨b, o + k * 19 + q, none⟩ = some v := fun w' h q v hq => (h.cell (p := ⟨b, o + k * 19 + q, none⟩) (World.block_lt_of_cell? w _ (hc q v hq))).trans (hc q v hq)
    repeat (first | (refine c_region_drawC (fun w' => Below w.heap.size w w') _ mixed (by kernel_rfl) (below_more hbel 1) ?_) | refine c_seq ?_ | refine c_block ?_ | refine c_region _ ?_ | refine wpList_nil ?_ | refine c_then ?_ | refine wp_skip ?_ | ((apply st hF); (first | exact d_move | exact d_cmpT); clear hF; clear a; intro a hF) | ((apply q_step hF); intro wq hwq; (exact d_move); clear hF; clear a; intro a hF) | (apply c_cond_t hF; exact rfl; first | exact rfl | assumption))
    repeat (((apply q_step hF); intro wq hwq; (first | exact d_move | exact d_indexAddrS (und _ _ rfl) (isz _ _ rfl) | exact d_loadAgg (agg _ rfl) (isz _ _ rfl) rfl (arr_cells (hx wq hwq)) | exact d_loadAgg (agg _ rfl) (isz _ _ rfl) rfl (arr_cells (hy wq hwq))); clear hF; clear a; intro a hF))
    refine q_stc hF (fun w' hw' => (kept_signal w' p.1 p.2 gi ci base (hin.below hw') (hlt'.below hw')).mono (fun v w'' h => ⟨h.1, hw'.trans (h.2.mono hw'.size)⟩)) cal57 ⟨rfl, rfl, trivial⟩ (k := fun a hF => ?_)
    repeat (((apply q_step hF); intro wq hwq; (exact d_not); clear hF; clear a; intro a hF))
    refine q_nil ?_
    intro w3 hb3
    repeat (first | refine c_region _ ?_ | refine wpList_nil ?_ | refine c_then ?_ | refine c_in ?_ | refine wp_skip ?_ | ((apply st hF); (first | exact d_move | exact d_assign | exact d_add); clear hF; clear a; intro a hF) | (apply c_cond_f hF; exact rfl; first | exact rfl | assumption))
    exact ⟨ps.length - (k + 1), by omega, k + 1, by omega, rfl, hF.keep' ⟨rfl, rfl, rfl, rfl, trivial⟩, hb3⟩
  · obtain rfl : k = ps.length := by omega
    repeat (first | refine c_seq ?_ | refine c_block ?_ | refine c_region _ ?_ | refine wpList_nil ?_ | refine c_then ?_ | refine c_then_exit ?_ | refine c_in_hit ?_ | refine wp_exit ?_ | ((apply st hF); (first | exact d_move | exact d_assign | exact d_cmpF); clear hF; clear a; intro a hF) | (apply c_cond_f hF; exact rfl; first | exact rfl | assumption))
    refine c_loop (fun q a w' => ∃ k, k ≤ 16 ∧ q = 16 - k ∧ Fr 48 [(5, .int .i64 ps.length), (6, .slice (some ⟨g, 0, none⟩) (ps.length + 16) cap), (8, .int .i64 ((ps.length + k : Nat) : Int))] a ∧ Below w.heap.size w w') 16
      ⟨0, by omega, rfl, hF.keep' ⟨rfl, rfl, rfl, trivial⟩, hbel⟩ ?_
    clear hF a hbel wr
    rintro q a wr ⟨k, hk, rfl, hF, hbel⟩
    by_cases hlt2 : k < 16
    · obtain ⟨b2, o2, e2, hc2⟩ := hR (ps.length + k) (by simp; omega)
      cases e2
      have hle : (ls ++ List.replicate 16 sigM)[ps.length + k]'(by simp; omega) = sigM := by
        rw [List.getElem_append_right (by omega), List.getElem_replicate]
      rw [hle] at hc2
      have c5 : wr.cell? ⟨g, 0 + (ps.length + k) * 19 + 5, none⟩ = some (.int .i64 (-7)) := (hbel.cell (p := ⟨g, 0 + (ps.length + k) * 19 + 5, none⟩) (World.block_lt_of_cell? w _ (hc2 5 _ rfl))).trans (hc2 5 _ rfl)
      repeat (first | refine c_seq ?_ | refine c_block ?_ | refine c_region _ ?_ | refine wpList_nil ?_ | refine c_then ?_ | refine c_in ?_ | refine wp_skip ?_ | ((apply st hF); (first | exact d_move | exact d_assign | exact d_not | exact d_add | exact d_cmpT | exact d_len (und _ _ rfl) | exact d_fieldAddr (fld _ _ _ _ rfl) (isz _ _ rfl) | exact d_indexAddrS (und _ _ rfl) (isz _ _ rfl) | exact d_load (und _ _ rfl) c5); clear hF; clear a; intro a hF) | (apply c_cond_t hF; exact rfl; first | exact rfl | assumption) | (apply c_cond_f hF; exact rfl; first | exact rfl | assumption))
      exact ⟨16 - (k + 1), by omega, k + 1, by omega, rfl, hF.keep' ⟨rfl, rfl, rfl, trivial⟩, hbel⟩
    · repeat (first | refine c_seq ?_ | refine c_region _ ?_ | refine wpList_nil ?_ | refine c_then ?_ | refine c_then_exit ?_ | refine c_in_hit ?_ | refine wp_exit ?_ | refine wp_ret ?_ | ((apply st hF); (first | exact d_move | exact d_assign | exact d_cmpF | exact d_len (und _ _ rfl)); clear hF; clear a; intro a hF) | (apply c_cond_f hF; exact rfl; first | exact rfl | assumption))
      exact ret1 hF rfl rfl ⟨rfl, hbel⟩
end Go.Proofs.YtjomihhpglojpaaGreatDoor
end
section
/- Messages, lent and kept. -/
namespace Go.Proofs.YtjomihhpglojpaaGreatDoor
open Go.RowKit
set_option linter.unusedSimpArgs false
set_option linter.unusedVariables false
attribute [local irreducible] wpList wpQuiet wpStill Code.wp Exit.then Exit.inBlock bodyPost Calls Does Does0

set_option maxHeartbeats 4000000 in
theorem lent_message (w : World) (m : Msg) (ps : List SigT) (hs : MsgIn w m ps) :
    Ret Tryz.prog 5 #[.agg (Msg.cells m).toArray] w (fun v w' => ∃ g cap, v = .agg (Msg.cells (m.at g cap)).toArray ∧ LentS w.heap.size w' (.slice (some ⟨g, 0, none⟩) m.sgN cap) ps ∧ Below w.heap.size w w') := by
  have hlen := hs.len
  refine enter1 Tryz.func5 rfl 9 rfl 10 rfl (fun a hF => ?_)
  repeat (first | refine c_seq ?_ | refine c_region _ ?_)
  refine st_box hF (cs := (Msg.cells m).toArray) rfl (k := fun a w1 hg1 hgr1 hsz1 hF => ?_)
  refine st_alloc hF inf27 (k := fun a w2 hg2 hgr2 hsz2 hF => ?_)
  have hb2 : Below w.heap.size w w2 := ((Below.refl _ w).grown hgr1 (Nat.le_refl _) (fun k hk => by cases hk)).grown hgr2 (by omega) (fun k hk => by cases hk)
  have hg12 := blk_kept hg1 hgr2 (by simp)
  repeat (first | refine c_seq ?_ | refine c_region _ ?_ | refine wpList_nil ?_ | refine c_then ?_ | ((apply st hF); (exact d_loadAgg (agg _ rfl) (isz _ _ rfl) rfl (cells_at hg12)); clear hF; clear a; intro a hF))
  refine st_alloc hF inf27 (k := fun a w3 hg3 hgr3 hsz3 hF => ?_)
  have hb3 : Below w.heap.size w w3 := hb2.grown hgr3 (by omega) (fun k hk => by cases hk)
  have hg13 := blk_kept hg12 hgr3 (by simp)
  have hg23 := blk_kept hg2 hgr3 (by simp)
  refine st_storeAgg hF (cs := (Msg.cells m).toArray) (isz _ _ rfl) rfl rfl hg3 (msg_cells m) (k := fun a w4 hg4 hgr4 hsz4 hF => ?_)
  have hb4 : Below w.heap.size w w4 := hb3.grown hgr4 (by omega) (fun k hk => by cases hk; omega)
  have hg14 := blk_kept hg13 hgr4 (by simp; omega)
  have hg24 := blk_kept hg23 hgr4 (by simp; omega)
  have c7 := cell_at (i := 7) hg14 rfl
  repeat (first | refine c_seq ?_ | refine c_region _ ?_ | refine wpList_nil ?_ | refine c_then ?_ | ((apply st hF); (first | exact d_fieldAddr (fld _ _ _ _ rfl) (isz _ _ rfl) | exact d_load (und _ _ rfl) c7); clear hF; clear a; intro a hF))
  refine stc hF (lent_signals w4 ps m.sg _ m.sgC (SigsIn.below hs hb4)) cal14 ⟨rfl, trivial⟩ (k := fun a v w5 hR hF => ?_)
  obtain ⟨⟨g, cap, ls, rfl, hll, hown, hok⟩, hb5⟩ := hR
  have hb5' : Below w.heap.size w w5 := hb4.trans (hb5.mono (by omega))
  have hg15 : w5.heap[w.heap.size]? = _ := (hb5.block _ (lt_at hg14)).trans hg14
  have hg25 : w5.heap[w1.heap.size]? = _ := (hb5.block _ (lt_at hg24)).trans hg24
  have hg35 : w5.heap[w2.heap.size]? = _ := (hb5.block _ (lt_at hg4)).trans hg4
  have hz5 := hb5.size
  have hgge := own_base' hown
  repeat (((apply st hF); (exact d_fieldAddr (fld _ _ _ _ rfl) (isz _ _ rfl)); clear hF; clear a; intro a hF))
  refine st_store hF (isz _ _ rfl) hg35 (i := 7) (by show 7 < 8; decide) rfl rfl rfl (k := fun a w6 hg6 hgr6 hsz6 hF => ?_)
  have hb6 : Below w.heap.size w w6 := hb5'.grown hgr6 (by omega) (fun k hk => by cases hk; omega)
  have hg26 := blk_kept hg25 hgr6 (by simp; omega)
  repeat (first | refine c_seq ?_ | refine c_region _ ?_ | refine wpList_nil ?_ | refine c_then ?_ | ((apply st hF); (exact d_loadAgg (agg _ rfl) (isz _ _ rfl) rfl (cells_at hg6)); clear hF; clear a; intro a hF))
  refine st_storeAgg hF (cs := (Msg.cells { m with sg := some ⟨g, 0, none⟩, sgN := ps.length, sgC := cap }).toArray) (isz _ _ rfl) rfl rfl hg26 (msg_cells _) (k := fun a w7 hg7 hgr7 hsz7 hF => ?_)
  have hb7 : Below w.heap.size w w7 := hb6.grown hgr7 (by omega) (fun k hk => by cases hk; omega)
  -- the blocks behind w4 are as they were
  have keep : ∀ k, w4.heap.size ≤ k → k < w5.heap.size → w7.heap[k]? = w5.heap[k]? := fun k h1 h2 => (hgr7.block k (by omega) (by simp; omega)).trans (hgr6.block k h2 (by simp; omega))
  repeat (first | refine wpList_nil ?_ | refine c_then ?_ | refine wp_ret ?_)
  refine ret_c hF rfl (agg _ rfl) (isz _ _ rfl) hg7 rfl ⟨g, cap, by rw [hlen]; rfl, ⟨g, cap, ls, by rw [hlen], hll, ?_, fun i hi => ?_⟩, hb7⟩
  · refine own_rebase (own_keptB (own_keptB hown hgr6 (fun k hk e => ?_)) hgr7 (fun k hk e => ?_)) (fun k hk => ?_)
    · simp only [Value.ownBlock, Option.some.injEq] at hk e; omega
    · simp only [Value.ownBlock, Option.some.injEq] at hk e; omega
    · simp only [Value.ownBlock, Option.some.injEq] at hk; omega
  · obtain ⟨p, gi, ci, h1, h2, g', c', e, hlo⟩ := hok i hi
    have hge' := own_base' hlo
    refine ⟨p, gi, ci, h1, h2, g', c', e, own_rebase (own_keptB (own_keptB hlo hgr6 (fun k hk e => ?_)) hgr7 (fun k hk e => ?_)) (fun k hk => ?_)⟩
    · simp only [Value.ownBlock, Option.some.injEq] at hk e; omega
    · simp only [Value.ownBlock, Option.some.injEq] at hk e; omega
    · simp only [Value.ownBlock, Option.some.injEq] at hk; omega

set_option maxHeartbeats 4000000 in
theorem kept_message (w : World) (m : Msg) (ps : List SigT) (g cap base : Nat) (hs : MsgIn w m ps) (hl : LentS base w (.slice (some ⟨g, 0, none⟩) m.sgN cap) ps) :
    Ret Tryz.prog 9 #[.agg (Msg.cells (m.at g cap)).toArray, .agg (Msg.cells m).toArray] w (fun v w' => v = .bool true ∧ Below w.heap.size w w') := by
  refine enter2 Tryz.func9 rfl 50 rfl 52 rfl (fun a hF => ?_)
  repeat (first | refine c_seq ?_ | refine c_region _ ?_)
  refine st_box hF (cs := (Msg.cells (m.at g cap)).toArray) rfl (k := fun a w1 hg1 hgr1 hsz1 hF => ?_)
  refine st_box hF (cs := (Msg.cells m).toArray) rfl (k := fun a w2 hg2 hgr2 hsz2 hF => ?_)
  have hb2 : Below w.heap.size w w2 := ((Below.refl _ w).grown hgr1 (Nat.le_refl _) (fun k hk => by cases hk)).grown hgr2 (by omega) (fun k hk => by cases hk)
  have hg12 := blk_kept hg1 hgr2 (by simp)
  have x2 : w2.cell? ⟨w.heap.size, 2, none⟩ = some (.int .u32 m.id) := cell_at hg12 rfl
  have x3 : w2.cell? ⟨w.heap.size, 3, none⟩ = some (.bool m.wide) := cell_at hg12 rfl
  have x4 : w2.cell? ⟨w.heap.size, 4, none⟩ = some (.string m.name) := cell_at hg12 rfl
  have x5 : w2.cell? ⟨w.heap.size, 5, none⟩ = some (.int .i64 m.size) := cell_at hg12 rfl
  have x6 : w2.cell? ⟨w.heap.size, 6, none⟩ = some (.string m.sender) := cell_at hg12 rfl
  have x7 : w2.cell? ⟨w.heap.size, 7, none⟩ = some (.slice (some ⟨g, 0, none⟩) m.sgN cap) := cell_at hg12 rfl
  have xp0 : ∀ j v, (#[.int .i64 m.line, .int .i64 m.col] : Array Value)[j]? = some v → w2.cell? ⟨w.heap.size, 0 + j, none⟩ = some v := pair_at (cell_at (i := 0) hg12 rfl) (cell_at (i := 1) hg12 rfl)
  have y2 : w2.cell? ⟨w1.heap.size, 2, none⟩ = some (.int .u32 m.id) := cell_at hg2 rfl
  have y3 : w2.cell? ⟨w1.heap.size, 3, none⟩ = some (.bool m.wide) := cell_at hg2 rfl
  have y4 : w2.cell? ⟨w1.heap.size, 4, none⟩ = some (.string m.name) := cell_at hg2 rfl
  have y5 : w2.cell? ⟨w1.heap.size, 5, none⟩ = some (.int .i64 m.size) := cell_at hg2 rfl
  have y6 : w2.cell? ⟨w1.heap.size, 6, none⟩ = some (.string m.sender) := cell_at hg2 rfl
  have y7 : w2.cell? ⟨w1.heap.size, 7, none⟩ = some (.slice m.sg m.sgN m.sgC) := cell_at hg2 rfl
  have yp0 : ∀ j v, (#[.int .i64 m.line, .int .i64 m.col] : Array Value)[j]? = some v → w2.cell? ⟨w1.heap.size, 0 + j, none⟩ = some v := pair_at (cell_at (i := 0) hg2 rfl) (cell_at (i := 1) hg2 rfl)
  repeat (first | refine c_seq ?_ | refine c_region _ ?_ | refine wpList_nil ?_ | refine c_then ?_ | ((first | apply st hF | apply stg hF); (first | exact d_move | exact d_assign | exact d_pickT | exact d_cmpT | exact d_eqbT (und _ _ rfl) | exact d_eqST | exact d_fieldAddr (fld _ _ _ _ rfl) (isz _ _ rfl) | exact d_loadAgg (agg _ rfl) (isz _ _ rfl) rfl xp0 | exact d_loadAgg (agg _ rfl) (isz _ _ rfl) rfl yp0 | exact d_eqPs pairPlace | exact d_load (und _ _ rfl) x2 | exact d_load (und _ _ rfl) x3 | exact d_load (und _ _ rfl) x4 | exact d_load (und _ _ rfl) x5 | exact d_load (und _ _ rfl) x6 | exact d_load (und _ _ rfl) x7 | exact d_load (und _ _ rfl) y2 | exact d_load (und _ _ rfl) y3 | exact d_load (und _ _ rfl) y4 | exact d_load (und _ _ rfl) y5 | exact d_load (und _ _ rfl) y6 | exact d_load (und _ _ rfl) y7); clear hF; clear a; intro a hF))
  refine stcg hF (kept_signals w2 ps _ base m.sg _ m.sgC (SigsIn.below hs hb2) (hl.below hb2)) cal28 ⟨rfl, rfl, trivial⟩ (k := fun a v w3 hR hF => ?_)
  obtain ⟨rfl, hb3⟩ := hR
  repeat (first | refine wpList_nil ?_ | refine c_then ?_ | refine wp_ret ?_ | ((apply st hF); (first | exact d_assign | exact d_pickT); clear hF; clear a; intro a hF))
  exact ret1 hF rfl rfl ⟨rfl, hb2.trans (hb3.mono hb2.size)⟩

end Go.Proofs.YtjomihhpglojpaaGreatDoor
end
