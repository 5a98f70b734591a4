/- Laid together by a program of mine: Pick FewW. -/
import Derived.Test.YtjomihhpglojpaaDoorSumLawFewerS4
import Derived.Test.YtjomihhpglojpaaDoorSumLawFewerS27
set_option linter.unusedSimpArgs false
set_option linter.unusedVariables false
section
/- Pick: a number below n out of any. -/
namespace Go.Proofs.YtjomihhpglojpaaDoor
open Go.RowKit
set_option linter.unusedSimpArgs false
set_option linter.unusedVariables false
attribute [local irreducible] wpList wpQuiet wpStill Code.wp Exit.then Exit.inBlock bodyPost Calls Does Does0

set_option maxHeartbeats 2000000 in
theorem pick_ok (w : World) (k n : Int) (h1 : 1 ≤ n) (h2 : n ≤ 4611686018427387904) :
    Ret Tryd.prog 11 #[.int .i64 k, .int .i64 n] w (fun v w' => v = .int .i64 (k % n) ∧ w' = w) := by
  have b0 := Int.emod_nonneg k (show n ≠ 0 by omega)
  have b1 := Int.emod_lt_of_pos k (show 0 < n by omega)
  by_cases hk : 0 ≤ k
  · refine enter2 Tryd.func11 rfl 14 rfl 16 rfl (fun a hF => ?_)
    repeat (first | refine c_seq ?_ | refine c_region _ ?_ | refine wpList_nil ?_ | refine c_then ?_ | refine wp_skip ?_ | refine wp_ret ?_ | ((apply st hF); (first | exact d_move | exact d_assign | exact d_rem | exact d_cmpF); clear hF; clear a; intro a hF) | (apply c_cond_f hF; exact rfl; first | exact rfl | assumption))
    exact ret1 hF rfl rfl ⟨rfl, rfl⟩
  · have e1 : k.tmod n = -((-k) % n) := by
      rw [← Int.tmod_eq_emod_of_nonneg (by omega), Int.neg_tmod]; simp
    have c0 := Int.emod_nonneg (-k) (show n ≠ 0 by omega)
    have c1 := Int.emod_lt_of_pos (-k) (show 0 < n by omega)
    have c2 := Int.emod_add_mul_ediv (-k) n
    by_cases hr : (-k) % n = 0
    · have e2 : k % n = k.tmod n := emod_unique (q := -((-k) / n)) (by omega) (by omega) (by rw [Int.mul_neg]; omega)
      have e3 : k.tmod n = 0 := by omega
      clear b0 b1 c2
      refine enter2 Tryd.func11 rfl 14 rfl 16 rfl (fun a hF => ?_)
      repeat (first | refine c_seq ?_ | refine c_region _ ?_ | refine wpList_nil ?_ | refine c_then ?_ | refine wp_skip ?_ | refine wp_ret ?_ | ((apply st hF); (first | exact d_move | exact d_assign | exact d_cmpF | exact d_remt (h := by omega)); clear hF; clear a; intro a hF) | (apply c_cond_f hF; exact rfl; first | exact rfl | assumption))
      exact ret1 hF rfl rfl ⟨by rw [e2], rfl⟩
    · have e2 : k % n = k.tmod n + n := emod_unique (q := -((-k) / n) - 1) (by omega) (by omega) (by rw [Int.mul_sub, Int.mul_neg]; omega)
      have e3 : k.tmod n < 0 ∧ -4611686018427387904 < k.tmod n := by omega
      clear b0 b1 c2
      refine enter2 Tryd.func11 rfl 14 rfl 16 rfl (fun a hF => ?_)
      repeat (first | refine c_seq ?_ | refine c_region _ ?_ | refine wpList_nil ?_ | refine c_then ?_ | refine wp_skip ?_ | refine wp_ret ?_ | ((apply st hF); (first | exact d_move | exact d_assign | exact d_add | exact d_cmpT | exact d_cmpF | exact d_remt (h := by omega)); clear hF; clear a; intro a hF) | (apply c_cond_t hF; exact rfl; first | exact rfl | assumption) | (apply c_cond_f hF; exact rfl; first | exact rfl | assumption))
      exact ret1 hF rfl rfl ⟨by rw [e2], rfl⟩
end Go.Proofs.YtjomihhpglojpaaDoor
end
section
/- CheckFewer, walked. -/
namespace Go.Proofs.YtjomihhpglojpaaDoor
open Go.RowKit
set_option linter.unusedSimpArgs false
set_option linter.unusedVariables false
attribute [local irreducible] wpList wpQuiet wpStill Code.wp Exit.then Exit.inBlock bodyPost Calls Does Does0
set_option maxRecDepth 100000
set_option maxHeartbeats 16000000 in
theorem checkfewer_ok (w : World) (d : Db) (ss : List ByteArray) (ms : List MsgT) (ts : List TabT) (which : Int) (hin : DbIn w d ss ms ts) (hT : Tabs w) :
    Ret Tryd.prog 6 #[.agg (Db.cells d).toArray, .int .i64 which] w (fun v w' => v = .bool true ∧ Below w.heap.size w w') := by
  have hml := hin.msgs.len
  have htl := hin.tabs.len
  have hmby := hin.msgs.bytes
  have htby := hin.tabs.bytes
  have hsby := hin.sbytes
  refine enter2 Tryd.func6 rfl 101 rfl 103 rfl (fun a hF => ?_)
  repeat (first | refine c_seq ?_ | refine c_region _ ?_)
  refine st_box hF (cs := (Db.cells d).toArray) rfl (k := fun a w1 hg1 hgr1 hsz1 hF => ?_)
  have hb1 : Below w.heap.size w w1 := (Below.refl _ w).grown hgr1 (Nat.le_refl _) (fun k hk => by cases hk)
  have hd1 : DgAt w.heap.size d w1 := hg1
  clear hg1 hgr1
  repeat (first | refine c_seq ?_ | refine c_region _ ?_ | refine wpList_nil ?_ | refine c_then ?_ | ((apply st hF); (exact d_assign); clear hF; clear a; intro a hF))
  refine stc hF (works_ok w1 (hT.below hb1)) cal9 trivial (k := fun a v w2 hR hF => ?_)
  obtain ⟨rfl, hb2⟩ := hR
  have hd2 := hd1.below hb2
  replace hb2 := hb1.trans (hb2.mono hb1.size)
  repeat (first | refine c_seq ?_ | refine c_region _ ?_ | refine wpList_nil ?_ | refine c_then ?_ | refine wp_skip ?_ | ((apply st hF); (first | exact d_not | exact d_loadAgg (agg _ rfl) (isz _ _ rfl) rfl (cells_at hd2)); clear hF; clear a; intro a hF) | (apply c_cond_f hF; exact rfl; first | exact rfl | assumption))
  refine stc hF (cdb_ok w2 d ss ms ts (hin.below hb2) (hT.below hb2)) cal21 ⟨rfl, trivial⟩ (k := fun a v w3 hR hF => ?_)
  obtain ⟨rfl, hb3⟩ := hR
  have hd3 := hd2.below hb3
  replace hb3 := hb2.trans (hb3.mono hb2.size)
  by_cases h0 : (dbE d ss ms ts).1 = 0
  case neg =>
    rw [show ∀ x y, atV (dbE d ss ms ts).1 x y = fltV (dbE d ss ms ts).1 x y from fun x y => if_neg h0] at hF
    repeat (first | refine c_seq ?_ | refine c_region _ ?_ | refine wpList_nil ?_ | refine c_then ?_ | refine c_then_ret ?_ | refine wp_ret ?_ | ((apply st hF); (first | exact d_assign | exact d_neN (ifc _ rfl)); clear hF; clear a; intro a hF) | (apply c_cond_t hF; exact rfl; first | exact rfl | assumption))
    exact ret1 hF rfl rfl ⟨rfl, hb3⟩
  rw [show ∀ x y, atV (dbE d ss ms ts).1 x y = .nilIface from fun x y => if_pos h0] at hF
  have hgood := dbE_zero h0
  have hid : ∀ i, i < ms.length → 0 ≤ (ms_ ms i).id ∧ (ms_ ms i).id < 4294967296 := fun i hi => by rw [ms_lt hi]; exact (hin.msgs.bnd _ (List.getElem_mem hi)).2
  repeat (first | refine c_seq ?_ | refine c_region _ ?_ | refine wpList_nil ?_ | refine c_then ?_ | refine wp_skip ?_ | ((apply st hF); (first | exact d_neN (ifc _ rfl) | exact d_loadAgg (agg _ rfl) (isz _ _ rfl) rfl (cells_at hd3)); clear hF; clear a; intro a hF) | (apply c_cond_f hF; exact rfl; first | exact rfl | assumption))
  refine stc hF (copy_db w3 d ss ms ts (hin.below hb3)) cal22 ⟨rfl, trivial⟩ (k := fun a v w4 hR hF => ?_)
  obtain ⟨a1, c1, lm, a2, c2, lt, a3, c3, rfl, hcd, hb4⟩ := hR
  have hz3 := hb3.size
  have hz4 := hb4.size
  have hd4 := hd3.below hb4
  replace hb4 := hb3.trans (hb4.mono hb3.size)
  refine st_alloc hF inf62 (k := fun a w5 hg5 hgr5 hsz5 hF => ?_)
  refine st_storeAgg hF (cs := (Db.cells (d.cp a1 c1 a2 c2 a3 c3)).toArray) (isz _ _ rfl) rfl rfl hg5 (db_cells _) (k := fun a w6 hg6 hgr6 hsz6 hF => wpList_nil (c_then ?_))
  have hb46 : Below w4.heap.size w4 w6 := ((Below.refl _ w4).grown hgr5 (Nat.le_refl _) (fun k hk => by cases hk)).grown hgr6 (by omega) (fun k hk => by cases hk; exact Nat.le_refl _)
  have hcd6 := hcd.below hb46
  have hd6 := hd4.below hb46
  have hx6 : DgAt w4.heap.size (d.cp a1 c1 a2 c2 a3 c3) w6 := hg6
  have hb6 : Below w.heap.size w w6 := hb4.trans (hb46.mono hb4.size)
  have hld4 := lt_at hd4
  clear hg5 hg6 hgr5 hgr6 hcd hb46
  refine c_mid (fun a w7 => Fr 103 [(2, .pointer (some ⟨w.heap.size, 0, none⟩))] a ∧ DgAt w.heap.size d w7 ∧ Below w.heap.size w w7) ?_ ?_
  · by_cases ht0 : 0 < (d.tbN : Int)
    case neg =>
      repeat (first | refine c_seq ?_ | refine c_region _ ?_ | refine wpList_nil ?_ | refine c_then ?_ | refine wp_skip ?_ | ((apply st hF); (first | exact d_cmpF | exact d_len (und _ _ rfl) | exact d_fieldAddr (fld _ _ _ _ rfl) (isz _ _ rfl) | exact d_load (und _ _ rfl) (hd6.c 8 _ rfl)); clear hF; clear a; intro a hF) | (apply c_cond_f hF; exact rfl; first | exact rfl | assumption))
      exact ⟨hF.keep' ⟨rfl, trivial⟩, hd6, hb6⟩
    repeat (first | refine c_seq ?_ | refine c_region _ ?_ | refine wpList_nil ?_ | refine c_then ?_ | ((apply st hF); (first | exact d_move | exact d_cmpT | exact d_len (und _ _ rfl) | exact d_fieldAddr (fld _ _ _ _ rfl) (isz _ _ rfl) | exact d_load (und _ _ rfl) (hd6.c 8 _ rfl)); clear hF; clear a; intro a hF) | (apply c_cond_t hF; exact rfl; first | exact rfl | assumption))
    refine stc hF (pick_ok w6 which d.tbN (by omega) (by omega)) cal11 ⟨rfl, rfl, trivial⟩ (k := fun a v w6' hR hF => ?_)
    obtain ⟨rfl, rfl⟩ := hR
    obtain ⟨j, hj⟩ : ∃ j : Nat, which % (d.tbN : Int) = (j : Int) := ⟨(which % (d.tbN : Int)).toNat, by have := Int.emod_nonneg which (show (d.tbN : Int) ≠ 0 by omega); omega⟩
    have hjn : j < d.tbN := by have := Int.emod_lt_of_pos which (show 0 < (d.tbN : Int) by omega); omega
    rw [hj] at hF
    have hjl : j < ts.length := by omega
    repeat (first | (refine c_region_tree (fun _ => True) (.read 0 (.read 2 (.read 4 (.read 6 (.read 7 (.two 1 5 (.read 3 (.sole 5 (.read 8 (.sole 9 (.sole 10 (.sole 11 .done)))))) (.read 8 (.sole 1 (.read 3 (.sole 9 (.sole 10 (.sole 11 .done)))))))))))) 8 mixed (by kernel_rfl) trivial ?_) | refine c_seq ?_ | refine wpList_nil ?_ | refine c_then ?_ | ((apply st hF); (exact d_assign); clear hF; clear a; intro a hF))
    have hdb : Below w6'.heap.size w6' (w6'.drewN 1) := below_more (Below.refl _ w6') 1
    generalize w6'.drewN 1 = w7 at *
    have hcd7 := hcd6.below hdb
    have hx7 := hx6.below hdb
    have hd7 := hd6.below hdb
    have hb7 : Below w.heap.size w w7 := hb6.trans (hdb.mono hb6.size)
    have hz7 := hdb.size
    have hlx7 := lt_at hx7
    clear hcd6 hx6 hb6 hdb hd6
    obtain ⟨g, hgo, hgb⟩ := own_some hcd7.tabs.own (by omega)
    have hcw := own_cap' hcd7.tabs.own
    have hll := hcd7.tabs.len
    have x8 : w7.cell? ⟨w4.heap.size, 0 + 8, none⟩ = some (.slice (some ⟨g, 0, none⟩) d.tbN c2) := by
      have := hx7.c 8 _ rfl
      rw [← hgo]; exact this
    have hrow := hcd7.tabs.own
    rw [hgo, htl] at hrow
    have hpre := own_pre hrow (m := j) (by omega)
    rw [flat_take tabc_len] at hpre
    have hrdx : RdS w7 (some ⟨g, 0, none⟩) 6 Tab.cells lt := own_rdS tabc_len hrow (by rw [hll, htl])
    have hrdd := hrdx.drop (j + 1) c2 (by rw [hll]; omega)
    refine r_read hF rfl (fun wq _ => d_fieldAddr (fld _ _ _ _ rfl) (isz _ _ rfl)) rfl (fun a hF => ?_)
    refine r_read hF rfl (fun wq _ => d_move) rfl (fun a hF => ?_)
    refine r_read hF rfl (fun wq _ => d_fieldAddr (fld _ _ _ _ rfl) (isz _ _ rfl)) rfl (fun a hF => ?_)
    refine r_read hF rfl (fun wq _ => d_move) rfl (fun a hF => ?_)
    refine r_read hF rfl (fun wq _ => d_add) rfl (fun a hF => ?_)
    refine r_two rfl rfl ?_ ?_
    · refine st hF (d_load (und _ _ rfl) x8) rfl (fun a hF => wpList_nil ⟨rfl, trivial, ?_⟩)
      refine r_read hF rfl (fun wq _ => d_slice (und _ _ rfl) (isz _ _ rfl) (j := j)) rfl (fun a hF => ?_)
      refine r_sole rfl ?_
      refine st hF (d_load (und _ _ rfl) x8) rfl (fun a hF => wpList_nil ⟨rfl, trivial, ?_⟩)
      refine r_read hF rfl (fun wq _ => d_sliceL (und _ _ rfl) (isz _ _ rfl) (i := j + 1)) rfl (fun a hF => ?_)
      replace hF := hF.keep' (l' := [(30, .slice (some ⟨g, 0, none⟩) j c2), (35, .slice (if c2 = j + 1 then some ⟨g, 0, none⟩ else (some (⟨g, 0, none⟩ : Addr)).map (·.add ((j + 1) * 6))) (d.tbN - (j + 1)) (c2 - (j + 1))), (5, .pointer (some ⟨w4.heap.size, 0, none⟩)), (2, .pointer (some ⟨w.heap.size, 0, none⟩))]) ⟨rfl, rfl, rfl, rfl, trivial⟩
      refine r_sole rfl ?_
      refine st_appendS hF tabc_len (by decide) (und _ _ rfl) inf67 rfl hpre (by rw [List.length_drop, hll, htl]) hrdd (fun y v hv => tab_cells y v (by simpa using hv)) (by omega) (by unfold maxLen; omega) (by omega) (k := fun a ao2 cap2 w8 hown8 hgr8 hF => wpList_nil ⟨rfl, trivial, ?_⟩)
      refine r_sole rfl ?_
      refine st hF (d_fieldAddr (fld _ _ _ _ rfl) (isz _ _ rfl)) rfl (fun a hF => wpList_nil ⟨rfl, trivial, ?_⟩)
      refine r_sole rfl ?_
      have hx8 : DgAt w4.heap.size (d.cp a1 c1 a2 c2 a3 c3) w8 := blk_kept hx7 hgr8 (own_ne hpre hx7 (by decide))
      have hd8 : DgAt w.heap.size d w8 := blk_kept hd7 hgr8 (own_ne hpre hd7 (by decide))
      have hok8 : ∀ i, i < ts.length → CopyTOk w3.heap.size w8 ts lt i := fun i hi => (hcd7.tabs.ok i hi).keptO hpre (by decide) hgr8
      have hmok8 : ∀ i, i < ms.length → CopyMOk w3.heap.size w8 ms lm i := fun i hi => (hcd7.mok i hi).keptO hpre (by decide) (by decide) hgr8
      have hmow8 := own_keptO hcd7.mown hpre (by decide) hgr8
      have hsta8 : CopyT w3.heap.size w8 a3 d.snN c3 ss := own_keptO hcd7.sta hpre (by decide) hgr8
      have hb8 : Below w.heap.size w w8 := hb7.grown hgr8 (by omega) (fun k hk => by have := (own_geC hpre hk).1; omega)
      have hz8 := hgr8.size
      refine st_store hF (isz _ _ rfl) hx8 (i := 0 + 8) (by show 0 + 8 < 9; decide) rfl rfl rfl (k := fun a w9 hg9 hgr9 hsz9 hF => wpList_nil ⟨rfl, trivial, r_done ?_⟩)
      obtain ⟨dx, hdx⟩ : ∃ x : Db, x = { d.cp a1 c1 a2 c2 a3 c3 with tb := ao2, tbN := j + (d.tbN - (j + 1)), tbC := cap2 } := ⟨_, rfl⟩
      have hx9 : DgAt w4.heap.size dx w9 := by rw [hdx]; exact hg9
      have hd9 : DgAt w.heap.size d w9 := blk_kept hd8 hgr9 (by simp; omega)
      have hown9 := own_keptT hown8 hx8 (by decide) hgr9
      have hok9 : ∀ i, i < ts.length → CopyTOk w3.heap.size w9 ts lt i := fun i hi => (hok8 i hi).keptT hx8 (by decide) hgr9
      have hmok9 : ∀ i, i < ms.length → CopyMOk w3.heap.size w9 ms lm i := fun i hi => (hmok8 i hi).keptT hx8 (by decide) (by decide) hgr9
      have hmow9 := own_keptT hmow8 hx8 (by decide) hgr9
      have hsta9 : CopyT w3.heap.size w9 a3 d.snN c3 ss := own_keptT hsta8 hx8 (by decide) hgr9
      have hb9 : Below w.heap.size w w9 := hb8.grown hgr9 (by omega) (fun k hk => by cases hk; omega)
      have hle : (lt.eraseIdx j).length = j + (d.tbN - (j + 1)) := by rw [List.length_eraseIdx_of_lt (by rw [hll]; exact hjl), hll]; omega
      obtain ⟨ms', ts', hix, hze⟩ := few_db (dx := dx) (n := j + (d.tbN - (j + 1))) (m := d.mgN) (l := lt.eraseIdx j) (a2 := a2) (c2 := c2) (fun i => if i < j then i else i + 1) hin hgood hcd7.ml hmow9 hmok9 hsta9 hb9 hle
        (by rw [List.eraseIdx_eq_take_drop_succ, List.flatMap_append]; exact hown9)
        (fun i hi => by
          have hfi : (if i < j then i else i + 1) < ts.length := by split <;> omega
          obtain ⟨a, c, h1, h2⟩ := copy_tab (hok9 _ hfi) hfi hin.tabs
          exact ⟨hfi, a, c, by rw [erase_ix]; exact h1, h2⟩) (by omega) (Nat.le_refl _) (skip_mono j) (fun i _ k hk hkl => by omega) hdx
      repeat (first | refine c_seq ?_ | refine c_region _ ?_ | refine c_then ?_ | ((apply st hF); (exact d_loadAgg (agg _ rfl) (isz _ _ rfl) rfl (cells_at hx9)); clear hF; clear a; intro a hF))
      refine stc hF (cdb_ok w9 dx ss ms' ts' hix (hT.below hb9)) cal21 ⟨rfl, trivial⟩ (k := fun a v w10 hR hF => ?_)
      obtain ⟨rfl, hb10⟩ := hR
      rw [hze, show ∀ x y, atV okE.1 x y = .nilIface from fun x y => if_pos rfl] at hF
      repeat (first | refine wpList_nil ?_ | refine c_then ?_ | refine wp_skip ?_ | ((apply st hF); (exact d_neN (ifc _ rfl)); clear hF; clear a; intro a hF) | (apply c_cond_f hF; exact rfl; first | exact rfl | assumption))
      exact ⟨hF.keep' ⟨rfl, trivial⟩, hd9.below hb10, hb9.trans (hb10.mono hb9.size)⟩
    · refine st hF (d_load (und _ _ rfl) x8) rfl (fun a hF => wpList_nil ⟨rfl, trivial, ?_⟩)
      refine r_read hF rfl (fun wq _ => d_sliceL (und _ _ rfl) (isz _ _ rfl) (i := j + 1)) rfl (fun a hF => ?_)
      refine r_sole rfl ?_
      refine st hF (d_load (und _ _ rfl) x8) rfl (fun a hF => wpList_nil ⟨rfl, trivial, ?_⟩)
      refine r_read hF rfl (fun wq _ => d_slice (und _ _ rfl) (isz _ _ rfl) (j := j)) rfl (fun a hF => ?_)
      replace hF := hF.keep' (l' := [(30, .slice (some ⟨g, 0, none⟩) j c2), (35, .slice (if c2 = j + 1 then some ⟨g, 0, none⟩ else (some (⟨g, 0, none⟩ : Addr)).map (·.add ((j + 1) * 6))) (d.tbN - (j + 1)) (c2 - (j + 1))), (5, .pointer (some ⟨w4.heap.size, 0, none⟩)), (2, .pointer (some ⟨w.heap.size, 0, none⟩))]) ⟨rfl, rfl, rfl, rfl, trivial⟩
      refine r_sole rfl ?_
      refine st_appendS hF tabc_len (by decide) (und _ _ rfl) inf67 rfl hpre (by rw [List.length_drop, hll, htl]) hrdd (fun y v hv => tab_cells y v (by simpa using hv)) (by omega) (by unfold maxLen; omega) (by omega) (k := fun a ao2 cap2 w8 hown8 hgr8 hF => wpList_nil ⟨rfl, trivial, ?_⟩)
      refine r_sole rfl ?_
      refine st hF (d_fieldAddr (fld _ _ _ _ rfl) (isz _ _ rfl)) rfl (fun a hF => wpList_nil ⟨rfl, trivial, ?_⟩)
      refine r_sole rfl ?_
      have hx8 : DgAt w4.heap.size (d.cp a1 c1 a2 c2 a3 c3) w8 := blk_kept hx7 hgr8 (own_ne hpre hx7 (by decide))
      have hd8 : DgAt w.heap.size d w8 := blk_kept hd7 hgr8 (own_ne hpre hd7 (by decide))
      have hok8 : ∀ i, i < ts.length → CopyTOk w3.heap.size w8 ts lt i := fun i hi => (hcd7.tabs.ok i hi).keptO hpre (by decide) hgr8
      have hmok8 : ∀ i, i < ms.length → CopyMOk w3.heap.size w8 ms lm i := fun i hi => (hcd7.mok i hi).keptO hpre (by decide) (by decide) hgr8
      have hmow8 := own_keptO hcd7.mown hpre (by decide) hgr8
      have hsta8 : CopyT w3.heap.size w8 a3 d.snN c3 ss := own_keptO hcd7.sta hpre (by decide) hgr8
      have hb8 : Below w.heap.size w w8 := hb7.grown hgr8 (by omega) (fun k hk => by have := (own_geC hpre hk).1; omega)
      have hz8 := hgr8.size
      refine st_store hF (isz _ _ rfl) hx8 (i := 0 + 8) (by show 0 + 8 < 9; decide) rfl rfl rfl (k := fun a w9 hg9 hgr9 hsz9 hF => wpList_nil ⟨rfl, trivial, r_done ?_⟩)
      obtain ⟨dx, hdx⟩ : ∃ x : Db, x = { d.cp a1 c1 a2 c2 a3 c3 with tb := ao2, tbN := j + (d.tbN - (j + 1)), tbC := cap2 } := ⟨_, rfl⟩
      have hx9 : DgAt w4.heap.size dx w9 := by rw [hdx]; exact hg9
      have hd9 : DgAt w.heap.size d w9 := blk_kept hd8 hgr9 (by simp; omega)
      have hown9 := own_keptT hown8 hx8 (by decide) hgr9
      have hok9 : ∀ i, i < ts.length → CopyTOk w3.heap.size w9 ts lt i := fun i hi => (hok8 i hi).keptT hx8 (by decide) hgr9
      have hmok9 : ∀ i, i < ms.length → CopyMOk w3.heap.size w9 ms lm i := fun i hi => (hmok8 i hi).keptT hx8 (by decide) (by decide) hgr9
      have hmow9 := own_keptT hmow8 hx8 (by decide) hgr9
      have hsta9 : CopyT w3.heap.size w9 a3 d.snN c3 ss := own_keptT hsta8 hx8 (by decide) hgr9
      have hb9 : Below w.heap.size w w9 := hb8.grown hgr9 (by omega) (fun k hk => by cases hk; omega)
      have hle : (lt.eraseIdx j).length = j + (d.tbN - (j + 1)) := by rw [List.length_eraseIdx_of_lt (by rw [hll]; exact hjl), hll]; omega
      obtain ⟨ms', ts', hix, hze⟩ := few_db (dx := dx) (n := j + (d.tbN - (j + 1))) (m := d.mgN) (l := lt.eraseIdx j) (a2 := a2) (c2 := c2) (fun i => if i < j then i else i + 1) hin hgood hcd7.ml hmow9 hmok9 hsta9 hb9 hle
        (by rw [List.eraseIdx_eq_take_drop_succ, List.flatMap_append]; exact hown9)
        (fun i hi => by
          have hfi : (if i < j then i else i + 1) < ts.length := by split <;> omega
          obtain ⟨a, c, h1, h2⟩ := copy_tab (hok9 _ hfi) hfi hin.tabs
          exact ⟨hfi, a, c, by rw [erase_ix]; exact h1, h2⟩) (by omega) (Nat.le_refl _) (skip_mono j) (fun i _ k hk hkl => by omega) hdx
      repeat (first | refine c_seq ?_ | refine c_region _ ?_ | refine c_then ?_ | ((apply st hF); (exact d_loadAgg (agg _ rfl) (isz _ _ rfl) rfl (cells_at hx9)); clear hF; clear a; intro a hF))
      refine stc hF (cdb_ok w9 dx ss ms' ts' hix (hT.below hb9)) cal21 ⟨rfl, trivial⟩ (k := fun a v w10 hR hF => ?_)
      obtain ⟨rfl, hb10⟩ := hR
      rw [hze, show ∀ x y, atV okE.1 x y = .nilIface from fun x y => if_pos rfl] at hF
      repeat (first | refine wpList_nil ?_ | refine c_then ?_ | refine wp_skip ?_ | ((apply st hF); (exact d_neN (ifc _ rfl)); clear hF; clear a; intro a hF) | (apply c_cond_f hF; exact rfl; first | exact rfl | assumption))
      exact ⟨hF.keep' ⟨rfl, trivial⟩, hd9.below hb10, hb9.trans (hb10.mono hb9.size)⟩
  clear hcd6 hd6 hx6 hb6 hd4 hb4 hd3 hb3 hd2 hb2 hd1 hb1 hF hsz1 hsz5 hsz6 hz3 hz4 hld4
  rintro a w7 ⟨hF, hd7, hb7⟩
  by_cases hn0 : (d.mgN : Int) = 0
  · repeat (first | refine c_seq ?_ | refine c_region _ ?_ | refine wpList_nil ?_ | refine c_then ?_ | refine c_then_ret ?_ | refine wp_ret ?_ | ((apply st hF); (first | exact d_assign | exact d_cmpT | exact d_len (und _ _ rfl) | exact d_fieldAddr (fld _ _ _ _ rfl) (isz _ _ rfl) | exact d_load (und _ _ rfl) (hd7.c 7 _ rfl)); clear hF; clear a; intro a hF) | (apply c_cond_t hF; exact rfl; first | exact rfl | assumption))
    exact ret1 hF rfl rfl ⟨rfl, hb7⟩
  have hmp : 0 < d.mgN := by omega
  have hnl : d.mgN - 1 < ms.length := by omega
  obtain ⟨b, o, hao, hc⟩ := msg_cells_at hin.msgs hb7 hnl
  have c7 := hd7.c 7 _ rfl
  rw [hao] at c7
  obtain ⟨la, hla⟩ : ∃ x, x = ms_ ms (d.mgN - 1) := ⟨_, rfl⟩
  rw [← hla] at hc
  repeat (first | refine c_seq ?_ | refine c_region _ ?_ | refine wpList_nil ?_ | refine c_then ?_ | refine wp_skip ?_ | ((apply st hF); (first | exact d_sub | exact d_cmpF | exact d_len (und _ _ rfl) | exact d_fieldAddr (fld _ _ _ _ rfl) (isz _ _ rfl) | exact d_indexAddrS (und _ _ rfl) (isz _ _ rfl) (j := d.mgN - 1) (hq := by omega) | exact d_loadAgg (agg _ rfl) (isz _ _ rfl) rfl (arr_cells hc) | exact d_load (und _ _ rfl) c7); clear hF; clear a; intro a hF) | (apply c_cond_f hF; exact rfl; first | exact rfl | assumption))
  refine st_alloc hF inf27 (k := fun a w8 hg8 hgr8 hsz8 hF => ?_)
  refine st_storeAgg hF (cs := (Msg.cells la).toArray) (isz _ _ rfl) rfl rfl hg8 (msg_cells _) (k := fun a w9 hg9 hgr9 hsz9 hF => ?_)
  have hb79 : Below w7.heap.size w7 w9 := ((Below.refl _ w7).grown hgr8 (Nat.le_refl _) (fun k hk => by cases hk)).grown hgr9 (by omega) (fun k hk => by cases hk; exact Nat.le_refl _)
  have hl9 : MgAt w7.heap.size la w9 := hg9
  have hd9 := hd7.below hb79
  have hb9 := hb7.trans (hb79.mono hb7.size)
  clear hg8 hg9 hgr8 hgr9
  repeat (first | refine c_seq ?_ | refine c_region _ ?_ | refine wpList_nil ?_ | refine c_then ?_ | ((apply st hF); (exact d_loadAgg (agg _ rfl) (isz _ _ rfl) rfl (cells_at hd9)); clear hF; clear a; intro a hF))
  refine stc hF (copy_db w9 d ss ms ts (hin.below hb9)) cal22 ⟨rfl, trivial⟩ (k := fun a v w10 hR hF => ?_)
  obtain ⟨a1, c1, lm, a2, c2, lt, a3, c3, rfl, hcd, hb10⟩ := hR
  have hz7 := hb7.size
  have hz9 := hb9.size
  have hz10 := hb10.size
  have hd10 := hd9.below hb10
  have hl10 := hl9.below hb10
  have hlt7 := lt_at hd7
  have hlt9 := lt_at hl9
  replace hb10 := hb9.trans (hb10.mono hb9.size)
  refine st_alloc hF inf62 (k := fun a w11 hg11 hgr11 hsz11 hF => ?_)
  refine st_storeAgg hF (cs := (Db.cells (d.cp a1 c1 a2 c2 a3 c3)).toArray) (isz _ _ rfl) rfl rfl hg11 (db_cells _) (k := fun a w12 hg12 hgr12 hsz12 hF => ?_)
  have hb1012 : Below w10.heap.size w10 w12 := ((Below.refl _ w10).grown hgr11 (Nat.le_refl _) (fun k hk => by cases hk)).grown hgr12 (by omega) (fun k hk => by cases hk; exact Nat.le_refl _)
  have hcd12 := hcd.below hb1012
  have hd12 := hd10.below hb1012
  have hl12 := hl10.below hb1012
  have hy12 : DgAt w10.heap.size (d.cp a1 c1 a2 c2 a3 c3) w12 := hg12
  have hb12 : Below w.heap.size w w12 := hb10.trans (hb1012.mono hb10.size)
  have hcw := own_cap' hcd12.mown
  clear hg11 hg12 hgr11 hgr12 hcd hb1012
  have y7 : w12.cell? ⟨w10.heap.size, 0 + 7, none⟩ = some (.slice a1 d.mgN c1) := hy12.c 7 _ rfl
  repeat (first | refine c_seq ?_ | refine c_region _ ?_ | refine wpList_nil ?_ | refine c_then ?_ | ((apply st hF); (first | exact d_sub | exact d_len (und _ _ rfl) | exact d_fieldAddr (fld _ _ _ _ rfl) (isz _ _ rfl) | exact d_slice (und _ _ rfl) (isz _ _ rfl) (j := d.mgN - 1) (hq := by omega) | exact d_load (und _ _ rfl) y7 | exact d_load (und _ _ rfl) (hd12.c 7 _ rfl)); clear hF; clear a; intro a hF))
  refine st_store hF (isz _ _ rfl) hy12 (i := 0 + 7) (by show 0 + 7 < 9; decide) rfl rfl rfl (k := fun a w13 hg13 hgr13 hsz13 hF => ?_)
  have hy13 : DgAt w10.heap.size { d.cp a1 c1 a2 c2 a3 c3 with mgN := d.mgN - 1 } w13 := hg13
  have hd13 : DgAt w.heap.size d w13 := blk_kept hd12 hgr13 (by simp; omega)
  have hl13 : MgAt w7.heap.size la w13 := blk_kept hl12 hgr13 (by simp; omega)
  have hcd13 := hcd12.keptT hy12 hgr13
  have hb13 : Below w.heap.size w w13 := hb12.grown hgr13 (by omega) (fun k hk => by cases hk; omega)
  clear hg13 hgr13 hcd12 hd12 hl12 hy12 hb12 hd10 hl10 hb10 hd9 hl9 hb9 hb79
  obtain ⟨p, hp⟩ : ∃ p : TabT → Bool, p = fun t => !(decide (la.id = t.1.id) && decide (la.wide = t.1.wide)) := ⟨_, rfl⟩
  repeat (first | refine c_seq ?_ | refine c_block ?_ | refine c_region _ ?_ | refine wpList_nil ?_ | refine c_then ?_ | ((apply st hF); (exact d_assign); clear hF; clear a; intro a hF))
  refine c_loop (fun q a wr => ∃ k ao' cap' l, k ≤ ts.length ∧ q = ts.length - k ∧ Fr 103 [(2, .pointer (some ⟨w.heap.size, 0, none⟩)), (7, .pointer (some ⟨w7.heap.size, 0, none⟩)), (8, .pointer (some ⟨w10.heap.size, 0, none⟩)), (9, .slice ao' l.length cap'), (10, .int .i64 (k : Nat))] a ∧
    l = ((ts.take k).filter p).map (·.1) ∧ wr.ownsRow w13.heap.size 67 6 (.slice ao' l.length cap') l.length (l.flatMap Tab.cells) ∧ Below w13.heap.size w13 wr) ts.length
    ⟨0, none, 0, [], by omega, rfl, hF.keep' ⟨rfl, rfl, rfl, rfl, rfl, trivial⟩, rfl, World.ownsRow_nil _ _ _ _, Below.refl _ _⟩ ?_
  clear hF a
  rintro q a wr ⟨k, ao', cap', l, hk, rfl, hF, hlE, hown, hbel⟩
  have hsz := hbel.size
  have hz13 := hb13.size
  have hdr := hd13.below hbel
  have hlr := hl13.below hbel
  have hyr := hy13.below hbel
  have hbr := hb13.trans (hbel.mono hb13.size)
  by_cases hlt : k < d.tbN
  · have hlt' : k < ts.length := by omega
    obtain ⟨b', o', hao', hc'⟩ := tab_cells_at hin.tabs hbr hlt'
    have c8 := hdr.c 8 _ rfl
    rw [hao'] at c8
    have hll : l.length ≤ k := by
      rw [hlE, List.length_map]
      exact Nat.le_trans (List.length_filter_le _ _) (by simp; omega)
    have htk : ts.take (k + 1) = ts.take k ++ [ts[k]] := List.take_succ_eq_append_getElem hlt'
    obtain ⟨t, ht⟩ : ∃ x, x = ts_ ts k := ⟨_, rfl⟩
    have htt : ts[k].1 = t := by rw [ht, ts_lt hlt']
    rw [← ht] at hc'
    have hdb : ∀ n, Below wr.heap.size wr (wr.drewN n) := fun n => below_more (Below.refl _ wr) n
    by_cases e1 : t.id = la.id
    · by_cases e2 : t.wide = la.wide
      · have hbf : (t.wide != la.wide) = false := by simp [e2]
        have hpf : p ts[k] = false := by rw [hp]; simp [htt, e1, e2]
        repeat (first | refine c_seq ?_ | refine c_block ?_ | refine c_region _ ?_ | refine wpList_nil ?_ | refine c_then ?_ | refine c_in ?_ | refine wp_skip ?_ | (refine q_nil ?_; rintro _ ⟨ndr, rfl⟩) | refine c_region_draw _ mixed (by kernel_rfl) ?_ | ((apply st hF); (first | exact d_move | exact d_assign | exact d_add | exact d_cmpT | exact d_len (und _ _ rfl) | exact d_fieldAddr (fld _ _ _ _ rfl) (isz _ _ rfl) | exact d_load (und _ _ rfl) c8); clear hF; clear a; intro a hF) | ((first | apply q_step hF | apply q_stg hF); intro wq hwq; (first | exact d_move | exact d_pickF | exact d_cmpF | exact d_eqbF (und _ _ rfl) | exact d_fieldAddr (fld _ _ _ _ rfl) (isz _ _ rfl) | exact d_indexAddrS (und _ _ rfl) (isz _ _ rfl) (j := k) | exact q_load (und _ _ rfl) hwq (by exact c8) | exact q_load (und _ _ rfl) hwq (by exact (hc' 2 _ rfl)) | exact q_load (und _ _ rfl) hwq (by exact (hc' 3 _ rfl)) | exact q_load (und _ _ rfl) hwq (by exact (hlr.c 2 _ rfl)) | exact q_load (und _ _ rfl) hwq (by exact (hlr.c 3 _ rfl))); clear hF; clear a; intro a hF) | (apply c_cond_t hF; exact rfl; first | exact rfl | assumption) | (apply c_cond_f hF; exact rfl; first | exact rfl | assumption))
        exact ⟨ts.length - (k + 1), by omega, k + 1, ao', cap', l, by omega, rfl, hF.keep' ⟨rfl, rfl, rfl, rfl, rfl, trivial⟩, by rw [htk, List.filter_append, List.filter_cons_of_neg (by simp [hpf])]; simpa using hlE, own_below hown (hdb _), hbel.trans ((hdb _).mono hsz)⟩
      · have hbt : (t.wide != la.wide) = true := by simpa using e2
        have hpf : p ts[k] = true := by rw [hp]; simp [htt, e1]; exact fun h => e2 h.symm
        repeat (first | refine c_seq ?_ | refine c_block ?_ | refine c_region _ ?_ | refine wpList_nil ?_ | refine c_then ?_ | refine wp_skip ?_ | (refine q_nil ?_; rintro _ ⟨ndr, rfl⟩) | refine c_region_draw _ mixed (by kernel_rfl) ?_ | ((apply st hF); (first | exact d_move | exact d_cmpT | exact d_len (und _ _ rfl) | exact d_fieldAddr (fld _ _ _ _ rfl) (isz _ _ rfl) | exact d_indexAddrS (und _ _ rfl) (isz _ _ rfl) (j := k) | exact d_loadAgg (agg _ rfl) (isz _ _ rfl) rfl (arr_cells hc') | exact d_load (und _ _ rfl) c8); clear hF; clear a; intro a hF) | ((first | apply q_step hF | apply q_stg hF); intro wq hwq; (first | exact d_move | exact d_pickF | exact d_cmpF | exact d_eqbT (und _ _ rfl) | exact d_fieldAddr (fld _ _ _ _ rfl) (isz _ _ rfl) | exact d_indexAddrS (und _ _ rfl) (isz _ _ rfl) (j := k) | exact q_load (und _ _ rfl) hwq (by exact c8) | exact q_load (und _ _ rfl) hwq (by exact (hc' 2 _ rfl)) | exact q_load (und _ _ rfl) hwq (by exact (hc' 3 _ rfl)) | exact q_load (und _ _ rfl) hwq (by exact (hlr.c 2 _ rfl)) | exact q_load (und _ _ rfl) hwq (by exact (hlr.c 3 _ rfl))); clear hF; clear a; intro a hF) | (apply c_cond_t hF; exact rfl; first | exact rfl | assumption))
        refine st_pushS hF (us := (Tab.cells t).toArray) (und _ _ rfl) inf67 rfl (by decide) (by decide) rfl (tab_cells _) (own_below hown (hdb _)) (by omega) (by unfold maxLen; omega) hsz (k := fun a ao2 cap2 w2 hown2 hgr hat hF => ?_)
        have hb2 := below_own (hbel.trans ((hdb _).mono hsz)) hsz (own_below hown (hdb _)) hgr
        repeat (first | refine c_region _ ?_ | refine wpList_nil ?_ | refine c_then ?_ | refine c_in ?_ | ((apply st hF); (first | exact d_move | exact d_assign | exact d_add); clear hF; clear a; intro a hF))
        have hl2 : (l ++ [t]).length = l.length + 1 := by simp
        exact ⟨ts.length - (k + 1), by omega, k + 1, ao2, cap2, l ++ [t], by omega, rfl, by rw [hl2]; exact hF.keep' ⟨rfl, rfl, rfl, rfl, rfl, trivial⟩, by rw [htk, List.filter_append, List.filter_cons_of_pos hpf, hlE, List.map_append]; simp [htt], by rw [hl2, List.flatMap_append]; simpa using hown2, hb2⟩
    · have e1' : decide (la.id = t.id) = false := decide_eq_false fun h => e1 h.symm
      have hpf : p ts[k] = true := by rw [hp]; show (!(decide (la.id = ts[k].1.id) && decide (la.wide = ts[k].1.wide))) = true; rw [htt, e1']; rfl
      repeat (first | refine c_seq ?_ | refine c_block ?_ | refine c_region _ ?_ | refine wpList_nil ?_ | refine c_then ?_ | refine wp_skip ?_ | (refine q_nil ?_; rintro _ ⟨ndr, rfl⟩) | refine c_region_draw _ mixed (by kernel_rfl) ?_ | ((apply st hF); (first | exact d_move | exact d_cmpT | exact d_len (und _ _ rfl) | exact d_fieldAddr (fld _ _ _ _ rfl) (isz _ _ rfl) | exact d_indexAddrS (und _ _ rfl) (isz _ _ rfl) (j := k) | exact d_loadAgg (agg _ rfl) (isz _ _ rfl) rfl (arr_cells hc') | exact d_load (und _ _ rfl) c8); clear hF; clear a; intro a hF) | ((apply q_step hF); intro wq hwq; (first | exact d_move | exact d_pickT | exact d_cmpT | exact d_fieldAddr (fld _ _ _ _ rfl) (isz _ _ rfl) | exact d_indexAddrS (und _ _ rfl) (isz _ _ rfl) (j := k) | exact q_load (und _ _ rfl) hwq (by exact c8) | exact q_load (und _ _ rfl) hwq (by exact (hc' 2 _ rfl)) | exact q_load (und _ _ rfl) hwq (by exact (hlr.c 2 _ rfl))); clear hF; clear a; intro a hF) | ((apply q_stm hF); clear hF; clear a; intro a hF) | (apply c_cond_t hF; exact rfl; first | exact rfl | assumption))
      refine st_pushS hF (us := (Tab.cells t).toArray) (und _ _ rfl) inf67 rfl (by decide) (by decide) rfl (tab_cells _) (own_below hown (hdb _)) (by omega) (by unfold maxLen; omega) hsz (k := fun a ao2 cap2 w2 hown2 hgr hat hF => ?_)
      have hb2 := below_own (hbel.trans ((hdb _).mono hsz)) hsz (own_below hown (hdb _)) hgr
      repeat (first | refine c_region _ ?_ | refine wpList_nil ?_ | refine c_then ?_ | refine c_in ?_ | ((apply st hF); (first | exact d_move | exact d_assign | exact d_add); clear hF; clear a; intro a hF))
      have hl2 : (l ++ [t]).length = l.length + 1 := by simp
      exact ⟨ts.length - (k + 1), by omega, k + 1, ao2, cap2, l ++ [t], by omega, rfl, by rw [hl2]; exact hF.keep' ⟨rfl, rfl, rfl, rfl, rfl, trivial⟩, by rw [htk, List.filter_append, List.filter_cons_of_pos hpf, hlE, List.map_append]; simp [htt], by rw [hl2, List.flatMap_append]; simpa using hown2, hb2⟩
  · obtain rfl : k = ts.length := by omega
    rw [List.take_length] at hlE
    obtain ⟨f, hf1, hf2⟩ := filter_emb p ts
    have hfl : (ts.filter p).length = l.length := by rw [hlE, List.length_map]
    have hcdr := hcd13.below hbel
    have hflt := List.length_filter_le p ts
    repeat (first | refine c_seq ?_ | refine c_region _ ?_ | refine wpList_nil ?_ | refine c_then ?_ | refine c_then_exit ?_ | refine c_in_hit ?_ | refine wp_exit ?_ | ((apply st hF); (first | exact d_move | exact d_cmpF | exact d_len (und _ _ rfl) | exact d_fieldAddr (fld _ _ _ _ rfl) (isz _ _ rfl) | exact d_load (und _ _ rfl) (hdr.c 8 _ rfl)); clear hF; clear a; intro a hF) | (apply c_cond_f hF; exact rfl; first | exact rfl | assumption))
    refine st_store hF (isz _ _ rfl) hyr (i := 0 + 8) (by show 0 + 8 < 9; decide) rfl rfl rfl (k := fun a ws hgs hgrs hszs hF => ?_)
    obtain ⟨dy, hdy⟩ : ∃ x : Db, x = { d.cp a1 c1 a2 c2 a3 c3 with mgN := d.mgN - 1, tb := ao', tbN := l.length, tbC := cap' } := ⟨_, rfl⟩
    have hys : DgAt w10.heap.size dy ws := by rw [hdy]; exact hgs
    have hcds := hcdr.keptT hyr hgrs
    have howns := own_keptT hown hyr (by decide) hgrs
    have hbs : Below w.heap.size w ws := hbr.grown hgrs hbr.size (fun k hk => by cases hk; omega)
    obtain ⟨ms', ts', hix, hze⟩ := few_db (dx := dy) (a2 := a2) (c2 := c2) f hin hgood hcds.ml hcds.mown hcds.mok hcds.sta hbs rfl howns
      (fun i hi => by
        obtain ⟨h1, h2⟩ := hf2 i (by omega)
        refine ⟨h1, (ts_ ts (f i)).rw, (ts_ ts (f i)).rwC, ?_, ?_⟩
        · rw [hlE, List.getElem?_map, h2, List.getElem?_eq_getElem h1, ts_lt h1]; rfl
        · rw [ts_lt h1, tr_lt h1]
          exact (hin.tabs.each _ (List.getElem_mem h1)).below hbs) (by omega) (by omega : d.mgN - 1 ≤ d.mgN) hf1
      (fun i hi k hk hkl => by
        obtain ⟨h1, h2⟩ := hf2 i (by omega)
        have hm : ts[f i] ∈ ts.filter p := by
          rw [List.getElem?_eq_getElem h1] at h2
          exact List.mem_of_getElem? h2
        have hpt := (List.mem_filter.1 hm).2
        obtain rfl : k = d.mgN - 1 := by omega
        rw [ts_lt h1, ← hla]
        rintro ⟨h3, h4⟩
        rw [hp] at hpt
        simp [h3, h4] at hpt) hdy
    repeat (first | refine c_seq ?_ | refine c_region _ ?_ | refine wpList_nil ?_ | refine c_then ?_ | ((apply st hF); (exact d_loadAgg (agg _ rfl) (isz _ _ rfl) rfl (cells_at hys)); clear hF; clear a; intro a hF))
    refine stc hF (cdb_ok ws dy ss ms' ts' hix (hT.below hbs)) cal21 ⟨rfl, trivial⟩ (k := fun a v w11 hR hF => ?_)
    obtain ⟨rfl, hb11⟩ := hR
    rw [hze, show ∀ x y, atV okE.1 x y = .nilIface from fun x y => if_pos rfl] at hF
    repeat (first | refine wpList_nil ?_ | refine c_then ?_ | refine wp_ret ?_ | ((apply st hF); (first | exact d_assign | exact d_eqN (ifc _ rfl)); clear hF; clear a; intro a hF))
    exact ret1 hF rfl rfl ⟨rfl, hbs.trans (hb11.mono hbs.size)⟩
end Go.Proofs.YtjomihhpglojpaaDoor
end
