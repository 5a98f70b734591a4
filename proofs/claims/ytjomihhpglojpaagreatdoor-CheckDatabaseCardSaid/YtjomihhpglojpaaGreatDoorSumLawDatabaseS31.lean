/- Laid together by a program of mine: RDbT RDbW EqS. -/
import Derived.Test.YtjomihhpglojpaaGreatDoorSumLawDatabaseS30
import Derived.Test.YtjomihhpglojpaaGreatDoorSumLawDatabaseS5
import Derived.Test.YtjomihhpglojpaaGreatDoorSumLawDatabaseS4
import Derived.ChangeKeysEq
set_option linter.unusedSimpArgs false
set_option linter.unusedVariables false
section
/- The reference's table and Database, walked. -/
namespace Go.Proofs.YtjomihhpglojpaaGreatDoor
open Go.RowKit
set_option linter.unusedSimpArgs false
set_option linter.unusedVariables false
attribute [local irreducible] wpList wpQuiet wpStill Code.wp Exit.then Exit.inBlock bodyPost Calls Does Does0
set_option maxRecDepth 100000
set_option maxHeartbeats 16000000 in
theorem rtable_ok (w : World) (d : Db) (ss : List ByteArray) (ms : List MsgT) (ts : List TabT) (hin : DbIn w d ss ms ts) (H : Entered ms ms.length) (i : Nat) (hi : i < ts.length) :
    Ret Tryz.prog 40 [.agg (Db.cells d).toArray, .int .i64 (i : Nat)].toArray w (fun v w' => v = .agg (ratV (dtE ms ts i) (ts_ ts i).line (ts_ ts i).col) ∧ Below w.heap.size w w') := by
  have htl := hin.tabs.len
  have htby := hin.tabs.bytes
  have hri := hin.tabs.each _ (List.getElem_mem hi)
  rw [← ts_lt hi, ← tr_lt hi] at hri
  have d13 := fun h => dt_none (ms := ms) (ts := ts) (i := i) h
  have d12 := fun s (h : ofB ms (ts_ ts i).id (ts_ ts i).wide (ts_ ts i).sig s) h2 => dt_two (ms := ms) (ts := ts) (i := i) h h2
  have dR := fun s (h : ofB ms (ts_ ts i).id (ts_ ts i).wide (ts_ ts i).sig s) h2 => dt_rows (ms := ms) (ts := ts) (i := i) H h h2
  obtain ⟨E, hE⟩ : ∃ x, x = dtE ms ts i := ⟨_, rfl⟩
  obtain ⟨t, ht⟩ : ∃ x, x = ts_ ts i := ⟨_, rfl⟩
  obtain ⟨rs, hrs⟩ : ∃ x, x = tr_ ts i := ⟨_, rfl⟩
  obtain ⟨b0, o0, hao, hct0⟩ := tab_cells_at hin.tabs (Below.refl _ w) hi
  rw [← hE] at d13 d12 dR ⊢
  rw [← ht] at d13 d12 dR hri hct0 ⊢
  rw [← hrs] at dR hri
  refine enter2 Tryz.func40 rfl 63 rfl 65 rfl (fun a hF => ?_)
  repeat (first | refine c_seq ?_ | refine c_region _ ?_)
  refine st_box hF (cs := (Db.cells d).toArray) rfl (k := fun a w1 hg1 hgr1 hsz1 hF => ?_)
  refine st_alloc hF inf34 (k := fun a w2 hf2 hgr2 hsz2 hF => ?_)
  have hb2 : Below w.heap.size w w2 := ((Below.refl _ w).grown hgr1 (Nat.le_refl _) (fun k hk => by cases hk)).grown hgr2 (by omega) (fun k hk => by cases hk)
  have hd2 : DgAt w.heap.size d w2 := blk_kept hg1 hgr2 (by simp)
  replace hf2 : w2.heap[w1.heap.size]? = some (.cells (ratV 0 0 0) 34 (0, 0)) := hf2
  have hz1 : w1.heap.size = w.heap.size + 1 := by omega
  clear hg1 hgr1 hgr2
  have c8 := hd2.c 8 _ rfl
  rw [hao] at c8
  have hc2 : ∀ q v, (Tab.cells t)[q]? = some v → w2.cell? ⟨b0, o0 + i * 6 + q, none⟩ = some v := fun q v hq => keep_c (hct0 q v hq) hb2
  repeat (first | refine c_seq ?_ | refine c_region _ ?_ | refine wpList_nil ?_ | refine c_then ?_ | ((apply st hF); (first | exact d_move | exact d_fieldAddr (fld _ _ _ _ rfl) (isz _ _ rfl) | exact d_indexAddrS (und _ _ rfl) (isz _ _ rfl) (j := i) | exact d_loadAgg (agg _ rfl) (isz _ _ rfl) rfl (arr_cells hc2) | exact d_load (und _ _ rfl) c8); clear hF; clear a; intro a hF))
  refine st_alloc hF inf84 (k := fun a w3 hg3 hgr3 hsz3 hF => ?_)
  refine st_storeAgg hF (cs := (Tab.cells t).toArray) (isz _ _ rfl) rfl rfl hg3 (tab_cells _) (k := fun a w4 hg4 hgr4 hsz4 hF => ?_)
  have hb24 : Below w2.heap.size w2 w4 := ((Below.refl _ w2).grown hgr3 (Nat.le_refl _) (fun k hk => by cases hk)).grown hgr4 (by omega) (fun k hk => by cases hk; exact Nat.le_refl _)
  have ht4 : TgAt w2.heap.size t w4 := hg4
  have hd4 := hd2.below hb24
  have hf4 := (hb24.block _ (lt_at hf2)).trans hf2
  have hb4 : Below w.heap.size w w4 := hb2.trans (hb24.mono hb2.size)
  have hz2 : w2.heap.size = w.heap.size + 2 := by omega
  clear hg3 hg4 hgr3 hgr4 hd2 hf2 hc2 c8
  repeat (first | refine c_seq ?_ | refine c_region _ ?_ | refine wpList_nil ?_ | refine c_then ?_ | ((apply st hF); (first | exact d_loadAgg (agg _ rfl) (isz _ _ rfl) rfl (cells_at hd4) | exact d_loadAgg (agg _ rfl) (isz _ _ rfl) rfl (cells_at ht4)); clear hF; clear a; intro a hF))
  refine stc hF (rof_ok w4 d t ss ms ts (hin.below hb4)) cal67 ⟨rfl, rfl, trivial⟩ (k := fun a v w5 hR hF => ?_)
  obtain ⟨⟨sv, ok, rfl, hok⟩, hb5⟩ := hR
  have ht5 := ht4.below hb5
  have hd5 := hd4.below hb5
  have hf5 := (hb5.block _ (lt_at hf4)).trans hf4
  have hz5 := hb5.size
  replace hb5 := hb4.trans (hb5.mono hb4.size)
  repeat (((apply st hF); (first | exact d_move | exact d_extract); clear hF; clear a; intro a hF))
  refine st_alloc hF inf62 (k := fun a w6 hg6 hgr6 hsz6 hF => ?_)
  refine st_storeAgg hF (cs := (Sig.cells sv).toArray) (isz _ _ rfl) rfl rfl hg6 (sig_cells _) (k := fun a w7 hs7 hgr7 hsz7 hF => ?_)
  have hb57 : Below w5.heap.size w5 w7 := ((Below.refl _ w5).grown hgr6 (Nat.le_refl _) (fun k hk => by cases hk)).grown hgr7 (by omega) (fun k hk => by cases hk; exact Nat.le_refl _)
  have hs7 : SgAt w5.heap.size sv w7 := hs7
  have ht7 := ht5.below hb57
  have hd7 := hd5.below hb57
  have hf7 := (hb57.block _ (lt_at hf5)).trans hf5
  have hb7 : Below w.heap.size w w7 := hb5.trans (hb57.mono hb5.size)
  clear hg6 hgr6 hgr7 ht4 ht5 hd4 hd5 hf4 hf5
  rcases hok with ⟨rfl, hof⟩ | ⟨rfl, hno⟩
  case inr =>
    repeat (first | refine c_seq ?_ | refine c_region _ ?_ | refine wpList_nil ?_ | refine c_then ?_ | ((apply st hF); (first | exact d_move | exact d_assign | exact d_not | exact d_fieldAddr (fld _ _ _ _ rfl) (isz _ _ rfl) | exact d_loadAgg (agg _ rfl) (isz _ _ rfl) rfl ht7.pl); clear hF; clear a; intro a hF) | (apply c_cond_t hF; exact rfl; first | exact rfl | assumption))
    refine stc hF (rat9_ok w7 13 t.line t.col) cal22 ⟨rfl, rfl, trivial⟩ (k := fun a v w8 hR hF => ?_)
    obtain ⟨rfl, hb8⟩ := hR
    have hf8 := (hb8.block _ (lt_at hf7)).trans hf7
    replace hb8 := hb7.trans (hb8.mono hb7.size)
    refine st_storeAgg hF (cs := ratV 13 t.line t.col) (isz _ _ rfl) (ratV_size _ _ _) (ratV_size _ _ _) hf8 (ratV_one _ _ _) (k := fun a w9 hf9 hgr9 hsz9 hF => ?_)
    repeat (first | refine wpList_nil ?_ | refine c_then ?_ | refine c_then_ret ?_ | refine wp_ret ?_)
    exact ret_c hF rfl (agg _ rfl) (by rw [ratV_size]; exact isz _ _ rfl) hf9 rfl ⟨by rw [d13 hno], hb8.grown hgr9 hb8.size (fun k hk => by cases hk; omega)⟩
  repeat (first | refine c_seq ?_ | refine c_block ?_ | refine c_region _ ?_ | refine wpList_nil ?_ | refine c_then ?_ | refine wp_skip ?_ | ((apply st hF); (first | exact d_move | exact d_assign | exact d_not); clear hF; clear a; intro a hF) | (apply c_cond_f hF; exact rfl; first | exact rfl | assumption))
  refine c_loop (fun q a wr => ∃ k : Nat, k ≤ i ∧ q = i - k ∧ (∀ j, j < k → ¬ ((ts_ ts j).id = t.id ∧ (ts_ ts j).wide = t.wide ∧ (ts_ ts j).sig = t.sig)) ∧
    Fr 65 [(1, .int .i64 (i : Nat)), (2, .pointer (some ⟨w.heap.size, 0, none⟩)), (4, .pointer (some ⟨w1.heap.size, 0, none⟩)), (5, .pointer (some ⟨w2.heap.size, 0, none⟩)), (6, .pointer (some ⟨w5.heap.size, 0, none⟩)), (8, .int .i64 (k : Nat))] a ∧
    DgAt w.heap.size d wr ∧ TgAt w2.heap.size t wr ∧ SgAt w5.heap.size sv wr ∧ wr.heap[w1.heap.size]? = some (.cells (ratV 0 0 0) 34 (0, 0)) ∧ Below w.heap.size w wr) i
    ⟨0, Nat.zero_le _, rfl, fun j hj => absurd hj (Nat.not_lt_zero _), hF.keep' ⟨rfl, rfl, rfl, rfl, rfl, rfl, trivial⟩, hd7, ht7, hs7, hf7, hb7⟩ ?_
  clear hF a hd7 ht7 hs7 hf7 hb7 hb57 hb5 hb4 hb24
  rintro q a wr ⟨k, hk, rfl, hno, hF, hd, htw, hsw, hf, hbel⟩
  have hz := hbel.size
  have hlf := lt_at hf
  by_cases hlt : k < i
  case pos =>
    have hkl : k < ts.length := by omega
    obtain ⟨b, o, hao', hck⟩ := tab_cells_at hin.tabs hbel hkl
    have c8 := hd.c 8 _ rfl
    rw [hao'] at c8
    have hstep : ¬ ((ts_ ts k).id = t.id ∧ (ts_ ts k).wide = t.wide ∧ (ts_ ts k).sig = t.sig) → ∀ j, j < k + 1 → ¬ ((ts_ ts j).id = t.id ∧ (ts_ ts j).wide = t.wide ∧ (ts_ ts j).sig = t.sig) := fun h j hj => by
      by_cases e : j = k
      · subst e; exact h
      · exact hno j (by omega)
    have hdup : ((ts_ ts k).id = t.id ∧ (ts_ ts k).wide = t.wide ∧ (ts_ ts k).sig = t.sig) → E = 12 := fun h => d12 sv hof ⟨k, hlt, h⟩
    obtain ⟨n, hn⟩ : ∃ x, x = ts_ ts k := ⟨_, rfl⟩
    rw [← hn] at hck hstep hdup
    repeat (first | refine c_seq ?_ | refine c_block ?_ | refine c_region _ ?_ | refine wpList_nil ?_ | refine c_then ?_ | refine wp_skip ?_ | ((apply st hF); (first | exact d_move | exact d_cmpT | exact d_fieldAddr (fld _ _ _ _ rfl) (isz _ _ rfl) | exact d_indexAddrS (und _ _ rfl) (isz _ _ rfl) (j := k) | exact d_loadAgg (agg _ rfl) (isz _ _ rfl) rfl (arr_cells hck) | exact d_load (und _ _ rfl) c8); clear hF; clear a; intro a hF) | (apply c_cond_t hF; exact rfl; first | exact rfl | assumption))
    refine st_alloc hF inf84 (k := fun a r1 hg1 hgr1 hsz1 hF => ?_)
    refine st_storeAgg hF (cs := (Tab.cells n).toArray) (isz _ _ rfl) rfl rfl hg1 (tab_cells _) (k := fun a r2 hx2 hgr2 hsz2 hF => ?_)
    have hb2 : Below wr.heap.size wr r2 := ((Below.refl _ wr).grown hgr1 (Nat.le_refl _) (fun k hk => by cases hk)).grown hgr2 (by omega) (fun k hk => by cases hk; exact Nat.le_refl _)
    have hx2 : TgAt wr.heap.size n r2 := hx2
    clear hg1 hgr1 hgr2
    have hd2 := hd.below hb2
    have ht2 := htw.below hb2
    have hs2 := hsw.below hb2
    have hf2 := (hb2.block _ hlf).trans hf
    have hB2 : Below w.heap.size w r2 := hbel.trans (hb2.mono hz)
    have n2 := hx2.c 2 _ rfl
    have n3 := hx2.c 3 _ rfl
    have n4 := hx2.c 4 _ rfl
    have m2 := ht2.c 2 _ rfl
    have m3 := ht2.c 3 _ rfl
    have m4 := ht2.c 4 _ rfl
    by_cases hidm : n.id = t.id
    case neg =>
      repeat (first | refine c_seq ?_ | refine c_region _ ?_ | refine wpList_nil ?_ | refine c_then ?_ | refine c_in ?_ | refine wp_skip ?_ | ((apply st hF); (first | exact d_move | exact d_assign | exact d_pickF | exact d_add | exact d_cmpF | exact d_fieldAddr (fld _ _ _ _ rfl) (isz _ _ rfl) | exact d_load (und _ _ rfl) n2 | exact d_load (und _ _ rfl) m2); clear hF; clear a; intro a hF) | ((apply stm hF); clear hF; clear a; intro a hF) | (apply c_cond_f hF; exact rfl; first | exact rfl | assumption))
      exact ⟨i - (k + 1), by omega, k + 1, by omega, rfl, hstep (fun h => hidm h.1), hF.keep' ⟨rfl, rfl, rfl, rfl, rfl, rfl, trivial⟩, hd2, ht2, hs2, hf2, hB2⟩
    by_cases hwd : n.wide = t.wide
    case neg =>
      have hbt : (n.wide == t.wide) = false := by simpa using hwd
      repeat (first | refine c_seq ?_ | refine c_region _ ?_ | refine wpList_nil ?_ | refine c_then ?_ | refine c_in ?_ | refine wp_skip ?_ | ((first | apply st hF | apply stg hF); (first | exact d_move | exact d_assign | exact d_pickT | exact d_pickF | exact d_add | exact d_cmpT | exact d_eqbF (und _ _ rfl) | exact d_fieldAddr (fld _ _ _ _ rfl) (isz _ _ rfl) | exact d_load (und _ _ rfl) n2 | exact d_load (und _ _ rfl) m2 | exact d_load (und _ _ rfl) n3 | exact d_load (und _ _ rfl) m3); clear hF; clear a; intro a hF) | ((apply stm hF); clear hF; clear a; intro a hF) | (apply c_cond_f hF; exact rfl; first | exact rfl | assumption))
      exact ⟨i - (k + 1), by omega, k + 1, by omega, rfl, hstep (fun h => hwd h.2.1), hF.keep' ⟨rfl, rfl, rfl, rfl, rfl, rfl, trivial⟩, hd2, ht2, hs2, hf2, hB2⟩
    have hbt : (n.wide == t.wide) = true := by simp [hwd]
    by_cases hnm : n.sig = t.sig
    case neg =>
      have hd' : decide (n.sig = t.sig) = false := decide_eq_false hnm
      repeat (first | refine c_seq ?_ | refine c_region _ ?_ | refine wpList_nil ?_ | refine c_then ?_ | refine c_in ?_ | refine wp_skip ?_ | ((first | apply st hF | apply stg hF); (first | exact d_move | exact d_assign | exact d_pickT | exact d_add | exact d_cmpT | exact d_eqbT (und _ _ rfl) | exact d_eqSF | exact d_fieldAddr (fld _ _ _ _ rfl) (isz _ _ rfl) | exact d_load (und _ _ rfl) n2 | exact d_load (und _ _ rfl) m2 | exact d_load (und _ _ rfl) n3 | exact d_load (und _ _ rfl) m3 | exact d_load (und _ _ rfl) n4 | exact d_load (und _ _ rfl) m4); clear hF; clear a; intro a hF) | (apply c_cond_f hF; exact rfl; first | exact rfl | assumption))
      exact ⟨i - (k + 1), by omega, k + 1, by omega, rfl, hstep (fun h => hnm h.2.2), hF.keep' ⟨rfl, rfl, rfl, rfl, rfl, rfl, trivial⟩, hd2, ht2, hs2, hf2, hB2⟩
    have hd' : decide (n.sig = t.sig) = true := decide_eq_true hnm
    have hEE := hdup ⟨hidm, hwd, hnm⟩
    repeat (first | refine c_seq ?_ | refine c_region _ ?_ | refine wpList_nil ?_ | refine c_then ?_ | ((first | apply st hF | apply stg hF); (first | exact d_move | exact d_pickT | exact d_cmpT | exact d_eqbT (und _ _ rfl) | exact d_eqST | exact d_fieldAddr (fld _ _ _ _ rfl) (isz _ _ rfl) | exact d_loadAgg (agg _ rfl) (isz _ _ rfl) rfl ht2.pl | exact d_load (und _ _ rfl) n2 | exact d_load (und _ _ rfl) m2 | exact d_load (und _ _ rfl) n3 | exact d_load (und _ _ rfl) m3 | exact d_load (und _ _ rfl) n4 | exact d_load (und _ _ rfl) m4); clear hF; clear a; intro a hF) | (apply c_cond_t hF; exact rfl; first | exact rfl | assumption))
    refine stc hF (rat9_ok r2 12 t.line t.col) cal22 ⟨rfl, rfl, trivial⟩ (k := fun a v w4 hR hF => ?_)
    obtain ⟨rfl, hb4⟩ := hR
    have hf4 := (hb4.block _ (lt_at hf2)).trans hf2
    replace hb4 := hB2.trans (hb4.mono hB2.size)
    refine st_storeAgg hF (cs := ratV 12 t.line t.col) (isz _ _ rfl) (ratV_size _ _ _) (ratV_size _ _ _) hf4 (ratV_one _ _ _) (k := fun a w5 hf5 hgr5 hsz5 hF => ?_)
    repeat (first | refine wpList_nil ?_ | refine c_then ?_ | refine c_then_ret ?_ | refine c_in_ret ?_ | refine wp_ret ?_)
    exact ret_c hF rfl (agg _ rfl) (by rw [ratV_size]; exact isz _ _ rfl) hf5 rfl ⟨by rw [hEE], hb4.grown hgr5 hb4.size (fun k hk => by cases hk; omega)⟩
  obtain rfl : k = i := by omega
  have hEE := dR sv hof (fun ⟨j, hj, h⟩ => hno j hj h)
  have hls := lt_at hsw
  have hlt2 := lt_at htw
  repeat (first | (refine c_region_mix (fun wx => SgAt w5.heap.size sv wx ∧ TgAt w2.heap.size t wx) [(0, true), (1, true), (2, true), (4, true), (5, true), (3, false), (6, false), (7, false)] 11 mixed (by kernel_rfl) ⟨hsw.below (below_more (Below.refl _ wr) 1), htw.below (below_more (Below.refl _ wr) 1)⟩ ?_; simp only [pickX, List.filterMap_cons, List.getElem?_cons_zero, List.getElem?_cons_succ, List.filterMap_nil, Option.map_some]) | refine c_seq ?_ | refine c_region _ ?_ | refine wpList_nil ?_ | refine c_then ?_ | refine c_then_exit ?_ | refine c_in_hit ?_ | refine wp_exit ?_ | ((apply st hF); (first | exact d_move | exact d_cmpF); clear hF; clear a; intro a hF) | (apply c_cond_f hF; exact rfl; first | exact rfl | assumption))
  have hdb : Below wr.heap.size wr (wr.drewN 1) := below_more (Below.refl _ wr) 1
  generalize wr.drewN 1 = r1 at *
  have hs1 := hsw.below hdb
  have ht1 := htw.below hdb
  have hf1 := (hdb.block _ hlf).trans hf
  have hB1 : Below w.heap.size w r1 := hbel.trans (hdb.mono hz)
  repeat (((apply x_step hF); intro wq hwq; (first | exact d_fieldAddr (fld _ _ _ _ rfl) (isz _ _ rfl) | exact d_loadAgg (agg _ rfl) (isz _ _ rfl) rfl (cells_at hwq.1) | exact d_loadAgg (agg _ rfl) (isz _ _ rfl) rfl hwq.2.pl | exact d_load (und _ _ rfl) ((hwq.2.c 5 _ rfl))); clear hF; clear a; intro a hF))
  refine x_one ?_
  refine stc hF (rrows_ok r1 sv t.rw t.rwN t.rwC rs hri.len (hri.rd.below hB1) hri.val) cal68 ⟨rfl, rfl, trivial⟩ (k := fun a v r2 hR hF => ?_)
  obtain ⟨rfl, hb2⟩ := hR
  have hs2 := hs1.below hb2
  have ht2 := ht1.below hb2
  have hf2 := (hb2.block _ (lt_at hf1)).trans hf1
  have hB2 := hB1.trans (hb2.mono hB1.size)
  refine wpList_nil ⟨rfl, ⟨hs2, ht2⟩, ?_⟩
  skip
  refine x_one ?_
  refine stc hF (rat9_ok r2 (rowsE sv rs) t.line t.col) cal22 ⟨rfl, rfl, trivial⟩ (k := fun a v r3 hR hF => ?_)
  obtain ⟨rfl, hb3⟩ := hR
  have hs3 := hs2.below hb3
  have ht3 := ht2.below hb3
  have hf3 := (hb3.block _ (lt_at hf2)).trans hf2
  have hB3 := hB2.trans (hb3.mono hB2.size)
  refine wpList_nil ⟨rfl, ⟨hs3, ht3⟩, ?_⟩
  skip
  refine x_one ?_
  refine st_storeAgg hF (cs := ratV (rowsE sv rs) t.line t.col) (isz _ _ rfl) (ratV_size _ _ _) (ratV_size _ _ _) hf3 (ratV_one _ _ _) (k := fun a r4 hf4 hgr4 hsz4 hF => ?_)
  have hls3 := lt_at hs3
  refine wpList_nil ⟨rfl, ⟨blk_kept hs3 hgr4 (by simp; omega), blk_kept ht3 hgr4 (by simp; omega)⟩, ?_⟩
  skip
  refine x_nil ?_
  repeat (first | refine c_then ?_ | refine wp_ret ?_)
  exact ret_c hF rfl (agg _ rfl) (by rw [ratV_size]; exact isz _ _ rfl) hf4 rfl ⟨by rw [hEE], hB3.grown hgr4 hB3.size (fun k hk => by cases hk; omega)⟩
end Go.Proofs.YtjomihhpglojpaaGreatDoor
end
section
/- The reference's Database, walked. -/
namespace Go.Proofs.YtjomihhpglojpaaGreatDoor
open Go.RowKit
set_option linter.unusedSimpArgs false
set_option linter.unusedVariables false
attribute [local irreducible] wpList wpQuiet wpStill Code.wp Exit.then Exit.inBlock bodyPost Calls Does Does0
set_option maxRecDepth 100000
theorem stas_many {ss : List ByteArray} (h : 64 < ss.length) : stasE ss = 5 := by unfold stasE; rw [if_pos h]
theorem stas_bad {ss : List ByteArray} (h : ¬ 64 < ss.length) {i : Nat} (hi : firstAt (fun i => staE ss i ≠ 0) ss.length = some i) : stasE ss = staE ss i := by unfold stasE; rw [if_neg h, hi]; rfl
theorem stas_ok {ss : List ByteArray} (h : ¬ 64 < ss.length) (hi : firstAt (fun i => staE ss i ≠ 0) ss.length = none) : stasE ss = 0 := by unfold stasE; rw [if_neg h, hi]; rfl
/-- The stations' stage. -/
theorem stage_sta {ss : List ByteArray} {x y : Int} {k E : Err} (h : E = (if 64 < ss.length then (5, x, y) else thenE (firstAt (fun i => staE ss i ≠ 0) ss.length) (fun i => (staE ss i, x, y)) k)) : (stasE ss ≠ 0 ∧ E = (stasE ss, x, y)) ∨ (stasE ss = 0 ∧ E = k) := by
  by_cases h64 : 64 < ss.length
  · rw [if_pos h64] at h
    rw [stas_many h64]
    exact .inl ⟨by decide, h⟩
  rw [if_neg h64] at h
  cases hf : firstAt (fun i => staE ss i ≠ 0) ss.length with
  | none =>
    rw [hf] at h
    exact .inr ⟨stas_ok h64 hf, h⟩
  | some i =>
    rw [hf] at h
    rw [stas_bad h64 hf]
    exact .inl ⟨(of_some hf).2.1, h⟩
set_option maxHeartbeats 32000000 in
theorem rdb_ok (w : World) (d : Db) (ss : List ByteArray) (ms : List MsgT) (ts : List TabT) (hin : DbIn w d ss ms ts) :
    Ret Tryz.prog 12 [.agg (Db.cells d).toArray].toArray w (fun v w' => v = .agg (ratV (dbE d ss ms ts).1 (dbE d ss ms ts).2.1 (dbE d ss ms ts).2.2) ∧ Below w.heap.size w w') := by
  have hE : dbE d ss ms ts = dbE d ss ms ts := rfl
  conv at hE => rhs; unfold dbE
  change dbE d ss ms ts = (if d.hasV = true ∧ textE d.vtext ≠ 0 then (textE d.vtext, d.vline, d.vcol) else if 64 < ss.length then (5, d.sline, d.scol) else thenE (firstAt (fun i => staE ss i ≠ 0) ss.length) (fun i => (staE ss i, d.sline, d.scol)) (dbM ss ms ts)) at hE
  obtain ⟨E, hEe⟩ : ∃ x, x = dbE d ss ms ts := ⟨_, rfl⟩
  rw [← hEe] at hE ⊢
  clear hEe
  have hsl := hin.slen
  have hsby := hin.sbytes
  have hml := hin.msgs.len
  have hmby := hin.msgs.bytes
  have htl := hin.tabs.len
  have htby := hin.tabs.bytes
  have hid : ∀ i, i < ms.length → 0 ≤ (ms_ ms i).id ∧ (ms_ ms i).id < 4294967296 := fun i hi => by rw [ms_lt hi]; exact (hin.msgs.bnd _ (List.getElem_mem hi)).2
  refine enter1 Tryz.func12 rfl 70 rfl 71 rfl (fun a hF => ?_)
  refine c_seq (c_region _ ?_)
  refine st_box hF (cs := (Db.cells d).toArray) rfl (k := fun a w1 hg1 hgr1 hsz1 hF => ?_)
  refine st_alloc hF inf34 (k := fun a w2 hf2 hgr2 hsz2 hF => wpList_nil (c_then ?_))
  have hb2 : Below w.heap.size w w2 := ((Below.refl _ w).grown hgr1 (Nat.le_refl _) (fun k hk => by cases hk)).grown hgr2 (by omega) (fun k hk => by cases hk)
  have hd2 : DgAt w.heap.size d w2 := blk_kept hg1 hgr2 (by simp)
  replace hf2 : w2.heap[w1.heap.size]? = some (.cells (ratV 0 0 0) 34 (0, 0)) := hf2
  have hz1 : w1.heap.size = w.heap.size + 1 := by omega
  clear hg1 hgr1 hgr2
  have vpl : ∀ wq, DgAt w.heap.size d wq → ∀ j v, (#[.int .i64 d.vline, .int .i64 d.vcol] : Array Value)[j]? = some v → wq.cell? ⟨w.heap.size, 0 + 1 + 0 + j, none⟩ = some v := fun wq h => pair2 (h.c 1 _ rfl) (h.c 2 _ rfl)
  have spl : ∀ wq, DgAt w.heap.size d wq → ∀ j v, (#[.int .i64 d.sline, .int .i64 d.scol] : Array Value)[j]? = some v → wq.cell? ⟨w.heap.size, 0 + 4 + 0 + j, none⟩ = some v := fun wq h => pair2 (h.c 4 _ rfl) (h.c 5 _ rfl)
  refine c_mid (fun a w3 => Fr 71 [(1, .pointer (some ⟨w.heap.size, 0, none⟩)), (2, .pointer (some ⟨w1.heap.size, 0, none⟩))] a ∧ DgAt w.heap.size d w3 ∧ w3.heap[w1.heap.size]? = some (.cells (ratV 0 0 0) 34 (0, 0)) ∧ Below w.heap.size w w3 ∧ ¬ (d.hasV = true ∧ textE d.vtext ≠ 0)) ?_ ?_
  · cases hv : d.hasV with
    | false =>
      have c0 : w2.cell? ⟨w.heap.size, 0 + 0, none⟩ = some (.bool d.hasV) := hd2.c 0 _ rfl
      rw [hv] at c0
      repeat (first | refine c_seq ?_ | refine c_region _ ?_ | refine wpList_nil ?_ | refine c_then ?_ | refine wp_skip ?_ | ((apply st hF); (first | exact d_fieldAddr (fld _ _ _ _ rfl) (isz _ _ rfl) | exact d_load (und _ _ rfl) c0); clear hF; clear a; intro a hF) | (apply c_cond_f hF; exact rfl; first | exact rfl | assumption))
      exact ⟨hF.keep' ⟨rfl, rfl, trivial⟩, hd2, hf2, hb2, fun h => Bool.noConfusion h.1⟩
    | true =>
      have c0 : w2.cell? ⟨w.heap.size, 0 + 0, none⟩ = some (.bool d.hasV) := hd2.c 0 _ rfl
      rw [hv] at c0
      have c3 : w2.cell? ⟨w.heap.size, 0 + 1 + 2, none⟩ = some (.string d.vtext) := hd2.c 3 _ rfl
      repeat (first | refine c_seq ?_ | refine c_region _ ?_ | refine wpList_nil ?_ | refine c_then ?_ | ((apply st hF); (first | exact d_fieldAddr (fld _ _ _ _ rfl) (isz _ _ rfl) | exact d_load (und _ _ rfl) c0 | exact d_load (und _ _ rfl) c3); clear hF; clear a; intro a hF) | (apply c_cond_t hF; exact rfl; first | exact rfl | assumption))
      refine stc hF (rmay_ok w2 d.vtext) cal37 ⟨rfl, trivial⟩ (k := fun a v w3 hR hF => ?_)
      obtain ⟨m, rfl, hm, hb3⟩ := hR
      rw [text_is hm] at hF
      have hd3 := hd2.below hb3
      have hf3 := (hb3.block _ (lt_at hf2)).trans hf2
      replace hb3 := hb2.trans (hb3.mono hb2.size)
      clear hm m
      generalize textE d.vtext = te at *
      by_cases ht : te = 0
      · repeat (first | refine c_seq ?_ | refine c_region _ ?_ | refine wpList_nil ?_ | refine c_then ?_ | refine wp_skip ?_ | ((apply st hF); (first | exact d_move | exact d_assign | exact d_cmpF); clear hF; clear a; intro a hF) | (apply c_cond_f hF; exact rfl; first | exact rfl | assumption))
        exact ⟨hF.keep' ⟨rfl, rfl, trivial⟩, hd3, hf3, hb3, fun h => h.2 ht⟩
      · repeat (first | refine c_seq ?_ | refine c_region _ ?_ | refine wpList_nil ?_ | refine c_then ?_ | ((apply st hF); (first | exact d_move | exact d_assign | exact d_cmpT | exact d_fieldAddr (fld _ _ _ _ rfl) (isz _ _ rfl) | exact d_loadAgg (agg _ rfl) (isz _ _ rfl) rfl (vpl _ hd3)); clear hF; clear a; intro a hF) | (apply c_cond_t hF; exact rfl; first | exact rfl | assumption))
        refine stc hF (rat9_ok w3 te d.vline d.vcol) cal22 ⟨rfl, rfl, trivial⟩ (k := fun a v w4 hR hF => ?_)
        obtain ⟨rfl, hb4⟩ := hR
        have hf4 := (hb4.block _ (lt_at hf3)).trans hf3
        replace hb4 := hb3.trans (hb4.mono hb3.size)
        refine st_storeAgg hF (cs := ratV te d.vline d.vcol) (isz _ _ rfl) (ratV_size _ _ _) (ratV_size _ _ _) hf4 (ratV_one _ _ _) (k := fun a w5 hf5 hgr5 hsz5 hF => ?_)
        repeat (first | refine wpList_nil ?_ | refine c_then ?_ | refine c_then_ret ?_ | refine wp_ret ?_)
        refine ret_c hF rfl (agg _ rfl) (by rw [ratV_size]; exact isz _ _ rfl) hf5 rfl ⟨?_, hb4.grown hgr5 hb4.size (fun k hk => by cases hk; omega)⟩
        rw [hE, if_pos ⟨hv, ht⟩]
  clear hF a hd2 hf2 hb2
  rintro a w3 ⟨hF, hd3, hf3, hb3, hnv⟩
  rw [if_neg hnv] at hE
  have hst := stage_sta hE
  clear hE
  repeat (first | refine c_seq ?_ | refine c_region _ ?_ | ((apply st hF); (first | exact d_fieldAddr (fld _ _ _ _ rfl) (isz _ _ rfl) | exact d_loadAgg (agg _ rfl) (isz _ _ rfl) rfl hd3.st); clear hF; clear a; intro a hF))
  refine stc hF (rstations_ok w3 d.sline d.scol d.sn d.snN d.snC ss hsl (hin.srd.below hb3) hsby) cal38 ⟨rfl, trivial⟩ (k := fun a v w4 hR hF => ?_)
  obtain ⟨rfl, hb4⟩ := hR
  have hd4 := hd3.below hb4
  have hf4 := (hb4.block _ (lt_at hf3)).trans hf3
  replace hb4 := hb3.trans (hb4.mono hb3.size)
  clear hd3 hf3
  generalize stasE ss = se at *
  by_cases hse : se = 0
  case neg =>
    obtain ⟨_, hE⟩ : _ ∧ E = (se, d.sline, d.scol) := by
      rcases hst with h | h
      · exact h
      · exact absurd h.1 hse
    repeat (first | refine c_seq ?_ | refine c_region _ ?_ | refine wpList_nil ?_ | refine c_then ?_ | ((apply st hF); (first | exact d_move | exact d_assign | exact d_cmpT | exact d_fieldAddr (fld _ _ _ _ rfl) (isz _ _ rfl) | exact d_loadAgg (agg _ rfl) (isz _ _ rfl) rfl (spl _ hd4)); clear hF; clear a; intro a hF) | (apply c_cond_t hF; exact rfl; first | exact rfl | assumption))
    refine stc hF (rat9_ok w4 se d.sline d.scol) cal22 ⟨rfl, rfl, trivial⟩ (k := fun a v w5 hR hF => ?_)
    obtain ⟨rfl, hb5⟩ := hR
    have hf5 := (hb5.block _ (lt_at hf4)).trans hf4
    replace hb5 := hb4.trans (hb5.mono hb4.size)
    refine st_storeAgg hF (cs := ratV se d.sline d.scol) (isz _ _ rfl) (ratV_size _ _ _) (ratV_size _ _ _) hf5 (ratV_one _ _ _) (k := fun a w6 hf6 hgr6 hsz6 hF => ?_)
    repeat (first | refine wpList_nil ?_ | refine c_then ?_ | refine c_then_ret ?_ | refine wp_ret ?_)
    exact ret_c hF rfl (agg _ rfl) (by rw [ratV_size]; exact isz _ _ rfl) hf6 rfl ⟨by rw [hE], hb5.grown hgr6 hb5.size (fun k hk => by cases hk; omega)⟩
  obtain hE : E = dbM ss ms ts := by
    rcases hst with h | h
    · exact absurd hse h.1
    · exact h.2
  clear hst
  unfold dbM at hE
  have c7 := hd4.c 7 _ rfl
  by_cases h512 : 512 < ms.length
  · rw [if_pos h512] at hE
    obtain ⟨b, o, hao, hc⟩ := msg_cells_at hin.msgs hb4 h512
    rw [hao] at c7
    repeat (first | refine c_seq ?_ | refine c_region _ ?_ | refine wpList_nil ?_ | refine c_then ?_ | refine wp_skip ?_ | ((apply st hF); (first | exact d_move | exact d_assign | exact d_cmpT | exact d_cmpF | exact d_len (und _ _ rfl) | exact d_fieldAddr (fld _ _ _ _ rfl) (isz _ _ rfl) | exact d_indexAddrS (und _ _ rfl) (isz _ _ rfl) (j := 512) | exact d_loadAgg (agg _ rfl) (isz _ _ rfl) rfl (pair2 (hc 0 _ rfl) (hc 1 _ rfl)) | exact d_load (und _ _ rfl) c7); clear hF; clear a; intro a hF) | (apply c_cond_t hF; exact rfl; first | exact rfl | assumption) | (apply c_cond_f hF; exact rfl; first | exact rfl | assumption))
    refine stc hF (rat9_ok w4 5 (ms_ ms 512).line (ms_ ms 512).col) cal22 ⟨rfl, rfl, trivial⟩ (k := fun a v w5 hR hF => ?_)
    obtain ⟨rfl, hb5⟩ := hR
    have hf5 := (hb5.block _ (lt_at hf4)).trans hf4
    replace hb5 := hb4.trans (hb5.mono hb4.size)
    refine st_storeAgg hF (cs := ratV 5 (ms_ ms 512).line (ms_ ms 512).col) (isz _ _ rfl) (ratV_size _ _ _) (ratV_size _ _ _) hf5 (ratV_one _ _ _) (k := fun a w6 hf6 hgr6 hsz6 hF => ?_)
    repeat (first | refine wpList_nil ?_ | refine c_then ?_ | refine c_then_ret ?_ | refine wp_ret ?_)
    exact ret_c hF rfl (agg _ rfl) (by rw [ratV_size]; exact isz _ _ rfl) hf6 rfl ⟨by rw [hE], hb5.grown hgr6 hb5.size (fun k hk => by cases hk; omega)⟩
  rw [if_neg h512] at hE
  repeat (first | refine c_seq ?_ | refine c_block ?_ | refine c_region _ ?_ | refine wpList_nil ?_ | refine c_then ?_ | refine wp_skip ?_ | ((apply st hF); (first | exact d_move | exact d_assign | exact d_cmpF | exact d_len (und _ _ rfl) | exact d_fieldAddr (fld _ _ _ _ rfl) (isz _ _ rfl) | exact d_load (und _ _ rfl) c7); clear hF; clear a; intro a hF) | (apply c_cond_f hF; exact rfl; first | exact rfl | assumption))
  clear c7
  refine c_loop (fun q a wr => ∃ k : Nat, k ≤ ms.length ∧ q = ms.length - k ∧ (∀ j, j < k → (dmE ss ms j).1 = 0) ∧ Fr 71 [(1, .pointer (some ⟨w.heap.size, 0, none⟩)), (2, .pointer (some ⟨w1.heap.size, 0, none⟩)), (5, .int .i64 (k : Nat))] a ∧
    DgAt w.heap.size d wr ∧ wr.heap[w1.heap.size]? = some (.cells (ratV 0 0 0) 34 (0, 0)) ∧ Below w.heap.size w wr) ms.length
    ⟨0, Nat.zero_le _, rfl, fun j hj => absurd hj (Nat.not_lt_zero _), hF.keep' ⟨rfl, rfl, rfl, trivial⟩, hd4, hf4, hb4⟩ ?_
  clear hF a hd4 hf4 hb4
  rintro q a wr ⟨k, hk, rfl, hno, hF, hd, hf, hbel⟩
  have hz := hbel.size
  have hlf := lt_at hf
  have c7 := hd.c 7 _ rfl
  by_cases hlt : k < ms.length
  case pos =>
    have hbad : (dmE ss ms k).1 ≠ 0 → E = dmE ss ms k := fun h => by
      rw [hE, firstAt_some hlt h (fun j hj e => e (hno j hj))]; rfl
    repeat (first | refine c_seq ?_ | refine c_block ?_ | refine c_region _ ?_ | refine wpList_nil ?_ | refine c_then ?_ | refine wp_skip ?_ | ((apply st hF); (first | exact d_move | exact d_cmpT | exact d_len (und _ _ rfl) | exact d_fieldAddr (fld _ _ _ _ rfl) (isz _ _ rfl) | exact d_loadAgg (agg _ rfl) (isz _ _ rfl) rfl (cells_at hd) | exact d_load (und _ _ rfl) c7); clear hF; clear a; intro a hF) | (apply c_cond_t hF; exact rfl; first | exact rfl | assumption))
    refine stc hF (rdmsg_ok wr d ss ms ts (hin.below hbel) k hlt) cal39 ⟨rfl, rfl, trivial⟩ (k := fun a v r1 hR hF => ?_)
    obtain ⟨rfl, hb1⟩ := hR
    have hd1 := hd.below hb1
    have hf1 := (hb1.block _ hlf).trans hf
    have hB1 := hbel.trans (hb1.mono hz)
    have hz1' := hB1.size
    obtain ⟨de, hde⟩ : ∃ x, x = dmE ss ms k := ⟨_, rfl⟩
    have hzero := fun (h : de.1 = 0) (j : Nat) (hj : j < k + 1) => show (dmE ss ms j).1 = 0 from by
      by_cases e : j = k
      · subst e; rw [← hde]; exact h
      · exact hno j (by omega)
    rw [← hde] at hF hbad
    clear hde
    refine st_alloc hF inf34 (k := fun a r2 hg2 hgr2 hsz2 hF => ?_)
    replace hg2 : r2.heap[r1.heap.size]? = some (.cells (ratV 0 0 0) 34 (0, 0)) := hg2
    refine st_storeAgg hF (cs := ratV de.1 de.2.1 de.2.2) (isz _ _ rfl) (ratV_size _ _ _) (ratV_size _ _ _) hg2 (ratV_one _ _ _) (k := fun a r3 hg3 hgr3 hsz3 hF => ?_)
    have hb13 : Below r1.heap.size r1 r3 := ((Below.refl _ r1).grown hgr2 (Nat.le_refl _) (fun k hk => by cases hk)).grown hgr3 (by omega) (fun k hk => by cases hk; exact Nat.le_refl _)
    have hd3 := hd1.below hb13
    have hf3 := (hb13.block _ (lt_at hf1)).trans hf1
    have hB3 := hB1.trans (hb13.mono hB1.size)
    have r0 : r3.cell? ⟨r1.heap.size, 0 + 0, none⟩ = some (.int .i64 de.1) := cell_at hg3 (ratV_0 _ _ _)
    obtain ⟨d0, hd0⟩ : ∃ x, x = de.1 := ⟨_, rfl⟩
    rw [← hd0] at r0
    by_cases h0 : d0 = 0
    · repeat (first | refine c_seq ?_ | refine c_region _ ?_ | refine wpList_nil ?_ | refine c_then ?_ | refine c_in ?_ | refine wp_skip ?_ | ((apply st hF); (first | exact d_move | exact d_assign | exact d_add | exact d_cmpF | exact d_fieldAddr (fld _ _ _ _ rfl) (isz _ _ rfl) | exact d_load (und _ _ rfl) r0); clear hF; clear a; intro a hF) | (apply c_cond_f hF; exact rfl; first | exact rfl | assumption))
      exact ⟨ms.length - (k + 1), by omega, k + 1, by omega, rfl, hzero (hd0 ▸ h0), hF.keep' ⟨rfl, rfl, rfl, trivial⟩, hd3, hf3, hB3⟩
    · have hEE := hbad (hd0 ▸ h0)
      repeat (first | refine c_seq ?_ | refine c_region _ ?_ | refine wpList_nil ?_ | refine c_then ?_ | ((apply st hF); (first | exact d_cmpT | exact d_fieldAddr (fld _ _ _ _ rfl) (isz _ _ rfl) | exact d_loadAgg (agg _ rfl) (isz _ _ rfl) (by rw [ratV_size]) (cells_at hg3) | exact d_load (und _ _ rfl) r0); clear hF; clear a; intro a hF) | (apply c_cond_t hF; exact rfl; first | exact rfl | assumption))
      refine st_storeAgg hF (cs := ratV de.1 de.2.1 de.2.2) (isz _ _ rfl) (ratV_size _ _ _) (ratV_size _ _ _) hf3 (ratV_one _ _ _) (k := fun a r4 hf4 hgr4 hsz4 hF => ?_)
      repeat (first | refine wpList_nil ?_ | refine c_then ?_ | refine c_then_ret ?_ | refine c_in_ret ?_ | refine wp_ret ?_)
      exact ret_c hF rfl (agg _ rfl) (by rw [ratV_size]; exact isz _ _ rfl) hf4 rfl ⟨by rw [hEE], hB3.grown hgr4 hB3.size (fun k hk => by cases hk; omega)⟩
  obtain rfl : k = ms.length := by omega
  rw [firstAt_none (fun i hi e => e (hno i hi))] at hE
  replace hE : E = dbT ms ts := hE
  have H := entered hid hno
  unfold dbT at hE
  repeat (first | refine c_seq ?_ | refine c_block ?_ | refine c_region _ ?_ | refine wpList_nil ?_ | refine c_then ?_ | refine c_then_exit ?_ | refine c_in_hit ?_ | refine wp_exit ?_ | ((apply st hF); (first | exact d_move | exact d_assign | exact d_cmpF | exact d_len (und _ _ rfl) | exact d_fieldAddr (fld _ _ _ _ rfl) (isz _ _ rfl) | exact d_load (und _ _ rfl) c7); clear hF; clear a; intro a hF) | (apply c_cond_f hF; exact rfl; first | exact rfl | assumption))
  clear c7
  refine c_loop (fun q a wr => ∃ k : Nat, k ≤ ts.length ∧ q = ts.length - k ∧ (∀ j, j < k → dtE ms ts j = 0) ∧ Fr 71 [(1, .pointer (some ⟨w.heap.size, 0, none⟩)), (2, .pointer (some ⟨w1.heap.size, 0, none⟩)), (7, .int .i64 (k : Nat))] a ∧
    DgAt w.heap.size d wr ∧ wr.heap[w1.heap.size]? = some (.cells (ratV 0 0 0) 34 (0, 0)) ∧ Below w.heap.size w wr) ts.length
    ⟨0, Nat.zero_le _, rfl, fun j hj => absurd hj (Nat.not_lt_zero _), hF.keep' ⟨rfl, rfl, rfl, trivial⟩, hd, hf, hbel⟩ ?_
  clear hF a hd hf hbel hz hlf hk hlt hno
  rintro q a wr ⟨k, hk, rfl, hno, hF, hd, hf, hbel⟩
  have hz := hbel.size
  have hlf := lt_at hf
  have c8 := hd.c 8 _ rfl
  by_cases hlt : k < ts.length
  case neg =>
    obtain rfl : k = ts.length := by omega
    rw [firstAt_none (fun i hi e => e (hno i hi))] at hE
    repeat (first | refine c_seq ?_ | refine c_region _ ?_ | refine wpList_nil ?_ | refine c_then ?_ | refine c_then_exit ?_ | refine c_in_hit ?_ | refine wp_exit ?_ | ((apply st hF); (first | exact d_move | exact d_cmpF | exact d_len (und _ _ rfl) | exact d_fieldAddr (fld _ _ _ _ rfl) (isz _ _ rfl) | exact d_build (vs := []) (cells := ratV 0 0 0) (by kernel_rfl) trivial | exact d_load (und _ _ rfl) c8); clear hF; clear a; intro a hF) | (apply c_cond_f hF; exact rfl; first | exact rfl | assumption))
    refine st_storeAgg hF (cs := ratV 0 0 0) (isz _ _ rfl) rfl rfl hf (ratV_one _ _ _) (k := fun a w5 hf5 hgr5 hsz5 hF => ?_)
    repeat (first | refine wpList_nil ?_ | refine c_then ?_ | refine wp_ret ?_)
    exact ret_c hF rfl (agg _ rfl) (isz _ _ rfl) hf5 rfl ⟨by rw [hE]; rfl, hbel.grown hgr5 hz (fun k hk => by cases hk; omega)⟩
  have hbad : dtE ms ts k ≠ 0 → E = (dtE ms ts k, (ts_ ts k).line, (ts_ ts k).col) := fun h => by
    rw [hE, firstAt_some hlt h (fun j hj e => e (hno j hj))]; rfl
  repeat (first | refine c_seq ?_ | refine c_block ?_ | refine c_region _ ?_ | refine wpList_nil ?_ | refine c_then ?_ | refine wp_skip ?_ | ((apply st hF); (first | exact d_move | exact d_cmpT | exact d_len (und _ _ rfl) | exact d_fieldAddr (fld _ _ _ _ rfl) (isz _ _ rfl) | exact d_loadAgg (agg _ rfl) (isz _ _ rfl) rfl (cells_at hd) | exact d_load (und _ _ rfl) c8); clear hF; clear a; intro a hF) | (apply c_cond_t hF; exact rfl; first | exact rfl | assumption))
  refine stc hF (rtable_ok wr d ss ms ts (hin.below hbel) H k hlt) cal40 ⟨rfl, rfl, trivial⟩ (k := fun a v r1 hR hF => ?_)
  obtain ⟨rfl, hb1⟩ := hR
  have hd1 := hd.below hb1
  have hf1 := (hb1.block _ hlf).trans hf
  have hB1 := hbel.trans (hb1.mono hz)
  have hz1' := hB1.size
  obtain ⟨de, hde⟩ : ∃ x, x = dtE ms ts k := ⟨_, rfl⟩
  obtain ⟨tt, htt⟩ : ∃ x, x = ts_ ts k := ⟨_, rfl⟩
  have hzero := fun (h : de = 0) (j : Nat) (hj : j < k + 1) => show dtE ms ts j = 0 from by
    by_cases e : j = k
    · subst e; rw [← hde]; exact h
    · exact hno j (by omega)
  rw [← hde, ← htt] at hF hbad
  clear hde htt
  refine st_alloc hF inf34 (k := fun a r2 hg2 hgr2 hsz2 hF => ?_)
  replace hg2 : r2.heap[r1.heap.size]? = some (.cells (ratV 0 0 0) 34 (0, 0)) := hg2
  refine st_storeAgg hF (cs := ratV de tt.line tt.col) (isz _ _ rfl) (ratV_size _ _ _) (ratV_size _ _ _) hg2 (ratV_one _ _ _) (k := fun a r3 hg3 hgr3 hsz3 hF => ?_)
  have hb13 : Below r1.heap.size r1 r3 := ((Below.refl _ r1).grown hgr2 (Nat.le_refl _) (fun k hk => by cases hk)).grown hgr3 (by omega) (fun k hk => by cases hk; exact Nat.le_refl _)
  have hd3 := hd1.below hb13
  have hf3 := (hb13.block _ (lt_at hf1)).trans hf1
  have hB3 := hB1.trans (hb13.mono hB1.size)
  have r0 : r3.cell? ⟨r1.heap.size, 0 + 0, none⟩ = some (.int .i64 de) := cell_at hg3 (ratV_0 _ _ _)
  by_cases h0 : de = 0
  · repeat (first | refine c_seq ?_ | refine c_region _ ?_ | refine wpList_nil ?_ | refine c_then ?_ | refine c_in ?_ | refine wp_skip ?_ | ((apply st hF); (first | exact d_move | exact d_assign | exact d_add | exact d_cmpF | exact d_fieldAddr (fld _ _ _ _ rfl) (isz _ _ rfl) | exact d_load (und _ _ rfl) r0); clear hF; clear a; intro a hF) | (apply c_cond_f hF; exact rfl; first | exact rfl | assumption))
    exact ⟨ts.length - (k + 1), by omega, k + 1, by omega, rfl, hzero h0, hF.keep' ⟨rfl, rfl, rfl, trivial⟩, hd3, hf3, hB3⟩
  · have hEE := hbad h0
    repeat (first | refine c_seq ?_ | refine c_region _ ?_ | refine wpList_nil ?_ | refine c_then ?_ | ((apply st hF); (first | exact d_cmpT | exact d_fieldAddr (fld _ _ _ _ rfl) (isz _ _ rfl) | exact d_loadAgg (agg _ rfl) (isz _ _ rfl) (by rw [ratV_size]) (cells_at hg3) | exact d_load (und _ _ rfl) r0); clear hF; clear a; intro a hF) | (apply c_cond_t hF; exact rfl; first | exact rfl | assumption))
    refine st_storeAgg hF (cs := ratV de tt.line tt.col) (isz _ _ rfl) (ratV_size _ _ _) (ratV_size _ _ _) hf3 (ratV_one _ _ _) (k := fun a r4 hf4 hgr4 hsz4 hF => ?_)
    repeat (first | refine wpList_nil ?_ | refine c_then ?_ | refine c_then_ret ?_ | refine c_in_ret ?_ | refine wp_ret ?_)
    exact ret_c hF rfl (agg _ rfl) (by rw [ratV_size]; exact isz _ _ rfl) hf4 rfl ⟨by rw [hEE], hB3.grown hgr4 hB3.size (fun k hk => by cases hk; omega)⟩
end Go.Proofs.YtjomihhpglojpaaGreatDoor
end
section
/- A struct is equal to itself: rows and versions. -/
namespace Go.Proofs.YtjomihhpglojpaaGreatDoor
open Go.RowKit
theorem run_self_fields {P : Program} {w : World} {d : Nat} {xs : Array Value} : ∀ fs : List Field, (∀ f ∈ fs, ¬ f.name = "_" ∧ ∃ v, (part f.type xs f.offset).run P w = .ok v w ∧ (Op.equalIn d f.type v v).run P w = .ok true w) → (Op.eqFields d xs xs fs).run P w = .ok true w
  | [], _ => by simp [Op.eqFields]
  | f :: fs, h => by
    obtain ⟨hn, v, hp, he⟩ := h f (by simp)
    have ih := run_self_fields fs (fun g hg => h g (by simp [hg]))
    simp only [Op.eqFields, Sem.run_bind, hp, he, Result.andThen_ok, ne_eq, hn, not_false_eq_true, if_true, Bool.not_true, Bool.false_eq_true, if_false]
    exact ih
structure SelfEq (P : Program) (t : TypeId) (xs : Array Value) : Prop where
  run : ∀ w, (Op.equalIn 10000 t (.agg xs) (.agg xs)).run P w = .ok true w
  guard : P.eqGuardType P.depth t = false
theorem d_eqSelf {P : Program} {w : World} {l : List (Nat × Value)} {x y : Operand} {xs : Array Value} {t t' ty : TypeId} (h : SelfEq P t xs) (hx : Ev l x (.agg xs) := by exact rfl) (hy : Ev l y (.agg xs) := by exact rfl) : Does P l w (.binOp .eql t x y t') ty (.bool true) w := by
  intro ρ hρ d0 pos af g
  simp only [execOp, hρ _ _ hx, hρ _ _ hy, Sem.run_bind, run_eqGuard_agg w _ t x y _ _ h.guard, Result.andThen_ok, run_eql_struct, h.run w]
  rfl
theorem d_neSelf {P : Program} {w : World} {l : List (Nat × Value)} {x y : Operand} {xs : Array Value} {t t' ty : TypeId} (h : SelfEq P t xs) (hx : Ev l x (.agg xs) := by exact rfl) (hy : Ev l y (.agg xs) := by exact rfl) : Does P l w (.binOp .neq t x y t') ty (.bool false) w := by
  intro ρ hρ d0 pos af g
  simp only [execOp, hρ _ _ hx, hρ _ _ hy, Sem.run_bind, run_eqGuard_agg w _ t x y _ _ h.guard, Result.andThen_ok, run_neq_struct, h.run w]
  rfl
open Go.RowKit
set_option linter.unusedSimpArgs false
set_option linter.unusedVariables false
attribute [local irreducible] wpList wpQuiet wpStill Code.wp Exit.then Exit.inBlock bodyPost Calls Does Does0
set_option maxRecDepth 100000
theorem self_row (a : Int) (s : ByteArray) : SelfEq Tryz.prog 121 #[.int .i64 a, .string s] := by
  have hU : Tryz.prog.underlying 121 = some (.struct (Tryz.prog.fieldsOf 121)) := rfl
  refine ⟨fun w => ?_, by kernel_rfl⟩
  rw [run_equalIn_agg w 9999 121 _ _ hU (by kernel_rfl)]
  have hf : ∃ f0 f1, Tryz.prog.fieldsOf 121 = #[f0, f1] ∧ f0.type = 2 ∧ f1.type = 9 ∧ f0.offset = 0 ∧ f1.offset = 1 ∧ ¬ f0.name = "_" ∧ ¬ f1.name = "_" := ⟨_, _, rfl, rfl, rfl, rfl, rfl, by decide, by decide⟩
  obtain ⟨f0, f1, e, t0, t1, o0, o1, n0, n1⟩ := hf
  rw [e]
  refine run_self_fields _ (fun f hf => ?_)
  simp only [List.mem_cons, List.not_mem_nil, or_false] at hf
  rcases hf with rfl | rfl
  · refine ⟨n0, .int .i64 a, ?_, ?_⟩
    · rw [t0, o0]; exact run_part_plain w (by kernel_rfl) rfl
    · rw [t0, run_equalIn_int w 9998 _ .i64 .i64 a a Tryz.underlying2]; simp
  · refine ⟨n1, .string s, ?_, ?_⟩
    · rw [t1, o1]; exact run_part_plain w (by kernel_rfl) rfl
    · rw [t1, run_equalIn_string w 9998 _ s s Tryz.underlying9]; simp
theorem self_ver (a b : Int) (s : ByteArray) : SelfEq Tryz.prog 39 #[.int .i64 a, .int .i64 b, .string s] := by
  have hU : Tryz.prog.underlying 39 = some (.struct (Tryz.prog.fieldsOf 39)) := rfl
  have hV : Tryz.prog.underlying 23 = some (.struct (Tryz.prog.fieldsOf 23)) := rfl
  refine ⟨fun w => ?_, by kernel_rfl⟩
  rw [run_equalIn_agg w 9999 39 _ _ hU (by kernel_rfl)]
  have hf : ∃ f0 f1, Tryz.prog.fieldsOf 39 = #[f0, f1] ∧ f0.type = 23 ∧ f1.type = 9 ∧ f0.offset = 0 ∧ f1.offset = 2 ∧ ¬ f0.name = "_" ∧ ¬ f1.name = "_" := ⟨_, _, rfl, rfl, rfl, rfl, rfl, by decide, by decide⟩
  have hg : ∃ f0 f1, Tryz.prog.fieldsOf 23 = #[f0, f1] ∧ f0.type = 3 ∧ f1.type = 3 ∧ f0.offset = 0 ∧ f1.offset = 1 ∧ ¬ f0.name = "_" ∧ ¬ f1.name = "_" := ⟨_, _, rfl, rfl, rfl, rfl, rfl, by decide, by decide⟩
  obtain ⟨f0, f1, e, t0, t1, o0, o1, n0, n1⟩ := hf
  obtain ⟨g0, g1, eg, s0, s1, p0, p1, m0, m1⟩ := hg
  rw [e]
  refine run_self_fields _ (fun f hf => ?_)
  simp only [List.mem_cons, List.not_mem_nil, or_false] at hf
  rcases hf with rfl | rfl
  · refine ⟨n0, .agg #[.int .i64 a, .int .i64 b], ?_, ?_⟩
    · rw [t0, o0]
      obtain ⟨i, hi⟩ := info_of_underlying hV
      have c2 : Tryz.prog.cellsOf 23 = 2 := by kernel_rfl
      simp [part, isAgg, run_underlying hV, run_sizeOf w hi, c2]
    · rw [t0, run_equalIn_agg w 9998 23 _ _ hV (by kernel_rfl), eg]
      refine run_self_fields _ (fun f hf => ?_)
      simp only [List.mem_cons, List.not_mem_nil, or_false] at hf
      rcases hf with rfl | rfl
      · refine ⟨m0, .int .i64 a, ?_, ?_⟩
        · rw [s0, p0]; exact run_part_plain w (by kernel_rfl) rfl
        · rw [s0, run_equalIn_int w 9997 _ .i64 .i64 a a Tryz.underlying3]; simp
      · refine ⟨m1, .int .i64 b, ?_, ?_⟩
        · rw [s1, p1]; exact run_part_plain w (by kernel_rfl) rfl
        · rw [s1, run_equalIn_int w 9997 _ .i64 .i64 b b Tryz.underlying3]; simp
  · refine ⟨n1, .string s, ?_, ?_⟩
    · rw [t1, o1]; exact run_part_plain w (by kernel_rfl) rfl
    · rw [t1, run_equalIn_string w 9998 _ s s Tryz.underlying9]; simp
end Go.Proofs.YtjomihhpglojpaaGreatDoor
end
