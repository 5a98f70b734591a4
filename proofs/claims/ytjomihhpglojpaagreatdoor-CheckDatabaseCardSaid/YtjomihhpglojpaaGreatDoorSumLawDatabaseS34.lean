/- Laid together by a program of mine: KeptD FewL DbS ZipS. -/
import Derived.Test.YtjomihhpglojpaaGreatDoorSumLawDatabaseS33
import Derived.Test.YtjomihhpglojpaaGreatDoorSumLawDatabaseS26
import Derived.Test.YtjomihhpglojpaaGreatDoorSumLawDatabaseS18
set_option linter.unusedSimpArgs false
set_option linter.unusedVariables false
section
/- A lent database is as it was. -/
namespace Go.Proofs.YtjomihhpglojpaaGreatDoor
open Go.RowKit
set_option linter.unusedSimpArgs false
set_option linter.unusedVariables false
attribute [local irreducible] wpList wpQuiet wpStill Code.wp Exit.then Exit.inBlock bodyPost Calls Does Does0
set_option maxRecDepth 100000
set_option maxHeartbeats 4000000 in
theorem kept_table (w : World) (t : Tab) (rs : List RowV) (g cap base : Nat) (hs : RowsIn w t rs) (hl : LentR base w (.slice (some ⟨g, 0, none⟩) t.rwN cap) rs) :
    Ret Tryz.prog 69 #[.agg (Tab.cells (t.at g cap)).toArray, .agg (Tab.cells t).toArray] w (fun v w' => v = .bool true ∧ Below w.heap.size w w') := by
  refine enter2 Tryz.func69 rfl 36 rfl 38 rfl (fun a hF => ?_)
  repeat (first | refine c_seq ?_ | refine c_region _ ?_)
  refine st_box hF (cs := (Tab.cells (t.at g cap)).toArray) rfl (k := fun a w1 hg1 hgr1 hsz1 hF => ?_)
  refine st_box hF (cs := (Tab.cells t).toArray) rfl (k := fun a w2 hg2 hgr2 hsz2 hF => ?_)
  have hb2 : Below w.heap.size w w2 := ((Below.refl _ w).grown hgr1 (Nat.le_refl _) (fun k hk => by cases hk)).grown hgr2 (by omega) (fun k hk => by cases hk)
  have hx : TgAt w.heap.size (t.at g cap) w2 := blk_kept hg1 hgr2 (by simp)
  have hy : TgAt w1.heap.size t w2 := hg2
  have x5 : w2.cell? ⟨w.heap.size, 0 + 5, none⟩ = some (.slice (some ⟨g, 0, none⟩) t.rwN cap) := hx.c 5 _ rfl
  have x2 : w2.cell? ⟨w.heap.size, 0 + 2, none⟩ = some (.int .u32 t.id) := hx.c 2 _ rfl
  have x3 : w2.cell? ⟨w.heap.size, 0 + 3, none⟩ = some (.bool t.wide) := hx.c 3 _ rfl
  have x4 : w2.cell? ⟨w.heap.size, 0 + 4, none⟩ = some (.string t.sig) := hx.c 4 _ rfl
  have xp0 : ∀ j v, (#[.int .i64 t.line, .int .i64 t.col] : Array Value)[j]? = some v → w2.cell? ⟨w.heap.size, 0 + j, none⟩ = some v := pair_at (hx.c 0 _ rfl) (hx.c 1 _ rfl)
  have yp0 : ∀ j v, (#[.int .i64 t.line, .int .i64 t.col] : Array Value)[j]? = some v → w2.cell? ⟨w1.heap.size, 0 + j, none⟩ = some v := pair_at (hy.c 0 _ rfl) (hy.c 1 _ rfl)
  have hbb : (t.wide == t.wide) = true := by simp
  have hd : decide (t.sig = t.sig) = true := by simp
  repeat (first | refine c_seq ?_ | refine c_region _ ?_ | refine wpList_nil ?_ | refine c_then ?_ | ((first | apply st hF | apply stg hF); (first | exact d_move | exact d_assign | exact d_pickT | exact d_cmpT | exact d_eqbT (und _ _ rfl) | exact d_eqST | exact d_fieldAddr (fld _ _ _ _ rfl) (isz _ _ rfl) | exact d_loadAgg (agg _ rfl) (isz _ _ rfl) rfl xp0 | exact d_loadAgg (agg _ rfl) (isz _ _ rfl) rfl yp0 | exact d_eqPs pairPlace | exact d_load (und _ _ rfl) x2 | exact d_load (und _ _ rfl) x3 | exact d_load (und _ _ rfl) x4 | exact d_load (und _ _ rfl) x5 | exact d_load (und _ _ rfl) (hy.c 2 _ rfl) | exact d_load (und _ _ rfl) (hy.c 3 _ rfl) | exact d_load (und _ _ rfl) (hy.c 4 _ rfl) | exact d_load (und _ _ rfl) (hy.c 5 _ rfl)); clear hF; clear a; intro a hF))
  refine stcg hF (kept_rows w2 rs _ base t.rw _ t.rwC hs.len (hs.rd.below hb2) (hl.below hb2) hs.bytes) cal91 ⟨rfl, rfl, trivial⟩ (k := fun a v w3 hR hF => ?_)
  obtain ⟨rfl, hb3⟩ := hR
  repeat (first | refine wpList_nil ?_ | refine c_then ?_ | refine wp_ret ?_ | ((apply st hF); (first | exact d_assign | exact d_pickT); clear hF; clear a; intro a hF))
  exact ret1 hF rfl rfl ⟨rfl, hb2.trans (hb3.mono hb2.size)⟩
theorem kept_stations (w : World) (x y : Int) (ss : List ByteArray) (g cap base : Nat) (ao : Option Addr) (n c : Nat) (hn : ss.length = n) (hR : Rd w ao .string ss) (hb : n * 16 ≤ 140737488351232) (hl : LentT base w (.slice (some ⟨g, 0, none⟩) n cap) ss) :
    Ret Tryz.prog 43 #[.agg (staC x y (some ⟨g, 0, none⟩) n cap), .agg (staC x y ao n c)] w (fun v w' => v = .bool true ∧ Below w.heap.size w w') := by
  refine enter2 Tryz.func43 rfl 15 rfl 17 rfl (fun a hF => ?_)
  repeat (first | refine c_seq ?_ | refine c_region _ ?_)
  refine st_box hF (cs := staC x y (some ⟨g, 0, none⟩) n cap) rfl (k := fun a w1 hg1 hgr1 hsz1 hF => ?_)
  refine st_box hF (cs := staC x y ao n c) rfl (k := fun a w2 hg2 hgr2 hsz2 hF => ?_)
  have hb2 : Below w.heap.size w w2 := ((Below.refl _ w).grown hgr1 (Nat.le_refl _) (fun k hk => by cases hk)).grown hgr2 (by omega) (fun k hk => by cases hk)
  have hx := blk_kept hg1 hgr2 (by simp)
  have x2 : w2.cell? ⟨w.heap.size, 0 + 2, none⟩ = some (.slice (some ⟨g, 0, none⟩) n cap) := cell_at hx rfl
  have y2 : w2.cell? ⟨w1.heap.size, 0 + 2, none⟩ = some (.slice ao n c) := cell_at hg2 rfl
  have xp0 : ∀ j v, (#[.int .i64 x, .int .i64 y] : Array Value)[j]? = some v → w2.cell? ⟨w.heap.size, 0 + j, none⟩ = some v := pair_at (cell_at (i := 0) hx rfl) (cell_at (i := 1) hx rfl)
  have yp0 : ∀ j v, (#[.int .i64 x, .int .i64 y] : Array Value)[j]? = some v → w2.cell? ⟨w1.heap.size, 0 + j, none⟩ = some v := pair_at (cell_at (i := 0) hg2 rfl) (cell_at (i := 1) hg2 rfl)
  repeat (first | refine c_seq ?_ | refine c_region _ ?_ | refine wpList_nil ?_ | refine c_then ?_ | ((first | apply st hF | apply stg hF); (first | exact d_move | exact d_assign | exact d_fieldAddr (fld _ _ _ _ rfl) (isz _ _ rfl) | exact d_loadAgg (agg _ rfl) (isz _ _ rfl) rfl xp0 | exact d_loadAgg (agg _ rfl) (isz _ _ rfl) rfl yp0 | exact d_eqPs pairPlace | exact d_load (und _ _ rfl) x2 | exact d_load (und _ _ rfl) y2); clear hF; clear a; intro a hF))
  refine stcg hF (kept_texts w2 ss _ base ao _ c hn (hR.below hb2) (hl.below hb2) hb) cal70 ⟨rfl, rfl, trivial⟩ (k := fun a v w3 hR hF => ?_)
  obtain ⟨rfl, hb3⟩ := hR
  repeat (first | refine wpList_nil ?_ | refine c_then ?_ | refine wp_ret ?_ | ((apply st hF); (first | exact d_assign | exact d_pickT); clear hF; clear a; intro a hF))
  exact ret1 hF rfl rfl ⟨rfl, hb2.trans (hb3.mono hb2.size)⟩
set_option maxHeartbeats 8000000 in
theorem kept_tables (w : World) (ts : List TabT) (v : Value) (base : Nat) (ao : Option Addr) (n c : Nat) (hs : TabsIn w ao n c ts) (hl : LentTs base w v ts) :
    Ret Tryz.prog 42 #[v, .slice ao n c] w (fun v w' => v = .bool true ∧ Below w.heap.size w w') := by
  have hrdall := fun (wr : World) (hb : Below w.heap.size w wr) {k : Nat} (hk : k < ts.length) => tab_cells_at hs hb hk
  have heach := hs.each
  have hby := hs.bytes
  have hn := hs.len
  clear hs
  subst hn
  obtain ⟨g, cap, ls, rfl, hll, hown, hok⟩ := hl
  have hcap2 := own_cap' hown
  have hR := own_rdS tabc_len hown (by simp [hll])
  refine enter2 Tryz.func42 rfl 46 rfl 48 rfl (fun a hF => ?_)
  repeat (first | refine c_seq ?_ | refine c_block ?_ | refine c_region _ ?_ | refine wpList_nil ?_ | refine c_then ?_ | refine wp_skip ?_ | ((apply st hF); (first | exact d_move | exact d_assign | exact d_add | exact d_cmpF | exact d_len (und _ _ rfl) | exact d_slice (und _ _ rfl) (isz _ _ rfl) (j := ts.length + 16) (hq := by omega)); clear hF; clear a; intro a hF) | (apply c_cond_f hF; exact rfl; first | exact rfl | assumption))
  refine c_loop (fun q a w' => ∃ k, k ≤ ts.length ∧ q = ts.length - k ∧ Fr 48 [(1, .slice ao ts.length c), (5, .int .i64 ts.length), (6, .slice (some ⟨g, 0, none⟩) (ts.length + 16) cap), (7, .int .i64 (k : Nat))] a ∧ Below w.heap.size w w') ts.length
    ⟨0, by omega, rfl, hF.keep' ⟨rfl, rfl, rfl, rfl, trivial⟩, Below.refl _ w⟩ ?_
  clear hF a
  rintro q a wr ⟨k, hk, rfl, hF, hbel⟩
  by_cases hlt : k < ts.length
  · obtain ⟨p, gi, ci, hp, hli, hlt'⟩ := hok k hlt
    have hpe : ts[k] = p := by rw [List.getElem?_eq_getElem hlt] at hp; exact Option.some.inj hp
    obtain ⟨b, o, hao, _⟩ := hrdall w (Below.refl _ w) hlt
    obtain ⟨b2, o2, e2, hc2⟩ := hR k (by simp; omega)
    cases e2
    have hle : (ls ++ List.replicate 16 tabM)[k]'(by simp; omega) = p.1.at gi ci := by
      rw [List.getElem_append_left (by omega)]
      rw [List.getElem?_eq_getElem (by omega)] at hli
      exact Option.some.inj hli
    rw [hle] at hc2
    have hin := heach p (by rw [← hpe]; exact List.getElem_mem hlt)
    have hx : ∀ w', Below w.heap.size w w' → ∀ q v, (Tab.cells (p.1.at gi ci))[q]? = some v → w'.cell? ⟨g, 0 + k * 6 + q, none⟩ = some v := fun w' h q v hq => (h.cell (p := ⟨g, 0 + k * 6 + q, none⟩) (World.block_lt_of_cell? w _ (hc2 q v hq))).trans (hc2 q v hq)
    have hy : ∀ w', Below w.heap.size w w' → ∀ q v, (Tab.cells p.1)[q]? = some v → w'.cell? ⟨b, o + k * 6 + q, none⟩ = some v := fun w' h q v hq => by
      obtain ⟨b', o', hao', hc'⟩ := hrdall w' h hlt
      have e := hao.symm.trans hao'; cases e
      rw [ts_lt hlt, hpe] at hc'
      exact hc' q v hq
    rw [hao] at hF
    repeat (first | (refine c_region_drawC (fun w' => Below w.heap.size w w') _ mixed (by kernel_rfl) (below_more hbel 1) ?_) | refine c_seq ?_ | refine c_block ?_ | refine c_region _ ?_ | refine wpList_nil ?_ | refine c_then ?_ | refine wp_skip ?_ | ((apply st hF); (first | exact d_move | exact d_cmpT); clear hF; clear a; intro a hF) | ((apply q_step hF); intro wq hwq; (exact d_move); clear hF; clear a; intro a hF) | (apply c_cond_t hF; exact rfl; first | exact rfl | assumption))
    repeat (((apply q_step hF); intro wq hwq; (first | exact d_move | exact d_indexAddrS (und _ _ rfl) (isz _ _ rfl) | exact d_loadAgg (agg _ rfl) (isz _ _ rfl) rfl (arr_cells (hx wq hwq)) | exact d_loadAgg (agg _ rfl) (isz _ _ rfl) rfl (arr_cells (hy wq hwq))); clear hF; clear a; intro a hF))
    refine q_stc hF (fun w' hw' => (kept_table w' p.1 p.2 gi ci base (hin.below hw') (hlt'.below hw')).mono (fun v w'' h => ⟨h.1, hw'.trans (h.2.mono hw'.size)⟩)) cal69 ⟨rfl, rfl, trivial⟩ (k := fun a hF => ?_)
    repeat (((apply q_step hF); intro wq hwq; (exact d_not); clear hF; clear a; intro a hF))
    refine q_nil ?_
    intro w3 hb3
    repeat (first | refine c_region _ ?_ | refine wpList_nil ?_ | refine c_then ?_ | refine c_in ?_ | refine wp_skip ?_ | ((apply st hF); (first | exact d_move | exact d_assign | exact d_add); clear hF; clear a; intro a hF) | (apply c_cond_f hF; exact rfl; first | exact rfl | assumption))
    exact ⟨ts.length - (k + 1), by omega, k + 1, by omega, rfl, hao.symm ▸ hF.keep' ⟨rfl, rfl, rfl, rfl, trivial⟩, hb3⟩
  · obtain rfl : k = ts.length := by omega
    repeat (first | refine c_seq ?_ | refine c_block ?_ | refine c_region _ ?_ | refine wpList_nil ?_ | refine c_then ?_ | refine c_then_exit ?_ | refine c_in_hit ?_ | refine wp_exit ?_ | ((apply st hF); (first | exact d_move | exact d_assign | exact d_cmpF); clear hF; clear a; intro a hF) | (apply c_cond_f hF; exact rfl; first | exact rfl | assumption))
    refine c_loop (fun q a w' => ∃ k, k ≤ 16 ∧ q = 16 - k ∧ Fr 48 [(5, .int .i64 ts.length), (6, .slice (some ⟨g, 0, none⟩) (ts.length + 16) cap), (8, .int .i64 ((ts.length + k : Nat) : Int))] a ∧ Below w.heap.size w w') 16
      ⟨0, by omega, rfl, hF.keep' ⟨rfl, rfl, rfl, trivial⟩, hbel⟩ ?_
    clear hF a hbel wr
    rintro q a wr ⟨k, hk, rfl, hF, hbel⟩
    by_cases hlt2 : k < 16
    · obtain ⟨b2, o2, e2, hc2⟩ := hR (ts.length + k) (by simp; omega)
      cases e2
      have hle : (ls ++ List.replicate 16 tabM)[ts.length + k]'(by simp; omega) = tabM := by
        rw [List.getElem_append_right (by omega), List.getElem_replicate]
      rw [hle] at hc2
      have c5 : wr.cell? ⟨g, 0 + (ts.length + k) * 6 + 4, none⟩ = some (.string ⟨#[115, 112, 97, 114, 101]⟩) := (hbel.cell (p := ⟨g, 0 + (ts.length + k) * 6 + 4, none⟩) (World.block_lt_of_cell? w _ (hc2 4 _ rfl))).trans (hc2 4 _ rfl)
      repeat (first | refine c_seq ?_ | refine c_block ?_ | refine c_region _ ?_ | refine wpList_nil ?_ | refine c_then ?_ | refine c_in ?_ | refine wp_skip ?_ | ((apply st hF); (first | exact d_move | exact d_assign | exact d_not | exact d_add | exact d_cmpT | exact d_eqST | exact d_len (und _ _ rfl) | exact d_fieldAddr (fld _ _ _ _ rfl) (isz _ _ rfl) | exact d_indexAddrS (und _ _ rfl) (isz _ _ rfl) | exact d_load (und _ _ rfl) c5); clear hF; clear a; intro a hF) | (apply c_cond_t hF; exact rfl; first | exact rfl | assumption) | (apply c_cond_f hF; exact rfl; first | exact rfl | assumption))
      exact ⟨16 - (k + 1), by omega, k + 1, by omega, rfl, hF.keep' ⟨rfl, rfl, rfl, trivial⟩, hbel⟩
    · repeat (first | refine c_seq ?_ | refine c_region _ ?_ | refine wpList_nil ?_ | refine c_then ?_ | refine c_then_exit ?_ | refine c_in_hit ?_ | refine wp_exit ?_ | refine wp_ret ?_ | ((apply st hF); (first | exact d_move | exact d_assign | exact d_cmpF | exact d_len (und _ _ rfl)); clear hF; clear a; intro a hF) | (apply c_cond_f hF; exact rfl; first | exact rfl | assumption))
      exact ret1 hF rfl rfl ⟨rfl, hbel⟩
set_option maxHeartbeats 8000000 in
theorem kept_messages (w : World) (ms : List MsgT) (v : Value) (base : Nat) (ao : Option Addr) (n c : Nat) (hs : MsgsIn w ao n c ms) (hl : LentMs base w v ms) :
    Ret Tryz.prog 41 #[v, .slice ao n c] w (fun v w' => v = .bool true ∧ Below w.heap.size w w') := by
  have hrdall := fun (wr : World) (hb : Below w.heap.size w wr) {k : Nat} (hk : k < ms.length) => msg_cells_at hs hb hk
  have heach := hs.each
  have hby := hs.bytes
  have hn := hs.len
  clear hs
  subst hn
  obtain ⟨g, cap, ls, rfl, hll, hown, hok⟩ := hl
  have hcap2 := own_cap' hown
  have hR := own_rdS msgc_len hown (by simp [hll])
  refine enter2 Tryz.func41 rfl 46 rfl 48 rfl (fun a hF => ?_)
  repeat (first | refine c_seq ?_ | refine c_block ?_ | refine c_region _ ?_ | refine wpList_nil ?_ | refine c_then ?_ | refine wp_skip ?_ | ((apply st hF); (first | exact d_move | exact d_assign | exact d_add | exact d_cmpF | exact d_len (und _ _ rfl) | exact d_slice (und _ _ rfl) (isz _ _ rfl) (j := ms.length + 16) (hq := by omega)); clear hF; clear a; intro a hF) | (apply c_cond_f hF; exact rfl; first | exact rfl | assumption))
  refine c_loop (fun q a w' => ∃ k, k ≤ ms.length ∧ q = ms.length - k ∧ Fr 48 [(1, .slice ao ms.length c), (5, .int .i64 ms.length), (6, .slice (some ⟨g, 0, none⟩) (ms.length + 16) cap), (7, .int .i64 (k : Nat))] a ∧ Below w.heap.size w w') ms.length
    ⟨0, by omega, rfl, hF.keep' ⟨rfl, rfl, rfl, rfl, trivial⟩, Below.refl _ w⟩ ?_
  clear hF a
  rintro q a wr ⟨k, hk, rfl, hF, hbel⟩
  by_cases hlt : k < ms.length
  · obtain ⟨p, gi, ci, hp, hli, hlt'⟩ := hok k hlt
    have hpe : ms[k] = p := by rw [List.getElem?_eq_getElem hlt] at hp; exact Option.some.inj hp
    obtain ⟨b, o, hao, _⟩ := hrdall w (Below.refl _ w) hlt
    obtain ⟨b2, o2, e2, hc2⟩ := hR k (by simp; omega)
    cases e2
    have hle : (ls ++ List.replicate 16 msgM)[k]'(by simp; omega) = p.1.at gi ci := by
      rw [List.getElem_append_left (by omega)]
      rw [List.getElem?_eq_getElem (by omega)] at hli
      exact Option.some.inj hli
    rw [hle] at hc2
    have hin := heach p (by rw [← hpe]; exact List.getElem_mem hlt)
    have hx : ∀ w', Below w.heap.size w w' → ∀ q v, (Msg.cells (p.1.at gi ci))[q]? = some v → w'.cell? ⟨g, 0 + k * 8 + q, none⟩ = some v := fun w' h q v hq => (h.cell (p := ⟨g, 0 + k * 8 + q, none⟩) (World.block_lt_of_cell? w _ (hc2 q v hq))).trans (hc2 q v hq)
    have hy : ∀ w', Below w.heap.size w w' → ∀ q v, (Msg.cells p.1)[q]? = some v → w'.cell? ⟨b, o + k * 8 + q, none⟩ = some v := fun w' h q v hq => by
      obtain ⟨b', o', hao', hc'⟩ := hrdall w' h hlt
      have e := hao.symm.trans hao'; cases e
      rw [ms_lt hlt, hpe] at hc'
      exact hc' q v hq
    rw [hao] at hF
    repeat (first | (refine c_region_drawC (fun w' => Below w.heap.size w w') _ mixed (by kernel_rfl) (below_more hbel 1) ?_) | refine c_seq ?_ | refine c_block ?_ | refine c_region _ ?_ | refine wpList_nil ?_ | refine c_then ?_ | refine wp_skip ?_ | ((apply st hF); (first | exact d_move | exact d_cmpT); clear hF; clear a; intro a hF) | ((apply q_step hF); intro wq hwq; (exact d_move); clear hF; clear a; intro a hF) | (apply c_cond_t hF; exact rfl; first | exact rfl | assumption))
    repeat (((apply q_step hF); intro wq hwq; (first | exact d_move | exact d_indexAddrS (und _ _ rfl) (isz _ _ rfl) | exact d_loadAgg (agg _ rfl) (isz _ _ rfl) rfl (arr_cells (hx wq hwq)) | exact d_loadAgg (agg _ rfl) (isz _ _ rfl) rfl (arr_cells (hy wq hwq))); clear hF; clear a; intro a hF))
    refine q_stc hF (fun w' hw' => (kept_message w' p.1 p.2 gi ci base (SigsIn.below hin hw') (hlt'.below hw')).mono (fun v w'' h => ⟨h.1, hw'.trans (h.2.mono hw'.size)⟩)) cal9 ⟨rfl, rfl, trivial⟩ (k := fun a hF => ?_)
    repeat (((apply q_step hF); intro wq hwq; (exact d_not); clear hF; clear a; intro a hF))
    refine q_nil ?_
    intro w3 hb3
    repeat (first | refine c_region _ ?_ | refine wpList_nil ?_ | refine c_then ?_ | refine c_in ?_ | refine wp_skip ?_ | ((apply st hF); (first | exact d_move | exact d_assign | exact d_add); clear hF; clear a; intro a hF) | (apply c_cond_f hF; exact rfl; first | exact rfl | assumption))
    exact ⟨ms.length - (k + 1), by omega, k + 1, by omega, rfl, hao.symm ▸ hF.keep' ⟨rfl, rfl, rfl, rfl, trivial⟩, hb3⟩
  · obtain rfl : k = ms.length := by omega
    repeat (first | refine c_seq ?_ | refine c_block ?_ | refine c_region _ ?_ | refine wpList_nil ?_ | refine c_then ?_ | refine c_then_exit ?_ | refine c_in_hit ?_ | refine wp_exit ?_ | ((apply st hF); (first | exact d_move | exact d_assign | exact d_cmpF); clear hF; clear a; intro a hF) | (apply c_cond_f hF; exact rfl; first | exact rfl | assumption))
    refine c_loop (fun q a w' => ∃ k, k ≤ 16 ∧ q = 16 - k ∧ Fr 48 [(5, .int .i64 ms.length), (6, .slice (some ⟨g, 0, none⟩) (ms.length + 16) cap), (8, .int .i64 ((ms.length + k : Nat) : Int))] a ∧ Below w.heap.size w w') 16
      ⟨0, by omega, rfl, hF.keep' ⟨rfl, rfl, rfl, trivial⟩, hbel⟩ ?_
    clear hF a hbel wr
    rintro q a wr ⟨k, hk, rfl, hF, hbel⟩
    by_cases hlt2 : k < 16
    · obtain ⟨b2, o2, e2, hc2⟩ := hR (ms.length + k) (by simp; omega)
      cases e2
      have hle : (ls ++ List.replicate 16 msgM)[ms.length + k]'(by simp; omega) = msgM := by
        rw [List.getElem_append_right (by omega), List.getElem_replicate]
      rw [hle] at hc2
      have c5 : wr.cell? ⟨g, 0 + (ms.length + k) * 8 + 5, none⟩ = some (.int .i64 (-7)) := (hbel.cell (p := ⟨g, 0 + (ms.length + k) * 8 + 5, none⟩) (World.block_lt_of_cell? w _ (hc2 5 _ rfl))).trans (hc2 5 _ rfl)
      repeat (first | refine c_seq ?_ | refine c_block ?_ | refine c_region _ ?_ | refine wpList_nil ?_ | refine c_then ?_ | refine c_in ?_ | refine wp_skip ?_ | ((apply st hF); (first | exact d_move | exact d_assign | exact d_not | exact d_add | exact d_cmpT | exact d_len (und _ _ rfl) | exact d_fieldAddr (fld _ _ _ _ rfl) (isz _ _ rfl) | exact d_indexAddrS (und _ _ rfl) (isz _ _ rfl) | exact d_load (und _ _ rfl) c5); clear hF; clear a; intro a hF) | (apply c_cond_t hF; exact rfl; first | exact rfl | assumption) | (apply c_cond_f hF; exact rfl; first | exact rfl | assumption))
      exact ⟨16 - (k + 1), by omega, k + 1, by omega, rfl, hF.keep' ⟨rfl, rfl, rfl, trivial⟩, hbel⟩
    · repeat (first | refine c_seq ?_ | refine c_region _ ?_ | refine wpList_nil ?_ | refine c_then ?_ | refine c_then_exit ?_ | refine c_in_hit ?_ | refine wp_exit ?_ | refine wp_ret ?_ | ((apply st hF); (first | exact d_move | exact d_assign | exact d_cmpF | exact d_len (und _ _ rfl)); clear hF; clear a; intro a hF) | (apply c_cond_f hF; exact rfl; first | exact rfl | assumption))
      exact ret1 hF rfl rfl ⟨rfl, hbel⟩
set_option maxHeartbeats 8000000 in
theorem kept_db (w : World) (d : Db) (ss : List ByteArray) (ms : List MsgT) (ts : List TabT) (g1 c1 g2 c2 g3 c3 base : Nat) (hin : DbIn w d ss ms ts) (hl : LentDb base w d ss ms ts g1 c1 g2 c2 g3 c3) :
    Ret Tryz.prog 13 #[.agg (Db.cells (d.at g1 c1 g2 c2 g3 c3)).toArray, .agg (Db.cells d).toArray] w (fun v w' => v = .bool true ∧ Below w.heap.size w w') := by
  refine enter2 Tryz.func13 rfl 36 rfl 38 rfl (fun a hF => ?_)
  repeat (first | refine c_seq ?_ | refine c_region _ ?_)
  refine st_box hF (cs := (Db.cells (d.at g1 c1 g2 c2 g3 c3)).toArray) rfl (k := fun a w1 hg1 hgr1 hsz1 hF => ?_)
  refine st_box hF (cs := (Db.cells d).toArray) rfl (k := fun a w2 hg2 hgr2 hsz2 hF => ?_)
  have hb2 : Below w.heap.size w w2 := ((Below.refl _ w).grown hgr1 (Nat.le_refl _) (fun k hk => by cases hk)).grown hgr2 (by omega) (fun k hk => by cases hk)
  have hx : DgAt w.heap.size (d.at g1 c1 g2 c2 g3 c3) w2 := blk_kept hg1 hgr2 (by simp)
  have hy : DgAt w1.heap.size d w2 := hg2
  have ver : ∀ (B : Nat) (wq : World) (x : Db), x.vline = d.vline → x.vcol = d.vcol → x.vtext = d.vtext → DgAt B x wq → ∀ j v, (#[.int .i64 d.vline, .int .i64 d.vcol, .string d.vtext] : Array Value)[j]? = some v → wq.cell? ⟨B, 0 + 1 + j, none⟩ = some v := fun B wq x e1 e2 e3 h j v hj => by
    rcases (show j = 0 ∨ j = 1 ∨ j = 2 ∨ 3 ≤ j by omega) with rfl | rfl | rfl | hj3
    · simp at hj; subst hj; rw [← e1]; exact h.c 1 _ rfl
    · simp at hj; subst hj; rw [← e2]; exact h.c 2 _ rfl
    · simp at hj; subst hj; rw [← e3]; exact h.c 3 _ rfl
    · rw [Array.getElem?_eq_none (by simpa using hj3)] at hj; cases hj
  have sta : ∀ (B : Nat) (wq : World) (x : Db), DgAt B x wq → ∀ j v, (staC x.sline x.scol x.sn x.snN x.snC)[j]? = some v → wq.cell? ⟨B, 0 + 4 + j, none⟩ = some v := fun B wq x h j v hj => by
    unfold staC at hj
    rcases (show j = 0 ∨ j = 1 ∨ j = 2 ∨ 3 ≤ j by omega) with rfl | rfl | rfl | hj3
    · simp at hj; subst hj; exact h.c 4 _ rfl
    · simp at hj; subst hj; exact h.c 5 _ rfl
    · simp at hj; subst hj; exact h.c 6 _ rfl
    · rw [Array.getElem?_eq_none (by simpa using hj3)] at hj; cases hj
  have x0 : w2.cell? ⟨w.heap.size, 0 + 0, none⟩ = some (.bool d.hasV) := hx.c 0 _ rfl
  have x7 : w2.cell? ⟨w.heap.size, 0 + 7, none⟩ = some (.slice (some ⟨g1, 0, none⟩) d.mgN c1) := hx.c 7 _ rfl
  have hbb : (d.hasV == d.hasV) = true := by simp
  have vx := ver _ _ (d.at g1 c1 g2 c2 g3 c3) rfl rfl rfl hx
  have vy := ver _ _ d rfl rfl rfl hy
  repeat (first | refine c_seq ?_ | refine c_region _ ?_ | refine wpList_nil ?_ | refine c_then ?_ | ((first | apply st hF | apply stg hF); (first | exact d_move | exact d_assign | exact d_pickT | exact d_eqbT (und _ _ rfl) | exact d_fieldAddr (fld _ _ _ _ rfl) (isz _ _ rfl) | exact d_loadAgg (agg _ rfl) (isz _ _ rfl) rfl vx | exact d_loadAgg (agg _ rfl) (isz _ _ rfl) rfl vy | exact d_eqSelf (self_ver d.vline d.vcol d.vtext) | exact d_load (und _ _ rfl) x0 | exact d_load (und _ _ rfl) x7 | exact d_load (und _ _ rfl) (hy.c 0 _ rfl) | exact d_load (und _ _ rfl) (hy.c 7 _ rfl)); clear hF; clear a; intro a hF))
  refine stcg hF (kept_messages w2 ms _ base d.mg d.mgN d.mgC (hin.msgs.below hb2) (hl.m.below hb2)) cal41 ⟨rfl, rfl, trivial⟩ (k := fun a v w3 hR hF => ?_)
  obtain ⟨rfl, hb3⟩ := hR
  have hx3 := hx.below hb3
  have hy3 := hy.below hb3
  replace hb3 := hb2.trans (hb3.mono hb2.size)
  have x8 : w3.cell? ⟨w.heap.size, 0 + 8, none⟩ = some (.slice (some ⟨g2, 0, none⟩) d.tbN c2) := hx3.c 8 _ rfl
  repeat (((first | apply st hF | apply stg hF); (first | exact d_move | exact d_pickT | exact d_fieldAddr (fld _ _ _ _ rfl) (isz _ _ rfl) | exact d_load (und _ _ rfl) x8 | exact d_load (und _ _ rfl) (hy3.c 8 _ rfl)); clear hF; clear a; intro a hF))
  refine stcg hF (kept_tables w3 ts _ base d.tb d.tbN d.tbC (hin.tabs.below hb3) (hl.t.below hb3)) cal42 ⟨rfl, rfl, trivial⟩ (k := fun a v w4 hR hF => ?_)
  obtain ⟨rfl, hb4⟩ := hR
  have hx4 := hx3.below hb4
  have hy4 := hy3.below hb4
  replace hb4 := hb3.trans (hb4.mono hb3.size)
  have sx : ∀ j v, (staC d.sline d.scol (some ⟨g3, 0, none⟩) d.snN c3)[j]? = some v → w4.cell? ⟨w.heap.size, 0 + 4 + j, none⟩ = some v := sta _ _ _ hx4
  repeat (((first | apply st hF | apply stg hF); (first | exact d_move | exact d_pickT | exact d_fieldAddr (fld _ _ _ _ rfl) (isz _ _ rfl) | exact d_loadAgg (agg _ rfl) (isz _ _ rfl) rfl sx | exact d_loadAgg (agg _ rfl) (isz _ _ rfl) rfl (sta _ _ _ hy4)); clear hF; clear a; intro a hF))
  refine stcg hF (kept_stations w4 d.sline d.scol ss g3 c3 base d.sn d.snN d.snC hin.slen (hin.srd.below hb4) hin.sbytes (hl.s.below hb4)) cal43 ⟨rfl, rfl, trivial⟩ (k := fun a v w5 hR hF => ?_)
  obtain ⟨rfl, hb5⟩ := hR
  repeat (first | refine wpList_nil ?_ | refine c_then ?_ | refine wp_ret ?_ | ((apply st hF); (first | exact d_assign | exact d_pickT); clear hF; clear a; intro a hF))
  exact ret1 hF rfl rfl ⟨rfl, hb4.trans (hb5.mono hb4.size)⟩
end Go.Proofs.YtjomihhpglojpaaGreatDoor
end
section
/- What may be, may be with fewer messages and tables. Plain. -/
namespace Go.Proofs.YtjomihhpglojpaaGreatDoor
open Go.RowKit
set_option linter.unusedSimpArgs false
set_option linter.unusedVariables false
attribute [local irreducible] wpList wpQuiet wpStill Code.wp Exit.then Exit.inBlock bodyPost Calls Does Does0
set_option maxRecDepth 100000
structure DbGood (d : Db) (ss : List ByteArray) (ms : List MsgT) (ts : List TabT) : Prop where
  ver : ¬ (d.hasV = true ∧ textE d.vtext ≠ 0)
  few : ss.length ≤ 64
  sta : ∀ i, i < ss.length → staE ss i = 0
  mfew : ms.length ≤ 512
  msg : ∀ i, i < ms.length → (dmE ss ms i).1 = 0
  tab : ∀ i, i < ts.length → dtE ms ts i = 0
theorem dbE_good {d : Db} {ss : List ByteArray} {ms : List MsgT} {ts : List TabT} (h : DbGood d ss ms ts) : dbE d ss ms ts = okE := by
  unfold dbE
  rw [if_neg h.ver, if_neg (by have := h.few; omega), firstAt_none (fun i hi e => e (h.sta i hi)), if_neg (by have := h.mfew; omega), firstAt_none (fun i hi e => e (h.msg i hi)), firstAt_none (fun i hi e => e (h.tab i hi))]
  rfl
theorem dbE_zero {d : Db} {ss : List ByteArray} {ms : List MsgT} {ts : List TabT} (h : (dbE d ss ms ts).1 = 0) : DbGood d ss ms ts := by
  unfold dbE at h
  by_cases e1 : d.hasV = true ∧ textE d.vtext ≠ 0
  · rw [if_pos e1] at h; exact absurd h e1.2
  rw [if_neg e1] at h
  by_cases e2 : 64 < ss.length
  · rw [if_pos e2] at h; cases h
  rw [if_neg e2] at h
  rcases firstAt_spec (fun i => staE ss i ≠ 0) ss.length with ⟨h1, n1⟩ | ⟨i, h1, _, hb, _⟩
  case inr => rw [h1] at h; exact absurd h hb
  rw [h1] at h
  replace h : (if 512 < ms.length then ((5, (ms_ ms 512).line, (ms_ ms 512).col) : Err) else thenE (firstAt (fun i => (dmE ss ms i).1 ≠ 0) ms.length) (dmE ss ms) (thenE (firstAt (fun i => dtE ms ts i ≠ 0) ts.length) (fun i => (dtE ms ts i, (ts_ ts i).line, (ts_ ts i).col)) okE)).1 = 0 := h
  by_cases e3 : 512 < ms.length
  · rw [if_pos e3] at h; cases h
  rw [if_neg e3] at h
  rcases firstAt_spec (fun i => (dmE ss ms i).1 ≠ 0) ms.length with ⟨h2, n2⟩ | ⟨i, h2, _, hb, _⟩
  case inr => rw [h2] at h; exact absurd h hb
  rw [h2] at h
  replace h : (thenE (firstAt (fun i => dtE ms ts i ≠ 0) ts.length) (fun i => (dtE ms ts i, (ts_ ts i).line, (ts_ ts i).col)) okE).1 = 0 := h
  rcases firstAt_spec (fun i => dtE ms ts i ≠ 0) ts.length with ⟨h3, n3⟩ | ⟨i, h3, _, hb, _⟩
  case inr => rw [h3] at h; exact absurd h hb
  exact ⟨e1, by omega, fun i hi => Classical.byContradiction (n1 i hi), by omega, fun i hi => Classical.byContradiction (n2 i hi), fun i hi => Classical.byContradiction (n3 i hi)⟩
structure SameM (m' : Msg) (ps' : List SigT) (m : Msg) (ps : List SigT) : Prop where
  name : m'.name = m.name
  id : m'.id = m.id
  wide : m'.wide = m.wide
  size : m'.size = m.size
  sender : m'.sender = m.sender
  sgN : m'.sgN = m.sgN
  len : ps'.length = ps.length
  sig : ∀ i, i < ps.length → SameSig (sg ps' i) (sg ps i) ∧ tx ps' i = tx ps i
theorem SameM.msgE {m' m : Msg} {ps' ps : List SigT} (h : SameM m' ps' m ps) : msgE m' ps' = msgE m ps := by
  refine msgE_same h.len ?_ h.size h.sig
  have hmo : mostE m' = mostE m := by unfold mostE; rw [h.wide]
  unfold headE
  rw [h.name, hmo, h.id, h.size, h.sender, h.sgN]
structure SameT (t' : Tab) (rs' : List RowV) (t : Tab) (rs : List RowV) : Prop where
  id : t'.id = t.id
  wide : t'.wide = t.wide
  sig : t'.sig = t.sig
  rows : rs' = rs
theorem rowsE_same {s' s : Sig} (h : SameSig s' s) (rs : List RowV) : rowsE s' rs = rowsE s rs := by
  have h1 : ∀ i, rowE s' rs i = rowE s rs i := fun i => by unfold rowE hasB; rw [h.size, h.sgn]
  have h2 : rowE s' rs = rowE s rs := funext h1
  unfold rowsE
  rw [h2]
theorem dt_zero {ms : List MsgT} {ts : List TabT} {i : Nat} (H : Entered ms ms.length) : dtE ms ts i = 0 ↔ (∃ s, ofB ms (ts_ ts i).id (ts_ ts i).wide (ts_ ts i).sig s ∧ rowsE s (tr_ ts i) = 0) ∧ ¬ ∃ k, k < i ∧ (ts_ ts k).id = (ts_ ts i).id ∧ (ts_ ts k).wide = (ts_ ts i).wide ∧ (ts_ ts k).sig = (ts_ ts i).sig := by
  by_cases h : ∃ s, ofB ms (ts_ ts i).id (ts_ ts i).wide (ts_ ts i).sig s
  · obtain ⟨s, hs⟩ := h
    by_cases h2 : ∃ k, k < i ∧ (ts_ ts k).id = (ts_ ts i).id ∧ (ts_ ts k).wide = (ts_ ts i).wide ∧ (ts_ ts k).sig = (ts_ ts i).sig
    · rw [dt_two hs h2]
      exact ⟨fun e => (by cases e), fun e => absurd h2 e.2⟩
    · rw [dt_rows H hs h2]
      exact ⟨fun e => ⟨⟨s, hs, e⟩, h2⟩, fun ⟨⟨s', hs', e⟩, _⟩ => by rw [of_unique H hs hs']; exact e⟩
  · rw [dt_none h]
    exact ⟨fun e => (by cases e), fun ⟨⟨s, hs, _⟩, _⟩ => absurd ⟨s, hs⟩ h⟩
theorem good_fewer {d d' : Db} {ss : List ByteArray} {ms ms' : List MsgT} {ts ts' : List TabT} (f : Nat → Nat) (H : DbGood d ss ms ts) (hid : ∀ i, i < ms.length → 0 ≤ (ms_ ms i).id ∧ (ms_ ms i).id < 4294967296)
    (hv : d'.hasV = d.hasV ∧ d'.vtext = d.vtext) (hl : ms'.length ≤ ms.length) (hm : ∀ i, i < ms'.length → SameM (ms_ ms' i) (mp_ ms' i) (ms_ ms i) (mp_ ms i))
    (hmono : ∀ i j, i < j → f i < f j) (hf : ∀ i, i < ts'.length → f i < ts.length ∧ SameT (ts_ ts' i) (tr_ ts' i) (ts_ ts (f i)) (tr_ ts (f i)))
    (hlast : ∀ i, i < ts'.length → ∀ j, ms'.length ≤ j → j < ms.length → ¬ sameId (ms_ ms j) (ts_ ts' i).id (ts_ ts' i).wide) : DbGood d' ss ms' ts' := by
  have hent := entered hid H.msg
  have hmsg : ∀ i, i < ms'.length → (dmE ss ms' i).1 = 0 := by
    intro i hi
    obtain ⟨h1, h2, h3, h4⟩ := dmE_zero (H.msg i (by omega))
    have hs := hm i hi
    rw [dm_of (by rw [hs.msgE]; exact h1) (fun j hj => ?_) (by rw [hs.sender]; exact h3) (fun k hk => ?_)]
    · rfl
    · have hsj := hm j (by omega)
      unfold sameId
      rw [hsj.name, hsj.id, hsj.wide, hs.name, hs.id, hs.wide]
      exact h2 j hj
    · rw [hs.len] at hk
      have := h4 k hk
      unfold toB at this ⊢
      rw [(hs.sig k hk).2]
      exact this
  have hid' : ∀ i, i < ms'.length → 0 ≤ (ms_ ms' i).id ∧ (ms_ ms' i).id < 4294967296 := fun i hi => by rw [(hm i hi).id]; exact hid i (by omega)
  have hent' := entered hid' hmsg
  refine ⟨by rw [hv.1, hv.2]; exact H.ver, H.few, H.sta, by have := H.mfew; omega, hmsg, fun i hi => ?_⟩
  obtain ⟨hfl, hst⟩ := hf i hi
  obtain ⟨⟨s, hs, hr⟩, hnd⟩ := (dt_zero hent).1 (H.tab (f i) hfl)
  refine (dt_zero hent').2 ⟨?_, ?_⟩
  · obtain ⟨a, k, ha, hk, hsi, hnm, rfl⟩ := hs
    have hal : a < ms'.length := Classical.byContradiction fun h => hlast i hi a (by omega) ha (by rw [hst.id, hst.wide]; exact hsi)
    have hsm := hm a hal
    refine ⟨sg (mp_ ms' a) k, ⟨a, k, hal, by rw [hsm.len]; exact hk, ⟨by rw [hsm.id, hst.id]; exact hsi.1, by rw [hsm.wide, hst.wide]; exact hsi.2⟩, by rw [(hsm.sig k hk).1.name, hst.sig]; exact hnm, rfl⟩, ?_⟩
    rw [rowsE_same (hsm.sig k hk).1, hst.rows]
    exact hr
  · rintro ⟨k, hk, e1, e2, e3⟩
    obtain ⟨_, hsk⟩ := hf k (by omega)
    refine hnd ⟨f k, hmono k i hk, ?_, ?_, ?_⟩
    · rw [← hsk.id, ← hst.id]; exact e1
    · rw [← hsk.wide, ← hst.wide]; exact e2
    · rw [← hsk.sig, ← hst.sig]; exact e3
end Go.Proofs.YtjomihhpglojpaaGreatDoor
end
section
/- A database's error and place do not hang on where its lists lie. Plain. -/
namespace Go.Proofs.YtjomihhpglojpaaGreatDoor
open Go.RowKit
set_option linter.unusedSimpArgs false
set_option linter.unusedVariables false
attribute [local irreducible] wpList wpQuiet wpStill Code.wp Exit.then Exit.inBlock bodyPost Calls Does Does0
set_option maxRecDepth 100000
structure SamePl (m' : Msg) (ps' : List SigT) (m : Msg) (ps : List SigT) : Prop where
  line : m'.line = m.line
  col : m'.col = m.col
  sig : ∀ i, i < ps.length → (sg ps' i).line = (sg ps i).line ∧ (sg ps' i).col = (sg ps i).col
theorem msgE_ix {m : Msg} {ps : List SigT} {i : Nat} (h : (msgE m ps).2 = some i) : i < ps.length := by
  unfold msgE at h
  by_cases e : headE m ≠ 0
  · rw [if_pos e] at h; cases h
  rw [if_neg e] at h
  unfold thenF at h
  split at h
  · rename_i k hk; cases h; exact (of_some hk).1
  split at h
  · rename_i k hk; cases h; exact (of_some hk).1
  split at h
  · rename_i k hk; cases h; exact (of_some hk).1
  · cases h
theorem SamePl.pl {m' m : Msg} {ps' ps : List SigT} (h : SamePl m' ps' m ps) : placeL m' ps' (msgE m ps).2 = placeL m ps (msgE m ps).2 ∧ placeC m' ps' (msgE m ps).2 = placeC m ps (msgE m ps).2 := by
  cases ho : (msgE m ps).2 with
  | none => exact ⟨h.line, h.col⟩
  | some i => exact h.sig i (msgE_ix ho)
theorem thenE_congr {r r' : Option Nat} {e e' : Nat → Err} {k k' : Err} (h0 : r = r') (h : ∀ i, r' = some i → e i = e' i) (hk : r' = none → k = k') : thenE r e k = thenE r' e' k' := by
  subst h0
  cases r with
  | none => exact hk rfl
  | some i => exact h i rfl
theorem dm_same {ss : List ByteArray} {ms ms' : List MsgT} (hs : ∀ i, i < ms.length → SameM (ms_ ms' i) (mp_ ms' i) (ms_ ms i) (mp_ ms i) ∧ SamePl (ms_ ms' i) (mp_ ms' i) (ms_ ms i) (mp_ ms i)) {i : Nat} (hi : i < ms.length) : dmE ss ms' i = dmE ss ms i := by
  obtain ⟨h1, h2⟩ := hs i hi
  have hp := h2.pl
  have e2 : (∃ k, k < i ∧ ((ms_ ms' k).name = (ms_ ms i).name ∨ sameId (ms_ ms' k) (ms_ ms i).id (ms_ ms i).wide)) ↔ ∃ k, k < i ∧ ((ms_ ms k).name = (ms_ ms i).name ∨ sameId (ms_ ms k) (ms_ ms i).id (ms_ ms i).wide) := by
    have key : ∀ k, k < i → (((ms_ ms' k).name = (ms_ ms i).name ∨ sameId (ms_ ms' k) (ms_ ms i).id (ms_ ms i).wide) ↔ ((ms_ ms k).name = (ms_ ms i).name ∨ sameId (ms_ ms k) (ms_ ms i).id (ms_ ms i).wide)) := fun k hk => by
      have hk' := (hs k (by omega)).1
      unfold sameId
      rw [hk'.name, hk'.id, hk'.wide]
    exact ⟨fun ⟨k, hk, h⟩ => ⟨k, hk, (key k hk).1 h⟩, fun ⟨k, hk, h⟩ => ⟨k, hk, (key k hk).2 h⟩⟩
  have e4 : firstAt (toB ss (mp_ ms' i)) (mp_ ms' i).length = firstAt (toB ss (mp_ ms i)) (mp_ ms i).length := by
    rw [h1.len]
    exact firstAt_congr fun k hk => by unfold toB; rw [(h1.sig k hk).2]
  unfold dmE
  rw [h1.msgE, h1.name, h1.id, h1.wide, h1.sender, h2.line, h2.col, hp.1, hp.2]
  have e5 := thenE_congr (k := okE) (k' := okE) e4 (e := fun k => ((13, (sg (mp_ ms' i) k).line, (sg (mp_ ms' i) k).col) : Err)) (e' := fun k => ((13, (sg (mp_ ms i) k).line, (sg (mp_ ms i) k).col) : Err)) (fun k hk => by rw [(h2.sig k (of_some hk).1).1, (h2.sig k (of_some hk).1).2]) (fun _ => rfl)
  by_cases c1 : (msgE (ms_ ms i) (mp_ ms i)).1 ≠ 0
  · rw [if_pos c1, if_pos c1]
  rw [if_neg c1, if_neg c1]
  by_cases c2 : ∃ k, k < i ∧ ((ms_ ms k).name = (ms_ ms i).name ∨ sameId (ms_ ms k) (ms_ ms i).id (ms_ ms i).wide)
  · rw [if_pos c2, if_pos (e2.2 c2)]
  rw [if_neg c2, if_neg (fun h => c2 (e2.1 h)), e5]
theorem dt_same {ms ms' : List MsgT} {ts ts' : List TabT} (hl : ms'.length = ms.length) (hs : ∀ i, i < ms.length → SameM (ms_ ms' i) (mp_ ms' i) (ms_ ms i) (mp_ ms i)) (H : Entered ms ms.length) (H' : Entered ms' ms'.length)
    (ht : ∀ i, i < ts.length → SameT (ts_ ts' i) (tr_ ts' i) (ts_ ts i) (tr_ ts i)) {i : Nat} (hi : i < ts.length) : dtE ms' ts' i = dtE ms ts i := by
  have h1 := ht i hi
  have e2 : (∃ k, k < i ∧ (ts_ ts' k).id = (ts_ ts' i).id ∧ (ts_ ts' k).wide = (ts_ ts' i).wide ∧ (ts_ ts' k).sig = (ts_ ts' i).sig) ↔ ∃ k, k < i ∧ (ts_ ts k).id = (ts_ ts i).id ∧ (ts_ ts k).wide = (ts_ ts i).wide ∧ (ts_ ts k).sig = (ts_ ts i).sig := by
    have key : ∀ k, k < i → (((ts_ ts' k).id = (ts_ ts' i).id ∧ (ts_ ts' k).wide = (ts_ ts' i).wide ∧ (ts_ ts' k).sig = (ts_ ts' i).sig) ↔ ((ts_ ts k).id = (ts_ ts i).id ∧ (ts_ ts k).wide = (ts_ ts i).wide ∧ (ts_ ts k).sig = (ts_ ts i).sig)) := fun k hk => by
      have hk' := ht k (by omega)
      rw [hk'.id, hk'.wide, hk'.sig, h1.id, h1.wide, h1.sig]
    exact ⟨fun ⟨k, hk, h⟩ => ⟨k, hk, (key k hk).1 h⟩, fun ⟨k, hk, h⟩ => ⟨k, hk, (key k hk).2 h⟩⟩
  have tr' : ∀ s, ofB ms (ts_ ts i).id (ts_ ts i).wide (ts_ ts i).sig s → ∃ s', ofB ms' (ts_ ts' i).id (ts_ ts' i).wide (ts_ ts' i).sig s' ∧ SameSig s' s := by
    rintro s ⟨a, k, ha, hk, h3, h4, rfl⟩
    have hsa := hs a ha
    exact ⟨sg (mp_ ms' a) k, ⟨a, k, by omega, by rw [hsa.len]; exact hk, ⟨by rw [hsa.id, h1.id]; exact h3.1, by rw [hsa.wide, h1.wide]; exact h3.2⟩, by rw [(hsa.sig k hk).1.name, h1.sig]; exact h4, rfl⟩, (hsa.sig k hk).1⟩
  by_cases hx : ∃ s, ofB ms (ts_ ts i).id (ts_ ts i).wide (ts_ ts i).sig s
  · obtain ⟨s, hs1⟩ := hx
    obtain ⟨s', hs2, hss⟩ := tr' s hs1
    by_cases hd : ∃ k, k < i ∧ (ts_ ts k).id = (ts_ ts i).id ∧ (ts_ ts k).wide = (ts_ ts i).wide ∧ (ts_ ts k).sig = (ts_ ts i).sig
    · rw [dt_two hs1 hd, dt_two hs2 (e2.2 hd)]
    · rw [dt_rows H hs1 hd, dt_rows H' hs2 (fun h => hd (e2.1 h)), rowsE_same hss, h1.rows]
  · rw [dt_none hx, dt_none]
    rintro ⟨s', a, k, ha, hk, h3, h4, rfl⟩
    have hsa := hs a (by omega)
    rw [hsa.len] at hk
    exact hx ⟨_, a, k, by omega, hk, ⟨by rw [← hsa.id, ← h1.id]; exact h3.1, by rw [← hsa.wide, ← h1.wide]; exact h3.2⟩, by rw [← (hsa.sig k hk).1.name, ← h1.sig]; exact h4, rfl⟩
structure SameD (d' d : Db) : Prop where
  hasV : d'.hasV = d.hasV
  vline : d'.vline = d.vline
  vcol : d'.vcol = d.vcol
  vtext : d'.vtext = d.vtext
  sline : d'.sline = d.sline
  scol : d'.scol = d.scol
theorem dbE_same {d d' : Db} {ss : List ByteArray} {ms ms' : List MsgT} {ts ts' : List TabT} (hd : SameD d' d) (hl : ms'.length = ms.length) (hlt : ts'.length = ts.length)
    (hid : ∀ i, i < ms.length → 0 ≤ (ms_ ms i).id ∧ (ms_ ms i).id < 4294967296)
    (hs : ∀ i, i < ms.length → SameM (ms_ ms' i) (mp_ ms' i) (ms_ ms i) (mp_ ms i) ∧ SamePl (ms_ ms' i) (mp_ ms' i) (ms_ ms i) (mp_ ms i))
    (ht : ∀ i, i < ts.length → SameT (ts_ ts' i) (tr_ ts' i) (ts_ ts i) (tr_ ts i) ∧ (ts_ ts' i).line = (ts_ ts i).line ∧ (ts_ ts' i).col = (ts_ ts i).col) : dbE d' ss ms' ts' = dbE d ss ms ts := by
  unfold dbE
  rw [hd.hasV, hd.vline, hd.vcol, hd.vtext, hd.sline, hd.scol, hl, hlt]
  by_cases e1 : d.hasV = true ∧ textE d.vtext ≠ 0
  · rw [if_pos e1, if_pos e1]
  rw [if_neg e1, if_neg e1]
  by_cases e2 : 64 < ss.length
  · rw [if_pos e2, if_pos e2]
  rw [if_neg e2, if_neg e2]
  refine thenE_congr rfl (fun _ _ => rfl) (fun _ => ?_)
  by_cases e3 : 512 < ms.length
  · rw [if_pos e3, if_pos e3, (hs 512 e3).2.line, (hs 512 e3).2.col]
  rw [if_neg e3, if_neg e3]
  refine thenE_congr (firstAt_congr fun i hi => by rw [dm_same hs hi]) (fun i hi => dm_same hs (of_some hi).1) (fun hn => ?_)
  have hz : ∀ i, i < ms.length → (dmE ss ms i).1 = 0 := fun i hi => Classical.byContradiction (not_of_none hn hi)
  have H := entered hid hz
  have H' : Entered ms' ms'.length := entered (fun i hi => by rw [(hs i (by omega)).1.id]; exact hid i (by omega)) (fun i hi => by rw [dm_same hs (by omega)]; exact hz i (by omega))
  have hdt : ∀ i, i < ts.length → dtE ms' ts' i = dtE ms ts i := fun i hi => dt_same hl (fun i hi => (hs i hi).1) H H' (fun i hi => (ht i hi).1) hi
  refine thenE_congr (firstAt_congr fun i hi => by rw [hdt i hi]) (fun i hi => ?_) (fun _ => rfl)
  have hi' := (of_some hi).1
  rw [hdt i hi', (ht i hi').2.1, (ht i hi').2.2]
theorem dm_bnd (ss : List ByteArray) (ms : List MsgT) (i : Nat) : 0 ≤ (dmE ss ms i).1 ∧ (dmE ss ms i).1 ≤ 26 := by
  unfold dmE
  split
  · exact msgE_bnd _ _
  split
  · simp
  split
  · simp
  unfold thenE
  split <;> simp [okE]
theorem dt_bnd (ms : List MsgT) (ts : List TabT) (i : Nat) : 0 ≤ dtE ms ts i ∧ dtE ms ts i ≤ 26 := by
  unfold dtE
  split
  · split
    · omega
    · exact rowsE_bnd _ _
  · omega
theorem sta_bnd (ss : List ByteArray) (i : Nat) : 0 ≤ staE ss i ∧ staE ss i ≤ 26 := by
  unfold staE
  split
  · omega
  split <;> omega
theorem db_bnd (d : Db) (ss : List ByteArray) (ms : List MsgT) (ts : List TabT) : 0 ≤ (dbE d ss ms ts).1 ∧ (dbE d ss ms ts).1 ≤ 26 := by
  unfold dbE
  split
  · exact text_bnd _
  split
  · simp
  unfold thenE
  split
  · exact sta_bnd _ _
  split
  · simp
  split
  · exact dm_bnd _ _ _
  split
  · exact dt_bnd _ _ _
  · simp [okE]
end Go.Proofs.YtjomihhpglojpaaGreatDoor
end
section
/- Signals with their texts, zipped. Plain. -/
namespace Go.Proofs.YtjomihhpglojpaaGreatDoor
open Go.RowKit
set_option linter.unusedSimpArgs false
set_option linter.unusedVariables false
attribute [local irreducible] wpList wpQuiet wpStill Code.wp Exit.then Exit.inBlock bodyPost Calls Does Does0
theorem msgE_idx {m : Msg} {ps : List SigT} {i : Nat} (h : (msgE m ps).2 = some i) : i < ps.length := by
  unfold msgE at h
  split at h
  · cases h
  · unfold thenF at h
    split at h
    · rename_i k hk
      cases h
      exact (of_some hk).1
    · split at h
      · rename_i k hk
        cases h
        exact (of_some hk).1
      · split at h
        · rename_i k hk
          cases h
          exact (of_some hk).1
        · cases h
/-- The signals with their texts, zipped. -/
def zipP (ls : List Sig) (ps : List SigT) : List SigT := ls.zip (ps.map (·.2))
theorem zipP_len {ls : List Sig} {ps : List SigT} (h : ls.length = ps.length) : (zipP ls ps).length = ps.length := by simp [zipP, h]
theorem zipP_sg {ls : List Sig} {ps : List SigT} (h : ls.length = ps.length) {i : Nat} (hi : i < ps.length) : sg (zipP ls ps) i = ls.getD i sigM := by
  rw [sg_lt (by rw [zipP_len h]; exact hi)]
  simp [zipP, List.getD, h, hi]
theorem zipP_tx {ls : List Sig} {ps : List SigT} (h : ls.length = ps.length) {i : Nat} (hi : i < ps.length) : tx (zipP ls ps) i = tx ps i := by
  rw [tx_lt (by rw [zipP_len h]; exact hi), tx_lt hi]
  simp [zipP]
theorem zipP_map {ls : List Sig} {ps : List SigT} (h : ls.length = ps.length) : (zipP ls ps).map (·.1) = ls := by
  unfold zipP
  exact List.map_fst_zip (by simp [h])
end Go.Proofs.YtjomihhpglojpaaGreatDoor
end
