/- Laid together by a program of mine: SigW PushS SigsS MsgC MsgS. -/
import Derived.Test.YtjomihhpglojpaaDoorSumLawPlacesS6
import Derived.Test.YtjomihhpglojpaaDoorSumLawPlacesS5
import Derived.Great.BuildSlice
import Derived.Test.YtjomihhpglojpaaDoorSumLawPlacesS4
import Derived.Test.YtjomihhpglojpaaDoorSumLawPlacesS3
set_option linter.unusedSimpArgs false
set_option linter.unusedVariables false
section
/- Lent signals. -/
namespace Go.Proofs.YtjomihhpglojpaaDoor
open Go.RowKit
set_option linter.unusedSimpArgs false
set_option linter.unusedVariables false
attribute [local irreducible] wpList wpQuiet wpStill Code.wp Exit.then Exit.inBlock bodyPost Calls Does Does0

theorem own_base' {w : World} {base : Nat} {e : TypeId} {s g n c : Nat} {xs : List Value} (h : w.ownsRow base e s (.slice (some ⟨g, 0, none⟩) n c) n xs) : base ≤ g := by
  rcases h.2 with ⟨h0, _⟩ | ⟨g', cap', cur, h0, h1, _⟩
  · cases h0
  · cases h0; exact h1
theorem pairPlace : PairT Tryd.prog 23 .i64 := pairT_of (by kernel_rfl)
theorem pairRat : PairT Tryd.prog 35 .i64 := pairT_of (by kernel_rfl)
theorem pair_at {w : World} {b o : Nat} {x y : Value} (h0 : w.cell? ⟨b, o, none⟩ = some x) (h1 : w.cell? ⟨b, o + 1, none⟩ = some y) : ∀ j v, (#[x, y] : Array Value)[j]? = some v → w.cell? ⟨b, o + j, none⟩ = some v := by
  intro j v h
  rcases (show j = 0 ∨ j = 1 ∨ 2 ≤ j by omega) with rfl | rfl | hj
  · simp at h; subst h; exact h0
  · simp at h; subst h; exact h1
  · rw [Array.getElem?_eq_none (by simpa using hj)] at h; cases h
theorem sig_cells (s : Sig) : ∀ v ∈ (Sig.cells s).toArray, v.oneCell' = true := by
  intro v hv
  simp [Sig.cells] at hv
  rcases hv with rfl | rfl | rfl | rfl | rfl | rfl | rfl | rfl | rfl | rfl | rfl | rfl | rfl | rfl | rfl | rfl | rfl | rfl | rfl <;> rfl

set_option maxHeartbeats 2000000 in
theorem lent_signal (w : World) (s : Sig) (ss : List ByteArray) (hs : SigIn w s ss) :
    Ret Tryd.prog 16 #[.agg (Sig.cells s).toArray] w (fun v w' => ∃ g cap, v = .agg (Sig.cells { s with toA := some ⟨g, 0, none⟩, toC := cap }).toArray ∧ LentT w.heap.size w' (.slice (some ⟨g, 0, none⟩) s.toN cap) ss ∧ Below w.heap.size w w') := by
  refine enter1 Tryd.func16 rfl 9 rfl 10 rfl (fun a hF => ?_)
  repeat (first | refine c_seq ?_ | refine c_block ?_ | refine c_region _ ?_ | refine wpList_nil ?_ | refine c_then ?_ | refine c_then_exit ?_ | refine c_then_ret ?_ | refine c_in ?_ | refine c_in_ret ?_ | refine c_in_hit ?_ | refine wp_skip ?_ | refine wp_exit ?_ | refine wp_ret ?_ | refine c_in_miss rfl ?_ | ((first | apply st hF | apply stg hF | apply s_step hF | apply s_stg hF); (first | exact d_fieldAddr (fld _ _ _ _ rfl) (isz _ _ rfl)); clear hF; clear a; intro a hF) | ((first | apply stm hF | apply stu hF); clear hF; clear a; intro a hF) | (apply c_cond_t hF; exact rfl; first | exact rfl | assumption) | (apply c_cond_f hF; exact rfl; first | exact rfl | assumption) | refine s_nil ?_)
  refine st_box hF (cs := (Sig.cells s).toArray) rfl (k := fun a w1 hg1 hgr1 hsz1 hF => ?_)
  refine st_alloc hF inf38 (k := fun a w2 hg2 hgr2 hsz2 hF => ?_)
  have hb2 : Below w.heap.size w w2 := ((Below.refl _ w).grown hgr1 (Nat.le_refl _) (fun k hk => by cases hk)).grown hgr2 (by omega) (fun k hk => by cases hk)
  have hg12 := blk_kept hg1 hgr2 (by simp)
  repeat (first | refine c_seq ?_ | refine c_block ?_ | refine c_region _ ?_ | refine wpList_nil ?_ | refine c_then ?_ | refine c_then_exit ?_ | refine c_then_ret ?_ | refine c_in ?_ | refine c_in_ret ?_ | refine c_in_hit ?_ | refine wp_skip ?_ | refine wp_exit ?_ | refine wp_ret ?_ | refine c_in_miss rfl ?_ | ((first | apply st hF | apply stg hF | apply s_step hF | apply s_stg hF); (first | exact d_fieldAddr (fld _ _ _ _ rfl) (isz _ _ rfl) | exact d_loadAgg (agg _ rfl) (isz _ _ rfl) rfl (cells_at hg12)); clear hF; clear a; intro a hF) | ((first | apply stm hF | apply stu hF); clear hF; clear a; intro a hF) | (apply c_cond_t hF; exact rfl; first | exact rfl | assumption) | (apply c_cond_f hF; exact rfl; first | exact rfl | assumption) | refine s_nil ?_)
  refine st_alloc hF inf38 (k := fun a w3 hg3 hgr3 hsz3 hF => ?_)
  have hb3 : Below w.heap.size w w3 := hb2.grown hgr3 (by omega) (fun k hk => by cases hk)
  have hg13 := blk_kept hg12 hgr3 (by simp)
  have hg23 := blk_kept hg2 hgr3 (by simp)
  refine st_storeAgg hF (cs := (Sig.cells s).toArray) (isz _ _ rfl) rfl rfl hg3 (sig_cells s) (k := fun a w4 hg4 hgr4 hsz4 hF => ?_)
  have hb4 : Below w.heap.size w w4 := hb3.grown hgr4 (by omega) (fun k hk => by cases hk; omega)
  have hg14 := blk_kept hg13 hgr4 (by simp; omega)
  have hg24 := blk_kept hg23 hgr4 (by simp; omega)
  have c18 := cell_at (i := 18) hg14 rfl
  repeat (first | refine c_seq ?_ | refine c_block ?_ | refine c_region _ ?_ | refine wpList_nil ?_ | refine c_then ?_ | refine c_then_exit ?_ | refine c_then_ret ?_ | refine c_in ?_ | refine c_in_ret ?_ | refine c_in_hit ?_ | refine wp_skip ?_ | refine wp_exit ?_ | refine wp_ret ?_ | refine c_in_miss rfl ?_ | ((first | apply st hF | apply stg hF | apply s_step hF | apply s_stg hF); (first | exact d_fieldAddr (fld _ _ _ _ rfl) (isz _ _ rfl) | exact d_load (und _ _ rfl) c18); clear hF; clear a; intro a hF) | ((first | apply stm hF | apply stu hF); clear hF; clear a; intro a hF) | (apply c_cond_t hF; exact rfl; first | exact rfl | assumption) | (apply c_cond_f hF; exact rfl; first | exact rfl | assumption) | refine s_nil ?_)
  refine stc hF (lent_texts w4 ss s.toA _ s.toC hs.len (hs.rd.below hb4) (by have := hs.bytes; have := hs.cap; omega)) cal43 ⟨rfl, trivial⟩ (k := fun a v w5 hR hF => ?_)
  obtain ⟨⟨g, cap, rfl, hown⟩, hb5⟩ := hR
  have hb5' : Below w.heap.size w w5 := hb4.trans (hb5.mono (by omega))
  have hg15 : w5.heap[w.heap.size]? = _ := (hb5.block _ (lt_at hg14)).trans hg14
  have hg25 : w5.heap[w1.heap.size]? = _ := (hb5.block _ (lt_at hg24)).trans hg24
  have hg35 : w5.heap[w2.heap.size]? = _ := (hb5.block _ (lt_at hg4)).trans hg4
  have hz5 := hb5.size
  repeat (first | refine c_seq ?_ | refine c_block ?_ | refine c_region _ ?_ | refine wpList_nil ?_ | refine c_then ?_ | refine c_then_exit ?_ | refine c_then_ret ?_ | refine c_in ?_ | refine c_in_ret ?_ | refine c_in_hit ?_ | refine wp_skip ?_ | refine wp_exit ?_ | refine wp_ret ?_ | refine c_in_miss rfl ?_ | ((first | apply st hF | apply stg hF | apply s_step hF | apply s_stg hF); (first | exact d_fieldAddr (fld _ _ _ _ rfl) (isz _ _ rfl)); clear hF; clear a; intro a hF) | ((first | apply stm hF | apply stu hF); clear hF; clear a; intro a hF) | (apply c_cond_t hF; exact rfl; first | exact rfl | assumption) | (apply c_cond_f hF; exact rfl; first | exact rfl | assumption) | refine s_nil ?_)
  refine st_store hF (isz _ _ rfl) hg35 (i := 18) (by show 18 < 19; decide) rfl rfl rfl (k := fun a w6 hg6 hgr6 hsz6 hF => ?_)
  have hown6 := own_keptB hown hgr6 (fun k hk e => by simp only [Value.ownBlock, Option.some.injEq] at hk e; have := own_base' hown; omega)
  have hb6 : Below w.heap.size w w6 := hb5'.grown hgr6 (by omega) (fun k hk => by cases hk; omega)
  have hg26 := blk_kept hg25 hgr6 (by simp; omega)
  repeat (first | refine c_seq ?_ | refine c_block ?_ | refine c_region _ ?_ | refine wpList_nil ?_ | refine c_then ?_ | refine c_then_exit ?_ | refine c_then_ret ?_ | refine c_in ?_ | refine c_in_ret ?_ | refine c_in_hit ?_ | refine wp_skip ?_ | refine wp_exit ?_ | refine wp_ret ?_ | refine c_in_miss rfl ?_ | ((first | apply st hF | apply stg hF | apply s_step hF | apply s_stg hF); (first | exact d_fieldAddr (fld _ _ _ _ rfl) (isz _ _ rfl) | exact d_loadAgg (agg _ rfl) (isz _ _ rfl) rfl (cells_at hg6)); clear hF; clear a; intro a hF) | ((first | apply stm hF | apply stu hF); clear hF; clear a; intro a hF) | (apply c_cond_t hF; exact rfl; first | exact rfl | assumption) | (apply c_cond_f hF; exact rfl; first | exact rfl | assumption) | refine s_nil ?_)
  refine st_storeAgg hF (cs := (Sig.cells { s with toA := some ⟨g, 0, none⟩, toN := ss.length, toC := cap }).toArray) (isz _ _ rfl) rfl rfl hg26 (sig_cells _) (k := fun a w7 hg7 hgr7 hsz7 hF => ?_)
  have hown7 := own_keptB hown6 hgr7 (fun k hk e => by simp only [Value.ownBlock, Option.some.injEq] at hk e; have := own_base' hown; omega)
  have hb7 : Below w.heap.size w w7 := hb6.grown hgr7 (by omega) (fun k hk => by cases hk; omega)
  repeat (first | refine c_seq ?_ | refine c_block ?_ | refine c_region _ ?_ | refine wpList_nil ?_ | refine c_then ?_ | refine c_then_exit ?_ | refine c_then_ret ?_ | refine c_in ?_ | refine c_in_ret ?_ | refine c_in_hit ?_ | refine wp_skip ?_ | refine wp_exit ?_ | refine wp_ret ?_ | refine c_in_miss rfl ?_ | ((first | apply st hF | apply stg hF | apply s_step hF | apply s_stg hF); (first | exact d_fieldAddr (fld _ _ _ _ rfl) (isz _ _ rfl)); clear hF; clear a; intro a hF) | ((first | apply stm hF | apply stu hF); clear hF; clear a; intro a hF) | (apply c_cond_t hF; exact rfl; first | exact rfl | assumption) | (apply c_cond_f hF; exact rfl; first | exact rfl | assumption) | refine s_nil ?_)
  refine ret_c hF rfl (agg _ rfl) (isz _ _ rfl) hg7 rfl ⟨g, cap, ?_, ⟨g, cap, ?_, own_rebase hown7 fun k hk => ?_⟩, hb7⟩
  · rw [hs.len]
  · rw [hs.len]
  · simp only [Value.ownBlock, Option.some.injEq] at hk
    have := own_base' hown
    omega

set_option maxHeartbeats 4000000 in
theorem kept_signal (w : World) (s : Sig) (ss : List ByteArray) (g cap base : Nat) (hs : SigIn w s ss) (hl : LentT base w (.slice (some ⟨g, 0, none⟩) s.toN cap) ss) :
    Ret Tryd.prog 20 #[.agg (Sig.cells { s with toA := some ⟨g, 0, none⟩, toC := cap }).toArray, .agg (Sig.cells s).toArray] w (fun v w' => v = .bool true ∧ Below w.heap.size w w') := by
  refine enter2 Tryd.func20 rfl 99 rfl 101 rfl (fun a hF => ?_)
  repeat (first | refine c_seq ?_ | refine c_block ?_ | refine c_region _ ?_ | refine wpList_nil ?_ | refine c_then ?_ | refine c_then_exit ?_ | refine c_then_ret ?_ | refine c_in ?_ | refine c_in_ret ?_ | refine c_in_hit ?_ | refine wp_skip ?_ | refine wp_exit ?_ | refine wp_ret ?_ | refine c_in_miss rfl ?_ | ((first | apply st hF | apply stg hF | apply s_step hF | apply s_stg hF); (first | exact d_move | exact d_assign | exact d_pickT | exact d_pickF | exact d_cmpT | exact d_cmpF | exact d_cmp | exact d_eqbT (und _ _ rfl) | exact d_eqbF (und _ _ rfl) | exact d_eqb (und _ _ rfl) | exact d_eqST | exact d_eqSF | exact d_eqS | exact d_fieldAddr (fld _ _ _ _ rfl) (isz _ _ rfl) | exact d_eqN (ifc _ rfl) | exact d_neN (ifc _ rfl)); clear hF; clear a; intro a hF) | ((first | apply stm hF | apply stu hF); clear hF; clear a; intro a hF) | (apply c_cond_t hF; exact rfl; first | exact rfl | assumption) | (apply c_cond_f hF; exact rfl; first | exact rfl | assumption) | refine s_nil ?_)
  refine st_box hF (cs := (Sig.cells { s with toA := some ⟨g, 0, none⟩, toC := cap }).toArray) rfl (k := fun a w1 hg1 hgr1 hsz1 hF => ?_)
  refine st_box hF (cs := (Sig.cells s).toArray) rfl (k := fun a w2 hg2 hgr2 hsz2 hF => ?_)
  have hb2 : Below w.heap.size w w2 := ((Below.refl _ w).grown hgr1 (Nat.le_refl _) (fun k hk => by cases hk)).grown hgr2 (by omega) (fun k hk => by cases hk)
  have hg12 := blk_kept hg1 hgr2 (by simp)
  have hl2 : LentT base w2 (.slice (some ⟨g, 0, none⟩) s.toN cap) ss := by
    obtain ⟨g', cap', e, hown⟩ := hl
    exact ⟨g', cap', e, own_below hown hb2⟩
  have x2 : w2.cell? ⟨w.heap.size, 2, none⟩ = some (.string s.name) := cell_at hg12 rfl
  have x3 : w2.cell? ⟨w.heap.size, 3, none⟩ = some (.int .i64 s.role) := cell_at hg12 rfl
  have x4 : w2.cell? ⟨w.heap.size, 4, none⟩ = some (.int .u64 s.branch) := cell_at hg12 rfl
  have x5 : w2.cell? ⟨w.heap.size, 5, none⟩ = some (.int .i64 s.start) := cell_at hg12 rfl
  have x6 : w2.cell? ⟨w.heap.size, 6, none⟩ = some (.int .i64 s.size) := cell_at hg12 rfl
  have x7 : w2.cell? ⟨w.heap.size, 7, none⟩ = some (.bool s.mot) := cell_at hg12 rfl
  have x8 : w2.cell? ⟨w.heap.size, 8, none⟩ = some (.bool s.sgn) := cell_at hg12 rfl
  have x17 : w2.cell? ⟨w.heap.size, 17, none⟩ = some (.string s.unit) := cell_at hg12 rfl
  have x18 : w2.cell? ⟨w.heap.size, 18, none⟩ = some (.slice (some ⟨g, 0, none⟩) s.toN cap) := cell_at hg12 rfl
  have xp0 : ∀ j v, (#[.int .i64 s.line, .int .i64 s.col] : Array Value)[j]? = some v → w2.cell? ⟨w.heap.size, 0 + j, none⟩ = some v := pair_at (cell_at (i := 0) hg12 rfl) (cell_at (i := 1) hg12 rfl)
  have xp9 : ∀ j v, (#[.int .i64 s.sn, .int .i64 s.sd] : Array Value)[j]? = some v → w2.cell? ⟨w.heap.size, 9 + j, none⟩ = some v := pair_at (cell_at (i := 9) hg12 rfl) (cell_at (i := 10) hg12 rfl)
  have xp11 : ∀ j v, (#[.int .i64 s.fn, .int .i64 s.fd] : Array Value)[j]? = some v → w2.cell? ⟨w.heap.size, 11 + j, none⟩ = some v := pair_at (cell_at (i := 11) hg12 rfl) (cell_at (i := 12) hg12 rfl)
  have xp13 : ∀ j v, (#[.int .i64 s.mn, .int .i64 s.md] : Array Value)[j]? = some v → w2.cell? ⟨w.heap.size, 13 + j, none⟩ = some v := pair_at (cell_at (i := 13) hg12 rfl) (cell_at (i := 14) hg12 rfl)
  have xp15 : ∀ j v, (#[.int .i64 s.xn, .int .i64 s.xd] : Array Value)[j]? = some v → w2.cell? ⟨w.heap.size, 15 + j, none⟩ = some v := pair_at (cell_at (i := 15) hg12 rfl) (cell_at (i := 16) hg12 rfl)
  have y2 : w2.cell? ⟨w1.heap.size, 2, none⟩ = some (.string s.name) := cell_at hg2 rfl
  have y3 : w2.cell? ⟨w1.heap.size, 3, none⟩ = some (.int .i64 s.role) := cell_at hg2 rfl
  have y4 : w2.cell? ⟨w1.heap.size, 4, none⟩ = some (.int .u64 s.branch) := cell_at hg2 rfl
  have y5 : w2.cell? ⟨w1.heap.size, 5, none⟩ = some (.int .i64 s.start) := cell_at hg2 rfl
  have y6 : w2.cell? ⟨w1.heap.size, 6, none⟩ = some (.int .i64 s.size) := cell_at hg2 rfl
  have y7 : w2.cell? ⟨w1.heap.size, 7, none⟩ = some (.bool s.mot) := cell_at hg2 rfl
  have y8 : w2.cell? ⟨w1.heap.size, 8, none⟩ = some (.bool s.sgn) := cell_at hg2 rfl
  have y17 : w2.cell? ⟨w1.heap.size, 17, none⟩ = some (.string s.unit) := cell_at hg2 rfl
  have y18 : w2.cell? ⟨w1.heap.size, 18, none⟩ = some (.slice s.toA s.toN s.toC) := cell_at hg2 rfl
  have yp0 : ∀ j v, (#[.int .i64 s.line, .int .i64 s.col] : Array Value)[j]? = some v → w2.cell? ⟨w1.heap.size, 0 + j, none⟩ = some v := pair_at (cell_at (i := 0) hg2 rfl) (cell_at (i := 1) hg2 rfl)
  have yp9 : ∀ j v, (#[.int .i64 s.sn, .int .i64 s.sd] : Array Value)[j]? = some v → w2.cell? ⟨w1.heap.size, 9 + j, none⟩ = some v := pair_at (cell_at (i := 9) hg2 rfl) (cell_at (i := 10) hg2 rfl)
  have yp11 : ∀ j v, (#[.int .i64 s.fn, .int .i64 s.fd] : Array Value)[j]? = some v → w2.cell? ⟨w1.heap.size, 11 + j, none⟩ = some v := pair_at (cell_at (i := 11) hg2 rfl) (cell_at (i := 12) hg2 rfl)
  have yp13 : ∀ j v, (#[.int .i64 s.mn, .int .i64 s.md] : Array Value)[j]? = some v → w2.cell? ⟨w1.heap.size, 13 + j, none⟩ = some v := pair_at (cell_at (i := 13) hg2 rfl) (cell_at (i := 14) hg2 rfl)
  have yp15 : ∀ j v, (#[.int .i64 s.xn, .int .i64 s.xd] : Array Value)[j]? = some v → w2.cell? ⟨w1.heap.size, 15 + j, none⟩ = some v := pair_at (cell_at (i := 15) hg2 rfl) (cell_at (i := 16) hg2 rfl)
  repeat (first | refine c_seq ?_ | refine c_block ?_ | refine c_region _ ?_ | refine wpList_nil ?_ | refine c_then ?_ | refine c_then_exit ?_ | refine c_then_ret ?_ | refine c_in ?_ | refine c_in_ret ?_ | refine c_in_hit ?_ | refine wp_skip ?_ | refine wp_exit ?_ | refine wp_ret ?_ | refine c_in_miss rfl ?_ | ((first | apply st hF | apply stg hF | apply s_step hF | apply s_stg hF); (first | exact d_move | exact d_assign | exact d_pickT | exact d_pickF | exact d_cmpT | exact d_cmpF | exact d_cmp | exact d_eqbT (und _ _ rfl) | exact d_eqbF (und _ _ rfl) | exact d_eqb (und _ _ rfl) | exact d_eqST | exact d_eqSF | exact d_eqS | exact d_fieldAddr (fld _ _ _ _ rfl) (isz _ _ rfl) | exact d_eqN (ifc _ rfl) | exact d_neN (ifc _ rfl) | exact d_loadAgg (agg _ rfl) (isz _ _ rfl) rfl xp0 | exact d_loadAgg (agg _ rfl) (isz _ _ rfl) rfl xp9 | exact d_loadAgg (agg _ rfl) (isz _ _ rfl) rfl xp11 | exact d_loadAgg (agg _ rfl) (isz _ _ rfl) rfl xp13 | exact d_loadAgg (agg _ rfl) (isz _ _ rfl) rfl xp15 | exact d_loadAgg (agg _ rfl) (isz _ _ rfl) rfl yp0 | exact d_loadAgg (agg _ rfl) (isz _ _ rfl) rfl yp9 | exact d_loadAgg (agg _ rfl) (isz _ _ rfl) rfl yp11 | exact d_loadAgg (agg _ rfl) (isz _ _ rfl) rfl yp13 | exact d_loadAgg (agg _ rfl) (isz _ _ rfl) rfl yp15 | exact d_eqPs pairPlace | exact d_eqPs pairRat | exact d_load (und _ _ rfl) x2 | exact d_load (und _ _ rfl) x3 | exact d_load (und _ _ rfl) x4 | exact d_load (und _ _ rfl) x5 | exact d_load (und _ _ rfl) x6 | exact d_load (und _ _ rfl) x7 | exact d_load (und _ _ rfl) x8 | exact d_load (und _ _ rfl) x17 | exact d_load (und _ _ rfl) x18 | exact d_load (und _ _ rfl) y2 | exact d_load (und _ _ rfl) y3 | exact d_load (und _ _ rfl) y4 | exact d_load (und _ _ rfl) y5 | exact d_load (und _ _ rfl) y6 | exact d_load (und _ _ rfl) y7 | exact d_load (und _ _ rfl) y8 | exact d_load (und _ _ rfl) y17 | exact d_load (und _ _ rfl) y18); clear hF; clear a; intro a hF) | ((first | apply stm hF | apply stu hF); clear hF; clear a; intro a hF) | (apply c_cond_t hF; exact rfl; first | exact rfl | assumption) | (apply c_cond_f hF; exact rfl; first | exact rfl | assumption) | refine s_nil ?_)
  refine stcg hF (kept_texts w2 ss _ base s.toA _ s.toC hs.len (hs.rd.below hb2) hl2 (by have := hs.bytes; have := hs.cap; omega)) cal47 ⟨rfl, rfl, trivial⟩ (k := fun a v w3 hR hF => ?_)
  obtain ⟨rfl, hb3⟩ := hR
  repeat (first | refine c_seq ?_ | refine c_block ?_ | refine c_region _ ?_ | refine wpList_nil ?_ | refine c_then ?_ | refine c_then_exit ?_ | refine c_then_ret ?_ | refine c_in ?_ | refine c_in_ret ?_ | refine c_in_hit ?_ | refine wp_skip ?_ | refine wp_exit ?_ | refine wp_ret ?_ | refine c_in_miss rfl ?_ | ((first | apply st hF | apply stg hF | apply s_step hF | apply s_stg hF); (first | exact d_move | exact d_assign | exact d_pickT | exact d_pickF | exact d_cmpT | exact d_cmpF | exact d_cmp | exact d_eqbT (und _ _ rfl) | exact d_eqbF (und _ _ rfl) | exact d_eqb (und _ _ rfl) | exact d_eqST | exact d_eqSF | exact d_eqS | exact d_fieldAddr (fld _ _ _ _ rfl) (isz _ _ rfl) | exact d_eqN (ifc _ rfl) | exact d_neN (ifc _ rfl)); clear hF; clear a; intro a hF) | ((first | apply stm hF | apply stu hF); clear hF; clear a; intro a hF) | (apply c_cond_t hF; exact rfl; first | exact rfl | assumption) | (apply c_cond_f hF; exact rfl; first | exact rfl | assumption) | refine s_nil ?_)
  exact ret1 hF rfl rfl ⟨rfl, hb2.trans (hb3.mono hb2.size)⟩
end Go.Proofs.YtjomihhpglojpaaDoor
end
section
/- An append of one struct to a row of structs of the call's own; what such a row holds. Plain lemmas over any program. -/
namespace Go.Proofs.YtjomihhpglojpaaDoor
open Go.RowKit

section
variable {P : Program} {ops : Array Oper} {Q : Exit → Act → World → Prop} {a : Act} {w w' : World} {rest : List Oper} {N : Nat} {l : List (Nat × Value)}

theorem d_build1S {x : Operand} {us : Array Value} {z : Value} {sz : Nat} {t e ty : TypeId} {by_ : Nat} (hU : P.underlying t = some (.slice e)) (hi : (P.info? e).map (fun i => (i.zero, i.size, i.bytes)) = some (some z, sz, by_)) (h0 : 0 < sz) (h1 : sz ≤ 16777216) (hus : us.size = sz)
    (hx : Ev l x (.agg us) := by exact rfl) : Does P l w (.buildSlice t 1 [(0, x)].toArray) ty (.slice (some ⟨w.heap.size, 0, none⟩) 1 1) (w.alloc (.cells us e)) := by
  intro ρ hρ d pos af g
  obtain ⟨i, g1, g2, g3, g4⟩ := info_parts hi
  subst g3
  have hf := Great.fill_whole (s := i.size) h0 [.agg us] ((Array.range (1 * i.size)).map (z.cells[· % z.cells.size]!)) (by intro v hv; simp at hv; subst hv; exact hus) (by simp)
  have e1 : ([Value.agg us].flatMap fun v => v.cells.toList).toArray = us := by simp [Value.cells]
  rw [e1] at hf
  have hr := run_buildSlice (P := P) w t e 1 #[(0, .agg us)] us i z hU g1 g2 (by omega) (by omega) (by simpa using hf)
  simp [execOp, hρ _ _ hx, hr]

/-- A struct behind a row of structs: the one-element slice and the append, both at once. -/
theorem st_pushS (h : Fr N l a) {d d' : Nat} {x : Operand} {s : Operand} {us : Array Value} {z : Value} {sz : Nat} {t e ty ty' : TypeId} {pos pos' : String} {af af' : Array Edge} {bytes n base cap : Nat} {ao : Option Addr} {xs : List Value}
    (hU : P.underlying t = some (.slice e)) (hi : (P.info? e).map (fun i => (i.zero, i.size, i.bytes)) = some (some z, sz, bytes)) (hz : z.cells.size = sz) (h0 : 0 < sz) (h1 : sz ≤ 16777216) (hus : us.size = sz) (hu : ∀ v ∈ us, v.oneCell' = true)
    (hown : w.ownsRow base e sz (.slice ao n cap) n xs) (hbd : (n + 1) * bytes ≤ 140737488355328) (hm : n + 1 ≤ maxLen) (hbase : base ≤ w.heap.size)
    (hx : Ev l x (.agg us) := by exact rfl) (hs : Ev ((d, .slice (some ⟨w.heap.size, 0, none⟩) 1 1) :: l) s (.slice ao n cap) := by exact rfl) (hd : Nat.blt d N = true := by exact rfl) (hd' : Nat.blt d' N = true := by exact rfl)
    (k : ∀ a' ao' cap' w', w'.ownsRow base e sz (.slice ao' (n + 1) cap') (n + 1) (xs ++ us.toList) → w.grownBy w' (Value.slice ao n cap).ownBlock → ((Value.slice ao' (n + 1) cap').ownBlock = (Value.slice ao n cap).ownBlock ∨ (Value.slice ao' (n + 1) cap').ownBlock = some (w.heap.size + 1)) → Fr N ((d', .slice ao' (n + 1) cap') :: (d, .slice (some ⟨w.heap.size, 0, none⟩) 1 1) :: l) a' → wpList P ops Q rest a' w') :
    wpList P ops Q (⟨some d, .buildSlice t 1 [(0, x)].toArray, ty, pos, af, none⟩ :: ⟨some d', .call { callee := .builtin .append, args := [s, .tmp d].toArray, argTypes := [t, t].toArray }, ty', pos', af', none⟩ :: rest) a w := by
  refine st h (d_build1S hU hi h0 h1 hus hx) hd fun a1 h1' => ?_
  obtain ⟨i, g1, g2, g3, g4⟩ := info_parts hi
  have hev : a1.eval (.tmp d) = .slice (some ⟨w.heap.size, 0, none⟩) 1 1 := h1'.eval _ _ (by simp [Ev, look_cons])
  refine wpList_append_own_at _ rfl s (.tmp d) t rfl base e i z sz bytes hU g1 g2 g3 g4 hz h0 (.slice ao n cap) n xs (h1'.eval _ _ hs) (hown.alloc _)
    ⟨w.heap.size, 0, none⟩ 1 1 us.toList hev (by simp [hus]) ?_ ?_ hm hbd (by simp; omega) ?_
  · intro j v hj
    rw [addr_add, Nat.zero_add]
    exact cell_at (heap_alloc_new w _) (by simpa using hj)
  · intro v hv; exact hu v (by simpa using hv)
  · intro v' w' hown' hgr hnil hat
    obtain ⟨ao', cap', rfl, _, _⟩ := own_form hown'
    refine k _ ao' cap' w' hown' ?_ (by simpa using hat) (h1'.put hd' _)
    exact ⟨hgr.os, hgr.tape, hgr.output, by have := hgr.size; simp at this; omega, fun k hk hne => by rw [hgr.block k (by simp; omega) hne]; exact Below.heap_alloc _ _ _ hk⟩

/-- A slice of structs that reads as xs: each element's cells lie there. -/
def RdS {α : Type} (w : World) (a : Option Addr) (sz : Nat) (enc : α → List Value) (xs : List α) : Prop :=
  ∀ i (h : i < xs.length), ∃ b o, a = some ⟨b, o, none⟩ ∧ ∀ q v, (enc xs[i])[q]? = some v → w.cell? ⟨b, o + i * sz + q, none⟩ = some v
theorem RdS.below {α : Type} {w w' : World} {a : Option Addr} {sz : Nat} {enc : α → List Value} {xs : List α} (h : RdS w a sz enc xs) (hb : Below w.heap.size w w') : RdS w' a sz enc xs := by
  intro i hi
  obtain ⟨b, o, ha, hc⟩ := h i hi
  exact ⟨b, o, ha, fun q v hq => (hb.cell (p := ⟨b, o + i * sz + q, none⟩) (World.block_lt_of_cell? w _ (hc q v hq))).trans (hc q v hq)⟩

theorem flat_get {α : Type} {enc : α → List Value} {sz : Nat} (he : ∀ x, (enc x).length = sz) : ∀ (xs : List α) (i : Nat) (h : i < xs.length) (q : Nat), q < sz → (xs.flatMap enc)[i * sz + q]? = (enc xs[i])[q]?
  | x :: xs, 0, _, q, hq => by
    rw [List.flatMap_cons, Nat.zero_mul, Nat.zero_add, List.getElem?_append_left (by rw [he]; exact hq)]
    rfl
  | x :: xs, i + 1, h, q, hq => by
    have h' : i < xs.length := by simpa using h
    rw [List.flatMap_cons, List.getElem?_append_right (by rw [he, Nat.add_mul]; omega)]
    rw [he, show (i + 1) * sz + q - sz = i * sz + q by rw [Nat.add_mul]; omega]
    simpa using flat_get he xs i h' q hq
/-- What a row of structs of the call's own holds. -/
theorem own_rdS {α : Type} {w : World} {base : Nat} {e : TypeId} {g cap n sz : Nat} {enc : α → List Value} {xs : List α} (he : ∀ x, (enc x).length = sz) (h : w.ownsRow base e sz (.slice (some ⟨g, 0, none⟩) n cap) n (xs.flatMap enc)) (hn : xs.length = n) : RdS w (some ⟨g, 0, none⟩) sz enc xs := by
  subst hn
  intro i hi
  refine ⟨g, 0, rfl, fun q v hq => ?_⟩
  have hq' : q < sz := by
    have := (List.getElem?_eq_some_iff.1 hq).1
    rw [he] at this; exact this
  rcases h.2 with ⟨h0, _⟩ | ⟨g', cap', cur, h0, hb, hg, hle, hm, hsz, htk⟩
  · cases h0
  · cases h0
    rw [Nat.zero_add]
    refine cell_at hg ?_
    have h1 := flat_get he xs i hi q hq'
    rw [hq, ← htk] at h1
    have hlt : i * sz + q < xs.length * sz := by
      have : (i + 1) * sz ≤ xs.length * sz := Nat.mul_le_mul_right _ (by omega)
      rw [Nat.add_mul, Nat.one_mul] at this
      omega
    rw [List.getElem?_take_of_lt hlt] at h1
    simpa using h1

theorem own_cap' {w : World} {base : Nat} {e : TypeId} {s : Nat} {ao : Option Addr} {cap n : Nat} {xs : List Value} (h : w.ownsRow base e s (.slice ao n cap) n xs) : n ≤ cap ∧ cap ≤ maxLen := by
  obtain ⟨_, _, h1, h2, h3⟩ := own_form h
  cases h1; exact ⟨h2, h3⟩
/-- The address of an element of many cells. -/
theorem d_indexAddrS {x i : Operand} {b o n c : Nat} {k : IntKind} {j : Nat} {q : Int} {t e ty : TypeId} {s : Nat} (hU : P.underlying t = some (.slice e)) (hs : (P.info? e).map (·.size) = some s)
    (hx : Ev l x (.slice (some ⟨b, o, none⟩) n c) := by exact rfl) (hi : Ev l i (.int k q) := by exact rfl) (hq : q = (j : Int) := by exact rfl) (hj : j < n := by omega) :
    Does P l w (.indexAddr t x i) ty (.pointer (some ⟨b, o + j * s, none⟩)) w := d_indexAddr hU hs hx hi hq hj
end
end Go.Proofs.YtjomihhpglojpaaDoor
end
section
/- Lists of signals: what they are. -/
namespace Go.Proofs.YtjomihhpglojpaaDoor
open Go.RowKit
set_option linter.unusedSimpArgs false
set_option linter.unusedVariables false
attribute [local irreducible] wpList wpQuiet wpStill Code.wp Exit.then Exit.inBlock bodyPost Calls Does Does0

theorem sigc_len (s : Sig) : (Sig.cells s).length = 19 := rfl
theorem LentT.below {base : Nat} {w w' : World} {v : Value} {xs : List ByteArray} (h : LentT base w v xs) (hb : Below w.heap.size w w') : LentT base w' v xs := by
  obtain ⟨g, cap, e, hown⟩ := h
  exact ⟨g, cap, e, own_below hown hb⟩
theorem LentT.rebase {base base' : Nat} {w : World} {v : Value} {xs : List ByteArray} (h : LentT base w v xs) (hb : base' ≤ base) : LentT base' w v xs := by
  obtain ⟨g, cap, e, hown⟩ := h
  refine ⟨g, cap, e, own_rebase hown fun k hk => ?_⟩
  simp only [Value.ownBlock, Option.some.injEq] at hk
  have := own_base' hown
  omega

/-- A signal with its texts. -/
abbrev SigT := Sig × List ByteArray
/-- A signal whose list of texts lies elsewhere. -/
def Sig.at (s : Sig) (g c : Nat) : Sig := { s with toA := some ⟨g, 0, none⟩, toC := c }
/-- The mark in the spare room. -/
def sigM : Sig := ⟨0, 0, ⟨#[]⟩, 0, 0, -7, 0, false, false, 0, 0, 0, 0, 0, 0, 0, 0, ⟨#[]⟩, none, 0, 0⟩
/-- A list of signals that is there. -/
structure SigsIn (w : World) (ao : Option Addr) (n c : Nat) (ps : List SigT) : Prop where
  len : ps.length = n
  rd : RdS w ao 19 Sig.cells (ps.map (·.1))
  each : ∀ p ∈ ps, SigIn w p.1 p.2
  cap : n ≤ c
  bytes : n * 176 ≤ 140737488351232
theorem SigsIn.below {w w' : World} {ao : Option Addr} {n c : Nat} {ps : List SigT} (h : SigsIn w ao n c ps) (hb : Below w.heap.size w w') : SigsIn w' ao n c ps :=
  ⟨h.len, h.rd.below hb, fun p hp => (h.each p hp).below hb, h.cap, h.bytes⟩
/-- Signal number i, lent. -/
def LentOk (base : Nat) (w : World) (ps : List SigT) (ls : List Sig) (i : Nat) : Prop :=
  ∃ p g c, ps[i]? = some p ∧ ls[i]? = some (p.1.at g c) ∧ LentT base w (.slice (some ⟨g, 0, none⟩) p.1.toN c) p.2
theorem LentOk.below {base : Nat} {w w' : World} {ps : List SigT} {ls : List Sig} {i : Nat} (h : LentOk base w ps ls i) (hb : Below w.heap.size w w') : LentOk base w' ps ls i := by
  obtain ⟨p, g, c, h1, h2, h3⟩ := h
  exact ⟨p, g, c, h1, h2, h3.below hb⟩
/-- It stays while a row of another type is written. -/
theorem LentOk.keptO {base : Nat} {w w' : World} {ps : List SigT} {ls : List Sig} {i : Nat} (h : LentOk base w ps ls i) {base' e' s' n' : Nat} {v' : Value} {xs' : List Value} (h' : w.ownsRow base' e' s' v' n' xs') (hne : 9 ≠ e') (hgr : w.grownBy w' v'.ownBlock) : LentOk base w' ps ls i := by
  obtain ⟨p, g, c, h1, h2, g', c', e, hown⟩ := h
  exact ⟨p, g, c, h1, h2, g', c', e, own_keptO hown h' hne hgr⟩
/-- A lent list of signals: so many, the marks behind. -/
def LentS (base : Nat) (w : World) (v : Value) (ps : List SigT) : Prop :=
  ∃ g cap ls, v = .slice (some ⟨g, 0, none⟩) ps.length cap ∧ ls.length = ps.length ∧
    w.ownsRow base 38 19 (.slice (some ⟨g, 0, none⟩) (ps.length + 16) cap) (ps.length + 16) ((ls ++ List.replicate 16 sigM).flatMap Sig.cells) ∧ ∀ i, i < ps.length → LentOk base w ps ls i
theorem LentS.below {base : Nat} {w w' : World} {v : Value} {ps : List SigT} (h : LentS base w v ps) (hb : Below w.heap.size w w') : LentS base w' v ps := by
  obtain ⟨g, cap, ls, e, hl, hown, hok⟩ := h
  exact ⟨g, cap, ls, e, hl, own_below hown hb, fun i hi => (hok i hi).below hb⟩
theorem arr_cells {w : World} {b o : Nat} {cs : List Value} (h : ∀ q v, cs[q]? = some v → w.cell? ⟨b, o + q, none⟩ = some v) : ∀ j v, cs.toArray[j]? = some v → w.cell? ⟨b, o + j, none⟩ = some v := fun j v hj => h j v (by simpa using hj)
theorem at_map {ps : List SigT} {i : Nat} (h : i < ps.length) : (ps.map (·.1))[i]'(by simpa using h) = ps[i].1 := by simp
end Go.Proofs.YtjomihhpglojpaaDoor
end
section
/- Messages: their cells. -/
namespace Go.Proofs.YtjomihhpglojpaaDoor
open Go.RowKit
set_option linter.unusedSimpArgs false
set_option linter.unusedVariables false
attribute [local irreducible] wpList wpQuiet wpStill Code.wp Exit.then Exit.inBlock bodyPost Calls Does Does0

/-- A message's fields. -/
structure Msg where
  line : Int
  col : Int
  id : Int
  wide : Bool
  name : ByteArray
  size : Int
  sender : ByteArray
  sg : Option Addr
  sgN : Nat
  sgC : Nat
def Msg.cells (m : Msg) : List Value := [.int .i64 m.line, .int .i64 m.col, .int .u32 m.id, .bool m.wide, .string m.name, .int .i64 m.size, .string m.sender, .slice m.sg m.sgN m.sgC]
def Msg.at (m : Msg) (g c : Nat) : Msg := { m with sg := some ⟨g, 0, none⟩, sgC := c }
theorem msg_cells (m : Msg) : ∀ v ∈ (Msg.cells m).toArray, v.oneCell' = true := by
  intro v hv
  simp [Msg.cells] at hv
  rcases hv with rfl | rfl | rfl | rfl | rfl | rfl | rfl | rfl <;> rfl
end Go.Proofs.YtjomihhpglojpaaDoor
end
section
/- Messages: what they are. -/
namespace Go.Proofs.YtjomihhpglojpaaDoor
open Go.RowKit
set_option linter.unusedSimpArgs false
set_option linter.unusedVariables false
attribute [local irreducible] wpList wpQuiet wpStill Code.wp Exit.then Exit.inBlock bodyPost Calls Does Does0

/-- A message that is there. -/
def MsgIn (w : World) (m : Msg) (ps : List SigT) : Prop := SigsIn w m.sg m.sgN m.sgC ps
end Go.Proofs.YtjomihhpglojpaaDoor
end
