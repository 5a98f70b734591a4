/- Laid together by a program of mine: SigW RCtl UncL. -/
import Derived.Test.YtjomihhpglojpaaDoorSumLawSignalS24
import Derived.Test.YtjomihhpglojpaaDoorSumLawSignalS7
import Derived.Test.YtjomihhpglojpaaDoorSumLawSignalS10
import Derived.Test.YtjomihhpglojpaaDoorSumLawSignalS4
import Derived.Test.YtjomihhpglojpaaDoorSumLawSignalS3
import Derived.Test.YtjomihhpglojpaaDoorSumLawSignalS2
set_option linter.unusedSimpArgs false
set_option linter.unusedVariables false
section
/- Lent signals. -/
namespace Go.Proofs.YtjomihhpglojpaaDoor
open Go.RowKit
set_option linter.unusedSimpArgs false
set_option linter.unusedVariables false
attribute [local irreducible] wpList wpQuiet wpStill Code.wp Exit.then Exit.inBlock bodyPost Calls Does Does0

theorem own_base' {w : World} {base : Nat} {e : TypeId} {s g n c : Nat} {xs : List Value} (h : w.ownsRow base e s (.slice (some ⟨g, 0, none⟩) n c) n xs) : base ≤ g := by
  rcases h.2 with ⟨h0, _⟩ | ⟨g', cap', cur, h0, h1, _⟩
  · cases h0
  · cases h0; exact h1
theorem pairPlace : PairT Tryd.prog 23 .i64 := pairT_of (by kernel_rfl)
theorem pairRat : PairT Tryd.prog 35 .i64 := pairT_of (by kernel_rfl)
theorem pair_at {w : World} {b o : Nat} {x y : Value} (h0 : w.cell? ⟨b, o, none⟩ = some x) (h1 : w.cell? ⟨b, o + 1, none⟩ = some y) : ∀ j v, (#[x, y] : Array Value)[j]? = some v → w.cell? ⟨b, o + j, none⟩ = some v := by
  intro j v h
  rcases (show j = 0 ∨ j = 1 ∨ 2 ≤ j by omega) with rfl | rfl | hj
  · simp at h; subst h; exact h0
  · simp at h; subst h; exact h1
  · rw [Array.getElem?_eq_none (by simpa using hj)] at h; cases h
theorem sig_cells (s : Sig) : ∀ v ∈ (Sig.cells s).toArray, v.oneCell' = true := by
  intro v hv
  simp [Sig.cells] at hv
  rcases hv with rfl | rfl | rfl | rfl | rfl | rfl | rfl | rfl | rfl | rfl | rfl | rfl | rfl | rfl | rfl | rfl | rfl | rfl | rfl <;> rfl

set_option maxHeartbeats 2000000 in
theorem lent_signal (w : World) (s : Sig) (ss : List ByteArray) (hs : SigIn w s ss) :
    Ret Tryd.prog 16 #[.agg (Sig.cells s).toArray] w (fun v w' => ∃ g cap, v = .agg (Sig.cells { s with toA := some ⟨g, 0, none⟩, toC := cap }).toArray ∧ LentT w.heap.size w' (.slice (some ⟨g, 0, none⟩) s.toN cap) ss ∧ Below w.heap.size w w') := by
  refine enter1 Tryd.func16 rfl 9 rfl 10 rfl (fun a hF => ?_)
  repeat (first | refine c_seq ?_ | refine c_block ?_ | refine c_region _ ?_ | refine wpList_nil ?_ | refine c_then ?_ | refine c_then_exit ?_ | refine c_then_ret ?_ | refine c_in ?_ | refine c_in_ret ?_ | refine c_in_hit ?_ | refine wp_skip ?_ | refine wp_exit ?_ | refine wp_ret ?_ | refine c_in_miss rfl ?_ | ((first | apply st hF | apply stg hF | apply s_step hF | apply s_stg hF); (first | exact d_fieldAddr (fld _ _ _ _ rfl) (isz _ _ rfl)); clear hF; clear a; intro a hF) | ((first | apply stm hF | apply stu hF); clear hF; clear a; intro a hF) | (apply c_cond_t hF; exact rfl; first | exact rfl | assumption) | (apply c_cond_f hF; exact rfl; first | exact rfl | assumption) | refine s_nil ?_)
  refine st_box hF (cs := (Sig.cells s).toArray) rfl (k := fun a w1 hg1 hgr1 hsz1 hF => ?_)
  refine st_alloc hF inf38 (k := fun a w2 hg2 hgr2 hsz2 hF => ?_)
  have hb2 : Below w.heap.size w w2 := ((Below.refl _ w).grown hgr1 (Nat.le_refl _) (fun k hk => by cases hk)).grown hgr2 (by omega) (fun k hk => by cases hk)
  have hg12 := blk_kept hg1 hgr2 (by simp)
  repeat (first | refine c_seq ?_ | refine c_block ?_ | refine c_region _ ?_ | refine wpList_nil ?_ | refine c_then ?_ | refine c_then_exit ?_ | refine c_then_ret ?_ | refine c_in ?_ | refine c_in_ret ?_ | refine c_in_hit ?_ | refine wp_skip ?_ | refine wp_exit ?_ | refine wp_ret ?_ | refine c_in_miss rfl ?_ | ((first | apply st hF | apply stg hF | apply s_step hF | apply s_stg hF); (first | exact d_fieldAddr (fld _ _ _ _ rfl) (isz _ _ rfl) | exact d_loadAgg (agg _ rfl) (isz _ _ rfl) rfl (cells_at hg12)); clear hF; clear a; intro a hF) | ((first | apply stm hF | apply stu hF); clear hF; clear a; intro a hF) | (apply c_cond_t hF; exact rfl; first | exact rfl | assumption) | (apply c_cond_f hF; exact rfl; first | exact rfl | assumption) | refine s_nil ?_)
  refine st_alloc hF inf38 (k := fun a w3 hg3 hgr3 hsz3 hF => ?_)
  have hb3 : Below w.heap.size w w3 := hb2.grown hgr3 (by omega) (fun k hk => by cases hk)
  have hg13 := blk_kept hg12 hgr3 (by simp)
  have hg23 := blk_kept hg2 hgr3 (by simp)
  refine st_storeAgg hF (cs := (Sig.cells s).toArray) (isz _ _ rfl) rfl rfl hg3 (sig_cells s) (k := fun a w4 hg4 hgr4 hsz4 hF => ?_)
  have hb4 : Below w.heap.size w w4 := hb3.grown hgr4 (by omega) (fun k hk => by cases hk; omega)
  have hg14 := blk_kept hg13 hgr4 (by simp; omega)
  have hg24 := blk_kept hg23 hgr4 (by simp; omega)
  have c18 := cell_at (i := 18) hg14 rfl
  repeat (first | refine c_seq ?_ | refine c_block ?_ | refine c_region _ ?_ | refine wpList_nil ?_ | refine c_then ?_ | refine c_then_exit ?_ | refine c_then_ret ?_ | refine c_in ?_ | refine c_in_ret ?_ | refine c_in_hit ?_ | refine wp_skip ?_ | refine wp_exit ?_ | refine wp_ret ?_ | refine c_in_miss rfl ?_ | ((first | apply st hF | apply stg hF | apply s_step hF | apply s_stg hF); (first | exact d_fieldAddr (fld _ _ _ _ rfl) (isz _ _ rfl) | exact d_load (und _ _ rfl) c18); clear hF; clear a; intro a hF) | ((first | apply stm hF | apply stu hF); clear hF; clear a; intro a hF) | (apply c_cond_t hF; exact rfl; first | exact rfl | assumption) | (apply c_cond_f hF; exact rfl; first | exact rfl | assumption) | refine s_nil ?_)
  refine stc hF (lent_texts w4 ss s.toA _ s.toC hs.len (hs.rd.below hb4) (by have := hs.bytes; have := hs.cap; omega)) cal43 ⟨rfl, trivial⟩ (k := fun a v w5 hR hF => ?_)
  obtain ⟨⟨g, cap, rfl, hown⟩, hb5⟩ := hR
  have hb5' : Below w.heap.size w w5 := hb4.trans (hb5.mono (by omega))
  have hg15 : w5.heap[w.heap.size]? = _ := (hb5.block _ (lt_at hg14)).trans hg14
  have hg25 : w5.heap[w1.heap.size]? = _ := (hb5.block _ (lt_at hg24)).trans hg24
  have hg35 : w5.heap[w2.heap.size]? = _ := (hb5.block _ (lt_at hg4)).trans hg4
  have hz5 := hb5.size
  repeat (first | refine c_seq ?_ | refine c_block ?_ | refine c_region _ ?_ | refine wpList_nil ?_ | refine c_then ?_ | refine c_then_exit ?_ | refine c_then_ret ?_ | refine c_in ?_ | refine c_in_ret ?_ | refine c_in_hit ?_ | refine wp_skip ?_ | refine wp_exit ?_ | refine wp_ret ?_ | refine c_in_miss rfl ?_ | ((first | apply st hF | apply stg hF | apply s_step hF | apply s_stg hF); (first | exact d_fieldAddr (fld _ _ _ _ rfl) (isz _ _ rfl)); clear hF; clear a; intro a hF) | ((first | apply stm hF | apply stu hF); clear hF; clear a; intro a hF) | (apply c_cond_t hF; exact rfl; first | exact rfl | assumption) | (apply c_cond_f hF; exact rfl; first | exact rfl | assumption) | refine s_nil ?_)
  refine st_store hF (isz _ _ rfl) hg35 (i := 18) (by show 18 < 19; decide) rfl rfl rfl (k := fun a w6 hg6 hgr6 hsz6 hF => ?_)
  have hown6 := own_keptB hown hgr6 (fun k hk e => by simp only [Value.ownBlock, Option.some.injEq] at hk e; have := own_base' hown; omega)
  have hb6 : Below w.heap.size w w6 := hb5'.grown hgr6 (by omega) (fun k hk => by cases hk; omega)
  have hg26 := blk_kept hg25 hgr6 (by simp; omega)
  repeat (first | refine c_seq ?_ | refine c_block ?_ | refine c_region _ ?_ | refine wpList_nil ?_ | refine c_then ?_ | refine c_then_exit ?_ | refine c_then_ret ?_ | refine c_in ?_ | refine c_in_ret ?_ | refine c_in_hit ?_ | refine wp_skip ?_ | refine wp_exit ?_ | refine wp_ret ?_ | refine c_in_miss rfl ?_ | ((first | apply st hF | apply stg hF | apply s_step hF | apply s_stg hF); (first | exact d_fieldAddr (fld _ _ _ _ rfl) (isz _ _ rfl) | exact d_loadAgg (agg _ rfl) (isz _ _ rfl) rfl (cells_at hg6)); clear hF; clear a; intro a hF) | ((first | apply stm hF | apply stu hF); clear hF; clear a; intro a hF) | (apply c_cond_t hF; exact rfl; first | exact rfl | assumption) | (apply c_cond_f hF; exact rfl; first | exact rfl | assumption) | refine s_nil ?_)
  refine st_storeAgg hF (cs := (Sig.cells { s with toA := some ⟨g, 0, none⟩, toN := ss.length, toC := cap }).toArray) (isz _ _ rfl) rfl rfl hg26 (sig_cells _) (k := fun a w7 hg7 hgr7 hsz7 hF => ?_)
  have hown7 := own_keptB hown6 hgr7 (fun k hk e => by simp only [Value.ownBlock, Option.some.injEq] at hk e; have := own_base' hown; omega)
  have hb7 : Below w.heap.size w w7 := hb6.grown hgr7 (by omega) (fun k hk => by cases hk; omega)
  repeat (first | refine c_seq ?_ | refine c_block ?_ | refine c_region _ ?_ | refine wpList_nil ?_ | refine c_then ?_ | refine c_then_exit ?_ | refine c_then_ret ?_ | refine c_in ?_ | refine c_in_ret ?_ | refine c_in_hit ?_ | refine wp_skip ?_ | refine wp_exit ?_ | refine wp_ret ?_ | refine c_in_miss rfl ?_ | ((first | apply st hF | apply stg hF | apply s_step hF | apply s_stg hF); (first | exact d_fieldAddr (fld _ _ _ _ rfl) (isz _ _ rfl)); clear hF; clear a; intro a hF) | ((first | apply stm hF | apply stu hF); clear hF; clear a; intro a hF) | (apply c_cond_t hF; exact rfl; first | exact rfl | assumption) | (apply c_cond_f hF; exact rfl; first | exact rfl | assumption) | refine s_nil ?_)
  refine ret_c hF rfl (agg _ rfl) (isz _ _ rfl) hg7 rfl ⟨g, cap, ?_, ⟨g, cap, ?_, own_rebase hown7 fun k hk => ?_⟩, hb7⟩
  · rw [hs.len]
  · rw [hs.len]
  · simp only [Value.ownBlock, Option.some.injEq] at hk
    have := own_base' hown
    omega

set_option maxHeartbeats 4000000 in
theorem kept_signal (w : World) (s : Sig) (ss : List ByteArray) (g cap base : Nat) (hs : SigIn w s ss) (hl : LentT base w (.slice (some ⟨g, 0, none⟩) s.toN cap) ss) :
    Ret Tryd.prog 20 #[.agg (Sig.cells { s with toA := some ⟨g, 0, none⟩, toC := cap }).toArray, .agg (Sig.cells s).toArray] w (fun v w' => v = .bool true ∧ Below w.heap.size w w') := by
  refine enter2 Tryd.func20 rfl 99 rfl 101 rfl (fun a hF => ?_)
  repeat (first | refine c_seq ?_ | refine c_block ?_ | refine c_region _ ?_ | refine wpList_nil ?_ | refine c_then ?_ | refine c_then_exit ?_ | refine c_then_ret ?_ | refine c_in ?_ | refine c_in_ret ?_ | refine c_in_hit ?_ | refine wp_skip ?_ | refine wp_exit ?_ | refine wp_ret ?_ | refine c_in_miss rfl ?_ | ((first | apply st hF | apply stg hF | apply s_step hF | apply s_stg hF); (first | exact d_move | exact d_assign | exact d_pickT | exact d_pickF | exact d_cmpT | exact d_cmpF | exact d_cmp | exact d_eqbT (und _ _ rfl) | exact d_eqbF (und _ _ rfl) | exact d_eqb (und _ _ rfl) | exact d_eqST | exact d_eqSF | exact d_eqS | exact d_fieldAddr (fld _ _ _ _ rfl) (isz _ _ rfl) | exact d_eqN (ifc _ rfl) | exact d_neN (ifc _ rfl)); clear hF; clear a; intro a hF) | ((first | apply stm hF | apply stu hF); clear hF; clear a; intro a hF) | (apply c_cond_t hF; exact rfl; first | exact rfl | assumption) | (apply c_cond_f hF; exact rfl; first | exact rfl | assumption) | refine s_nil ?_)
  refine st_box hF (cs := (Sig.cells { s with toA := some ⟨g, 0, none⟩, toC := cap }).toArray) rfl (k := fun a w1 hg1 hgr1 hsz1 hF => ?_)
  refine st_box hF (cs := (Sig.cells s).toArray) rfl (k := fun a w2 hg2 hgr2 hsz2 hF => ?_)
  have hb2 : Below w.heap.size w w2 := ((Below.refl _ w).grown hgr1 (Nat.le_refl _) (fun k hk => by cases hk)).grown hgr2 (by omega) (fun k hk => by cases hk)
  have hg12 := blk_kept hg1 hgr2 (by simp)
  have hl2 : LentT base w2 (.slice (some ⟨g, 0, none⟩) s.toN cap) ss := by
    obtain ⟨g', cap', e, hown⟩ := hl
    exact ⟨g', cap', e, own_below hown hb2⟩
  have x2 : w2.cell? ⟨w.heap.size, 2, none⟩ = some (.string s.name) := cell_at hg12 rfl
  have x3 : w2.cell? ⟨w.heap.size, 3, none⟩ = some (.int .i64 s.role) := cell_at hg12 rfl
  have x4 : w2.cell? ⟨w.heap.size, 4, none⟩ = some (.int .u64 s.branch) := cell_at hg12 rfl
  have x5 : w2.cell? ⟨w.heap.size, 5, none⟩ = some (.int .i64 s.start) := cell_at hg12 rfl
  have x6 : w2.cell? ⟨w.heap.size, 6, none⟩ = some (.int .i64 s.size) := cell_at hg12 rfl
  have x7 : w2.cell? ⟨w.heap.size, 7, none⟩ = some (.bool s.mot) := cell_at hg12 rfl
  have x8 : w2.cell? ⟨w.heap.size, 8, none⟩ = some (.bool s.sgn) := cell_at hg12 rfl
  have x17 : w2.cell? ⟨w.heap.size, 17, none⟩ = some (.string s.unit) := cell_at hg12 rfl
  have x18 : w2.cell? ⟨w.heap.size, 18, none⟩ = some (.slice (some ⟨g, 0, none⟩) s.toN cap) := cell_at hg12 rfl
  have xp0 : ∀ j v, (#[.int .i64 s.line, .int .i64 s.col] : Array Value)[j]? = some v → w2.cell? ⟨w.heap.size, 0 + j, none⟩ = some v := pair_at (cell_at (i := 0) hg12 rfl) (cell_at (i := 1) hg12 rfl)
  have xp9 : ∀ j v, (#[.int .i64 s.sn, .int .i64 s.sd] : Array Value)[j]? = some v → w2.cell? ⟨w.heap.size, 9 + j, none⟩ = some v := pair_at (cell_at (i := 9) hg12 rfl) (cell_at (i := 10) hg12 rfl)
  have xp11 : ∀ j v, (#[.int .i64 s.fn, .int .i64 s.fd] : Array Value)[j]? = some v → w2.cell? ⟨w.heap.size, 11 + j, none⟩ = some v := pair_at (cell_at (i := 11) hg12 rfl) (cell_at (i := 12) hg12 rfl)
  have xp13 : ∀ j v, (#[.int .i64 s.mn, .int .i64 s.md] : Array Value)[j]? = some v → w2.cell? ⟨w.heap.size, 13 + j, none⟩ = some v := pair_at (cell_at (i := 13) hg12 rfl) (cell_at (i := 14) hg12 rfl)
  have xp15 : ∀ j v, (#[.int .i64 s.xn, .int .i64 s.xd] : Array Value)[j]? = some v → w2.cell? ⟨w.heap.size, 15 + j, none⟩ = some v := pair_at (cell_at (i := 15) hg12 rfl) (cell_at (i := 16) hg12 rfl)
  have y2 : w2.cell? ⟨w1.heap.size, 2, none⟩ = some (.string s.name) := cell_at hg2 rfl
  have y3 : w2.cell? ⟨w1.heap.size, 3, none⟩ = some (.int .i64 s.role) := cell_at hg2 rfl
  have y4 : w2.cell? ⟨w1.heap.size, 4, none⟩ = some (.int .u64 s.branch) := cell_at hg2 rfl
  have y5 : w2.cell? ⟨w1.heap.size, 5, none⟩ = some (.int .i64 s.start) := cell_at hg2 rfl
  have y6 : w2.cell? ⟨w1.heap.size, 6, none⟩ = some (.int .i64 s.size) := cell_at hg2 rfl
  have y7 : w2.cell? ⟨w1.heap.size, 7, none⟩ = some (.bool s.mot) := cell_at hg2 rfl
  have y8 : w2.cell? ⟨w1.heap.size, 8, none⟩ = some (.bool s.sgn) := cell_at hg2 rfl
  have y17 : w2.cell? ⟨w1.heap.size, 17, none⟩ = some (.string s.unit) := cell_at hg2 rfl
  have y18 : w2.cell? ⟨w1.heap.size, 18, none⟩ = some (.slice s.toA s.toN s.toC) := cell_at hg2 rfl
  have yp0 : ∀ j v, (#[.int .i64 s.line, .int .i64 s.col] : Array Value)[j]? = some v → w2.cell? ⟨w1.heap.size, 0 + j, none⟩ = some v := pair_at (cell_at (i := 0) hg2 rfl) (cell_at (i := 1) hg2 rfl)
  have yp9 : ∀ j v, (#[.int .i64 s.sn, .int .i64 s.sd] : Array Value)[j]? = some v → w2.cell? ⟨w1.heap.size, 9 + j, none⟩ = some v := pair_at (cell_at (i := 9) hg2 rfl) (cell_at (i := 10) hg2 rfl)
  have yp11 : ∀ j v, (#[.int .i64 s.fn, .int .i64 s.fd] : Array Value)[j]? = some v → w2.cell? ⟨w1.heap.size, 11 + j, none⟩ = some v := pair_at (cell_at (i := 11) hg2 rfl) (cell_at (i := 12) hg2 rfl)
  have yp13 : ∀ j v, (#[.int .i64 s.mn, .int .i64 s.md] : Array Value)[j]? = some v → w2.cell? ⟨w1.heap.size, 13 + j, none⟩ = some v := pair_at (cell_at (i := 13) hg2 rfl) (cell_at (i := 14) hg2 rfl)
  have yp15 : ∀ j v, (#[.int .i64 s.xn, .int .i64 s.xd] : Array Value)[j]? = some v → w2.cell? ⟨w1.heap.size, 15 + j, none⟩ = some v := pair_at (cell_at (i := 15) hg2 rfl) (cell_at (i := 16) hg2 rfl)
  repeat (first | refine c_seq ?_ | refine c_block ?_ | refine c_region _ ?_ | refine wpList_nil ?_ | refine c_then ?_ | refine c_then_exit ?_ | refine c_then_ret ?_ | refine c_in ?_ | refine c_in_ret ?_ | refine c_in_hit ?_ | refine wp_skip ?_ | refine wp_exit ?_ | refine wp_ret ?_ | refine c_in_miss rfl ?_ | ((first | apply st hF | apply stg hF | apply s_step hF | apply s_stg hF); (first | exact d_move | exact d_assign | exact d_pickT | exact d_pickF | exact d_cmpT | exact d_cmpF | exact d_cmp | exact d_eqbT (und _ _ rfl) | exact d_eqbF (und _ _ rfl) | exact d_eqb (und _ _ rfl) | exact d_eqST | exact d_eqSF | exact d_eqS | exact d_fieldAddr (fld _ _ _ _ rfl) (isz _ _ rfl) | exact d_eqN (ifc _ rfl) | exact d_neN (ifc _ rfl) | exact d_loadAgg (agg _ rfl) (isz _ _ rfl) rfl xp0 | exact d_loadAgg (agg _ rfl) (isz _ _ rfl) rfl xp9 | exact d_loadAgg (agg _ rfl) (isz _ _ rfl) rfl xp11 | exact d_loadAgg (agg _ rfl) (isz _ _ rfl) rfl xp13 | exact d_loadAgg (agg _ rfl) (isz _ _ rfl) rfl xp15 | exact d_loadAgg (agg _ rfl) (isz _ _ rfl) rfl yp0 | exact d_loadAgg (agg _ rfl) (isz _ _ rfl) rfl yp9 | exact d_loadAgg (agg _ rfl) (isz _ _ rfl) rfl yp11 | exact d_loadAgg (agg _ rfl) (isz _ _ rfl) rfl yp13 | exact d_loadAgg (agg _ rfl) (isz _ _ rfl) rfl yp15 | exact d_eqPs pairPlace | exact d_eqPs pairRat | exact d_load (und _ _ rfl) x2 | exact d_load (und _ _ rfl) x3 | exact d_load (und _ _ rfl) x4 | exact d_load (und _ _ rfl) x5 | exact d_load (und _ _ rfl) x6 | exact d_load (und _ _ rfl) x7 | exact d_load (und _ _ rfl) x8 | exact d_load (und _ _ rfl) x17 | exact d_load (und _ _ rfl) x18 | exact d_load (und _ _ rfl) y2 | exact d_load (und _ _ rfl) y3 | exact d_load (und _ _ rfl) y4 | exact d_load (und _ _ rfl) y5 | exact d_load (und _ _ rfl) y6 | exact d_load (und _ _ rfl) y7 | exact d_load (und _ _ rfl) y8 | exact d_load (und _ _ rfl) y17 | exact d_load (und _ _ rfl) y18); clear hF; clear a; intro a hF) | ((first | apply stm hF | apply stu hF); clear hF; clear a; intro a hF) | (apply c_cond_t hF; exact rfl; first | exact rfl | assumption) | (apply c_cond_f hF; exact rfl; first | exact rfl | assumption) | refine s_nil ?_)
  refine stcg hF (kept_texts w2 ss _ base s.toA _ s.toC hs.len (hs.rd.below hb2) hl2 (by have := hs.bytes; have := hs.cap; omega)) cal47 ⟨rfl, rfl, trivial⟩ (k := fun a v w3 hR hF => ?_)
  obtain ⟨rfl, hb3⟩ := hR
  repeat (first | refine c_seq ?_ | refine c_block ?_ | refine c_region _ ?_ | refine wpList_nil ?_ | refine c_then ?_ | refine c_then_exit ?_ | refine c_then_ret ?_ | refine c_in ?_ | refine c_in_ret ?_ | refine c_in_hit ?_ | refine wp_skip ?_ | refine wp_exit ?_ | refine wp_ret ?_ | refine c_in_miss rfl ?_ | ((first | apply st hF | apply stg hF | apply s_step hF | apply s_stg hF); (first | exact d_move | exact d_assign | exact d_pickT | exact d_pickF | exact d_cmpT | exact d_cmpF | exact d_cmp | exact d_eqbT (und _ _ rfl) | exact d_eqbF (und _ _ rfl) | exact d_eqb (und _ _ rfl) | exact d_eqST | exact d_eqSF | exact d_eqS | exact d_fieldAddr (fld _ _ _ _ rfl) (isz _ _ rfl) | exact d_eqN (ifc _ rfl) | exact d_neN (ifc _ rfl)); clear hF; clear a; intro a hF) | ((first | apply stm hF | apply stu hF); clear hF; clear a; intro a hF) | (apply c_cond_t hF; exact rfl; first | exact rfl | assumption) | (apply c_cond_f hF; exact rfl; first | exact rfl | assumption) | refine s_nil ?_)
  exact ret1 hF rfl rfl ⟨rfl, hb2.trans (hb3.mono hb2.size)⟩
end Go.Proofs.YtjomihhpglojpaaDoor
end
section
/- The reference's Control, walked. -/
namespace Go.Proofs.YtjomihhpglojpaaDoor
open Go.RowKit
set_option linter.unusedSimpArgs false
set_option linter.unusedVariables false
attribute [local irreducible] wpList wpQuiet wpStill Code.wp Exit.then Exit.inBlock bodyPost Calls Does Does0
theorem rcontrol_ok (w : World) (r : Int) : Ret Tryd.prog 97 #[.int .i32 r] w (fun v w' => v = .bool (ctl r) ∧ w' = w) := by
  refine enter1 Tryd.func97 rfl 8 rfl 9 rfl (fun a hF => ?_)
  repeat' (first | refine c_seq ?_ | refine c_block ?_ | refine c_region _ ?_ | refine wpList_nil ?_ | refine c_then ?_ | refine c_then_exit ?_ | refine c_then_ret ?_ | refine c_in ?_ | refine c_in_ret ?_ | refine c_in_hit ?_ | refine wp_skip ?_ | refine wp_exit ?_ | refine wp_ret ?_ | refine c_in_miss rfl ?_ | ((first | apply st hF | apply stg hF | apply s_step hF | apply s_stg hF); (first | exact d_move | exact d_assign | exact d_pickT | exact d_pickF | exact d_cmpT | exact d_cmpF | exact d_eqbT (und _ _ rfl) | exact d_eqbF (und _ _ rfl) | exact d_eqb (und _ _ rfl) | exact d_eqST | exact d_eqSF | exact d_eqS | exact d_eqN (ifc _ rfl) | exact d_neN (ifc _ rfl)); clear hF; clear a; intro a hF) | ((first | apply stm hF | apply stu hF); clear hF; clear a; intro a hF) | (apply c_cond_t hF; exact rfl; first | exact rfl | assumption) | (apply c_cond_f hF; exact rfl; first | exact rfl | assumption) | refine s_nil ?_ | ((first | refine st_split hF (kT := ?_) (kF := ?_) | refine stg_split hF (kT := ?_) (kF := ?_)) <;> (intro hsp; simp only [decide_eq_true_eq, decide_eq_false_iff_not, beq_iff_eq, beq_eq_false_iff_ne, bne_iff_ne, ne_eq, bne_eq_false_iff_eq] at hsp; clear hF; clear a; intro a hF)))
  all_goals exact ret1 hF rfl rfl ⟨by first | exact congrArg Value.bool (decide_eq_true (by omega)).symm | exact congrArg Value.bool (decide_eq_false (by omega)).symm, rfl⟩
end Go.Proofs.YtjomihhpglojpaaDoor
end
section
/- Rows of units: plain laws. -/
namespace Go.Proofs.YtjomihhpglojpaaDoor
open Go.RowKit

theorem unc_cell {w : World} {b o : Nat} {s : ByteArray} {us : List Un} (h : RdS w (some ⟨b, o, none⟩) 5 Un.cells us) (hok : ∀ i (h : i < us.length), UnOk s i us[i]) {k : Nat} (hk : k < us.length) :
    w.cell? ⟨b, o + k * 5 + 0, none⟩ = some (.int .i64 (uSt s k).2.1) ∧ w.cell? ⟨b, o + k * 5 + 1, none⟩ = some (.int .i64 (uSt s k).2.2) ∧ w.cell? ⟨b, o + k * 5 + 2, none⟩ = some (.int .i32 (uR s k)) ∧ w.cell? ⟨b, o + k * 5 + 4, none⟩ = some (.bool (illB s (uSt s k).1)) := by
  obtain ⟨b', o', hb, hc⟩ := h k hk
  cases hb
  obtain ⟨h1, h2, h3, h4⟩ := hok k hk
  refine ⟨hc 0 _ ?_, hc 1 _ ?_, hc 2 _ ?_, hc 4 _ ?_⟩
  · rw [← h1]; rfl
  · rw [← h2]; rfl
  · rw [← h3]; rfl
  · rw [← h4]; rfl
theorem place_at3 {w : World} {b o : Nat} {x y : Value} (h0 : w.cell? ⟨b, o + 0, none⟩ = some x) (h1 : w.cell? ⟨b, o + 1, none⟩ = some y) : ∀ j v, (#[x, y] : Array Value)[j]? = some v → w.cell? ⟨b, o + j, none⟩ = some v := by
  intro j v h
  rcases j with _ | _ | j
  · simp at h; subst h; exact h0
  · simp at h; subst h; exact h1
  · simp at h
theorem own_rdS2 {α : Type} {w : World} {base : Nat} {e : TypeId} {ao : Option Addr} {cap n sz : Nat} {enc : α → List Value} {xs : List α} (he : ∀ x, (enc x).length = sz) (h : w.ownsRow base e sz (.slice ao n cap) n (xs.flatMap enc)) (hn : xs.length = n) : RdS w ao sz enc xs := by
  rcases h.2 with ⟨h0, _⟩ | ⟨g', cap', cur, h0, _⟩
  · cases h0
    intro i hi
    omega
  · cases h0
    exact own_rdS he h hn
theorem ret_tc {P : Program} {a : Act} {w : World} {N : Nat} {l : List (Nat × Value)} {fn : Func} {R : Value → World → Prop} (h : Fr N l a) {p u : Nat} {ty : TypeId} (hres : fn.results = #[.tmp u, .cell p ty]) {g : Nat} {cs : Array Value} {e : TypeId} {fr : Nat × Nat} {y : Value} (hU : (P.underlying ty).map aggB = some true) (hs : (P.info? ty).map (·.size) = some cs.size) (hg : w.heap[g]? = some (.cells cs e fr))
    (hv : look l p = some (.pointer (some ⟨g, 0, none⟩))) (hx : look l u = some y) (hR : R (.tuple #[y, .agg cs]) w) : bodyPost P fn (fun e w' => ∃ v, e = .returned v ∧ R v w') .ret a w := by
  refine bodyPost_ret ?_ h.defers ⟨_, rfl, hR⟩
  have e1 : a.tmps[p]?.getD undef = .pointer (some ⟨g, 0, none⟩) := by have := getD_at h hv; simpa using this
  have e2 : a.tmps[u]?.getD undef = y := by have := getD_at h hx; simpa using this
  have e3 : (loadVar ty ⟨g, 0, none⟩).run P w = .ok (.agg cs) w := run_loadVar_agg hU hs hg
  simp [results, hres, e1, e2, asAddr, e3]
end Go.Proofs.YtjomihhpglojpaaDoor
end
