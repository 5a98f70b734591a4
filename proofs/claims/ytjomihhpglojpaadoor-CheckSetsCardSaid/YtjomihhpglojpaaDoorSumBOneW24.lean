/- Laid together by a program of mine: SigW AloneS MsgC. -/
import Derived.Test.YtjomihhpglojpaaDoorSumBOneW23
import Derived.Test.YtjomihhpglojpaaDoorSumBOneW6
import Derived.Test.YtjomihhpglojpaaDoorSumBOneW8
import Derived.Test.YtjomihhpglojpaaDoorSumBOneW10
import Derived.Test.YtjomihhpglojpaaDoorSumBOneW13
import Derived.Test.YtjomihhpglojpaaDoorSumBOneW22
import Derived.Test.YtjomihhpglojpaaDoorSumBOneW4
import Derived.Test.YtjomihhpglojpaaDoorSumBOneW3
set_option linter.unusedSimpArgs false
set_option linter.unusedVariables false
section
/- Lent signals. -/
namespace Go.Proofs.YtjomihhpglojpaaDoor
open Go.RowKit
set_option linter.unusedSimpArgs false
set_option linter.unusedVariables false
attribute [local irreducible] wpList wpQuiet wpStill Code.wp Exit.then Exit.inBlock bodyPost Calls Does Does0

theorem own_base' {w : World} {base : Nat} {e : TypeId} {s g n c : Nat} {xs : List Value} (h : w.ownsRow base e s (.slice (some ⟨g, 0, none⟩) n c) n xs) : base ≤ g := by
  rcases h.2 with ⟨h0, _⟩ | ⟨g', cap', cur, h0, h1, _⟩
  · cases h0
  · cases h0; exact h1
theorem pairPlace : PairT Tryd.prog 23 .i64 := pairT_of (by kernel_rfl)
theorem pairRat : PairT Tryd.prog 35 .i64 := pairT_of (by kernel_rfl)
theorem pair_at {w : World} {b o : Nat} {x y : Value} (h0 : w.cell? ⟨b, o, none⟩ = some x) (h1 : w.cell? ⟨b, o + 1, none⟩ = some y) : ∀ j v, (#[x, y] : Array Value)[j]? = some v → w.cell? ⟨b, o + j, none⟩ = some v := by
  intro j v h
  rcases (show j = 0 ∨ j = 1 ∨ 2 ≤ j by omega) with rfl | rfl | hj
  · simp at h; subst h; exact h0
  · simp at h; subst h; exact h1
  · rw [Array.getElem?_eq_none (by simpa using hj)] at h; cases h
theorem sig_cells (s : Sig) : ∀ v ∈ (Sig.cells s).toArray, v.oneCell' = true := by
  intro v hv
  simp [Sig.cells] at hv
  rcases hv with rfl | rfl | rfl | rfl | rfl | rfl | rfl | rfl | rfl | rfl | rfl | rfl | rfl | rfl | rfl | rfl | rfl | rfl | rfl <;> rfl

set_option maxHeartbeats 2000000 in
theorem lent_signal (w : World) (s : Sig) (ss : List ByteArray) (hs : SigIn w s ss) :
    Ret Tryd.prog 16 #[.agg (Sig.cells s).toArray] w (fun v w' => ∃ g cap, v = .agg (Sig.cells { s with toA := some ⟨g, 0, none⟩, toC := cap }).toArray ∧ LentT w.heap.size w' (.slice (some ⟨g, 0, none⟩) s.toN cap) ss ∧ Below w.heap.size w w') := by
  refine enter1 Tryd.func16 rfl 9 rfl 10 rfl (fun a hF => ?_)
  repeat (first | refine c_seq ?_ | refine c_block ?_ | refine c_region _ ?_ | refine wpList_nil ?_ | refine c_then ?_ | refine c_then_exit ?_ | refine c_then_ret ?_ | refine c_in ?_ | refine c_in_ret ?_ | refine c_in_hit ?_ | refine wp_skip ?_ | refine wp_exit ?_ | refine wp_ret ?_ | refine c_in_miss rfl ?_ | ((first | apply st hF | apply stg hF | apply s_step hF | apply s_stg hF); (first | exact d_fieldAddr (fld _ _ _ _ rfl) (isz _ _ rfl)); clear hF; clear a; intro a hF) | ((first | apply stm hF | apply stu hF); clear hF; clear a; intro a hF) | (apply c_cond_t hF; exact rfl; first | exact rfl | assumption) | (apply c_cond_f hF; exact rfl; first | exact rfl | assumption) | refine s_nil ?_)
  refine st_box hF (cs := (Sig.cells s).toArray) rfl (k := fun a w1 hg1 hgr1 hsz1 hF => ?_)
  refine st_alloc hF inf38 (k := fun a w2 hg2 hgr2 hsz2 hF => ?_)
  have hb2 : Below w.heap.size w w2 := ((Below.refl _ w).grown hgr1 (Nat.le_refl _) (fun k hk => by cases hk)).grown hgr2 (by omega) (fun k hk => by cases hk)
  have hg12 := blk_kept hg1 hgr2 (by simp)
  repeat (first | refine c_seq ?_ | refine c_block ?_ | refine c_region _ ?_ | refine wpList_nil ?_ | refine c_then ?_ | refine c_then_exit ?_ | refine c_then_ret ?_ | refine c_in ?_ | refine c_in_ret ?_ | refine c_in_hit ?_ | refine wp_skip ?_ | refine wp_exit ?_ | refine wp_ret ?_ | refine c_in_miss rfl ?_ | ((first | apply st hF | apply stg hF | apply s_step hF | apply s_stg hF); (first | exact d_fieldAddr (fld _ _ _ _ rfl) (isz _ _ rfl) | exact d_loadAgg (agg _ rfl) (isz _ _ rfl) rfl (cells_at hg12)); clear hF; clear a; intro a hF) | ((first | apply stm hF | apply stu hF); clear hF; clear a; intro a hF) | (apply c_cond_t hF; exact rfl; first | exact rfl | assumption) | (apply c_cond_f hF; exact rfl; first | exact rfl | assumption) | refine s_nil ?_)
  refine st_alloc hF inf38 (k := fun a w3 hg3 hgr3 hsz3 hF => ?_)
  have hb3 : Below w.heap.size w w3 := hb2.grown hgr3 (by omega) (fun k hk => by cases hk)
  have hg13 := blk_kept hg12 hgr3 (by simp)
  have hg23 := blk_kept hg2 hgr3 (by simp)
  refine st_storeAgg hF (cs := (Sig.cells s).toArray) (isz _ _ rfl) rfl rfl hg3 (sig_cells s) (k := fun a w4 hg4 hgr4 hsz4 hF => ?_)
  have hb4 : Below w.heap.size w w4 := hb3.grown hgr4 (by omega) (fun k hk => by cases hk; omega)
  have hg14 := blk_kept hg13 hgr4 (by simp; omega)
  have hg24 := blk_kept hg23 hgr4 (by simp; omega)
  have c18 := cell_at (i := 18) hg14 rfl
  repeat (first | refine c_seq ?_ | refine c_block ?_ | refine c_region _ ?_ | refine wpList_nil ?_ | refine c_then ?_ | refine c_then_exit ?_ | refine c_then_ret ?_ | refine c_in ?_ | refine c_in_ret ?_ | refine c_in_hit ?_ | refine wp_skip ?_ | refine wp_exit ?_ | refine wp_ret ?_ | refine c_in_miss rfl ?_ | ((first | apply st hF | apply stg hF | apply s_step hF | apply s_stg hF); (first | exact d_fieldAddr (fld _ _ _ _ rfl) (isz _ _ rfl) | exact d_load (und _ _ rfl) c18); clear hF; clear a; intro a hF) | ((first | apply stm hF | apply stu hF); clear hF; clear a; intro a hF) | (apply c_cond_t hF; exact rfl; first | exact rfl | assumption) | (apply c_cond_f hF; exact rfl; first | exact rfl | assumption) | refine s_nil ?_)
  refine stc hF (lent_texts w4 ss s.toA _ s.toC hs.len (hs.rd.below hb4) (by have := hs.bytes; have := hs.cap; omega)) cal43 ⟨rfl, trivial⟩ (k := fun a v w5 hR hF => ?_)
  obtain ⟨⟨g, cap, rfl, hown⟩, hb5⟩ := hR
  have hb5' : Below w.heap.size w w5 := hb4.trans (hb5.mono (by omega))
  have hg15 : w5.heap[w.heap.size]? = _ := (hb5.block _ (lt_at hg14)).trans hg14
  have hg25 : w5.heap[w1.heap.size]? = _ := (hb5.block _ (lt_at hg24)).trans hg24
  have hg35 : w5.heap[w2.heap.size]? = _ := (hb5.block _ (lt_at hg4)).trans hg4
  have hz5 := hb5.size
  repeat (first | refine c_seq ?_ | refine c_block ?_ | refine c_region _ ?_ | refine wpList_nil ?_ | refine c_then ?_ | refine c_then_exit ?_ | refine c_then_ret ?_ | refine c_in ?_ | refine c_in_ret ?_ | refine c_in_hit ?_ | refine wp_skip ?_ | refine wp_exit ?_ | refine wp_ret ?_ | refine c_in_miss rfl ?_ | ((first | apply st hF | apply stg hF | apply s_step hF | apply s_stg hF); (first | exact d_fieldAddr (fld _ _ _ _ rfl) (isz _ _ rfl)); clear hF; clear a; intro a hF) | ((first | apply stm hF | apply stu hF); clear hF; clear a; intro a hF) | (apply c_cond_t hF; exact rfl; first | exact rfl | assumption) | (apply c_cond_f hF; exact rfl; first | exact rfl | assumption) | refine s_nil ?_)
  refine st_store hF (isz _ _ rfl) hg35 (i := 18) (by show 18 < 19; decide) rfl rfl rfl (k := fun a w6 hg6 hgr6 hsz6 hF => ?_)
  have hown6 := own_keptB hown hgr6 (fun k hk e => by simp only [Value.ownBlock, Option.some.injEq] at hk e; have := own_base' hown; omega)
  have hb6 : Below w.heap.size w w6 := hb5'.grown hgr6 (by omega) (fun k hk => by cases hk; omega)
  have hg26 := blk_kept hg25 hgr6 (by simp; omega)
  repeat (first | refine c_seq ?_ | refine c_block ?_ | refine c_region _ ?_ | refine wpList_nil ?_ | refine c_then ?_ | refine c_then_exit ?_ | refine c_then_ret ?_ | refine c_in ?_ | refine c_in_ret ?_ | refine c_in_hit ?_ | refine wp_skip ?_ | refine wp_exit ?_ | refine wp_ret ?_ | refine c_in_miss rfl ?_ | ((first | apply st hF | apply stg hF | apply s_step hF | apply s_stg hF); (first | exact d_fieldAddr (fld _ _ _ _ rfl) (isz _ _ rfl) | exact d_loadAgg (agg _ rfl) (isz _ _ rfl) rfl (cells_at hg6)); clear hF; clear a; intro a hF) | ((first | apply stm hF | apply stu hF); clear hF; clear a; intro a hF) | (apply c_cond_t hF; exact rfl; first | exact rfl | assumption) | (apply c_cond_f hF; exact rfl; first | exact rfl | assumption) | refine s_nil ?_)
  refine st_storeAgg hF (cs := (Sig.cells { s with toA := some ⟨g, 0, none⟩, toN := ss.length, toC := cap }).toArray) (isz _ _ rfl) rfl rfl hg26 (sig_cells _) (k := fun a w7 hg7 hgr7 hsz7 hF => ?_)
  have hown7 := own_keptB hown6 hgr7 (fun k hk e => by simp only [Value.ownBlock, Option.some.injEq] at hk e; have := own_base' hown; omega)
  have hb7 : Below w.heap.size w w7 := hb6.grown hgr7 (by omega) (fun k hk => by cases hk; omega)
  repeat (first | refine c_seq ?_ | refine c_block ?_ | refine c_region _ ?_ | refine wpList_nil ?_ | refine c_then ?_ | refine c_then_exit ?_ | refine c_then_ret ?_ | refine c_in ?_ | refine c_in_ret ?_ | refine c_in_hit ?_ | refine wp_skip ?_ | refine wp_exit ?_ | refine wp_ret ?_ | refine c_in_miss rfl ?_ | ((first | apply st hF | apply stg hF | apply s_step hF | apply s_stg hF); (first | exact d_fieldAddr (fld _ _ _ _ rfl) (isz _ _ rfl)); clear hF; clear a; intro a hF) | ((first | apply stm hF | apply stu hF); clear hF; clear a; intro a hF) | (apply c_cond_t hF; exact rfl; first | exact rfl | assumption) | (apply c_cond_f hF; exact rfl; first | exact rfl | assumption) | refine s_nil ?_)
  refine ret_c hF rfl (agg _ rfl) (isz _ _ rfl) hg7 rfl ⟨g, cap, ?_, ⟨g, cap, ?_, own_rebase hown7 fun k hk => ?_⟩, hb7⟩
  · rw [hs.len]
  · rw [hs.len]
  · simp only [Value.ownBlock, Option.some.injEq] at hk
    have := own_base' hown
    omega

set_option maxHeartbeats 4000000 in
theorem kept_signal (w : World) (s : Sig) (ss : List ByteArray) (g cap base : Nat) (hs : SigIn w s ss) (hl : LentT base w (.slice (some ⟨g, 0, none⟩) s.toN cap) ss) :
    Ret Tryd.prog 20 #[.agg (Sig.cells { s with toA := some ⟨g, 0, none⟩, toC := cap }).toArray, .agg (Sig.cells s).toArray] w (fun v w' => v = .bool true ∧ Below w.heap.size w w') := by
  refine enter2 Tryd.func20 rfl 99 rfl 101 rfl (fun a hF => ?_)
  repeat (first | refine c_seq ?_ | refine c_block ?_ | refine c_region _ ?_ | refine wpList_nil ?_ | refine c_then ?_ | refine c_then_exit ?_ | refine c_then_ret ?_ | refine c_in ?_ | refine c_in_ret ?_ | refine c_in_hit ?_ | refine wp_skip ?_ | refine wp_exit ?_ | refine wp_ret ?_ | refine c_in_miss rfl ?_ | ((first | apply st hF | apply stg hF | apply s_step hF | apply s_stg hF); (first | exact d_move | exact d_assign | exact d_pickT | exact d_pickF | exact d_cmpT | exact d_cmpF | exact d_cmp | exact d_eqbT (und _ _ rfl) | exact d_eqbF (und _ _ rfl) | exact d_eqb (und _ _ rfl) | exact d_eqST | exact d_eqSF | exact d_eqS | exact d_fieldAddr (fld _ _ _ _ rfl) (isz _ _ rfl) | exact d_eqN (ifc _ rfl) | exact d_neN (ifc _ rfl)); clear hF; clear a; intro a hF) | ((first | apply stm hF | apply stu hF); clear hF; clear a; intro a hF) | (apply c_cond_t hF; exact rfl; first | exact rfl | assumption) | (apply c_cond_f hF; exact rfl; first | exact rfl | assumption) | refine s_nil ?_)
  refine st_box hF (cs := (Sig.cells { s with toA := some ⟨g, 0, none⟩, toC := cap }).toArray) rfl (k := fun a w1 hg1 hgr1 hsz1 hF => ?_)
  refine st_box hF (cs := (Sig.cells s).toArray) rfl (k := fun a w2 hg2 hgr2 hsz2 hF => ?_)
  have hb2 : Below w.heap.size w w2 := ((Below.refl _ w).grown hgr1 (Nat.le_refl _) (fun k hk => by cases hk)).grown hgr2 (by omega) (fun k hk => by cases hk)
  have hg12 := blk_kept hg1 hgr2 (by simp)
  have hl2 : LentT base w2 (.slice (some ⟨g, 0, none⟩) s.toN cap) ss := by
    obtain ⟨g', cap', e, hown⟩ := hl
    exact ⟨g', cap', e, own_below hown hb2⟩
  have x2 : w2.cell? ⟨w.heap.size, 2, none⟩ = some (.string s.name) := cell_at hg12 rfl
  have x3 : w2.cell? ⟨w.heap.size, 3, none⟩ = some (.int .i64 s.role) := cell_at hg12 rfl
  have x4 : w2.cell? ⟨w.heap.size, 4, none⟩ = some (.int .u64 s.branch) := cell_at hg12 rfl
  have x5 : w2.cell? ⟨w.heap.size, 5, none⟩ = some (.int .i64 s.start) := cell_at hg12 rfl
  have x6 : w2.cell? ⟨w.heap.size, 6, none⟩ = some (.int .i64 s.size) := cell_at hg12 rfl
  have x7 : w2.cell? ⟨w.heap.size, 7, none⟩ = some (.bool s.mot) := cell_at hg12 rfl
  have x8 : w2.cell? ⟨w.heap.size, 8, none⟩ = some (.bool s.sgn) := cell_at hg12 rfl
  have x17 : w2.cell? ⟨w.heap.size, 17, none⟩ = some (.string s.unit) := cell_at hg12 rfl
  have x18 : w2.cell? ⟨w.heap.size, 18, none⟩ = some (.slice (some ⟨g, 0, none⟩) s.toN cap) := cell_at hg12 rfl
  have xp0 : ∀ j v, (#[.int .i64 s.line, .int .i64 s.col] : Array Value)[j]? = some v → w2.cell? ⟨w.heap.size, 0 + j, none⟩ = some v := pair_at (cell_at (i := 0) hg12 rfl) (cell_at (i := 1) hg12 rfl)
  have xp9 : ∀ j v, (#[.int .i64 s.sn, .int .i64 s.sd] : Array Value)[j]? = some v → w2.cell? ⟨w.heap.size, 9 + j, none⟩ = some v := pair_at (cell_at (i := 9) hg12 rfl) (cell_at (i := 10) hg12 rfl)
  have xp11 : ∀ j v, (#[.int .i64 s.fn, .int .i64 s.fd] : Array Value)[j]? = some v → w2.cell? ⟨w.heap.size, 11 + j, none⟩ = some v := pair_at (cell_at (i := 11) hg12 rfl) (cell_at (i := 12) hg12 rfl)
  have xp13 : ∀ j v, (#[.int .i64 s.mn, .int .i64 s.md] : Array Value)[j]? = some v → w2.cell? ⟨w.heap.size, 13 + j, none⟩ = some v := pair_at (cell_at (i := 13) hg12 rfl) (cell_at (i := 14) hg12 rfl)
  have xp15 : ∀ j v, (#[.int .i64 s.xn, .int .i64 s.xd] : Array Value)[j]? = some v → w2.cell? ⟨w.heap.size, 15 + j, none⟩ = some v := pair_at (cell_at (i := 15) hg12 rfl) (cell_at (i := 16) hg12 rfl)
  have y2 : w2.cell? ⟨w1.heap.size, 2, none⟩ = some (.string s.name) := cell_at hg2 rfl
  have y3 : w2.cell? ⟨w1.heap.size, 3, none⟩ = some (.int .i64 s.role) := cell_at hg2 rfl
  have y4 : w2.cell? ⟨w1.heap.size, 4, none⟩ = some (.int .u64 s.branch) := cell_at hg2 rfl
  have y5 : w2.cell? ⟨w1.heap.size, 5, none⟩ = some (.int .i64 s.start) := cell_at hg2 rfl
  have y6 : w2.cell? ⟨w1.heap.size, 6, none⟩ = some (.int .i64 s.size) := cell_at hg2 rfl
  have y7 : w2.cell? ⟨w1.heap.size, 7, none⟩ = some (.bool s.mot) := cell_at hg2 rfl
  have y8 : w2.cell? ⟨w1.heap.size, 8, none⟩ = some (.bool s.sgn) := cell_at hg2 rfl
  have y17 : w2.cell? ⟨w1.heap.size, 17, none⟩ = some (.string s.unit) := cell_at hg2 rfl
  have y18 : w2.cell? ⟨w1.heap.size, 18, none⟩ = some (.slice s.toA s.toN s.toC) := cell_at hg2 rfl
  have yp0 : ∀ j v, (#[.int .i64 s.line, .int .i64 s.col] : Array Value)[j]? = some v → w2.cell? ⟨w1.heap.size, 0 + j, none⟩ = some v := pair_at (cell_at (i := 0) hg2 rfl) (cell_at (i := 1) hg2 rfl)
  have yp9 : ∀ j v, (#[.int .i64 s.sn, .int .i64 s.sd] : Array Value)[j]? = some v → w2.cell? ⟨w1.heap.size, 9 + j, none⟩ = some v := pair_at (cell_at (i := 9) hg2 rfl) (cell_at (i := 10) hg2 rfl)
  have yp11 : ∀ j v, (#[.int .i64 s.fn, .int .i64 s.fd] : Array Value)[j]? = some v → w2.cell? ⟨w1.heap.size, 11 + j, none⟩ = some v := pair_at (cell_at (i := 11) hg2 rfl) (cell_at (i := 12) hg2 rfl)
  have yp13 : ∀ j v, (#[.int .i64 s.mn, .int .i64 s.md] : Array Value)[j]? = some v → w2.cell? ⟨w1.heap.size, 13 + j, none⟩ = some v := pair_at (cell_at (i := 13) hg2 rfl) (cell_at (i := 14) hg2 rfl)
  have yp15 : ∀ j v, (#[.int .i64 s.xn, .int .i64 s.xd] : Array Value)[j]? = some v → w2.cell? ⟨w1.heap.size, 15 + j, none⟩ = some v := pair_at (cell_at (i := 15) hg2 rfl) (cell_at (i := 16) hg2 rfl)
  repeat (first | refine c_seq ?_ | refine c_block ?_ | refine c_region _ ?_ | refine wpList_nil ?_ | refine c_then ?_ | refine c_then_exit ?_ | refine c_then_ret ?_ | refine c_in ?_ | refine c_in_ret ?_ | refine c_in_hit ?_ | refine wp_skip ?_ | refine wp_exit ?_ | refine wp_ret ?_ | refine c_in_miss rfl ?_ | ((first | apply st hF | apply stg hF | apply s_step hF | apply s_stg hF); (first | exact d_move | exact d_assign | exact d_pickT | exact d_pickF | exact d_cmpT | exact d_cmpF | exact d_cmp | exact d_eqbT (und _ _ rfl) | exact d_eqbF (und _ _ rfl) | exact d_eqb (und _ _ rfl) | exact d_eqST | exact d_eqSF | exact d_eqS | exact d_fieldAddr (fld _ _ _ _ rfl) (isz _ _ rfl) | exact d_eqN (ifc _ rfl) | exact d_neN (ifc _ rfl) | exact d_loadAgg (agg _ rfl) (isz _ _ rfl) rfl xp0 | exact d_loadAgg (agg _ rfl) (isz _ _ rfl) rfl xp9 | exact d_loadAgg (agg _ rfl) (isz _ _ rfl) rfl xp11 | exact d_loadAgg (agg _ rfl) (isz _ _ rfl) rfl xp13 | exact d_loadAgg (agg _ rfl) (isz _ _ rfl) rfl xp15 | exact d_loadAgg (agg _ rfl) (isz _ _ rfl) rfl yp0 | exact d_loadAgg (agg _ rfl) (isz _ _ rfl) rfl yp9 | exact d_loadAgg (agg _ rfl) (isz _ _ rfl) rfl yp11 | exact d_loadAgg (agg _ rfl) (isz _ _ rfl) rfl yp13 | exact d_loadAgg (agg _ rfl) (isz _ _ rfl) rfl yp15 | exact d_eqPs pairPlace | exact d_eqPs pairRat | exact d_load (und _ _ rfl) x2 | exact d_load (und _ _ rfl) x3 | exact d_load (und _ _ rfl) x4 | exact d_load (und _ _ rfl) x5 | exact d_load (und _ _ rfl) x6 | exact d_load (und _ _ rfl) x7 | exact d_load (und _ _ rfl) x8 | exact d_load (und _ _ rfl) x17 | exact d_load (und _ _ rfl) x18 | exact d_load (und _ _ rfl) y2 | exact d_load (und _ _ rfl) y3 | exact d_load (und _ _ rfl) y4 | exact d_load (und _ _ rfl) y5 | exact d_load (und _ _ rfl) y6 | exact d_load (und _ _ rfl) y7 | exact d_load (und _ _ rfl) y8 | exact d_load (und _ _ rfl) y17 | exact d_load (und _ _ rfl) y18); clear hF; clear a; intro a hF) | ((first | apply stm hF | apply stu hF); clear hF; clear a; intro a hF) | (apply c_cond_t hF; exact rfl; first | exact rfl | assumption) | (apply c_cond_f hF; exact rfl; first | exact rfl | assumption) | refine s_nil ?_)
  refine stcg hF (kept_texts w2 ss _ base s.toA _ s.toC hs.len (hs.rd.below hb2) hl2 (by have := hs.bytes; have := hs.cap; omega)) cal47 ⟨rfl, rfl, trivial⟩ (k := fun a v w3 hR hF => ?_)
  obtain ⟨rfl, hb3⟩ := hR
  repeat (first | refine c_seq ?_ | refine c_block ?_ | refine c_region _ ?_ | refine wpList_nil ?_ | refine c_then ?_ | refine c_then_exit ?_ | refine c_then_ret ?_ | refine c_in ?_ | refine c_in_ret ?_ | refine c_in_hit ?_ | refine wp_skip ?_ | refine wp_exit ?_ | refine wp_ret ?_ | refine c_in_miss rfl ?_ | ((first | apply st hF | apply stg hF | apply s_step hF | apply s_stg hF); (first | exact d_move | exact d_assign | exact d_pickT | exact d_pickF | exact d_cmpT | exact d_cmpF | exact d_cmp | exact d_eqbT (und _ _ rfl) | exact d_eqbF (und _ _ rfl) | exact d_eqb (und _ _ rfl) | exact d_eqST | exact d_eqSF | exact d_eqS | exact d_fieldAddr (fld _ _ _ _ rfl) (isz _ _ rfl) | exact d_eqN (ifc _ rfl) | exact d_neN (ifc _ rfl)); clear hF; clear a; intro a hF) | ((first | apply stm hF | apply stu hF); clear hF; clear a; intro a hF) | (apply c_cond_t hF; exact rfl; first | exact rfl | assumption) | (apply c_cond_f hF; exact rfl; first | exact rfl | assumption) | refine s_nil ?_)
  exact ret1 hF rfl rfl ⟨rfl, hb2.trans (hb3.mono hb2.size)⟩
end Go.Proofs.YtjomihhpglojpaaDoor
end
section
/- check.alone, walked: what is wrong with a signal by itself. -/
namespace Go.Proofs.YtjomihhpglojpaaDoor
open Go.RowKit
set_option linter.unusedSimpArgs false
set_option linter.unusedVariables false
attribute [local irreducible] wpList wpQuiet wpStill Code.wp Exit.then Exit.inBlock bodyPost Calls Does Does0
set_option maxRecDepth 100000
open Classical in
noncomputable def textE (s : ByteArray) : Int := if 1024 < s.size then 5 else if AllOk s then 0 else 6
theorem text_is {s : ByteArray} {n : Int} (h : MayR s n) : n = textE s := by
  refine may_one h ?_
  unfold MayR textE
  by_cases hb : 1024 < s.size
  · exact .inl ⟨hb, if_pos hb⟩
  · refine .inr ⟨by omega, ?_⟩
    rw [if_neg hb]
    by_cases ha : AllOk s
    · exact .inl ⟨ha, if_pos ha⟩
    · exact .inr ⟨ha, if_neg ha⟩
theorem text_bnd (s : ByteArray) : 0 ≤ textE s ∧ textE s ≤ 26 := by
  unfold textE
  split
  · omega
  · split <;> omega
theorem listGo_bnd : ∀ (xs ys : List ByteArray), 0 ≤ listGo ys xs ∧ listGo ys xs ≤ 26
  | [], ys => by simp [listGo]
  | x :: xs, ys => by
    unfold listGo
    split
    · omega
    · split
      · omega
      · exact listGo_bnd xs (x :: ys)
theorem names_bnd (xs : List ByteArray) : 0 ≤ namesE xs ∧ namesE xs ≤ 26 := by
  unfold namesE
  split
  · omega
  · split
    · omega
    · exact listGo_bnd xs []
theorem where_bnd (start size : Int) (mot : Bool) (n : Int) : 0 ≤ Pl.whereE start size mot n ∧ Pl.whereE start size mot n ≤ 26 := by
  unfold Pl.whereE
  cases h : Pl.bitsOfSig start size mot with
  | ok l => dsimp only; split <;> omega
  | error e => have := Pl.err_15 h; dsimp only; omega
def roleB (s : Sig) : Prop := s.role < 0 ∨ 2 < s.role ∨ (s.branch ≠ 0 ∧ s.role ≠ 2)
instance (s : Sig) : Decidable (roleB s) := by unfold roleB; infer_instance
/-- What is wrong with a signal by itself. -/
noncomputable def aloneE (s : Sig) (ss : List ByteArray) (n : Int) : Int :=
  if wordB s.name = false then 11 else if roleB s then 14
  else if Pl.whereE s.start s.size s.mot n ≠ 0 then Pl.whereE s.start s.size s.mot n
  else if rangedE s ≠ 0 then rangedE s
  else if textE s.unit ≠ 0 then textE s.unit
  else namesE ss
theorem alone_bnd (s : Sig) (ss : List ByteArray) (n : Int) : 0 ≤ aloneE s ss n ∧ aloneE s ss n ≤ 26 := by
  unfold aloneE
  have h1 := where_bnd s.start s.size s.mot n
  have h2 := ranged_bnd s
  have h3 := text_bnd s.unit
  have h4 := names_bnd ss
  repeat' split
  all_goals omega
set_option maxHeartbeats 8000000 in
theorem alone_ok (w : World) (s : Sig) (ss : List ByteArray) (n : Int) (hlen : ss.length = s.toN) (hrd : Rd w s.toA .string ss) (hB : SigB s) (hT : Tabs w) :
    Ret Tryd.prog 33 [.agg (Sig.cells s).toArray, .int .i64 n].toArray w (fun v w' => v = .int .i64 (aloneE s ss n) ∧ Below w.heap.size w w') := by
  refine enter2 Tryd.func33 rfl 58 rfl 60 rfl (fun a hF => ?_)
  unfold aloneE
  repeat (first | refine c_seq ?_ | refine c_block ?_ | refine c_region _ ?_ | refine wpList_nil ?_ | refine c_then ?_ | refine c_then_exit ?_ | refine c_then_ret ?_ | refine c_in ?_ | refine c_in_ret ?_ | refine c_in_hit ?_ | refine wp_skip ?_ | refine wp_exit ?_ | refine wp_ret ?_ | refine c_in_miss rfl ?_ | ((first | apply st hF | apply stg hF | apply s_step hF | apply s_stg hF); (first | exact d_move | exact d_assign | exact d_not | exact d_pickT | exact d_pickF | exact d_cmpT | exact d_cmpF | exact d_cmp | exact d_eqbT (und _ _ rfl) | exact d_eqbF (und _ _ rfl) | exact d_eqb (und _ _ rfl) | exact d_eqST | exact d_eqSF | exact d_eqS | exact d_len (und _ _ rfl) | exact d_lens (und _ _ rfl) | exact d_fieldAddr (fld _ _ _ _ rfl) (isz _ _ rfl) | exact d_eqN (ifc _ rfl) | exact d_neN (ifc _ rfl) | exact d_extract); clear hF; clear a; intro a hF) | ((first | apply stm hF | apply stu hF); clear hF; clear a; intro a hF) | (apply c_cond_t hF; exact rfl; first | exact rfl | assumption) | (apply c_cond_f hF; exact rfl; first | exact rfl | assumption) | refine s_nil ?_)
  refine st_box hF (cs := (Sig.cells s).toArray) rfl (k := fun a w1 hg1 hgr1 hsz1 hF => ?_)
  have hb1 : Below w.heap.size w w1 := (Below.refl _ w).grown hgr1 (Nat.le_refl _) (fun k hk => by cases hk)
  have sc : ∀ (wq : World) (o : Nat) (x : Value), wq.heap[w.heap.size]? = some (.cells (Sig.cells s).toArray 38 (0, 0)) → (Sig.cells s)[o]? = some x → wq.cell? ⟨w.heap.size, 0 + o, none⟩ = some x := fun wq o x hg h => cell_at hg (by simpa using h)
  repeat (first | refine c_seq ?_ | refine c_block ?_ | refine c_region _ ?_ | refine wpList_nil ?_ | refine c_then ?_ | refine c_then_exit ?_ | refine c_then_ret ?_ | refine c_in ?_ | refine c_in_ret ?_ | refine c_in_hit ?_ | refine wp_skip ?_ | refine wp_exit ?_ | refine wp_ret ?_ | refine c_in_miss rfl ?_ | ((first | apply st hF | apply stg hF | apply s_step hF | apply s_stg hF); (first | exact d_move | exact d_assign | exact d_not | exact d_pickT | exact d_pickF | exact d_cmpT | exact d_cmpF | exact d_cmp | exact d_eqbT (und _ _ rfl) | exact d_eqbF (und _ _ rfl) | exact d_eqb (und _ _ rfl) | exact d_eqST | exact d_eqSF | exact d_eqS | exact d_len (und _ _ rfl) | exact d_lens (und _ _ rfl) | exact d_fieldAddr (fld _ _ _ _ rfl) (isz _ _ rfl) | exact d_eqN (ifc _ rfl) | exact d_neN (ifc _ rfl) | exact d_extract | exact d_load (und _ _ rfl) (sc w1 2 _ hg1 rfl)); clear hF; clear a; intro a hF) | ((first | apply stm hF | apply stu hF); clear hF; clear a; intro a hF) | (apply c_cond_t hF; exact rfl; first | exact rfl | assumption) | (apply c_cond_f hF; exact rfl; first | exact rfl | assumption) | refine s_nil ?_)
  refine stc hF (word_ok' w1 s.name) cal50 ⟨rfl, trivial⟩ (k := fun a v w2 hR hF => ?_)
  obtain ⟨rfl, hb2⟩ := hR
  have hB2 := hb1.trans (hb2.mono hb1.size)
  have hg2 := (hb2.block _ (lt_at hg1)).trans hg1
  cases hw : wordB s.name with
  | false =>
    rw [hw] at hF
    repeat (first | refine c_seq ?_ | refine c_block ?_ | refine c_region _ ?_ | refine wpList_nil ?_ | refine c_then ?_ | refine c_then_exit ?_ | refine c_then_ret ?_ | refine c_in ?_ | refine c_in_ret ?_ | refine c_in_hit ?_ | refine wp_skip ?_ | refine wp_exit ?_ | refine wp_ret ?_ | refine c_in_miss rfl ?_ | ((first | apply st hF | apply stg hF | apply s_step hF | apply s_stg hF); (first | exact d_move | exact d_assign | exact d_not | exact d_pickT | exact d_pickF | exact d_cmpT | exact d_cmpF | exact d_cmp | exact d_eqbT (und _ _ rfl) | exact d_eqbF (und _ _ rfl) | exact d_eqb (und _ _ rfl) | exact d_eqST | exact d_eqSF | exact d_eqS | exact d_len (und _ _ rfl) | exact d_lens (und _ _ rfl) | exact d_fieldAddr (fld _ _ _ _ rfl) (isz _ _ rfl) | exact d_eqN (ifc _ rfl) | exact d_neN (ifc _ rfl) | exact d_extract); clear hF; clear a; intro a hF) | ((first | apply stm hF | apply stu hF); clear hF; clear a; intro a hF) | (apply c_cond_t hF; exact rfl; first | exact rfl | assumption) | (apply c_cond_f hF; exact rfl; first | exact rfl | assumption) | refine s_nil ?_)
    exact ret1 hF rfl rfl ⟨by rw [if_pos rfl], hB2⟩
  | true =>
  rw [hw] at hF
  rw [if_neg (by decide)]
  -- the role
  have go : roleB s ∨ ¬ roleB s := Classical.em _
  have r0 := sc w2 3 _ hg2 rfl
  have r1 := sc w2 4 _ hg2 rfl
  rcases go with hr | hr
  · rw [if_pos hr]
    by_cases c1 : s.role < 0
    · repeat (first | refine c_seq ?_ | refine c_block ?_ | refine c_region _ ?_ | refine wpList_nil ?_ | refine c_then ?_ | refine c_then_exit ?_ | refine c_then_ret ?_ | refine c_in ?_ | refine c_in_ret ?_ | refine c_in_hit ?_ | refine wp_skip ?_ | refine wp_exit ?_ | refine wp_ret ?_ | refine c_in_miss rfl ?_ | ((first | apply st hF | apply stg hF | apply s_step hF | apply s_stg hF); (first | exact d_move | exact d_assign | exact d_not | exact d_pickT | exact d_pickF | exact d_cmpT | exact d_cmpF | exact d_cmp | exact d_eqbT (und _ _ rfl) | exact d_eqbF (und _ _ rfl) | exact d_eqb (und _ _ rfl) | exact d_eqST | exact d_eqSF | exact d_eqS | exact d_len (und _ _ rfl) | exact d_lens (und _ _ rfl) | exact d_fieldAddr (fld _ _ _ _ rfl) (isz _ _ rfl) | exact d_eqN (ifc _ rfl) | exact d_neN (ifc _ rfl) | exact d_extract | exact d_load (und _ _ rfl) r0 | exact d_load (und _ _ rfl) r1); clear hF; clear a; intro a hF) | ((first | apply stm hF | apply stu hF); clear hF; clear a; intro a hF) | (apply c_cond_t hF; exact rfl; first | exact rfl | assumption) | (apply c_cond_f hF; exact rfl; first | exact rfl | assumption) | refine s_nil ?_)
      exact ret1 hF rfl rfl ⟨rfl, hB2⟩
    by_cases c2 : s.role > 2
    · repeat (first | refine c_seq ?_ | refine c_block ?_ | refine c_region _ ?_ | refine wpList_nil ?_ | refine c_then ?_ | refine c_then_exit ?_ | refine c_then_ret ?_ | refine c_in ?_ | refine c_in_ret ?_ | refine c_in_hit ?_ | refine wp_skip ?_ | refine wp_exit ?_ | refine wp_ret ?_ | refine c_in_miss rfl ?_ | ((first | apply st hF | apply stg hF | apply s_step hF | apply s_stg hF); (first | exact d_move | exact d_assign | exact d_not | exact d_pickT | exact d_pickF | exact d_cmpT | exact d_cmpF | exact d_cmp | exact d_eqbT (und _ _ rfl) | exact d_eqbF (und _ _ rfl) | exact d_eqb (und _ _ rfl) | exact d_eqST | exact d_eqSF | exact d_eqS | exact d_len (und _ _ rfl) | exact d_lens (und _ _ rfl) | exact d_fieldAddr (fld _ _ _ _ rfl) (isz _ _ rfl) | exact d_eqN (ifc _ rfl) | exact d_neN (ifc _ rfl) | exact d_extract | exact d_load (und _ _ rfl) r0 | exact d_load (und _ _ rfl) r1); clear hF; clear a; intro a hF) | ((first | apply stm hF | apply stu hF); clear hF; clear a; intro a hF) | (apply c_cond_t hF; exact rfl; first | exact rfl | assumption) | (apply c_cond_f hF; exact rfl; first | exact rfl | assumption) | refine s_nil ?_)
      exact ret1 hF rfl rfl ⟨rfl, hB2⟩
    obtain ⟨c3, c4⟩ : s.branch ≠ 0 ∧ s.role ≠ 2 := by
      rcases hr with h | h | h
      · exact absurd h c1
      · exact absurd h c2
      · exact h
    repeat (first | refine c_seq ?_ | refine c_block ?_ | refine c_region _ ?_ | refine wpList_nil ?_ | refine c_then ?_ | refine c_then_exit ?_ | refine c_then_ret ?_ | refine c_in ?_ | refine c_in_ret ?_ | refine c_in_hit ?_ | refine wp_skip ?_ | refine wp_exit ?_ | refine wp_ret ?_ | refine c_in_miss rfl ?_ | ((first | apply st hF | apply stg hF | apply s_step hF | apply s_stg hF); (first | exact d_move | exact d_assign | exact d_not | exact d_pickT | exact d_pickF | exact d_cmpT | exact d_cmpF | exact d_cmp | exact d_eqbT (und _ _ rfl) | exact d_eqbF (und _ _ rfl) | exact d_eqb (und _ _ rfl) | exact d_eqST | exact d_eqSF | exact d_eqS | exact d_len (und _ _ rfl) | exact d_lens (und _ _ rfl) | exact d_fieldAddr (fld _ _ _ _ rfl) (isz _ _ rfl) | exact d_eqN (ifc _ rfl) | exact d_neN (ifc _ rfl) | exact d_extract | exact d_load (und _ _ rfl) r0 | exact d_load (und _ _ rfl) r1); clear hF; clear a; intro a hF) | ((first | apply stm hF | apply stu hF); clear hF; clear a; intro a hF) | (apply c_cond_t hF; exact rfl; first | exact rfl | assumption) | (apply c_cond_f hF; exact rfl; first | exact rfl | assumption) | refine s_nil ?_)
    exact ret1 hF rfl rfl ⟨rfl, hB2⟩
  rw [if_neg hr]
  have c1 : ¬ s.role < 0 := fun h => hr (.inl h)
  have c2 : ¬ s.role > 2 := fun h => hr (.inr (.inl h))
  have c3 : s.branch = 0 ∨ s.role = 2 := by
    by_cases h : s.branch = 0
    · exact .inl h
    · exact .inr (Classical.byContradiction fun h2 => hr (.inr (.inr ⟨h, h2⟩)))
  clear hr r0 r1
  -- the other checks
  rcases Classical.em (s.branch = 0) with c4 | c4
  all_goals
    repeat (first | refine c_seq ?_ | refine c_block ?_ | refine c_region _ ?_ | refine wpList_nil ?_ | refine c_then ?_ | refine c_then_exit ?_ | refine c_then_ret ?_ | refine c_in ?_ | refine c_in_ret ?_ | refine c_in_hit ?_ | refine wp_skip ?_ | refine wp_exit ?_ | refine wp_ret ?_ | refine c_in_miss rfl ?_ | ((first | apply st hF | apply stg hF | apply s_step hF | apply s_stg hF); (first | exact d_move | exact d_assign | exact d_not | exact d_pickT | exact d_pickF | exact d_cmpT | exact d_cmpF | exact d_cmp | exact d_eqbT (und _ _ rfl) | exact d_eqbF (und _ _ rfl) | exact d_eqb (und _ _ rfl) | exact d_eqST | exact d_eqSF | exact d_eqS | exact d_len (und _ _ rfl) | exact d_lens (und _ _ rfl) | exact d_fieldAddr (fld _ _ _ _ rfl) (isz _ _ rfl) | exact d_eqN (ifc _ rfl) | exact d_neN (ifc _ rfl) | exact d_extract | exact d_loadAgg (agg _ rfl) (isz _ _ rfl) rfl (cells_at hg2) | exact d_load (und _ _ rfl) (sc w2 3 _ hg2 rfl) | exact d_load (und _ _ rfl) (sc w2 4 _ hg2 rfl)); clear hF; clear a; intro a hF) | ((first | apply stm hF | apply stu hF); clear hF; clear a; intro a hF) | (apply c_cond_t hF; exact rfl; first | exact rfl | assumption) | (apply c_cond_f hF; exact rfl; first | exact rfl | assumption) | refine s_nil ?_)
    refine stc hF (where_ok w2 (Sig.cells s).toArray s.start s.size n s.mot ⟨rfl, rfl, rfl, rfl⟩ (sig_cells s)) cal60 ⟨rfl, rfl, trivial⟩ (k := fun a v w3 hR hF => ?_)
    obtain ⟨⟨se, hse, rfl, -⟩, hb3⟩ := hR
    have hB3 := hB2.trans (hb3.mono hB2.size)
    have hg3 := (hb3.block _ (lt_at hg2)).trans hg2
    repeat (first | refine c_seq ?_ | refine c_block ?_ | refine c_region _ ?_ | refine wpList_nil ?_ | refine c_then ?_ | refine c_then_exit ?_ | refine c_then_ret ?_ | refine c_in ?_ | refine c_in_ret ?_ | refine c_in_hit ?_ | refine wp_skip ?_ | refine wp_exit ?_ | refine wp_ret ?_ | refine c_in_miss rfl ?_ | ((first | apply st hF | apply stg hF | apply s_step hF | apply s_stg hF); (first | exact d_move | exact d_assign | exact d_not | exact d_pickT | exact d_pickF | exact d_cmpT | exact d_cmpF | exact d_cmp | exact d_eqbT (und _ _ rfl) | exact d_eqbF (und _ _ rfl) | exact d_eqb (und _ _ rfl) | exact d_eqST | exact d_eqSF | exact d_eqS | exact d_len (und _ _ rfl) | exact d_lens (und _ _ rfl) | exact d_fieldAddr (fld _ _ _ _ rfl) (isz _ _ rfl) | exact d_eqN (ifc _ rfl) | exact d_neN (ifc _ rfl) | exact d_extract); clear hF; clear a; intro a hF) | ((first | apply stm hF | apply stu hF); clear hF; clear a; intro a hF) | (apply c_cond_t hF; exact rfl; first | exact rfl | assumption) | (apply c_cond_f hF; exact rfl; first | exact rfl | assumption) | refine s_nil ?_)
    refine st_alloc hF inf85 (k := fun a w4 hs4 hgr4 hsz4 hF => ?_)
    refine st_storeAgg hF (cs := setC se) (isz _ _ rfl) (by rw [setC_size, hse]) rfl hs4 (setC_cells _) (k := fun a w5 hs5 hgr5 hsz5 hF => ?_)
    have hz3 := hB3.size
    have hB5 : Below w.heap.size w w5 := (hB3.grown hgr4 hz3 (fun k hk => by cases hk)).grown hgr5 (by omega) (fun k hk => by cases hk; exact hz3)
    have hlt3 := lt_at hg3
    have hg5 := blk_kept (blk_kept hg3 hgr4 (by simp)) hgr5 (by simp; omega)
    generalize Pl.whereE s.start s.size s.mot n = we at hF ⊢
    by_cases hwe : we = 0
    · rw [if_neg (fun h => h hwe)]
      clear hgr4 hgr5 hs4 hs5 hb3 hb2 hb1 hg1 hg2 hg3 hgr1
      repeat (first | refine c_seq ?_ | refine c_block ?_ | refine c_region _ ?_ | refine wpList_nil ?_ | refine c_then ?_ | refine c_then_exit ?_ | refine c_then_ret ?_ | refine c_in ?_ | refine c_in_ret ?_ | refine c_in_hit ?_ | refine wp_skip ?_ | refine wp_exit ?_ | refine wp_ret ?_ | refine c_in_miss rfl ?_ | ((first | apply st hF | apply stg hF | apply s_step hF | apply s_stg hF); (first | exact d_move | exact d_assign | exact d_not | exact d_pickT | exact d_pickF | exact d_cmpT | exact d_cmpF | exact d_cmp | exact d_eqbT (und _ _ rfl) | exact d_eqbF (und _ _ rfl) | exact d_eqb (und _ _ rfl) | exact d_eqST | exact d_eqSF | exact d_eqS | exact d_len (und _ _ rfl) | exact d_lens (und _ _ rfl) | exact d_fieldAddr (fld _ _ _ _ rfl) (isz _ _ rfl) | exact d_eqN (ifc _ rfl) | exact d_neN (ifc _ rfl) | exact d_extract | exact d_loadAgg (agg _ rfl) (isz _ _ rfl) rfl (cells_at hg5)); clear hF; clear a; intro a hF) | ((first | apply stm hF | apply stu hF); clear hF; clear a; intro a hF) | (apply c_cond_t hF; exact rfl; first | exact rfl | assumption) | (apply c_cond_f hF; exact rfl; first | exact rfl | assumption) | refine s_nil ?_)
      refine stc hF (ranged_ok w5 s hB) cal61 ⟨rfl, trivial⟩ (k := fun a v w6 hR hF => ?_)
      obtain ⟨rfl, hb6⟩ := hR
      have hB6 := hB5.trans (hb6.mono hB5.size)
      have hg6 := (hb6.block _ (lt_at hg5)).trans hg5
      generalize rangedE s = re at hF ⊢
      by_cases hre : re = 0
      · rw [if_neg (fun h => h hre)]
        repeat (first | refine c_seq ?_ | refine c_block ?_ | refine c_region _ ?_ | refine wpList_nil ?_ | refine c_then ?_ | refine c_then_exit ?_ | refine c_then_ret ?_ | refine c_in ?_ | refine c_in_ret ?_ | refine c_in_hit ?_ | refine wp_skip ?_ | refine wp_exit ?_ | refine wp_ret ?_ | refine c_in_miss rfl ?_ | ((first | apply st hF | apply stg hF | apply s_step hF | apply s_stg hF); (first | exact d_move | exact d_assign | exact d_not | exact d_pickT | exact d_pickF | exact d_cmpT | exact d_cmpF | exact d_cmp | exact d_eqbT (und _ _ rfl) | exact d_eqbF (und _ _ rfl) | exact d_eqb (und _ _ rfl) | exact d_eqST | exact d_eqSF | exact d_eqS | exact d_len (und _ _ rfl) | exact d_lens (und _ _ rfl) | exact d_fieldAddr (fld _ _ _ _ rfl) (isz _ _ rfl) | exact d_eqN (ifc _ rfl) | exact d_neN (ifc _ rfl) | exact d_extract | exact d_load (und _ _ rfl) (sc w6 17 _ hg6 rfl)); clear hF; clear a; intro a hF) | ((first | apply stm hF | apply stu hF); clear hF; clear a; intro a hF) | (apply c_cond_t hF; exact rfl; first | exact rfl | assumption) | (apply c_cond_f hF; exact rfl; first | exact rfl | assumption) | refine s_nil ?_)
        refine stc hF (text_ok w6 s.unit (hT.below hB6)) cal48 ⟨rfl, trivial⟩ (k := fun a v w7 hR hF => ?_)
        obtain ⟨⟨m, hm, rfl⟩, hb7⟩ := hR
        rw [text_is hm] at hF
        have hB7 := hB6.trans (hb7.mono hB6.size)
        have hg7 := (hb7.block _ (lt_at hg6)).trans hg6
        generalize textE s.unit = te at hF ⊢
        by_cases hte : te = 0
        · rw [if_neg (fun h => h hte)]
          unfold namesE
          by_cases hn0 : ss.length = 0
          · rw [if_pos hn0]
            repeat (first | refine c_seq ?_ | refine c_block ?_ | refine c_region _ ?_ | refine wpList_nil ?_ | refine c_then ?_ | refine c_then_exit ?_ | refine c_then_ret ?_ | refine c_in ?_ | refine c_in_ret ?_ | refine c_in_hit ?_ | refine wp_skip ?_ | refine wp_exit ?_ | refine wp_ret ?_ | refine c_in_miss rfl ?_ | ((first | apply st hF | apply stg hF | apply s_step hF | apply s_stg hF); (first | exact d_move | exact d_assign | exact d_not | exact d_pickT | exact d_pickF | exact d_cmpT | exact d_cmpF | exact d_cmp | exact d_eqbT (und _ _ rfl) | exact d_eqbF (und _ _ rfl) | exact d_eqb (und _ _ rfl) | exact d_eqST | exact d_eqSF | exact d_eqS | exact d_len (und _ _ rfl) | exact d_lens (und _ _ rfl) | exact d_fieldAddr (fld _ _ _ _ rfl) (isz _ _ rfl) | exact d_eqN (ifc _ rfl) | exact d_neN (ifc _ rfl) | exact d_extract | exact d_load (und _ _ rfl) (sc w7 18 _ hg7 rfl)); clear hF; clear a; intro a hF) | ((first | apply stm hF | apply stu hF); clear hF; clear a; intro a hF) | (apply c_cond_t hF; exact rfl; first | exact rfl | assumption) | (apply c_cond_f hF; exact rfl; first | exact rfl | assumption) | refine s_nil ?_)
            exact ret1 hF rfl rfl ⟨rfl, hB7⟩
          · rw [if_neg hn0]
            repeat (first | refine c_seq ?_ | refine c_block ?_ | refine c_region _ ?_ | refine wpList_nil ?_ | refine c_then ?_ | refine c_then_exit ?_ | refine c_then_ret ?_ | refine c_in ?_ | refine c_in_ret ?_ | refine c_in_hit ?_ | refine wp_skip ?_ | refine wp_exit ?_ | refine wp_ret ?_ | refine c_in_miss rfl ?_ | ((first | apply st hF | apply stg hF | apply s_step hF | apply s_stg hF); (first | exact d_move | exact d_assign | exact d_not | exact d_pickT | exact d_pickF | exact d_cmpT | exact d_cmpF | exact d_cmp | exact d_eqbT (und _ _ rfl) | exact d_eqbF (und _ _ rfl) | exact d_eqb (und _ _ rfl) | exact d_eqST | exact d_eqSF | exact d_eqS | exact d_len (und _ _ rfl) | exact d_lens (und _ _ rfl) | exact d_fieldAddr (fld _ _ _ _ rfl) (isz _ _ rfl) | exact d_eqN (ifc _ rfl) | exact d_neN (ifc _ rfl) | exact d_extract | exact d_load (und _ _ rfl) (sc w7 18 _ hg7 rfl)); clear hF; clear a; intro a hF) | ((first | apply stm hF | apply stu hF); clear hF; clear a; intro a hF) | (apply c_cond_t hF; exact rfl; first | exact rfl | assumption) | (apply c_cond_f hF; exact rfl; first | exact rfl | assumption) | refine s_nil ?_)
            refine stc hF (list_ok w7 ss s.toA s.toN s.toC 64 hlen (hrd.below hB7) (by decide)) cal49 ⟨rfl, rfl, trivial⟩ (k := fun a v w8 hR hF => ?_)
            obtain ⟨rfl, hb8⟩ := hR
            have hB8 := hB7.trans (hb8.mono hB7.size)
            repeat (first | refine c_seq ?_ | refine c_block ?_ | refine c_region _ ?_ | refine wpList_nil ?_ | refine c_then ?_ | refine c_then_exit ?_ | refine c_then_ret ?_ | refine c_in ?_ | refine c_in_ret ?_ | refine c_in_hit ?_ | refine wp_skip ?_ | refine wp_exit ?_ | refine wp_ret ?_ | refine c_in_miss rfl ?_ | ((first | apply st hF | apply stg hF | apply s_step hF | apply s_stg hF); (first | exact d_move | exact d_assign | exact d_not | exact d_pickT | exact d_pickF | exact d_cmpT | exact d_cmpF | exact d_cmp | exact d_eqbT (und _ _ rfl) | exact d_eqbF (und _ _ rfl) | exact d_eqb (und _ _ rfl) | exact d_eqST | exact d_eqSF | exact d_eqS | exact d_len (und _ _ rfl) | exact d_lens (und _ _ rfl) | exact d_fieldAddr (fld _ _ _ _ rfl) (isz _ _ rfl) | exact d_eqN (ifc _ rfl) | exact d_neN (ifc _ rfl) | exact d_extract); clear hF; clear a; intro a hF) | ((first | apply stm hF | apply stu hF); clear hF; clear a; intro a hF) | (apply c_cond_t hF; exact rfl; first | exact rfl | assumption) | (apply c_cond_f hF; exact rfl; first | exact rfl | assumption) | refine s_nil ?_)
            refine ret1 hF rfl rfl ⟨?_, hB8⟩
            rw [hlen]
            by_cases h64 : 64 < s.toN
            · rw [if_pos (by omega), if_pos h64]
            · rw [if_neg (by omega), if_neg h64]
        · rw [if_pos hte]
          repeat (first | refine c_seq ?_ | refine c_block ?_ | refine c_region _ ?_ | refine wpList_nil ?_ | refine c_then ?_ | refine c_then_exit ?_ | refine c_then_ret ?_ | refine c_in ?_ | refine c_in_ret ?_ | refine c_in_hit ?_ | refine wp_skip ?_ | refine wp_exit ?_ | refine wp_ret ?_ | refine c_in_miss rfl ?_ | ((first | apply st hF | apply stg hF | apply s_step hF | apply s_stg hF); (first | exact d_move | exact d_assign | exact d_not | exact d_pickT | exact d_pickF | exact d_cmpT | exact d_cmpF | exact d_cmp | exact d_eqbT (und _ _ rfl) | exact d_eqbF (und _ _ rfl) | exact d_eqb (und _ _ rfl) | exact d_eqST | exact d_eqSF | exact d_eqS | exact d_len (und _ _ rfl) | exact d_lens (und _ _ rfl) | exact d_fieldAddr (fld _ _ _ _ rfl) (isz _ _ rfl) | exact d_eqN (ifc _ rfl) | exact d_neN (ifc _ rfl) | exact d_extract); clear hF; clear a; intro a hF) | ((first | apply stm hF | apply stu hF); clear hF; clear a; intro a hF) | (apply c_cond_t hF; exact rfl; first | exact rfl | assumption) | (apply c_cond_f hF; exact rfl; first | exact rfl | assumption) | refine s_nil ?_)
          exact ret1 hF rfl rfl ⟨rfl, hB7⟩
      · rw [if_pos hre]
        repeat (first | refine c_seq ?_ | refine c_block ?_ | refine c_region _ ?_ | refine wpList_nil ?_ | refine c_then ?_ | refine c_then_exit ?_ | refine c_then_ret ?_ | refine c_in ?_ | refine c_in_ret ?_ | refine c_in_hit ?_ | refine wp_skip ?_ | refine wp_exit ?_ | refine wp_ret ?_ | refine c_in_miss rfl ?_ | ((first | apply st hF | apply stg hF | apply s_step hF | apply s_stg hF); (first | exact d_move | exact d_assign | exact d_not | exact d_pickT | exact d_pickF | exact d_cmpT | exact d_cmpF | exact d_cmp | exact d_eqbT (und _ _ rfl) | exact d_eqbF (und _ _ rfl) | exact d_eqb (und _ _ rfl) | exact d_eqST | exact d_eqSF | exact d_eqS | exact d_len (und _ _ rfl) | exact d_lens (und _ _ rfl) | exact d_fieldAddr (fld _ _ _ _ rfl) (isz _ _ rfl) | exact d_eqN (ifc _ rfl) | exact d_neN (ifc _ rfl) | exact d_extract); clear hF; clear a; intro a hF) | ((first | apply stm hF | apply stu hF); clear hF; clear a; intro a hF) | (apply c_cond_t hF; exact rfl; first | exact rfl | assumption) | (apply c_cond_f hF; exact rfl; first | exact rfl | assumption) | refine s_nil ?_)
        exact ret1 hF rfl rfl ⟨rfl, hB6⟩
    · rw [if_pos hwe]
      repeat (first | refine c_seq ?_ | refine c_block ?_ | refine c_region _ ?_ | refine wpList_nil ?_ | refine c_then ?_ | refine c_then_exit ?_ | refine c_then_ret ?_ | refine c_in ?_ | refine c_in_ret ?_ | refine c_in_hit ?_ | refine wp_skip ?_ | refine wp_exit ?_ | refine wp_ret ?_ | refine c_in_miss rfl ?_ | ((first | apply st hF | apply stg hF | apply s_step hF | apply s_stg hF); (first | exact d_move | exact d_assign | exact d_not | exact d_pickT | exact d_pickF | exact d_cmpT | exact d_cmpF | exact d_cmp | exact d_eqbT (und _ _ rfl) | exact d_eqbF (und _ _ rfl) | exact d_eqb (und _ _ rfl) | exact d_eqST | exact d_eqSF | exact d_eqS | exact d_len (und _ _ rfl) | exact d_lens (und _ _ rfl) | exact d_fieldAddr (fld _ _ _ _ rfl) (isz _ _ rfl) | exact d_eqN (ifc _ rfl) | exact d_neN (ifc _ rfl) | exact d_extract); clear hF; clear a; intro a hF) | ((first | apply stm hF | apply stu hF); clear hF; clear a; intro a hF) | (apply c_cond_t hF; exact rfl; first | exact rfl | assumption) | (apply c_cond_f hF; exact rfl; first | exact rfl | assumption) | refine s_nil ?_)
      exact ret1 hF rfl rfl ⟨rfl, hB5⟩
end Go.Proofs.YtjomihhpglojpaaDoor
end
section
/- Messages: their cells. -/
namespace Go.Proofs.YtjomihhpglojpaaDoor
open Go.RowKit
set_option linter.unusedSimpArgs false
set_option linter.unusedVariables false
attribute [local irreducible] wpList wpQuiet wpStill Code.wp Exit.then Exit.inBlock bodyPost Calls Does Does0

/-- A message's fields. -/
structure Msg where
  line : Int
  col : Int
  id : Int
  wide : Bool
  name : ByteArray
  size : Int
  sender : ByteArray
  sg : Option Addr
  sgN : Nat
  sgC : Nat
def Msg.cells (m : Msg) : List Value := [.int .i64 m.line, .int .i64 m.col, .int .u32 m.id, .bool m.wide, .string m.name, .int .i64 m.size, .string m.sender, .slice m.sg m.sgN m.sgC]
def Msg.at (m : Msg) (g c : Nat) : Msg := { m with sg := some ⟨g, 0, none⟩, sgC := c }
theorem msg_cells (m : Msg) : ∀ v ∈ (Msg.cells m).toArray, v.oneCell' = true := by
  intro v hv
  simp [Msg.cells] at hv
  rcases hv with rfl | rfl | rfl | rfl | rfl | rfl | rfl | rfl <;> rfl
end Go.Proofs.YtjomihhpglojpaaDoor
end
