/- Laid together by a program of mine: SigL. -/
import Derived.Test.YtjomihhpglojpaaDoorSumLawSignalS30
import Derived.Test.YtjomihhpglojpaaDoorSumLawSignalS32
set_option linter.unusedSimpArgs false
set_option linter.unusedVariables false
section
/- CheckSignal, walked. -/
namespace Go.Proofs.YtjomihhpglojpaaDoor
open Go.RowKit
set_option linter.unusedSimpArgs false
set_option linter.unusedVariables false
attribute [local irreducible] wpList wpQuiet wpStill Code.wp Exit.then Exit.inBlock bodyPost Calls Does Does0
set_option maxRecDepth 100000
/-- What at returns. -/
def atV (n x y : Int) : Value := if n = 0 then .nilIface else fltV n x y
/-- What the reference's at returns. -/
def ratV (n x y : Int) : Array Value := if n = 0 then #[.int .i64 0, .int .i64 0, .int .i64 0] else #[.int .i64 n, .int .i64 x, .int .i64 y]
theorem cat_ok (w : World) (n x y : Int) : Ret Tryd.prog 32 [.int .i64 n, .agg #[.int .i64 x, .int .i64 y]].toArray w (fun v w' => v = atV n x y ∧ Below w.heap.size w w') := by
  refine enter2 Tryd.func32 rfl 12 rfl 14 rfl (fun a hF => ?_)
  repeat (first | refine c_seq ?_ | refine c_block ?_ | refine c_region _ ?_ | refine wpList_nil ?_ | refine c_then ?_ | refine c_then_exit ?_ | refine c_then_ret ?_ | refine c_in ?_ | refine c_in_ret ?_ | refine c_in_hit ?_ | refine wp_skip ?_ | refine wp_exit ?_ | refine wp_ret ?_ | refine c_in_miss rfl ?_ | ((first | apply st hF | apply stg hF | apply s_step hF | apply s_stg hF); (first | exact d_move | exact d_assign | exact d_cmpT | exact d_cmpF | exact d_cmp | exact d_eqbT (und _ _ rfl) | exact d_eqbF (und _ _ rfl) | exact d_eqb (und _ _ rfl) | exact d_eqST | exact d_eqSF | exact d_eqS | exact d_fieldAddr (fld _ _ _ _ rfl) (isz _ _ rfl) | exact d_eqN (ifc _ rfl) | exact d_neN (ifc _ rfl) | exact d_makeI (con _ rfl)); clear hF; clear a; intro a hF) | ((first | apply stm hF | apply stu hF); clear hF; clear a; intro a hF) | (apply c_cond_t hF; exact rfl; first | exact rfl | assumption) | (apply c_cond_f hF; exact rfl; first | exact rfl | assumption) | refine s_nil ?_)
  refine st_box hF (cs := #[.int .i64 x, .int .i64 y]) rfl (k := fun a w1 hg1 hgr1 hsz1 hF => ?_)
  have hb1 : Below w.heap.size w w1 := (Below.refl _ w).grown hgr1 (Nat.le_refl _) (fun k hk => by cases hk)
  have c0 : w1.cell? ⟨w.heap.size, 0 + 0, none⟩ = some (.int .i64 x) := cell_at hg1 rfl
  have c1 : w1.cell? ⟨w.heap.size, 0 + 1, none⟩ = some (.int .i64 y) := cell_at hg1 rfl
  unfold atV
  by_cases h : n = 0
  · rw [if_pos h]
    repeat (first | refine c_seq ?_ | refine c_block ?_ | refine c_region _ ?_ | refine wpList_nil ?_ | refine c_then ?_ | refine c_then_exit ?_ | refine c_then_ret ?_ | refine c_in ?_ | refine c_in_ret ?_ | refine c_in_hit ?_ | refine wp_skip ?_ | refine wp_exit ?_ | refine wp_ret ?_ | refine c_in_miss rfl ?_ | ((first | apply st hF | apply stg hF | apply s_step hF | apply s_stg hF); (first | exact d_move | exact d_assign | exact d_cmpT | exact d_cmpF | exact d_cmp | exact d_eqbT (und _ _ rfl) | exact d_eqbF (und _ _ rfl) | exact d_eqb (und _ _ rfl) | exact d_eqST | exact d_eqSF | exact d_eqS | exact d_fieldAddr (fld _ _ _ _ rfl) (isz _ _ rfl) | exact d_eqN (ifc _ rfl) | exact d_neN (ifc _ rfl) | exact d_makeI (con _ rfl)); clear hF; clear a; intro a hF) | ((first | apply stm hF | apply stu hF); clear hF; clear a; intro a hF) | (apply c_cond_t hF; exact rfl; first | exact rfl | assumption) | (apply c_cond_f hF; exact rfl; first | exact rfl | assumption) | refine s_nil ?_)
    exact ret1 hF rfl rfl ⟨rfl, hb1⟩
  · rw [if_neg h]
    repeat (first | refine c_seq ?_ | refine c_block ?_ | refine c_region _ ?_ | refine wpList_nil ?_ | refine c_then ?_ | refine c_then_exit ?_ | refine c_then_ret ?_ | refine c_in ?_ | refine c_in_ret ?_ | refine c_in_hit ?_ | refine wp_skip ?_ | refine wp_exit ?_ | refine wp_ret ?_ | refine c_in_miss rfl ?_ | ((first | apply st hF | apply stg hF | apply s_step hF | apply s_stg hF); (first | exact d_move | exact d_assign | exact d_cmpT | exact d_cmpF | exact d_cmp | exact d_eqbT (und _ _ rfl) | exact d_eqbF (und _ _ rfl) | exact d_eqb (und _ _ rfl) | exact d_eqST | exact d_eqSF | exact d_eqS | exact d_fieldAddr (fld _ _ _ _ rfl) (isz _ _ rfl) | exact d_eqN (ifc _ rfl) | exact d_neN (ifc _ rfl) | exact d_makeI (con _ rfl) | exact d_build (vs := [(0, .int .i64 n), (1, .int .i64 x), (2, .int .i64 y)]) (cells := #[.int .i64 n, .int .i64 x, .int .i64 y]) (by kernel_rfl) ⟨rfl, rfl, rfl, rfl, rfl, rfl, trivial⟩ | exact d_load (und _ _ rfl) c0 | exact d_load (und _ _ rfl) c1); clear hF; clear a; intro a hF) | ((first | apply stm hF | apply stu hF); clear hF; clear a; intro a hF) | (apply c_cond_t hF; exact rfl; first | exact rfl | assumption) | (apply c_cond_f hF; exact rfl; first | exact rfl | assumption) | refine s_nil ?_)
    exact ret1 hF rfl rfl ⟨rfl, hb1⟩
theorem rat9_ok (w : World) (n x y : Int) : Ret Tryd.prog 45 [.int .i64 n, .agg #[.int .i64 x, .int .i64 y]].toArray w (fun v w' => v = .agg (ratV n x y) ∧ Below w.heap.size w w') := by
  refine enter2 Tryd.func45 rfl 9 rfl 11 rfl (fun a hF => ?_)
  repeat (first | refine c_seq ?_ | refine c_block ?_ | refine c_region _ ?_ | refine wpList_nil ?_ | refine c_then ?_ | refine c_then_exit ?_ | refine c_then_ret ?_ | refine c_in ?_ | refine c_in_ret ?_ | refine c_in_hit ?_ | refine wp_skip ?_ | refine wp_exit ?_ | refine wp_ret ?_ | refine c_in_miss rfl ?_ | ((first | apply st hF | apply stg hF | apply s_step hF | apply s_stg hF); (first | exact d_move | exact d_cmpT | exact d_cmpF | exact d_cmp | exact d_eqbT (und _ _ rfl) | exact d_eqbF (und _ _ rfl) | exact d_eqb (und _ _ rfl) | exact d_eqST | exact d_eqSF | exact d_eqS | exact d_eqN (ifc _ rfl) | exact d_neN (ifc _ rfl)); clear hF; clear a; intro a hF) | ((first | apply stm hF | apply stu hF); clear hF; clear a; intro a hF) | (apply c_cond_t hF; exact rfl; first | exact rfl | assumption) | (apply c_cond_f hF; exact rfl; first | exact rfl | assumption) | refine s_nil ?_)
  refine st_box hF (cs := #[.int .i64 x, .int .i64 y]) rfl (k := fun a w1 hg1 hgr1 hsz1 hF => ?_)
  have hb1 : Below w.heap.size w w1 := (Below.refl _ w).grown hgr1 (Nat.le_refl _) (fun k hk => by cases hk)
  refine st_alloc hF inf51 (k := fun a w2 hg2 hgr2 hsz2 hF => ?_)
  have hb2 : Below w.heap.size w w2 := hb1.grown hgr2 hb1.size (fun k hk => by cases hk)
  have hg12 := blk_kept hg1 hgr2 (by simp)
  unfold ratV
  by_cases h : n = 0
  · rw [if_pos h]
    repeat (first | refine c_seq ?_ | refine c_block ?_ | refine c_region _ ?_ | refine wpList_nil ?_ | refine c_then ?_ | refine c_then_exit ?_ | refine c_then_ret ?_ | refine c_in ?_ | refine c_in_ret ?_ | refine c_in_hit ?_ | refine wp_skip ?_ | refine wp_exit ?_ | refine wp_ret ?_ | refine c_in_miss rfl ?_ | ((first | apply st hF | apply stg hF | apply s_step hF | apply s_stg hF); (first | exact d_move | exact d_cmpT | exact d_cmpF | exact d_cmp | exact d_eqbT (und _ _ rfl) | exact d_eqbF (und _ _ rfl) | exact d_eqb (und _ _ rfl) | exact d_eqST | exact d_eqSF | exact d_eqS | exact d_eqN (ifc _ rfl) | exact d_neN (ifc _ rfl) | exact d_build (vs := []) (cells := #[.int .i64 0, .int .i64 0, .int .i64 0]) (by kernel_rfl) trivial); clear hF; clear a; intro a hF) | ((first | apply stm hF | apply stu hF); clear hF; clear a; intro a hF) | (apply c_cond_t hF; exact rfl; first | exact rfl | assumption) | (apply c_cond_f hF; exact rfl; first | exact rfl | assumption) | refine s_nil ?_)
    refine st_storeAgg hF (cs := #[.int .i64 0, .int .i64 0, .int .i64 0]) (isz _ _ rfl) rfl rfl hg2 (by simp [Value.oneCell']) (k := fun a w3 hg3 hgr3 hsz3 hF => ?_)
    repeat (first | refine c_seq ?_ | refine c_block ?_ | refine c_region _ ?_ | refine wpList_nil ?_ | refine c_then ?_ | refine c_then_exit ?_ | refine c_then_ret ?_ | refine c_in ?_ | refine c_in_ret ?_ | refine c_in_hit ?_ | refine wp_skip ?_ | refine wp_exit ?_ | refine wp_ret ?_ | refine c_in_miss rfl ?_ | ((first | apply st hF | apply stg hF | apply s_step hF | apply s_stg hF); (first | exact d_move | exact d_cmpT | exact d_cmpF | exact d_cmp | exact d_eqbT (und _ _ rfl) | exact d_eqbF (und _ _ rfl) | exact d_eqb (und _ _ rfl) | exact d_eqST | exact d_eqSF | exact d_eqS | exact d_eqN (ifc _ rfl) | exact d_neN (ifc _ rfl)); clear hF; clear a; intro a hF) | ((first | apply stm hF | apply stu hF); clear hF; clear a; intro a hF) | (apply c_cond_t hF; exact rfl; first | exact rfl | assumption) | (apply c_cond_f hF; exact rfl; first | exact rfl | assumption) | refine s_nil ?_)
    exact ret_c hF rfl (agg _ rfl) (isz _ _ rfl) hg3 rfl ⟨rfl, hb2.grown hgr3 hb2.size (fun k hk => by cases hk; omega)⟩
  · rw [if_neg h]
    repeat (first | refine c_seq ?_ | refine c_block ?_ | refine c_region _ ?_ | refine wpList_nil ?_ | refine c_then ?_ | refine c_then_exit ?_ | refine c_then_ret ?_ | refine c_in ?_ | refine c_in_ret ?_ | refine c_in_hit ?_ | refine wp_skip ?_ | refine wp_exit ?_ | refine wp_ret ?_ | refine c_in_miss rfl ?_ | ((first | apply st hF | apply stg hF | apply s_step hF | apply s_stg hF); (first | exact d_move | exact d_cmpT | exact d_cmpF | exact d_cmp | exact d_eqbT (und _ _ rfl) | exact d_eqbF (und _ _ rfl) | exact d_eqb (und _ _ rfl) | exact d_eqST | exact d_eqSF | exact d_eqS | exact d_eqN (ifc _ rfl) | exact d_neN (ifc _ rfl) | exact d_loadAgg (agg _ rfl) (isz _ _ rfl) rfl (cells_at hg12) | exact d_build (vs := [(0, .int .i64 n), (1, .agg #[.int .i64 x, .int .i64 y])]) (cells := #[.int .i64 n, .int .i64 x, .int .i64 y]) (by kernel_rfl) ⟨rfl, rfl, rfl, rfl, trivial⟩); clear hF; clear a; intro a hF) | ((first | apply stm hF | apply stu hF); clear hF; clear a; intro a hF) | (apply c_cond_t hF; exact rfl; first | exact rfl | assumption) | (apply c_cond_f hF; exact rfl; first | exact rfl | assumption) | refine s_nil ?_)
    refine st_storeAgg hF (cs := #[.int .i64 n, .int .i64 x, .int .i64 y]) (isz _ _ rfl) rfl rfl hg2 (by simp [Value.oneCell']) (k := fun a w3 hg3 hgr3 hsz3 hF => ?_)
    repeat (first | refine c_seq ?_ | refine c_block ?_ | refine c_region _ ?_ | refine wpList_nil ?_ | refine c_then ?_ | refine c_then_exit ?_ | refine c_then_ret ?_ | refine c_in ?_ | refine c_in_ret ?_ | refine c_in_hit ?_ | refine wp_skip ?_ | refine wp_exit ?_ | refine wp_ret ?_ | refine c_in_miss rfl ?_ | ((first | apply st hF | apply stg hF | apply s_step hF | apply s_stg hF); (first | exact d_move | exact d_cmpT | exact d_cmpF | exact d_cmp | exact d_eqbT (und _ _ rfl) | exact d_eqbF (und _ _ rfl) | exact d_eqb (und _ _ rfl) | exact d_eqST | exact d_eqSF | exact d_eqS | exact d_eqN (ifc _ rfl) | exact d_neN (ifc _ rfl)); clear hF; clear a; intro a hF) | ((first | apply stm hF | apply stu hF); clear hF; clear a; intro a hF) | (apply c_cond_t hF; exact rfl; first | exact rfl | assumption) | (apply c_cond_f hF; exact rfl; first | exact rfl | assumption) | refine s_nil ?_)
    exact ret_c hF rfl (agg _ rfl) (isz _ _ rfl) hg3 rfl ⟨rfl, hb2.grown hgr3 hb2.size (fun k hk => by cases hk; omega)⟩
theorem told_ok (w : World) (n x y : Int) (hg : Handle w) (hn : 0 ≤ n ∧ n ≤ 26) : Ret Tryd.prog 17 [atV n x y, .agg (ratV n x y)].toArray w (fun v w' => v = .bool true ∧ Below w.heap.size w w') := by
  refine enter2 Tryd.func17 rfl 13 rfl 15 rfl (fun a hF => ?_)
  unfold atV ratV at hF
  by_cases h : n = 0
  · rw [if_pos h, if_pos h] at hF
    repeat (first | refine c_seq ?_ | refine c_block ?_ | refine c_region _ ?_ | refine wpList_nil ?_ | refine c_then ?_ | refine c_then_exit ?_ | refine c_then_ret ?_ | refine c_in ?_ | refine c_in_ret ?_ | refine c_in_hit ?_ | refine wp_skip ?_ | refine wp_exit ?_ | refine wp_ret ?_ | refine c_in_miss rfl ?_ | ((first | apply st hF | apply stg hF | apply s_step hF | apply s_stg hF); (first | exact d_move | exact d_assign | exact d_fieldAddr (fld _ _ _ _ rfl) (isz _ _ rfl)); clear hF; clear a; intro a hF) | ((first | apply stm hF | apply stu hF); clear hF; clear a; intro a hF) | (apply c_cond_t hF; exact rfl; first | exact rfl | assumption) | (apply c_cond_f hF; exact rfl; first | exact rfl | assumption) | refine s_nil ?_)
    refine st_box hF (cs := #[.int .i64 0, .int .i64 0, .int .i64 0]) rfl (k := fun a w1 hg1 hgr1 hsz1 hF => ?_)
    have hb1 : Below w.heap.size w w1 := (Below.refl _ w).grown hgr1 (Nat.le_refl _) (fun k hk => by cases hk)
    have c0 : w1.cell? ⟨w.heap.size, 0 + 0, none⟩ = some (.int .i64 0) := cell_at hg1 rfl
    have c1 : w1.cell? ⟨w.heap.size, 0 + 1 + 0, none⟩ = some (.int .i64 0) := cell_at hg1 rfl
    have c2 : w1.cell? ⟨w.heap.size, 0 + 1 + 1, none⟩ = some (.int .i64 0) := cell_at hg1 rfl
    repeat (first | refine c_seq ?_ | refine c_block ?_ | refine c_region _ ?_ | refine wpList_nil ?_ | refine c_then ?_ | refine c_then_exit ?_ | refine c_then_ret ?_ | refine c_in ?_ | refine c_in_ret ?_ | refine c_in_hit ?_ | refine wp_skip ?_ | refine wp_exit ?_ | refine wp_ret ?_ | refine c_in_miss rfl ?_ | ((first | apply st hF | apply stg hF | apply s_step hF | apply s_stg hF); (first | exact d_move | exact d_assign | exact d_fieldAddr (fld _ _ _ _ rfl) (isz _ _ rfl) | exact d_load (und _ _ rfl) c0 | exact d_load (und _ _ rfl) c1 | exact d_load (und _ _ rfl) c2); clear hF; clear a; intro a hF) | ((first | apply stm hF | apply stu hF); clear hF; clear a; intro a hF) | (apply c_cond_t hF; exact rfl; first | exact rfl | assumption) | (apply c_cond_f hF; exact rfl; first | exact rfl | assumption) | refine s_nil ?_)
    refine stc hF (at_any w1 .nilIface 0 0 0 (hg.below hb1) (.inl ⟨rfl, rfl⟩)) cal44 ⟨rfl, rfl, rfl, rfl, trivial⟩ (k := fun a v w2 hR hF => ?_)
    obtain ⟨rfl, hb2⟩ := hR
    repeat (first | refine c_seq ?_ | refine c_block ?_ | refine c_region _ ?_ | refine wpList_nil ?_ | refine c_then ?_ | refine c_then_exit ?_ | refine c_then_ret ?_ | refine c_in ?_ | refine c_in_ret ?_ | refine c_in_hit ?_ | refine wp_skip ?_ | refine wp_exit ?_ | refine wp_ret ?_ | refine c_in_miss rfl ?_ | ((first | apply st hF | apply stg hF | apply s_step hF | apply s_stg hF); (first | exact d_move | exact d_assign | exact d_fieldAddr (fld _ _ _ _ rfl) (isz _ _ rfl)); clear hF; clear a; intro a hF) | ((first | apply stm hF | apply stu hF); clear hF; clear a; intro a hF) | (apply c_cond_t hF; exact rfl; first | exact rfl | assumption) | (apply c_cond_f hF; exact rfl; first | exact rfl | assumption) | refine s_nil ?_)
    exact ret1 hF rfl rfl ⟨rfl, hb1.trans (hb2.mono hb1.size)⟩
  · rw [if_neg h, if_neg h] at hF
    repeat (first | refine c_seq ?_ | refine c_block ?_ | refine c_region _ ?_ | refine wpList_nil ?_ | refine c_then ?_ | refine c_then_exit ?_ | refine c_then_ret ?_ | refine c_in ?_ | refine c_in_ret ?_ | refine c_in_hit ?_ | refine wp_skip ?_ | refine wp_exit ?_ | refine wp_ret ?_ | refine c_in_miss rfl ?_ | ((first | apply st hF | apply stg hF | apply s_step hF | apply s_stg hF); (first | exact d_move | exact d_assign | exact d_fieldAddr (fld _ _ _ _ rfl) (isz _ _ rfl)); clear hF; clear a; intro a hF) | ((first | apply stm hF | apply stu hF); clear hF; clear a; intro a hF) | (apply c_cond_t hF; exact rfl; first | exact rfl | assumption) | (apply c_cond_f hF; exact rfl; first | exact rfl | assumption) | refine s_nil ?_)
    refine st_box hF (cs := #[.int .i64 n, .int .i64 x, .int .i64 y]) rfl (k := fun a w1 hg1 hgr1 hsz1 hF => ?_)
    have hb1 : Below w.heap.size w w1 := (Below.refl _ w).grown hgr1 (Nat.le_refl _) (fun k hk => by cases hk)
    have c0 : w1.cell? ⟨w.heap.size, 0 + 0, none⟩ = some (.int .i64 n) := cell_at hg1 rfl
    have c1 : w1.cell? ⟨w.heap.size, 0 + 1 + 0, none⟩ = some (.int .i64 x) := cell_at hg1 rfl
    have c2 : w1.cell? ⟨w.heap.size, 0 + 1 + 1, none⟩ = some (.int .i64 y) := cell_at hg1 rfl
    repeat (first | refine c_seq ?_ | refine c_block ?_ | refine c_region _ ?_ | refine wpList_nil ?_ | refine c_then ?_ | refine c_then_exit ?_ | refine c_then_ret ?_ | refine c_in ?_ | refine c_in_ret ?_ | refine c_in_hit ?_ | refine wp_skip ?_ | refine wp_exit ?_ | refine wp_ret ?_ | refine c_in_miss rfl ?_ | ((first | apply st hF | apply stg hF | apply s_step hF | apply s_stg hF); (first | exact d_move | exact d_assign | exact d_fieldAddr (fld _ _ _ _ rfl) (isz _ _ rfl) | exact d_load (und _ _ rfl) c0 | exact d_load (und _ _ rfl) c1 | exact d_load (und _ _ rfl) c2); clear hF; clear a; intro a hF) | ((first | apply stm hF | apply stu hF); clear hF; clear a; intro a hF) | (apply c_cond_t hF; exact rfl; first | exact rfl | assumption) | (apply c_cond_f hF; exact rfl; first | exact rfl | assumption) | refine s_nil ?_)
    refine stc hF (at_any w1 (fltV n x y) n x y (hg.below hb1) (.inr ⟨by omega, hn.2, rfl⟩)) cal44 ⟨rfl, rfl, rfl, rfl, trivial⟩ (k := fun a v w2 hR hF => ?_)
    obtain ⟨rfl, hb2⟩ := hR
    repeat (first | refine c_seq ?_ | refine c_block ?_ | refine c_region _ ?_ | refine wpList_nil ?_ | refine c_then ?_ | refine c_then_exit ?_ | refine c_then_ret ?_ | refine c_in ?_ | refine c_in_ret ?_ | refine c_in_hit ?_ | refine wp_skip ?_ | refine wp_exit ?_ | refine wp_ret ?_ | refine c_in_miss rfl ?_ | ((first | apply st hF | apply stg hF | apply s_step hF | apply s_stg hF); (first | exact d_move | exact d_assign | exact d_fieldAddr (fld _ _ _ _ rfl) (isz _ _ rfl)); clear hF; clear a; intro a hF) | ((first | apply stm hF | apply stu hF); clear hF; clear a; intro a hF) | (apply c_cond_t hF; exact rfl; first | exact rfl | assumption) | (apply c_cond_f hF; exact rfl; first | exact rfl | assumption) | refine s_nil ?_)
    exact ret1 hF rfl rfl ⟨rfl, hb1.trans (hb2.mono hb1.size)⟩
def SgAt (B : Nat) (s : Sig) (w : World) : Prop := w.heap[B]? = some (.cells (Sig.cells s).toArray 38 (0, 0))
theorem SgAt.below {B : Nat} {s : Sig} {w w' : World} (h : SgAt B s w) (hb : Below w.heap.size w w') : SgAt B s w' := (hb.block _ (lt_at h)).trans h
theorem SgAt.pl {B : Nat} {s : Sig} {w : World} (h : SgAt B s w) : ∀ j v, (#[.int .i64 s.line, .int .i64 s.col] : Array Value)[j]? = some v → w.cell? ⟨B, 0 + 0 + j, none⟩ = some v := by
  intro j v hj
  rcases j with _ | _ | j
  · simp at hj; subst hj; exact cell_at h rfl
  · simp at hj; subst hj; exact cell_at h rfl
  · simp at hj
set_option maxHeartbeats 4000000 in
theorem csig_ok (w : World) (s : Sig) (ss : List ByteArray) (n : Int) (hlen : ss.length = s.toN) (hrd : Rd w s.toA .string ss) (hB : SigB s) (hT : Tabs w) :
    Ret Tryd.prog 18 [.agg (Sig.cells s).toArray, .int .i64 n].toArray w (fun v w' => v = atV (aloneE s ss n) s.line s.col ∧ Below w.heap.size w w') := by
  refine enter2 Tryd.func18 rfl 9 rfl 11 rfl (fun a hF => ?_)
  repeat (first | refine c_seq ?_ | refine c_block ?_ | refine c_region _ ?_ | refine wpList_nil ?_ | refine c_then ?_ | refine c_then_exit ?_ | refine c_then_ret ?_ | refine c_in ?_ | refine c_in_ret ?_ | refine c_in_hit ?_ | refine wp_skip ?_ | refine wp_exit ?_ | refine wp_ret ?_ | refine c_in_miss rfl ?_ | (refine q_nil ?_; rintro _ ⟨ndr, rfl⟩) | refine c_region_draw _ mixed (by kernel_rfl) ?_ | ((first | apply st hF | apply stg hF | apply s_step hF | apply s_stg hF); (first | exact d_move | exact d_assign | exact d_fieldAddr (fld _ _ _ _ rfl) (isz _ _ rfl)); clear hF; clear a; intro a hF) | ((first | apply q_step hF | apply q_stg hF); intro wq hwq; (first | exact d_move | exact d_assign | exact d_fieldAddr (fld _ _ _ _ rfl) (isz _ _ rfl)); clear hF; clear a; intro a hF) | ((first | apply stm hF | apply stu hF | apply q_stm hF | apply q_stu hF); clear hF; clear a; intro a hF) | (apply c_cond_t hF; exact rfl; first | exact rfl | assumption) | (apply c_cond_f hF; exact rfl; first | exact rfl | assumption) | refine s_nil ?_)
  refine st_box hF (cs := (Sig.cells s).toArray) rfl (k := fun a w1 hg1 hgr1 hsz1 hF => ?_)
  have hb1 : Below w.heap.size w w1 := (Below.refl _ w).grown hgr1 (Nat.le_refl _) (fun k hk => by cases hk)
  have hs1 : SgAt w.heap.size s w1 := hg1
  repeat (first | (refine c_region_mix (SgAt w.heap.size s) [(0, true), (1, true), (3, true), (4, true), (2, false), (5, false), (6, true)] 1 mixed (by kernel_rfl) hs1 ?_; simp only [pickX, List.filterMap_cons, List.getElem?_cons_zero, List.getElem?_cons_succ, List.filterMap_nil, Option.map_some]) | refine c_seq ?_ | refine c_block ?_ | refine c_region _ ?_ | refine wpList_nil ?_ | refine c_then ?_ | refine c_then_exit ?_ | refine c_then_ret ?_ | refine c_in ?_ | refine c_in_ret ?_ | refine c_in_hit ?_ | refine wp_skip ?_ | refine wp_exit ?_ | refine wp_ret ?_ | refine c_in_miss rfl ?_ | (refine q_nil ?_; rintro _ ⟨ndr, rfl⟩) | refine c_region_draw _ mixed (by kernel_rfl) ?_ | ((first | apply st hF | apply stg hF | apply s_step hF | apply s_stg hF); (first | exact d_move | exact d_assign | exact d_fieldAddr (fld _ _ _ _ rfl) (isz _ _ rfl)); clear hF; clear a; intro a hF) | ((first | apply q_step hF | apply q_stg hF); intro wq hwq; (first | exact d_move | exact d_assign | exact d_fieldAddr (fld _ _ _ _ rfl) (isz _ _ rfl)); clear hF; clear a; intro a hF) | ((first | apply stm hF | apply stu hF | apply q_stm hF | apply q_stu hF); clear hF; clear a; intro a hF) | (apply c_cond_t hF; exact rfl; first | exact rfl | assumption) | (apply c_cond_f hF; exact rfl; first | exact rfl | assumption) | refine s_nil ?_)
  have hdb : Below w.heap.size w (w1.drewN 1) := below_more hb1 1
  have hsD : SgAt w.heap.size s (w1.drewN 1) := hs1
  generalize w1.drewN 1 = w2 at *
  repeat (first | ((first | apply x_step hF | apply x_stg hF); intro wq hwq; (first | exact d_move | exact d_assign | exact d_fieldAddr (fld _ _ _ _ rfl) (isz _ _ rfl) | exact d_loadAgg (agg _ rfl) (isz _ _ rfl) rfl (cells_at hwq) | exact d_loadAgg (agg _ rfl) (isz _ _ rfl) rfl hwq.pl); clear hF; clear a; intro a hF) | ((first | apply x_stm hF | apply x_stu hF); clear hF; clear a; intro a hF))
  refine x_one ?_
  refine stc hF (alone_ok w2 s ss n hlen (hrd.below hdb) hB (hT.below hdb)) cal33 ⟨rfl, rfl, trivial⟩ (k := fun a v w3 hR hF => ?_)
  obtain ⟨rfl, hb3⟩ := hR
  have hs3 := hsD.below hb3
  refine wpList_nil ⟨rfl, hs3, x_one ?_⟩
  refine stc hF (cat_ok w3 (aloneE s ss n) s.line s.col) cal32 ⟨rfl, rfl, trivial⟩ (k := fun a v w4 hR hF => ?_)
  obtain ⟨rfl, hb4⟩ := hR
  have hs4 := hs3.below hb4
  refine wpList_nil ⟨rfl, hs4, ?_⟩
  repeat (first | ((first | apply x_step hF | apply x_stg hF); intro wq hwq; (first | exact d_move | exact d_assign | exact d_fieldAddr (fld _ _ _ _ rfl) (isz _ _ rfl)); clear hF; clear a; intro a hF) | ((first | apply x_stm hF | apply x_stu hF); clear hF; clear a; intro a hF))
  refine x_nil ?_
  repeat (first | refine c_seq ?_ | refine c_block ?_ | refine c_region _ ?_ | refine wpList_nil ?_ | refine c_then ?_ | refine c_then_exit ?_ | refine c_then_ret ?_ | refine c_in ?_ | refine c_in_ret ?_ | refine c_in_hit ?_ | refine wp_skip ?_ | refine wp_exit ?_ | refine wp_ret ?_ | refine c_in_miss rfl ?_ | (refine q_nil ?_; rintro _ ⟨ndr, rfl⟩) | refine c_region_draw _ mixed (by kernel_rfl) ?_ | ((first | apply st hF | apply stg hF | apply s_step hF | apply s_stg hF); (first | exact d_move | exact d_assign | exact d_fieldAddr (fld _ _ _ _ rfl) (isz _ _ rfl)); clear hF; clear a; intro a hF) | ((first | apply q_step hF | apply q_stg hF); intro wq hwq; (first | exact d_move | exact d_assign | exact d_fieldAddr (fld _ _ _ _ rfl) (isz _ _ rfl)); clear hF; clear a; intro a hF) | ((first | apply stm hF | apply stu hF | apply q_stm hF | apply q_stu hF); clear hF; clear a; intro a hF) | (apply c_cond_t hF; exact rfl; first | exact rfl | assumption) | (apply c_cond_f hF; exact rfl; first | exact rfl | assumption) | refine s_nil ?_)
  exact ret1 hF rfl rfl ⟨rfl, (hdb.trans (hb3.mono hdb.size)).trans (hb4.mono (Nat.le_trans hdb.size hb3.size))⟩
set_option maxHeartbeats 4000000 in
theorem rsig_ok (w : World) (s : Sig) (ss : List ByteArray) (n : Int) (hs : SigIn w s ss) (hB : SigB s) :
    Ret Tryd.prog 19 [.agg (Sig.cells s).toArray, .int .i64 n].toArray w (fun v w' => v = .agg (ratV (aloneE s ss n) s.line s.col) ∧ Below w.heap.size w w') := by
  refine enter2 Tryd.func19 rfl 9 rfl 11 rfl (fun a hF => ?_)
  repeat (first | refine c_seq ?_ | refine c_block ?_ | refine c_region _ ?_ | refine wpList_nil ?_ | refine c_then ?_ | refine c_then_exit ?_ | refine c_then_ret ?_ | refine c_in ?_ | refine c_in_ret ?_ | refine c_in_hit ?_ | refine wp_skip ?_ | refine wp_exit ?_ | refine wp_ret ?_ | refine c_in_miss rfl ?_ | (refine q_nil ?_; rintro _ ⟨ndr, rfl⟩) | refine c_region_draw _ mixed (by kernel_rfl) ?_ | ((first | apply st hF | apply stg hF | apply s_step hF | apply s_stg hF); (first | exact d_move | exact d_fieldAddr (fld _ _ _ _ rfl) (isz _ _ rfl)); clear hF; clear a; intro a hF) | ((first | apply q_step hF | apply q_stg hF); intro wq hwq; (first | exact d_move | exact d_fieldAddr (fld _ _ _ _ rfl) (isz _ _ rfl)); clear hF; clear a; intro a hF) | ((first | apply stm hF | apply stu hF | apply q_stm hF | apply q_stu hF); clear hF; clear a; intro a hF) | (apply c_cond_t hF; exact rfl; first | exact rfl | assumption) | (apply c_cond_f hF; exact rfl; first | exact rfl | assumption) | refine s_nil ?_)
  refine st_box hF (cs := (Sig.cells s).toArray) rfl (k := fun a w1 hg1 hgr1 hsz1 hF => ?_)
  have hb1 : Below w.heap.size w w1 := (Below.refl _ w).grown hgr1 (Nat.le_refl _) (fun k hk => by cases hk)
  refine st_alloc hF inf51 (k := fun a w2 hg2 hgr2 hsz2 hF => ?_)
  have hb2 : Below w.heap.size w w2 := hb1.grown hgr2 hb1.size (fun k hk => by cases hk)
  have hs2 : SgAt w.heap.size s w2 := blk_kept hg1 hgr2 (by simp)
  repeat (first | (refine c_region_mix (SgAt w.heap.size s) [(0, true), (1, true), (3, true), (4, true), (2, false), (5, false), (6, false)] 1 mixed (by kernel_rfl) hs2 ?_; simp only [pickX, List.filterMap_cons, List.getElem?_cons_zero, List.getElem?_cons_succ, List.filterMap_nil, Option.map_some]) | refine c_seq ?_ | refine c_block ?_ | refine c_region _ ?_ | refine wpList_nil ?_ | refine c_then ?_ | refine c_then_exit ?_ | refine c_then_ret ?_ | refine c_in ?_ | refine c_in_ret ?_ | refine c_in_hit ?_ | refine wp_skip ?_ | refine wp_exit ?_ | refine wp_ret ?_ | refine c_in_miss rfl ?_ | (refine q_nil ?_; rintro _ ⟨ndr, rfl⟩) | refine c_region_draw _ mixed (by kernel_rfl) ?_ | ((first | apply st hF | apply stg hF | apply s_step hF | apply s_stg hF); (first | exact d_move | exact d_fieldAddr (fld _ _ _ _ rfl) (isz _ _ rfl)); clear hF; clear a; intro a hF) | ((first | apply q_step hF | apply q_stg hF); intro wq hwq; (first | exact d_move | exact d_fieldAddr (fld _ _ _ _ rfl) (isz _ _ rfl)); clear hF; clear a; intro a hF) | ((first | apply stm hF | apply stu hF | apply q_stm hF | apply q_stu hF); clear hF; clear a; intro a hF) | (apply c_cond_t hF; exact rfl; first | exact rfl | assumption) | (apply c_cond_f hF; exact rfl; first | exact rfl | assumption) | refine s_nil ?_)
  have hdb : Below w.heap.size w (w2.drewN 1) := below_more hb2 1
  have hsD : SgAt w.heap.size s (w2.drewN 1) := hs2
  have hfD : (w2.drewN 1).heap[w1.heap.size]? = some (.cells #[.int .i64 0, .int .i64 0, .int .i64 0] 51 (0, 0)) := hg2
  generalize w2.drewN 1 = w3 at *
  repeat (first | ((first | apply x_step hF | apply x_stg hF); intro wq hwq; (first | exact d_move | exact d_fieldAddr (fld _ _ _ _ rfl) (isz _ _ rfl) | exact d_loadAgg (agg _ rfl) (isz _ _ rfl) rfl (cells_at hwq) | exact d_loadAgg (agg _ rfl) (isz _ _ rfl) rfl hwq.pl); clear hF; clear a; intro a hF) | ((first | apply x_stm hF | apply x_stu hF); clear hF; clear a; intro a hF))
  refine x_one ?_
  refine stc hF (ralone_ok w3 s ss n (hs.below hdb) hB) cal46 ⟨rfl, rfl, trivial⟩ (k := fun a v w4 hR hF => ?_)
  obtain ⟨rfl, hb4⟩ := hR
  have hs4 := hsD.below hb4
  have hf4 := (hb4.block _ (lt_at hfD)).trans hfD
  refine wpList_nil ⟨rfl, hs4, x_one ?_⟩
  refine stc hF (rat9_ok w4 (aloneE s ss n) s.line s.col) cal45 ⟨rfl, rfl, trivial⟩ (k := fun a v w5 hR hF => ?_)
  obtain ⟨rfl, hb5⟩ := hR
  have hs5 := hs4.below hb5
  have hf5 := (hb5.block _ (lt_at hf4)).trans hf4
  have hB5 := (hdb.trans (hb4.mono hdb.size)).trans (hb5.mono (Nat.le_trans hdb.size hb4.size))
  refine wpList_nil ⟨rfl, hs5, x_one ?_⟩
  have hrz : (ratV (aloneE s ss n) s.line s.col).size = 3 := by unfold ratV; split <;> rfl
  have hr1 : ∀ v ∈ ratV (aloneE s ss n) s.line s.col, v.oneCell' = true := by unfold ratV; split <;> simp [Value.oneCell']
  refine st_storeAgg hF (cs := ratV (aloneE s ss n) s.line s.col) (isz _ _ rfl) hrz rfl hf5 hr1 (k := fun a w6 hf6 hgr6 hsz6 hF => ?_)
  have hs6 : SgAt w.heap.size s w6 := blk_kept hs5 hgr6 (by simp; omega)
  refine wpList_nil ⟨rfl, hs6, x_nil ?_⟩
  repeat (first | refine c_seq ?_ | refine c_block ?_ | refine c_region _ ?_ | refine wpList_nil ?_ | refine c_then ?_ | refine c_then_exit ?_ | refine c_then_ret ?_ | refine c_in ?_ | refine c_in_ret ?_ | refine c_in_hit ?_ | refine wp_skip ?_ | refine wp_exit ?_ | refine wp_ret ?_ | refine c_in_miss rfl ?_ | (refine q_nil ?_; rintro _ ⟨ndr, rfl⟩) | refine c_region_draw _ mixed (by kernel_rfl) ?_ | ((first | apply st hF | apply stg hF | apply s_step hF | apply s_stg hF); (first | exact d_move | exact d_fieldAddr (fld _ _ _ _ rfl) (isz _ _ rfl)); clear hF; clear a; intro a hF) | ((first | apply q_step hF | apply q_stg hF); intro wq hwq; (first | exact d_move | exact d_fieldAddr (fld _ _ _ _ rfl) (isz _ _ rfl)); clear hF; clear a; intro a hF) | ((first | apply stm hF | apply stu hF | apply q_stm hF | apply q_stu hF); clear hF; clear a; intro a hF) | (apply c_cond_t hF; exact rfl; first | exact rfl | assumption) | (apply c_cond_f hF; exact rfl; first | exact rfl | assumption) | refine s_nil ?_)
  exact ret_c hF rfl (agg _ rfl) (by rw [hrz]; exact isz _ _ rfl) hf6 rfl ⟨rfl, hB5.grown hgr6 hB5.size (fun k hk => by cases hk; omega)⟩
theorem rd_pre {α : Type} {w : World} {ao : Option Addr} {enc : α → Value} {xs ys : List α} (h : Rd w ao enc (xs ++ ys)) : Rd w ao enc xs := by
  intro i hi
  obtain ⟨b, o, e, hc⟩ := h i (by rw [List.length_append]; omega)
  exact ⟨b, o, e, by rw [hc, List.getElem_append_left hi]⟩
theorem lentT_keep {base : Nat} {w w' : World} {v : Value} {xs : List ByteArray} (h : LentT base w v xs) (hb : Below w.heap.size w w') : LentT base w' v xs := by
  obtain ⟨g, cap, e, ho⟩ := h
  exact ⟨g, cap, e, own_below ho hb⟩
theorem sigB_at {s : Sig} (h : SigB s) (a : Option Addr) (c : Nat) : SigB { s with toA := a, toC := c } := ⟨h.sn, h.sd, h.fn, h.fd, h.mn, h.md, h.xn, h.xd, h.br⟩
set_option maxHeartbeats 4000000 in
theorem checksig_ok (w : World) (s : Sig) (ss : List ByteArray) (n : Int) (hh : Handle w) (hs : SigIn w s ss) (hB : SigB s) (hT : Tabs w) :
    Ret Tryd.prog 5 #[.agg (Sig.cells s).toArray, .int .i64 n] w (fun v w' => v = .bool true ∧ Below w.heap.size w w') := by
  refine enter2 Tryd.func5 rfl 18 rfl 20 rfl (fun a hF => ?_)
  repeat (first | refine c_seq ?_ | refine c_block ?_ | refine c_region _ ?_ | refine wpList_nil ?_ | refine c_then ?_ | refine c_then_exit ?_ | refine c_then_ret ?_ | refine c_in ?_ | refine c_in_ret ?_ | refine c_in_hit ?_ | refine wp_skip ?_ | refine wp_exit ?_ | refine wp_ret ?_ | refine c_in_miss rfl ?_ | (refine q_nil ?_; rintro _ ⟨ndr, rfl⟩) | refine c_region_draw _ mixed (by kernel_rfl) ?_ | ((first | apply st hF | apply stg hF | apply s_step hF | apply s_stg hF); (first | exact d_move | exact d_assign | exact d_pickT | exact d_pickF); clear hF; clear a; intro a hF) | ((first | apply q_step hF | apply q_stg hF); intro wq hwq; (first | exact d_move | exact d_assign | exact d_pickT | exact d_pickF); clear hF; clear a; intro a hF) | ((first | apply stm hF | apply stu hF | apply q_stm hF | apply q_stu hF); clear hF; clear a; intro a hF) | (apply c_cond_t hF; exact rfl; first | exact rfl | assumption) | (apply c_cond_f hF; exact rfl; first | exact rfl | assumption) | refine s_nil ?_)
  refine st_box hF (cs := (Sig.cells s).toArray) rfl (k := fun a w1 hg1 hgr1 hsz1 hF => ?_)
  have hb1 : Below w.heap.size w w1 := (Below.refl _ w).grown hgr1 (Nat.le_refl _) (fun k hk => by cases hk)
  repeat (first | refine c_seq ?_ | refine c_block ?_ | refine c_region _ ?_ | refine wpList_nil ?_ | refine c_then ?_ | refine c_then_exit ?_ | refine c_then_ret ?_ | refine c_in ?_ | refine c_in_ret ?_ | refine c_in_hit ?_ | refine wp_skip ?_ | refine wp_exit ?_ | refine wp_ret ?_ | refine c_in_miss rfl ?_ | (refine q_nil ?_; rintro _ ⟨ndr, rfl⟩) | refine c_region_draw _ mixed (by kernel_rfl) ?_ | ((first | apply st hF | apply stg hF | apply s_step hF | apply s_stg hF); (first | exact d_move | exact d_assign | exact d_pickT | exact d_pickF | exact d_loadAgg (agg _ rfl) (isz _ _ rfl) rfl (cells_at hg1)); clear hF; clear a; intro a hF) | ((first | apply q_step hF | apply q_stg hF); intro wq hwq; (first | exact d_move | exact d_assign | exact d_pickT | exact d_pickF | exact d_loadAgg (agg _ rfl) (isz _ _ rfl) rfl (cells_at hg1)); clear hF; clear a; intro a hF) | ((first | apply stm hF | apply stu hF | apply q_stm hF | apply q_stu hF); clear hF; clear a; intro a hF) | (apply c_cond_t hF; exact rfl; first | exact rfl | assumption) | (apply c_cond_f hF; exact rfl; first | exact rfl | assumption) | refine s_nil ?_)
  refine stc hF (lent_signal w1 s ss (hs.below hb1)) cal16 ⟨rfl, trivial⟩ (k := fun a v w2 hR hF => ?_)
  obtain ⟨g, cap, rfl, hl, hb2⟩ := hR
  have hB2 : Below w.heap.size w w2 := hb1.trans (hb2.mono hb1.size)
  have hg12 : w2.heap[w.heap.size]? = _ := (hb2.block _ (lt_at hg1)).trans hg1
  obtain ⟨g', cap', e, hlo⟩ := hl
  have e1 : g = g' := Option.some.inj (congrArg Value.ownBlock e)
  subst e1
  obtain ⟨hgl, hgl2⟩ : w1.heap.size ≤ g ∧ g < w2.heap.size := ⟨own_base' hlo, (hlo.lt _ rfl).2⟩
  refine st_alloc hF inf38 (k := fun a w3 hg3 hgr3 hsz3 hF => ?_)
  have hb3 : Below w2.heap.size w2 w3 := (Below.refl _ w2).grown hgr3 (Nat.le_refl _) (fun k hk => by cases hk)
  refine st_storeAgg hF (cs := (Sig.cells { s with toA := some ⟨g, 0, none⟩, toC := cap }).toArray) (isz _ _ rfl) rfl rfl hg3 (sig_cells _) (k := fun a w4 hgx hgr4 hsz4 hF => ?_)
  have hb4 : Below w2.heap.size w2 w4 := hb3.grown hgr4 (by omega) (fun k hk => by cases hk; exact Nat.le_refl _)
  have hB4 : Below w.heap.size w w4 := hB2.trans (hb4.mono hB2.size)
  have hs4 : SgAt w.heap.size s w4 := (hb4.block _ (lt_at hg12)).trans hg12
  have hx4 : SgAt w2.heap.size { s with toA := some ⟨g, 0, none⟩, toC := cap } w4 := hgx
  have hl4 : LentT w1.heap.size w4 (.slice (some ⟨g, 0, none⟩) s.toN cap) ss := ⟨g, cap', e, own_below hlo hb4⟩
  clear hlo e hg3 hgr3 hgr4 hb3 hg12 hg1 hgx
  generalize hx : ({ s with toA := some ⟨g, 0, none⟩, toC := cap } : Sig) = x at *
  have hxB : SigB x := by subst hx; exact sigB_at hB _ _
  have hxl : ss.length = x.toN := by subst hx; exact hs.len
  have hxe : aloneE x ss n = aloneE s ss n := by subst hx; rfl
  have hxc : x.line = s.line ∧ x.col = s.col := by subst hx; exact ⟨rfl, rfl⟩
  repeat (first | (refine c_region_mix (fun wq => SgAt w.heap.size s wq ∧ SgAt w2.heap.size x wq) [(0, true), (1, true), (3, true), (4, true), (2, false), (5, false), (6, false), (7, true), (8, true), (9, true), (10, false), (11, true), (12, true)] 2 mixed (by kernel_rfl) ⟨hs4, hx4⟩ ?_; simp only [pickX, List.filterMap_cons, List.getElem?_cons_zero, List.getElem?_cons_succ, List.filterMap_nil, Option.map_some]) | refine c_seq ?_ | refine c_block ?_ | refine c_region _ ?_ | refine wpList_nil ?_ | refine c_then ?_ | refine c_then_exit ?_ | refine c_then_ret ?_ | refine c_in ?_ | refine c_in_ret ?_ | refine c_in_hit ?_ | refine wp_skip ?_ | refine wp_exit ?_ | refine wp_ret ?_ | refine c_in_miss rfl ?_ | (refine q_nil ?_; rintro _ ⟨ndr, rfl⟩) | refine c_region_draw _ mixed (by kernel_rfl) ?_ | ((first | apply st hF | apply stg hF | apply s_step hF | apply s_stg hF); (first | exact d_move | exact d_assign | exact d_pickT | exact d_pickF); clear hF; clear a; intro a hF) | ((first | apply q_step hF | apply q_stg hF); intro wq hwq; (first | exact d_move | exact d_assign | exact d_pickT | exact d_pickF); clear hF; clear a; intro a hF) | ((first | apply stm hF | apply stu hF | apply q_stm hF | apply q_stu hF); clear hF; clear a; intro a hF) | (apply c_cond_t hF; exact rfl; first | exact rfl | assumption) | (apply c_cond_f hF; exact rfl; first | exact rfl | assumption) | refine s_nil ?_)
  have hdb : Below w4.heap.size w4 (w4.drewN 1) := below_more (Below.refl _ w4) 1
  generalize w4.drewN 1 = w5 at *
  have hB5 : Below w.heap.size w w5 := hB4.trans (hdb.mono hB4.size)
  have hs5 := hs4.below hdb
  have hx5 := hx4.below hdb
  have hl5 := lentT_keep hl4 hdb
  have hrd5 : Rd w5 x.toA .string ss := by
    obtain ⟨g2, c2, e2, ho⟩ := hl5
    have : g = g2 := Option.some.inj (congrArg Value.ownBlock e2)
    subst this; subst hx
    exact rd_pre (own_rd ho).2
  repeat (first | ((first | apply x_step hF | apply x_stg hF); intro wq hwq; (first | exact d_move | exact d_assign | exact d_pickT | exact d_pickF | exact d_loadAgg (agg _ rfl) (isz _ _ rfl) rfl (cells_at hwq.1) | exact d_loadAgg (agg _ rfl) (isz _ _ rfl) rfl (cells_at hwq.2)); clear hF; clear a; intro a hF) | ((first | apply x_stm hF | apply x_stu hF); clear hF; clear a; intro a hF))
  refine x_one ?_
  refine stc hF (csig_ok w5 x ss n hxl hrd5 hxB (hT.below hB5)) cal18 ⟨rfl, rfl, trivial⟩ (k := fun a v w6 hR hF => ?_)
  obtain ⟨rfl, hb6⟩ := hR
  rw [hxe, hxc.1, hxc.2] at hF
  have hB6 := hB5.trans (hb6.mono hB5.size)
  have hs6 := hs5.below hb6
  have hx6 := hx5.below hb6
  have hl6 := lentT_keep hl5 hb6
  refine wpList_nil ⟨rfl, ⟨hs6, hx6⟩, x_one ?_⟩
  refine stc hF (rsig_ok w6 s ss n (hs.below hB6) hB) cal19 ⟨rfl, rfl, trivial⟩ (k := fun a v w7 hR hF => ?_)
  obtain ⟨rfl, hb7⟩ := hR
  have hB7 := hB6.trans (hb7.mono hB6.size)
  have hs7 := hs6.below hb7
  have hx7 := hx6.below hb7
  have hl7 := lentT_keep hl6 hb7
  refine wpList_nil ⟨rfl, ⟨hs7, hx7⟩, x_one ?_⟩
  refine stc hF (told_ok w7 (aloneE s ss n) s.line s.col (hh.below hB7) (alone_bnd s ss n)) cal17 ⟨rfl, rfl, trivial⟩ (k := fun a v w8 hR hF => ?_)
  obtain ⟨rfl, hb8⟩ := hR
  have hB8 := hB7.trans (hb8.mono hB7.size)
  have hs8 := hs7.below hb8
  have hx8 := hx7.below hb8
  have hl8 := lentT_keep hl7 hb8
  refine wpList_nil ⟨rfl, ⟨hs8, hx8⟩, ?_⟩
  repeat (first | ((first | apply x_step hF | apply x_stg hF); intro wq hwq; (first | exact d_move | exact d_assign | exact d_pickT | exact d_pickF | exact d_loadAgg (agg _ rfl) (isz _ _ rfl) rfl (cells_at hwq.1) | exact d_loadAgg (agg _ rfl) (isz _ _ rfl) rfl (cells_at hwq.2)); clear hF; clear a; intro a hF) | ((first | apply x_stm hF | apply x_stu hF); clear hF; clear a; intro a hF))
  refine x_one ?_
  subst hx
  refine stcg hF (kept_signal w8 s ss g cap w1.heap.size (hs.below hB8) hl8) cal20 ⟨rfl, rfl, trivial⟩ (k := fun a v w9 hR hF => ?_)
  obtain ⟨rfl, hb9⟩ := hR
  refine wpList_nil ⟨rfl, ⟨hs8.below hb9, hx8.below hb9⟩, ?_⟩
  repeat (first | ((first | apply x_step hF | apply x_stg hF); intro wq hwq; (first | exact d_move | exact d_assign | exact d_pickT | exact d_pickF); clear hF; clear a; intro a hF) | ((first | apply x_stm hF | apply x_stu hF); clear hF; clear a; intro a hF))
  refine x_nil ?_
  repeat (first | refine c_seq ?_ | refine c_block ?_ | refine c_region _ ?_ | refine wpList_nil ?_ | refine c_then ?_ | refine c_then_exit ?_ | refine c_then_ret ?_ | refine c_in ?_ | refine c_in_ret ?_ | refine c_in_hit ?_ | refine wp_skip ?_ | refine wp_exit ?_ | refine wp_ret ?_ | refine c_in_miss rfl ?_ | (refine q_nil ?_; rintro _ ⟨ndr, rfl⟩) | refine c_region_draw _ mixed (by kernel_rfl) ?_ | ((first | apply st hF | apply stg hF | apply s_step hF | apply s_stg hF); (first | exact d_move | exact d_assign | exact d_pickT | exact d_pickF); clear hF; clear a; intro a hF) | ((first | apply q_step hF | apply q_stg hF); intro wq hwq; (first | exact d_move | exact d_assign | exact d_pickT | exact d_pickF); clear hF; clear a; intro a hF) | ((first | apply stm hF | apply stu hF | apply q_stm hF | apply q_stu hF); clear hF; clear a; intro a hF) | (apply c_cond_t hF; exact rfl; first | exact rfl | assumption) | (apply c_cond_f hF; exact rfl; first | exact rfl | assumption) | refine s_nil ?_)
  exact ret1 hF rfl rfl ⟨rfl, hB8.trans (hb9.mono hB8.size)⟩
end Go.Proofs.YtjomihhpglojpaaDoor
end
