/- Laid together by a program of mine: AtW. -/
import Derived.Test.YtjomihhpglojpaaDoorSumBOneW24
import Derived.Test.YtjomihhpglojpaaDoorSumBOneW27
set_option linter.unusedSimpArgs false
set_option linter.unusedVariables false
section
/- check.at, walked. -/
namespace Go.Proofs.YtjomihhpglojpaaDoor
open Go.RowKit
set_option linter.unusedSimpArgs false
set_option linter.unusedVariables false
attribute [local irreducible] wpList wpQuiet wpStill Code.wp Exit.then Exit.inBlock bodyPost Calls Does Does0
set_option maxRecDepth 100000
/-- What at returns. -/
def atV (n x y : Int) : Value := if n = 0 then .nilIface else fltV n x y
theorem cat_ok (w : World) (n x y : Int) : Ret Tryd.prog 32 [.int .i64 n, .agg #[.int .i64 x, .int .i64 y]].toArray w (fun v w' => v = atV n x y ∧ Below w.heap.size w w') := by
  refine enter2 Tryd.func32 rfl 12 rfl 14 rfl (fun a hF => ?_)
  repeat (first | refine c_seq ?_ | refine c_block ?_ | refine c_region _ ?_ | refine wpList_nil ?_ | refine c_then ?_ | refine c_then_exit ?_ | refine c_then_ret ?_ | refine c_in ?_ | refine c_in_ret ?_ | refine c_in_hit ?_ | refine wp_skip ?_ | refine wp_exit ?_ | refine wp_ret ?_ | refine c_in_miss rfl ?_ | ((first | apply st hF | apply stg hF | apply s_step hF | apply s_stg hF); (first | exact d_move | exact d_assign | exact d_cmpT | exact d_cmpF | exact d_cmp | exact d_eqbT (und _ _ rfl) | exact d_eqbF (und _ _ rfl) | exact d_eqb (und _ _ rfl) | exact d_eqST | exact d_eqSF | exact d_eqS | exact d_fieldAddr (fld _ _ _ _ rfl) (isz _ _ rfl) | exact d_eqN (ifc _ rfl) | exact d_neN (ifc _ rfl) | exact d_makeI (con _ rfl)); clear hF; clear a; intro a hF) | ((first | apply stm hF | apply stu hF); clear hF; clear a; intro a hF) | (apply c_cond_t hF; exact rfl; first | exact rfl | assumption) | (apply c_cond_f hF; exact rfl; first | exact rfl | assumption) | refine s_nil ?_)
  refine st_box hF (cs := #[.int .i64 x, .int .i64 y]) rfl (k := fun a w1 hg1 hgr1 hsz1 hF => ?_)
  have hb1 : Below w.heap.size w w1 := (Below.refl _ w).grown hgr1 (Nat.le_refl _) (fun k hk => by cases hk)
  have c0 : w1.cell? ⟨w.heap.size, 0 + 0, none⟩ = some (.int .i64 x) := cell_at hg1 rfl
  have c1 : w1.cell? ⟨w.heap.size, 0 + 1, none⟩ = some (.int .i64 y) := cell_at hg1 rfl
  unfold atV
  by_cases h : n = 0
  · rw [if_pos h]
    repeat (first | refine c_seq ?_ | refine c_block ?_ | refine c_region _ ?_ | refine wpList_nil ?_ | refine c_then ?_ | refine c_then_exit ?_ | refine c_then_ret ?_ | refine c_in ?_ | refine c_in_ret ?_ | refine c_in_hit ?_ | refine wp_skip ?_ | refine wp_exit ?_ | refine wp_ret ?_ | refine c_in_miss rfl ?_ | ((first | apply st hF | apply stg hF | apply s_step hF | apply s_stg hF); (first | exact d_move | exact d_assign | exact d_cmpT | exact d_cmpF | exact d_cmp | exact d_eqbT (und _ _ rfl) | exact d_eqbF (und _ _ rfl) | exact d_eqb (und _ _ rfl) | exact d_eqST | exact d_eqSF | exact d_eqS | exact d_fieldAddr (fld _ _ _ _ rfl) (isz _ _ rfl) | exact d_eqN (ifc _ rfl) | exact d_neN (ifc _ rfl) | exact d_makeI (con _ rfl)); clear hF; clear a; intro a hF) | ((first | apply stm hF | apply stu hF); clear hF; clear a; intro a hF) | (apply c_cond_t hF; exact rfl; first | exact rfl | assumption) | (apply c_cond_f hF; exact rfl; first | exact rfl | assumption) | refine s_nil ?_)
    exact ret1 hF rfl rfl ⟨rfl, hb1⟩
  · rw [if_neg h]
    repeat (first | refine c_seq ?_ | refine c_block ?_ | refine c_region _ ?_ | refine wpList_nil ?_ | refine c_then ?_ | refine c_then_exit ?_ | refine c_then_ret ?_ | refine c_in ?_ | refine c_in_ret ?_ | refine c_in_hit ?_ | refine wp_skip ?_ | refine wp_exit ?_ | refine wp_ret ?_ | refine c_in_miss rfl ?_ | ((first | apply st hF | apply stg hF | apply s_step hF | apply s_stg hF); (first | exact d_move | exact d_assign | exact d_cmpT | exact d_cmpF | exact d_cmp | exact d_eqbT (und _ _ rfl) | exact d_eqbF (und _ _ rfl) | exact d_eqb (und _ _ rfl) | exact d_eqST | exact d_eqSF | exact d_eqS | exact d_fieldAddr (fld _ _ _ _ rfl) (isz _ _ rfl) | exact d_eqN (ifc _ rfl) | exact d_neN (ifc _ rfl) | exact d_makeI (con _ rfl) | exact d_build (vs := [(0, .int .i64 n), (1, .int .i64 x), (2, .int .i64 y)]) (cells := #[.int .i64 n, .int .i64 x, .int .i64 y]) (by kernel_rfl) ⟨rfl, rfl, rfl, rfl, rfl, rfl, trivial⟩ | exact d_load (und _ _ rfl) c0 | exact d_load (und _ _ rfl) c1); clear hF; clear a; intro a hF) | ((first | apply stm hF | apply stu hF); clear hF; clear a; intro a hF) | (apply c_cond_t hF; exact rfl; first | exact rfl | assumption) | (apply c_cond_f hF; exact rfl; first | exact rfl | assumption) | refine s_nil ?_)
    exact ret1 hF rfl rfl ⟨rfl, hb1⟩
def SgAt (B : Nat) (s : Sig) (w : World) : Prop := w.heap[B]? = some (.cells (Sig.cells s).toArray 38 (0, 0))
theorem SgAt.below {B : Nat} {s : Sig} {w w' : World} (h : SgAt B s w) (hb : Below w.heap.size w w') : SgAt B s w' := (hb.block _ (lt_at h)).trans h
theorem SgAt.pl {B : Nat} {s : Sig} {w : World} (h : SgAt B s w) : ∀ j v, (#[.int .i64 s.line, .int .i64 s.col] : Array Value)[j]? = some v → w.cell? ⟨B, 0 + 0 + j, none⟩ = some v := by
  intro j v hj
  rcases j with _ | _ | j
  · simp at hj; subst hj; exact cell_at h rfl
  · simp at hj; subst hj; exact cell_at h rfl
  · simp at hj
end Go.Proofs.YtjomihhpglojpaaDoor
end
