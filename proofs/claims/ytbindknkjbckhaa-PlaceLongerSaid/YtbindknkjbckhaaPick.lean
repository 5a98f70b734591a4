/- Pick: a number below n out of any. -/
import Derived.Test.YtbindknkjbckhaaFacts
namespace Go.Proofs.Ytbindknkjbckhaa
open Go.RowKit
set_option linter.unusedSimpArgs false
set_option linter.unusedVariables false
attribute [local irreducible] wpList wpQuiet Code.wp Exit.then Exit.inBlock bodyPost Calls Does Does0

set_option maxHeartbeats 2000000 in
theorem pick_ok (w : World) (k n : Int) (h1 : 1 ≤ n) (h2 : n ≤ 4611686018427387904) :
    Ret Try.prog 11 #[.int .i64 k, .int .i64 n] w (fun v w' => v = .int .i64 (k % n) ∧ w' = w) := by
  have b0 := Int.emod_nonneg k (show n ≠ 0 by omega)
  have b1 := Int.emod_lt_of_pos k (show 0 < n by omega)
  by_cases hk : 0 ≤ k
  · refine enter2 Try.func11 rfl 14 rfl 16 rfl (fun a hF => ?_)
    repeat (first | refine c_seq ?_ | refine c_block ?_ | refine c_region _ ?_ | refine wpList_nil ?_ | refine c_then ?_ | refine c_then_exit ?_ | refine c_then_ret ?_ | refine c_in ?_ | refine c_in_ret ?_ | refine c_in_hit ?_ | refine wp_skip ?_ | refine wp_exit ?_ | refine wp_ret ?_ | refine c_in_miss rfl ?_ | (refine q_nil ?_; rintro _ ⟨_, rfl⟩) | refine c_region_draw _ mixed (by kernel_rfl) ?_ | ((first | apply st hF | apply stg hF | apply q_step hF | apply q_stg hF); intros; (first | exact d_move | exact d_assign | exact d_not | exact d_pickT | exact d_pickF | exact d_add | exact d_sub | exact d_quo | exact d_rem | exact d_cmpT | exact d_cmpF | exact d_cmp | exact d_eqbT (und _ _ rfl) | exact d_eqbF (und _ _ rfl) | exact d_eqb (und _ _ rfl) | exact d_eqST | exact d_eqSF | exact d_eqS | exact d_len (und _ _ rfl) | exact d_lens (und _ _ rfl) | exact d_nilCheck | exact d_indexAddr1 (und _ _ rfl) (isz _ _ rfl) | exact d_fieldAddr (fld _ _ _ _ rfl) (isz _ _ rfl) | exact d_slice (und _ _ rfl) (isz _ _ rfl) | exact d_slice3 (und _ _ rfl) (isz _ _ rfl) | exact d_slice3l (und _ _ rfl) (isz _ _ rfl) | exact d_sliceL (und _ _ rfl) (isz _ _ rfl) | exact d_eqN (ifc _ rfl) | exact d_neN (ifc _ rfl) | exact d_makeI (con _ rfl) | exact d_extract); clear hF; clear a; intro a hF) | ((first | apply stm hF | apply stu hF | apply q_stm hF | apply q_stu hF); clear hF; clear a; intro a hF) | (apply c_cond_t hF; exact rfl; first | exact rfl | assumption) | (apply c_cond_f hF; exact rfl; first | exact rfl | assumption))
    exact ret1 hF rfl rfl ⟨rfl, rfl⟩
  · have e1 : k.tmod n = -((-k) % n) := by
      rw [← Int.tmod_eq_emod_of_nonneg (by omega), Int.neg_tmod]; simp
    have c0 := Int.emod_nonneg (-k) (show n ≠ 0 by omega)
    have c1 := Int.emod_lt_of_pos (-k) (show 0 < n by omega)
    have c2 := Int.emod_add_mul_ediv (-k) n
    by_cases hr : (-k) % n = 0
    · have e2 : k % n = k.tmod n := emod_unique (q := -((-k) / n)) (by omega) (by omega) (by rw [Int.mul_neg]; omega)
      have e3 : k.tmod n = 0 := by omega
      clear b0 b1 c2
      refine enter2 Try.func11 rfl 14 rfl 16 rfl (fun a hF => ?_)
      repeat (first | refine c_seq ?_ | refine c_block ?_ | refine c_region _ ?_ | refine wpList_nil ?_ | refine c_then ?_ | refine c_then_exit ?_ | refine c_then_ret ?_ | refine c_in ?_ | refine c_in_ret ?_ | refine c_in_hit ?_ | refine wp_skip ?_ | refine wp_exit ?_ | refine wp_ret ?_ | refine c_in_miss rfl ?_ | (refine q_nil ?_; rintro _ ⟨_, rfl⟩) | refine c_region_draw _ mixed (by kernel_rfl) ?_ | ((first | apply st hF | apply stg hF | apply q_step hF | apply q_stg hF); intros; (first | exact d_move | exact d_assign | exact d_not | exact d_pickT | exact d_pickF | exact d_add | exact d_sub | exact d_quo | exact d_rem | exact d_cmpT | exact d_cmpF | exact d_cmp | exact d_eqbT (und _ _ rfl) | exact d_eqbF (und _ _ rfl) | exact d_eqb (und _ _ rfl) | exact d_eqST | exact d_eqSF | exact d_eqS | exact d_len (und _ _ rfl) | exact d_lens (und _ _ rfl) | exact d_nilCheck | exact d_indexAddr1 (und _ _ rfl) (isz _ _ rfl) | exact d_fieldAddr (fld _ _ _ _ rfl) (isz _ _ rfl) | exact d_slice (und _ _ rfl) (isz _ _ rfl) | exact d_slice3 (und _ _ rfl) (isz _ _ rfl) | exact d_slice3l (und _ _ rfl) (isz _ _ rfl) | exact d_sliceL (und _ _ rfl) (isz _ _ rfl) | exact d_eqN (ifc _ rfl) | exact d_neN (ifc _ rfl) | exact d_makeI (con _ rfl) | exact d_extract | exact d_remt (h := by omega)); clear hF; clear a; intro a hF) | ((first | apply stm hF | apply stu hF | apply q_stm hF | apply q_stu hF); clear hF; clear a; intro a hF) | (apply c_cond_t hF; exact rfl; first | exact rfl | assumption) | (apply c_cond_f hF; exact rfl; first | exact rfl | assumption))
      exact ret1 hF rfl rfl ⟨by rw [e2], rfl⟩
    · have e2 : k % n = k.tmod n + n := emod_unique (q := -((-k) / n) - 1) (by omega) (by omega) (by rw [Int.mul_sub, Int.mul_neg]; omega)
      have e3 : k.tmod n < 0 ∧ -4611686018427387904 < k.tmod n := by omega
      clear b0 b1 c2
      refine enter2 Try.func11 rfl 14 rfl 16 rfl (fun a hF => ?_)
      repeat (first | refine c_seq ?_ | refine c_block ?_ | refine c_region _ ?_ | refine wpList_nil ?_ | refine c_then ?_ | refine c_then_exit ?_ | refine c_then_ret ?_ | refine c_in ?_ | refine c_in_ret ?_ | refine c_in_hit ?_ | refine wp_skip ?_ | refine wp_exit ?_ | refine wp_ret ?_ | refine c_in_miss rfl ?_ | (refine q_nil ?_; rintro _ ⟨_, rfl⟩) | refine c_region_draw _ mixed (by kernel_rfl) ?_ | ((first | apply st hF | apply stg hF | apply q_step hF | apply q_stg hF); intros; (first | exact d_move | exact d_assign | exact d_not | exact d_pickT | exact d_pickF | exact d_add | exact d_sub | exact d_quo | exact d_rem | exact d_cmpT | exact d_cmpF | exact d_cmp | exact d_eqbT (und _ _ rfl) | exact d_eqbF (und _ _ rfl) | exact d_eqb (und _ _ rfl) | exact d_eqST | exact d_eqSF | exact d_eqS | exact d_len (und _ _ rfl) | exact d_lens (und _ _ rfl) | exact d_nilCheck | exact d_indexAddr1 (und _ _ rfl) (isz _ _ rfl) | exact d_fieldAddr (fld _ _ _ _ rfl) (isz _ _ rfl) | exact d_slice (und _ _ rfl) (isz _ _ rfl) | exact d_slice3 (und _ _ rfl) (isz _ _ rfl) | exact d_slice3l (und _ _ rfl) (isz _ _ rfl) | exact d_sliceL (und _ _ rfl) (isz _ _ rfl) | exact d_eqN (ifc _ rfl) | exact d_neN (ifc _ rfl) | exact d_makeI (con _ rfl) | exact d_extract | exact d_remt (h := by omega)); clear hF; clear a; intro a hF) | ((first | apply stm hF | apply stu hF | apply q_stm hF | apply q_stu hF); clear hF; clear a; intro a hF) | (apply c_cond_t hF; exact rfl; first | exact rfl | assumption) | (apply c_cond_f hF; exact rfl; first | exact rfl | assumption))
      exact ret1 hF rfl rfl ⟨by rw [e2], rfl⟩
end Go.Proofs.Ytbindknkjbckhaa
