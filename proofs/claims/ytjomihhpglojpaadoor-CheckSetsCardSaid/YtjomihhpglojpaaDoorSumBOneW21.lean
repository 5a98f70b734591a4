/- Laid together by a program of mine: RatC Lift LiftS. -/
import Derived.Test.YtjomihhpglojpaaDoorSumBOneW20
import Derived.Test.YtjomihhpglojpaaDoorSumBOneW2
import Derived.ProofKit
import Derived.OpenShut
import Derived.ShutString
import Derived.ChangeOld
import Derived.Deep.Grids
import Derived.Deep.Slices
import Derived.ChangeArms
set_option linter.unusedSimpArgs false
set_option linter.unusedVariables false
section
/- math/bits.Mul64, rat.Cmp: walked. -/
namespace Go.Proofs.YtjomihhpglojpaaDoor
open Go.RowKit
set_option linter.unusedSimpArgs false
set_option linter.unusedVariables false
attribute [local irreducible] wpList wpQuiet wpStill Code.wp Exit.then Exit.inBlock bodyPost Calls Does Does0
open Nn
theorem and_low (x : Nat) : x &&& 4294967295 = x % 4294967296 := by
  have := Nat.and_two_pow_sub_one_eq_mod x 32
  exact this
set_option maxHeartbeats 2000000 in
theorem mul64_ok (w : World) (x y : Nat) (hx : x < 18446744073709551616) (hy : y < 18446744073709551616) : Ret Tryd.prog 106 [.int .u64 (x : Int), .int .u64 (y : Int)].toArray w (fun v w' => (∃ h l : Nat, v = .tuple #[.int .u64 (h : Int), .int .u64 (l : Int)] ∧ x * y = h * 18446744073709551616 + l ∧ l < 18446744073709551616) ∧ w' = w) := by
  obtain ⟨m1, m2, m3, m4, m5, m6, m7, m8, m9⟩ := mul_words hx hy
  replace m1 : _ < 2 ^ IntKind.u64.bits := m1
  replace m2 : _ < 2 ^ IntKind.u64.bits := m2
  replace m3 : _ < 2 ^ IntKind.u64.bits := m3
  replace m4 : _ < 2 ^ IntKind.u64.bits := m4
  replace m5 : _ < 2 ^ IntKind.u64.bits := m5
  replace m6 : _ < 2 ^ IntKind.u64.bits := m6
  replace m7 : _ < 2 ^ IntKind.u64.bits := m7
  replace m8 : _ < 2 ^ IntKind.u64.bits := m8
  have hx64 : x < 2 ^ IntKind.u64.bits := hx
  have hy64 : y < 2 ^ IntKind.u64.bits := hy
  have ex := and_low x
  have ey := and_low y
  have et := and_low (x / 4294967296 * (y % 4294967296) + x % 4294967296 * (y % 4294967296) / 4294967296)
  have hm : (x : Int) * (y : Int) = ((x * y : Nat) : Int) := by push_cast; rfl
  have hw : IntKind.u64.wrap ((x : Int) * (y : Int)) = ((x * y % 18446744073709551616 : Nat) : Int) := by rw [hm, wrap_mod rfl]; rfl
  refine enter2 Tryd.func106 rfl 49 rfl 51 rfl (fun a hF => ?_)
  repeat (first | refine c_seq ?_ | refine c_block ?_ | refine c_region _ ?_ | refine wpList_nil ?_ | refine c_then ?_ | refine c_then_exit ?_ | refine c_then_ret ?_ | refine c_in ?_ | refine c_in_ret ?_ | refine c_in_hit ?_ | refine wp_skip ?_ | refine wp_exit ?_ | refine wp_ret ?_ | refine c_in_miss rfl ?_ | ((first | apply st hF | apply stg hF | apply s_step hF | apply s_stg hF); (first | exact d_move | exact d_assign | exact d_add | exact d_bits (a := x) (b := 4294967295) (ha := hx64) (hb := by decide) | exact d_shr (a := x) (b := 32) (hb := by decide)); clear hF; clear a; intro a hF) | ((first | apply stm hF | apply stu hF); clear hF; clear a; intro a hF) | (apply c_cond_t hF; exact rfl; first | exact rfl | assumption) | (apply c_cond_f hF; exact rfl; first | exact rfl | assumption) | refine s_nil ?_)
  rw [ex] at hF
  repeat (first | refine c_seq ?_ | refine c_block ?_ | refine c_region _ ?_ | refine wpList_nil ?_ | refine c_then ?_ | refine c_then_exit ?_ | refine c_then_ret ?_ | refine c_in ?_ | refine c_in_ret ?_ | refine c_in_hit ?_ | refine wp_skip ?_ | refine wp_exit ?_ | refine wp_ret ?_ | refine c_in_miss rfl ?_ | ((first | apply st hF | apply stg hF | apply s_step hF | apply s_stg hF); (first | exact d_move | exact d_assign | exact d_add | exact d_bits (a := y) (b := 4294967295) (ha := hy64) (hb := by decide) | exact d_shr (a := y) (b := 32) (hb := by decide)); clear hF; clear a; intro a hF) | ((first | apply stm hF | apply stu hF); clear hF; clear a; intro a hF) | (apply c_cond_t hF; exact rfl; first | exact rfl | assumption) | (apply c_cond_f hF; exact rfl; first | exact rfl | assumption) | refine s_nil ?_)
  rw [ey] at hF
  repeat (first | refine c_seq ?_ | refine c_block ?_ | refine c_region _ ?_ | refine wpList_nil ?_ | refine c_then ?_ | refine c_then_exit ?_ | refine c_then_ret ?_ | refine c_in ?_ | refine c_in_ret ?_ | refine c_in_hit ?_ | refine wp_skip ?_ | refine wp_exit ?_ | refine wp_ret ?_ | refine c_in_miss rfl ?_ | ((first | apply st hF | apply stg hF | apply s_step hF | apply s_stg hF); (first | exact d_move | exact d_assign | exact d_add | exact d_mulN (a := x % 4294967296) (b := y % 4294967296) (h := m1) | exact d_mulN (a := x / 4294967296) (b := y % 4294967296) (h := m2) | exact d_shr (a := x % 4294967296 * (y % 4294967296)) (b := 32) (hb := by decide) | exact d_addN (a := x / 4294967296 * (y % 4294967296)) (b := x % 4294967296 * (y % 4294967296) / 4294967296) (h := m3) | exact d_bits (a := x / 4294967296 * (y % 4294967296) + x % 4294967296 * (y % 4294967296) / 4294967296) (b := 4294967295) (ha := m3) (hb := by decide)); clear hF; clear a; intro a hF) | ((first | apply stm hF | apply stu hF); clear hF; clear a; intro a hF) | (apply c_cond_t hF; exact rfl; first | exact rfl | assumption) | (apply c_cond_f hF; exact rfl; first | exact rfl | assumption) | refine s_nil ?_)
  rw [et] at hF
  repeat (first | refine c_seq ?_ | refine c_block ?_ | refine c_region _ ?_ | refine wpList_nil ?_ | refine c_then ?_ | refine c_then_exit ?_ | refine c_then_ret ?_ | refine c_in ?_ | refine c_in_ret ?_ | refine c_in_hit ?_ | refine wp_skip ?_ | refine wp_exit ?_ | refine wp_ret ?_ | refine c_in_miss rfl ?_ | ((first | apply st hF | apply stg hF | apply s_step hF | apply s_stg hF); (first | exact d_move | exact d_assign | exact d_add | exact d_shr (a := x / 4294967296 * (y % 4294967296) + x % 4294967296 * (y % 4294967296) / 4294967296) (b := 32) (hb := by decide) | exact d_mulN (a := x % 4294967296) (b := y / 4294967296) (h := m4) | exact d_addN (a := (x / 4294967296 * (y % 4294967296) + x % 4294967296 * (y % 4294967296) / 4294967296) % 4294967296) (b := x % 4294967296 * (y / 4294967296)) (h := m5) | exact d_mulN (a := x / 4294967296) (b := y / 4294967296) (h := m6) | exact d_addN (a := x / 4294967296 * (y / 4294967296)) (b := (x / 4294967296 * (y % 4294967296) + x % 4294967296 * (y % 4294967296) / 4294967296) / 4294967296) (h := m7) | exact d_shr (a := (x / 4294967296 * (y % 4294967296) + x % 4294967296 * (y % 4294967296) / 4294967296) % 4294967296 + x % 4294967296 * (y / 4294967296)) (b := 32) (hb := by decide) | exact d_addN (a := x / 4294967296 * (y / 4294967296) + (x / 4294967296 * (y % 4294967296) + x % 4294967296 * (y % 4294967296) / 4294967296) / 4294967296) (b := ((x / 4294967296 * (y % 4294967296) + x % 4294967296 * (y % 4294967296) / 4294967296) % 4294967296 + x % 4294967296 * (y / 4294967296)) / 4294967296) (h := m8) | exact d_mulw); clear hF; clear a; intro a hF) | ((first | apply stm hF | apply stu hF); clear hF; clear a; intro a hF) | (apply c_cond_t hF; exact rfl; first | exact rfl | assumption) | (apply c_cond_f hF; exact rfl; first | exact rfl | assumption) | refine s_nil ?_)
  rw [hw] at hF
  exact ret2 hF rfl rfl rfl ⟨⟨_, _, rfl, m9, Nat.mod_lt _ (by decide)⟩, rfl⟩
set_option maxHeartbeats 8000000 in
theorem rcmp_ok (w : World) (n1 d1 n2 d2 : Int) (hn1 : -9223372036854775808 ≤ n1 ∧ n1 ≤ 9223372036854775807) (hd1 : -9223372036854775808 ≤ d1 ∧ d1 ≤ 9223372036854775807) (hn2 : -9223372036854775808 ≤ n2 ∧ n2 ≤ 9223372036854775807) (hd2 : -9223372036854775808 ≤ d2 ∧ d2 ≤ 9223372036854775807)
    (hr1 : rightB n1 d1 = true) (hr2 : rightB n2 d2 = true) :
    Ret Tryd.prog 86 [.agg #[.int .i64 n1, .int .i64 d1], .agg #[.int .i64 n2, .int .i64 d2]].toArray w (fun v w' => (∃ z : Int, v = .tuple #[.int .i64 z, .nilIface] ∧ (0 < z ↔ aboveP n1 d1 n2 d2)) ∧ Below w.heap.size w w') := by
  have hp1 : 1 ≤ d1 := by unfold rightB at hr1; exact (of_decide_eq_true hr1).1
  have hp2 : 1 ≤ d2 := by unfold rightB at hr2; exact (of_decide_eq_true hr2).1
  have q1 := natAbs_mul_pos (n := n1) hp2
  have q2 := natAbs_mul_pos (n := n2) hp1
  have s1 := mul_sign (n := n1) hp2
  have s2 := mul_sign (n := n2) hp1
  refine enter2 Tryd.func86 rfl 76 rfl 78 rfl (fun a hF => ?_)
  repeat (first | refine c_seq ?_ | refine c_block ?_ | refine c_region _ ?_ | refine wpList_nil ?_ | refine c_then ?_ | refine c_then_exit ?_ | refine c_then_ret ?_ | refine c_in ?_ | refine c_in_ret ?_ | refine c_in_hit ?_ | refine wp_skip ?_ | refine wp_exit ?_ | refine wp_ret ?_ | refine c_in_miss rfl ?_ | (refine q_nil ?_; rintro _ ⟨ndr, rfl⟩) | refine c_region_draw _ mixed (by kernel_rfl) ?_ | ((first | apply st hF | apply stg hF | apply s_step hF | apply s_stg hF); (first | exact d_move | exact d_assign | exact d_not | exact d_pickT | exact d_pickF | exact d_cmpT | exact d_cmpF | exact d_cmp | exact d_eqbT (und _ _ rfl) | exact d_eqbF (und _ _ rfl) | exact d_eqb (und _ _ rfl) | exact d_eqST | exact d_eqSF | exact d_eqS | exact d_fieldAddr (fld _ _ _ _ rfl) (isz _ _ rfl) | exact d_eqN (ifc _ rfl) | exact d_neN (ifc _ rfl) | exact d_makeI (con _ rfl) | exact d_extract); clear hF; clear a; intro a hF) | ((first | apply q_step hF | apply q_stg hF); intro wq hwq; (first | exact d_move | exact d_assign | exact d_not | exact d_pickT | exact d_pickF | exact d_cmpT | exact d_cmpF | exact d_cmp | exact d_eqbT (und _ _ rfl) | exact d_eqbF (und _ _ rfl) | exact d_eqb (und _ _ rfl) | exact d_eqST | exact d_eqSF | exact d_eqS | exact d_fieldAddr (fld _ _ _ _ rfl) (isz _ _ rfl) | exact d_eqN (ifc _ rfl) | exact d_neN (ifc _ rfl) | exact d_makeI (con _ rfl) | exact d_extract); clear hF; clear a; intro a hF) | ((first | apply stm hF | apply stu hF | apply q_stm hF | apply q_stu hF); clear hF; clear a; intro a hF) | (apply c_cond_t hF; exact rfl; first | exact rfl | assumption) | (apply c_cond_f hF; exact rfl; first | exact rfl | assumption) | refine s_nil ?_)
  refine st_box hF (cs := #[.int .i64 n1, .int .i64 d1]) rfl (k := fun a w1 hg1 hgr1 hsz1 hF => ?_)
  refine st_box hF (cs := #[.int .i64 n2, .int .i64 d2]) rfl (k := fun a w2 hg2 hgr2 hsz2 hF => ?_)
  have hg1' := blk_kept hg1 hgr2 (by simp)
  have hb2 : Below w.heap.size w w2 := ((Below.refl _ w).grown hgr1 (Nat.le_refl _) (fun k hk => by cases hk)).grown hgr2 (by omega) (fun k hk => by cases hk)
  repeat (first | refine c_seq ?_ | refine c_block ?_ | refine c_region _ ?_ | refine wpList_nil ?_ | refine c_then ?_ | refine c_then_exit ?_ | refine c_then_ret ?_ | refine c_in ?_ | refine c_in_ret ?_ | refine c_in_hit ?_ | refine wp_skip ?_ | refine wp_exit ?_ | refine wp_ret ?_ | refine c_in_miss rfl ?_ | (refine q_nil ?_; rintro _ ⟨ndr, rfl⟩) | refine c_region_draw _ mixed (by kernel_rfl) ?_ | ((first | apply st hF | apply stg hF | apply s_step hF | apply s_stg hF); (first | exact d_move | exact d_assign | exact d_not | exact d_pickT | exact d_pickF | exact d_cmpT | exact d_cmpF | exact d_cmp | exact d_eqbT (und _ _ rfl) | exact d_eqbF (und _ _ rfl) | exact d_eqb (und _ _ rfl) | exact d_eqST | exact d_eqSF | exact d_eqS | exact d_fieldAddr (fld _ _ _ _ rfl) (isz _ _ rfl) | exact d_eqN (ifc _ rfl) | exact d_neN (ifc _ rfl) | exact d_makeI (con _ rfl) | exact d_extract | exact d_loadAgg (agg _ rfl) (isz _ _ rfl) rfl (cells_at hg1')); clear hF; clear a; intro a hF) | ((first | apply q_step hF | apply q_stg hF); intro wq hwq; (first | exact d_move | exact d_assign | exact d_not | exact d_pickT | exact d_pickF | exact d_cmpT | exact d_cmpF | exact d_cmp | exact d_eqbT (und _ _ rfl) | exact d_eqbF (und _ _ rfl) | exact d_eqb (und _ _ rfl) | exact d_eqST | exact d_eqSF | exact d_eqS | exact d_fieldAddr (fld _ _ _ _ rfl) (isz _ _ rfl) | exact d_eqN (ifc _ rfl) | exact d_neN (ifc _ rfl) | exact d_makeI (con _ rfl) | exact d_extract | exact d_loadAgg (agg _ rfl) (isz _ _ rfl) rfl (cells_at hg1')); clear hF; clear a; intro a hF) | ((first | apply stm hF | apply stu hF | apply q_stm hF | apply q_stu hF); clear hF; clear a; intro a hF) | (apply c_cond_t hF; exact rfl; first | exact rfl | assumption) | (apply c_cond_f hF; exact rfl; first | exact rfl | assumption) | refine s_nil ?_)
  refine stc hF (right_ok w2 n1 d1 hn1 hd1) cal85 ⟨rfl, trivial⟩ (k := fun a v w3 hR hF => ?_)
  obtain ⟨rfl, hb3⟩ := hR
  rw [hr1] at hF
  have z2 : w.heap.size + 2 = w2.heap.size := by omega
  have g13 := (hb3.block _ (by omega)).trans hg1'
  have g23 := (hb3.block _ (by omega)).trans hg2
  repeat (first | refine c_seq ?_ | refine c_block ?_ | refine c_region _ ?_ | refine wpList_nil ?_ | refine c_then ?_ | refine c_then_exit ?_ | refine c_then_ret ?_ | refine c_in ?_ | refine c_in_ret ?_ | refine c_in_hit ?_ | refine wp_skip ?_ | refine wp_exit ?_ | refine wp_ret ?_ | refine c_in_miss rfl ?_ | (refine q_nil ?_; rintro _ ⟨ndr, rfl⟩) | refine c_region_draw _ mixed (by kernel_rfl) ?_ | ((first | apply st hF | apply stg hF | apply s_step hF | apply s_stg hF); (first | exact d_move | exact d_assign | exact d_not | exact d_pickT | exact d_pickF | exact d_cmpT | exact d_cmpF | exact d_cmp | exact d_eqbT (und _ _ rfl) | exact d_eqbF (und _ _ rfl) | exact d_eqb (und _ _ rfl) | exact d_eqST | exact d_eqSF | exact d_eqS | exact d_fieldAddr (fld _ _ _ _ rfl) (isz _ _ rfl) | exact d_eqN (ifc _ rfl) | exact d_neN (ifc _ rfl) | exact d_makeI (con _ rfl) | exact d_extract | exact d_loadAgg (agg _ rfl) (isz _ _ rfl) rfl (cells_at g23)); clear hF; clear a; intro a hF) | ((first | apply q_step hF | apply q_stg hF); intro wq hwq; (first | exact d_move | exact d_assign | exact d_not | exact d_pickT | exact d_pickF | exact d_cmpT | exact d_cmpF | exact d_cmp | exact d_eqbT (und _ _ rfl) | exact d_eqbF (und _ _ rfl) | exact d_eqb (und _ _ rfl) | exact d_eqST | exact d_eqSF | exact d_eqS | exact d_fieldAddr (fld _ _ _ _ rfl) (isz _ _ rfl) | exact d_eqN (ifc _ rfl) | exact d_neN (ifc _ rfl) | exact d_makeI (con _ rfl) | exact d_extract | exact d_loadAgg (agg _ rfl) (isz _ _ rfl) rfl (cells_at g23)); clear hF; clear a; intro a hF) | ((first | apply stm hF | apply stu hF | apply q_stm hF | apply q_stu hF); clear hF; clear a; intro a hF) | (apply c_cond_t hF; exact rfl; first | exact rfl | assumption) | (apply c_cond_f hF; exact rfl; first | exact rfl | assumption) | refine s_nil ?_)
  refine stcg hF (right_ok w3 n2 d2 hn2 hd2) cal85 ⟨rfl, trivial⟩ (k := fun a v w4 hR hF => ?_)
  obtain ⟨rfl, hb4⟩ := hR
  rw [hr2] at hF
  have z3 := hb3.size
  have g14 := (hb4.block _ (by omega)).trans g13
  have g24 := (hb4.block _ (by omega)).trans g23
  have hB4 : Below w.heap.size w w4 := (hb2.trans (hb3.mono (by omega))).trans (hb4.mono (by omega))
  clear hg1 hg2 hg1' hgr1 hgr2 g13 g23 hb2 hb3
  have a0 : w4.cell? ⟨w.heap.size, 0 + 0, none⟩ = some (.int .i64 n1) := cell_at g14 rfl
  have a1 : w4.cell? ⟨w.heap.size, 0 + 1, none⟩ = some (.int .i64 d1) := cell_at g14 rfl
  have b0 : w4.cell? ⟨w1.heap.size, 0 + 0, none⟩ = some (.int .i64 n2) := cell_at g24 rfl
  have b1 : w4.cell? ⟨w1.heap.size, 0 + 1, none⟩ = some (.int .i64 d2) := cell_at g24 rfl
  unfold aboveP
  have hcs : (n1 < 0 ∧ ¬ n2 < 0) ∨ (¬ n1 < 0 ∧ n2 < 0) ∨ (n1 < 0 ∧ n2 < 0) ∨ (¬ n1 < 0 ∧ ¬ n2 < 0) := by omega
  rcases hcs with ⟨c1, c2⟩ | ⟨c1, c2⟩ | ⟨c1, c2⟩ | ⟨c1, c2⟩
  · have e1 := s1.1 c1
    have e2 := s2.2 (by omega)
    repeat (first | refine c_seq ?_ | refine c_block ?_ | refine c_region _ ?_ | refine wpList_nil ?_ | refine c_then ?_ | refine c_then_exit ?_ | refine c_then_ret ?_ | refine c_in ?_ | refine c_in_ret ?_ | refine c_in_hit ?_ | refine wp_skip ?_ | refine wp_exit ?_ | refine wp_ret ?_ | refine c_in_miss rfl ?_ | (refine q_nil ?_; rintro _ ⟨ndr, rfl⟩) | refine c_region_draw _ mixed (by kernel_rfl) ?_ | ((first | apply st hF | apply stg hF | apply s_step hF | apply s_stg hF); (first | exact d_move | exact d_assign | exact d_not | exact d_pickT | exact d_pickF | exact d_cmpT | exact d_cmpF | exact d_cmp | exact d_eqbT (und _ _ rfl) | exact d_eqbF (und _ _ rfl) | exact d_eqb (und _ _ rfl) | exact d_eqST | exact d_eqSF | exact d_eqS | exact d_fieldAddr (fld _ _ _ _ rfl) (isz _ _ rfl) | exact d_eqN (ifc _ rfl) | exact d_neN (ifc _ rfl) | exact d_makeI (con _ rfl) | exact d_extract | exact d_load (und _ _ rfl) a0 | exact d_load (und _ _ rfl) b0); clear hF; clear a; intro a hF) | ((first | apply q_step hF | apply q_stg hF); intro wq hwq; (first | exact d_move | exact d_assign | exact d_not | exact d_pickT | exact d_pickF | exact d_cmpT | exact d_cmpF | exact d_cmp | exact d_eqbT (und _ _ rfl) | exact d_eqbF (und _ _ rfl) | exact d_eqb (und _ _ rfl) | exact d_eqST | exact d_eqSF | exact d_eqS | exact d_fieldAddr (fld _ _ _ _ rfl) (isz _ _ rfl) | exact d_eqN (ifc _ rfl) | exact d_neN (ifc _ rfl) | exact d_makeI (con _ rfl) | exact d_extract | exact q_load (und _ _ rfl) hwq (by exact a0) | exact q_load (und _ _ rfl) hwq (by exact b0)); clear hF; clear a; intro a hF) | ((first | apply stm hF | apply stu hF | apply q_stm hF | apply q_stu hF); clear hF; clear a; intro a hF) | (apply c_cond_t hF; exact rfl; first | exact rfl | assumption) | (apply c_cond_f hF; exact rfl; first | exact rfl | assumption) | refine s_nil ?_)
    exact ret2 hF rfl rfl rfl ⟨⟨_, rfl, by omega⟩, hB4⟩
  · have e1 := s1.2 (by omega)
    have e2 := s2.1 c2
    repeat (first | refine c_seq ?_ | refine c_block ?_ | refine c_region _ ?_ | refine wpList_nil ?_ | refine c_then ?_ | refine c_then_exit ?_ | refine c_then_ret ?_ | refine c_in ?_ | refine c_in_ret ?_ | refine c_in_hit ?_ | refine wp_skip ?_ | refine wp_exit ?_ | refine wp_ret ?_ | refine c_in_miss rfl ?_ | (refine q_nil ?_; rintro _ ⟨ndr, rfl⟩) | refine c_region_draw _ mixed (by kernel_rfl) ?_ | ((first | apply st hF | apply stg hF | apply s_step hF | apply s_stg hF); (first | exact d_move | exact d_assign | exact d_not | exact d_pickT | exact d_pickF | exact d_cmpT | exact d_cmpF | exact d_cmp | exact d_eqbT (und _ _ rfl) | exact d_eqbF (und _ _ rfl) | exact d_eqb (und _ _ rfl) | exact d_eqST | exact d_eqSF | exact d_eqS | exact d_fieldAddr (fld _ _ _ _ rfl) (isz _ _ rfl) | exact d_eqN (ifc _ rfl) | exact d_neN (ifc _ rfl) | exact d_makeI (con _ rfl) | exact d_extract | exact d_load (und _ _ rfl) a0 | exact d_load (und _ _ rfl) b0); clear hF; clear a; intro a hF) | ((first | apply q_step hF | apply q_stg hF); intro wq hwq; (first | exact d_move | exact d_assign | exact d_not | exact d_pickT | exact d_pickF | exact d_cmpT | exact d_cmpF | exact d_cmp | exact d_eqbT (und _ _ rfl) | exact d_eqbF (und _ _ rfl) | exact d_eqb (und _ _ rfl) | exact d_eqST | exact d_eqSF | exact d_eqS | exact d_fieldAddr (fld _ _ _ _ rfl) (isz _ _ rfl) | exact d_eqN (ifc _ rfl) | exact d_neN (ifc _ rfl) | exact d_makeI (con _ rfl) | exact d_extract | exact q_load (und _ _ rfl) hwq (by exact a0) | exact q_load (und _ _ rfl) hwq (by exact b0)); clear hF; clear a; intro a hF) | ((first | apply stm hF | apply stu hF | apply q_stm hF | apply q_stu hF); clear hF; clear a; intro a hF) | (apply c_cond_t hF; exact rfl; first | exact rfl | assumption) | (apply c_cond_f hF; exact rfl; first | exact rfl | assumption) | refine s_nil ?_)
    exact ret2 hF rfl rfl rfl ⟨⟨_, rfl, by omega⟩, hB4⟩
  all_goals
    have hS : ∀ wq : World, (wq.heap[w.heap.size]? = some (.cells #[.int .i64 n1, .int .i64 d1] 35 (0, 0)) ∧ wq.heap[w1.heap.size]? = some (.cells #[.int .i64 n2, .int .i64 d2] 35 (0, 0))) → wq.cell? ⟨w.heap.size, 0 + 0, none⟩ = some (.int .i64 n1) ∧ wq.cell? ⟨w.heap.size, 0 + 1, none⟩ = some (.int .i64 d1) ∧ wq.cell? ⟨w1.heap.size, 0 + 0, none⟩ = some (.int .i64 n2) ∧ wq.cell? ⟨w1.heap.size, 0 + 1, none⟩ = some (.int .i64 d2) := fun wq h => ⟨cell_at h.1 rfl, cell_at h.1 rfl, cell_at h.2 rfl, cell_at h.2 rfl⟩
    have u2 := wrap_pos (n := d2) (by omega) hd2.2
    have u1 := wrap_pos (n := d1) (by omega) hd1.2
    have v1 : d1 = ((d1.natAbs : Nat) : Int) := by omega
    have v2 : d2 = ((d2.natAbs : Nat) : Int) := by omega
    repeat (first | (refine c_region_mix (fun wq => wq.heap[w.heap.size]? = some (.cells #[.int .i64 n1, .int .i64 d1] 35 (0, 0)) ∧ wq.heap[w1.heap.size]? = some (.cells #[.int .i64 n2, .int .i64 d2] 35 (0, 0))) [(0, true), (1, true), (3, true), (4, true), (5, true), (2, false), (6, false), (7, true), (8, true), (9, true), (10, true), (11, true)] 7 mixed (by kernel_rfl) ⟨g14, g24⟩ ?_; simp only [pickX, List.filterMap_cons, List.getElem?_cons_zero, List.getElem?_cons_succ, List.filterMap_nil, Option.map_some]) | refine c_seq ?_ | refine c_block ?_ | refine c_region _ ?_ | refine wpList_nil ?_ | refine c_then ?_ | refine c_then_exit ?_ | refine c_then_ret ?_ | refine c_in ?_ | refine c_in_ret ?_ | refine c_in_hit ?_ | refine wp_skip ?_ | refine wp_exit ?_ | refine wp_ret ?_ | refine c_in_miss rfl ?_ | (refine q_nil ?_; rintro _ ⟨ndr, rfl⟩) | refine c_region_draw _ mixed (by kernel_rfl) ?_ | ((first | apply st hF | apply stg hF | apply s_step hF | apply s_stg hF); (first | exact d_move | exact d_assign | exact d_not | exact d_pickT | exact d_pickF | exact d_cmpT | exact d_cmpF | exact d_cmp | exact d_eqbT (und _ _ rfl) | exact d_eqbF (und _ _ rfl) | exact d_eqb (und _ _ rfl) | exact d_eqST | exact d_eqSF | exact d_eqS | exact d_fieldAddr (fld _ _ _ _ rfl) (isz _ _ rfl) | exact d_eqN (ifc _ rfl) | exact d_neN (ifc _ rfl) | exact d_makeI (con _ rfl) | exact d_extract | exact d_load (und _ _ rfl) a0 | exact d_load (und _ _ rfl) b0); clear hF; clear a; intro a hF) | ((first | apply q_step hF | apply q_stg hF); intro wq hwq; (first | exact d_move | exact d_assign | exact d_not | exact d_pickT | exact d_pickF | exact d_cmpT | exact d_cmpF | exact d_cmp | exact d_eqbT (und _ _ rfl) | exact d_eqbF (und _ _ rfl) | exact d_eqb (und _ _ rfl) | exact d_eqST | exact d_eqSF | exact d_eqS | exact d_fieldAddr (fld _ _ _ _ rfl) (isz _ _ rfl) | exact d_eqN (ifc _ rfl) | exact d_neN (ifc _ rfl) | exact d_makeI (con _ rfl) | exact d_extract | exact q_load (und _ _ rfl) hwq (by exact a0) | exact q_load (und _ _ rfl) hwq (by exact b0)); clear hF; clear a; intro a hF) | ((first | apply stm hF | apply stu hF | apply q_stm hF | apply q_stu hF); clear hF; clear a; intro a hF) | (apply c_cond_t hF; exact rfl; first | exact rfl | assumption) | (apply c_cond_f hF; exact rfl; first | exact rfl | assumption) | refine s_nil ?_)
    repeat (first | ((first | apply x_step hF | apply x_stg hF); intro wq hwq; (first | exact d_move | exact d_assign | exact d_not | exact d_pickT | exact d_pickF | exact d_cmpT | exact d_cmpF | exact d_cmp | exact d_eqbT (und _ _ rfl) | exact d_eqbF (und _ _ rfl) | exact d_eqb (und _ _ rfl) | exact d_eqST | exact d_eqSF | exact d_eqS | exact d_fieldAddr (fld _ _ _ _ rfl) (isz _ _ rfl) | exact d_eqN (ifc _ rfl) | exact d_neN (ifc _ rfl) | exact d_makeI (con _ rfl) | exact d_extract | exact d_convI (und _ _ rfl) (und _ _ rfl) (hm := u2) | exact d_load (und _ _ rfl) ((hS wq hwq).1) | exact d_load (und _ _ rfl) ((hS wq hwq).2.2.2)); clear hF; clear a; intro a hF) | ((first | apply x_stm hF | apply x_stu hF); clear hF; clear a; intro a hF))
    refine x_one ?_
    refine stc hF (size_ok _ n1 hn1) cal105 ⟨rfl, trivial⟩ (k := fun a v w5 hR hF => ?_)
    obtain ⟨rfl, rfl⟩ := hR
    refine wpList_nil ⟨rfl, ⟨g14, g24⟩, x_one ?_⟩
    refine stc hF (vs := [.int .u64 ((n1.natAbs : Nat) : Int), .int .u64 d2]) (by have := mul64_ok (w4.drewN 1) n1.natAbs d2.natAbs (by omega) (by omega); rw [← v2] at this; exact this) cal106 ⟨rfl, rfl, trivial⟩ (k := fun a v w5 hR hF => ?_)
    obtain ⟨⟨h, l, rfl, ehl, hl⟩, rfl⟩ := hR
    refine wpList_nil ⟨rfl, ⟨g14, g24⟩, ?_⟩
    repeat (first | ((first | apply x_step hF | apply x_stg hF); intro wq hwq; (first | exact d_move | exact d_assign | exact d_not | exact d_pickT | exact d_pickF | exact d_cmpT | exact d_cmpF | exact d_cmp | exact d_eqbT (und _ _ rfl) | exact d_eqbF (und _ _ rfl) | exact d_eqb (und _ _ rfl) | exact d_eqST | exact d_eqSF | exact d_eqS | exact d_fieldAddr (fld _ _ _ _ rfl) (isz _ _ rfl) | exact d_eqN (ifc _ rfl) | exact d_neN (ifc _ rfl) | exact d_makeI (con _ rfl) | exact d_extract); clear hF; clear a; intro a hF) | ((first | apply x_stm hF | apply x_stu hF); clear hF; clear a; intro a hF))
    refine x_nil ?_
    have g15 : (w4.drewN 1).heap[w.heap.size]? = some (.cells #[.int .i64 n1, .int .i64 d1] 35 (0, 0)) := g14
    have g25 : (w4.drewN 1).heap[w1.heap.size]? = some (.cells #[.int .i64 n2, .int .i64 d2] 35 (0, 0)) := g24
    repeat (first | (refine c_region_mix (fun wq => wq.heap[w.heap.size]? = some (.cells #[.int .i64 n1, .int .i64 d1] 35 (0, 0)) ∧ wq.heap[w1.heap.size]? = some (.cells #[.int .i64 n2, .int .i64 d2] 35 (0, 0))) [(0, true), (1, true), (3, true), (4, true), (5, true), (2, false), (6, false), (7, true), (8, true), (9, true), (10, true), (11, true)] 8 mixed (by kernel_rfl) ⟨g15, g25⟩ ?_; simp only [pickX, List.filterMap_cons, List.getElem?_cons_zero, List.getElem?_cons_succ, List.filterMap_nil, Option.map_some]) | refine c_seq ?_ | refine c_block ?_ | refine c_region _ ?_ | refine wpList_nil ?_ | refine c_then ?_ | refine c_then_exit ?_ | refine c_then_ret ?_ | refine c_in ?_ | refine c_in_ret ?_ | refine c_in_hit ?_ | refine wp_skip ?_ | refine wp_exit ?_ | refine wp_ret ?_ | refine c_in_miss rfl ?_ | (refine q_nil ?_; rintro _ ⟨ndr, rfl⟩) | refine c_region_draw _ mixed (by kernel_rfl) ?_ | ((first | apply st hF | apply stg hF | apply s_step hF | apply s_stg hF); (first | exact d_move | exact d_assign | exact d_not | exact d_pickT | exact d_pickF | exact d_cmpT | exact d_cmpF | exact d_cmp | exact d_eqbT (und _ _ rfl) | exact d_eqbF (und _ _ rfl) | exact d_eqb (und _ _ rfl) | exact d_eqST | exact d_eqSF | exact d_eqS | exact d_fieldAddr (fld _ _ _ _ rfl) (isz _ _ rfl) | exact d_eqN (ifc _ rfl) | exact d_neN (ifc _ rfl) | exact d_makeI (con _ rfl) | exact d_extract); clear hF; clear a; intro a hF) | ((first | apply q_step hF | apply q_stg hF); intro wq hwq; (first | exact d_move | exact d_assign | exact d_not | exact d_pickT | exact d_pickF | exact d_cmpT | exact d_cmpF | exact d_cmp | exact d_eqbT (und _ _ rfl) | exact d_eqbF (und _ _ rfl) | exact d_eqb (und _ _ rfl) | exact d_eqST | exact d_eqSF | exact d_eqS | exact d_fieldAddr (fld _ _ _ _ rfl) (isz _ _ rfl) | exact d_eqN (ifc _ rfl) | exact d_neN (ifc _ rfl) | exact d_makeI (con _ rfl) | exact d_extract); clear hF; clear a; intro a hF) | ((first | apply stm hF | apply stu hF | apply q_stm hF | apply q_stu hF); clear hF; clear a; intro a hF) | (apply c_cond_t hF; exact rfl; first | exact rfl | assumption) | (apply c_cond_f hF; exact rfl; first | exact rfl | assumption) | refine s_nil ?_)
    repeat (first | ((first | apply x_step hF | apply x_stg hF); intro wq hwq; (first | exact d_move | exact d_assign | exact d_not | exact d_pickT | exact d_pickF | exact d_cmpT | exact d_cmpF | exact d_cmp | exact d_eqbT (und _ _ rfl) | exact d_eqbF (und _ _ rfl) | exact d_eqb (und _ _ rfl) | exact d_eqST | exact d_eqSF | exact d_eqS | exact d_fieldAddr (fld _ _ _ _ rfl) (isz _ _ rfl) | exact d_eqN (ifc _ rfl) | exact d_neN (ifc _ rfl) | exact d_makeI (con _ rfl) | exact d_extract | exact d_convI (und _ _ rfl) (und _ _ rfl) (hm := u1) | exact d_load (und _ _ rfl) ((hS wq hwq).2.2.1) | exact d_load (und _ _ rfl) ((hS wq hwq).2.1)); clear hF; clear a; intro a hF) | ((first | apply x_stm hF | apply x_stu hF); clear hF; clear a; intro a hF))
    refine x_one ?_
    refine stc hF (size_ok _ n2 hn2) cal105 ⟨rfl, trivial⟩ (k := fun a v w5 hR hF => ?_)
    obtain ⟨rfl, rfl⟩ := hR
    refine wpList_nil ⟨rfl, ⟨g15, g25⟩, x_one ?_⟩
    refine stc hF (vs := [.int .u64 ((n2.natAbs : Nat) : Int), .int .u64 d1]) (by have := mul64_ok ((w4.drewN 1).drewN 1) n2.natAbs d1.natAbs (by omega) (by omega); rw [← v1] at this; exact this) cal106 ⟨rfl, rfl, trivial⟩ (k := fun a v w5 hR hF => ?_)
    obtain ⟨⟨i, m, rfl, eim, hm⟩, rfl⟩ := hR
    refine wpList_nil ⟨rfl, ⟨g15, g25⟩, ?_⟩
    repeat (first | ((first | apply x_step hF | apply x_stg hF); intro wq hwq; (first | exact d_move | exact d_assign | exact d_not | exact d_pickT | exact d_pickF | exact d_cmpT | exact d_cmpF | exact d_cmp | exact d_eqbT (und _ _ rfl) | exact d_eqbF (und _ _ rfl) | exact d_eqb (und _ _ rfl) | exact d_eqST | exact d_eqSF | exact d_eqS | exact d_fieldAddr (fld _ _ _ _ rfl) (isz _ _ rfl) | exact d_eqN (ifc _ rfl) | exact d_neN (ifc _ rfl) | exact d_makeI (con _ rfl) | exact d_extract); clear hF; clear a; intro a hF) | ((first | apply x_stm hF | apply x_stu hF); clear hF; clear a; intro a hF))
    refine x_nil ?_
    have g16 : ((w4.drewN 1).drewN 1).heap[w.heap.size]? = some (.cells #[.int .i64 n1, .int .i64 d1] 35 (0, 0)) := g14
    have a6 : ((w4.drewN 1).drewN 1).cell? ⟨w.heap.size, 0 + 0, none⟩ = some (.int .i64 n1) := cell_at g16 rfl
    have hB6 : Below w.heap.size w ((w4.drewN 1).drewN 1) := below_more (below_more hB4 1) 1
    obtain ⟨k1, k2⟩ := cmp_words ehl eim hl hm
    rw [ehl] at q1 k1 k2
    rw [eim] at q2 k1 k2
    rcases Nat.lt_trichotomy h i with hhi | hhi | hhi
    · repeat (first | refine c_seq ?_ | refine c_block ?_ | refine c_region _ ?_ | refine wpList_nil ?_ | refine c_then ?_ | refine c_then_exit ?_ | refine c_then_ret ?_ | refine c_in ?_ | refine c_in_ret ?_ | refine c_in_hit ?_ | refine wp_skip ?_ | refine wp_exit ?_ | refine wp_ret ?_ | refine c_in_miss rfl ?_ | (refine q_nil ?_; rintro _ ⟨ndr, rfl⟩) | refine c_region_draw _ mixed (by kernel_rfl) ?_ | ((first | apply st hF | apply stg hF | apply s_step hF | apply s_stg hF); (first | exact d_move | exact d_assign | exact d_not | exact d_pickT | exact d_pickF | exact d_cmpT | exact d_cmpF | exact d_cmp | exact d_eqbT (und _ _ rfl) | exact d_eqbF (und _ _ rfl) | exact d_eqb (und _ _ rfl) | exact d_eqST | exact d_eqSF | exact d_eqS | exact d_fieldAddr (fld _ _ _ _ rfl) (isz _ _ rfl) | exact d_eqN (ifc _ rfl) | exact d_neN (ifc _ rfl) | exact d_makeI (con _ rfl) | exact d_extract | exact d_load (und _ _ rfl) a6); clear hF; clear a; intro a hF) | ((first | apply q_step hF | apply q_stg hF); intro wq hwq; (first | exact d_move | exact d_assign | exact d_not | exact d_pickT | exact d_pickF | exact d_cmpT | exact d_cmpF | exact d_cmp | exact d_eqbT (und _ _ rfl) | exact d_eqbF (und _ _ rfl) | exact d_eqb (und _ _ rfl) | exact d_eqST | exact d_eqSF | exact d_eqS | exact d_fieldAddr (fld _ _ _ _ rfl) (isz _ _ rfl) | exact d_eqN (ifc _ rfl) | exact d_neN (ifc _ rfl) | exact d_makeI (con _ rfl) | exact d_extract | exact q_load (und _ _ rfl) hwq (by exact a6)); clear hF; clear a; intro a hF) | ((first | apply stm hF | apply stu hF | apply q_stm hF | apply q_stu hF); clear hF; clear a; intro a hF) | (apply c_cond_t hF; exact rfl; first | exact rfl | assumption) | (apply c_cond_f hF; exact rfl; first | exact rfl | assumption) | refine s_nil ?_)
      exact ret2 hF rfl rfl rfl ⟨⟨_, rfl, by split at q1 <;> split at q2 <;> omega⟩, hB6⟩
    · rcases Nat.lt_trichotomy l m with hlm | hlm | hlm
      · repeat (first | refine c_seq ?_ | refine c_block ?_ | refine c_region _ ?_ | refine wpList_nil ?_ | refine c_then ?_ | refine c_then_exit ?_ | refine c_then_ret ?_ | refine c_in ?_ | refine c_in_ret ?_ | refine c_in_hit ?_ | refine wp_skip ?_ | refine wp_exit ?_ | refine wp_ret ?_ | refine c_in_miss rfl ?_ | (refine q_nil ?_; rintro _ ⟨ndr, rfl⟩) | refine c_region_draw _ mixed (by kernel_rfl) ?_ | ((first | apply st hF | apply stg hF | apply s_step hF | apply s_stg hF); (first | exact d_move | exact d_assign | exact d_not | exact d_pickT | exact d_pickF | exact d_cmpT | exact d_cmpF | exact d_cmp | exact d_eqbT (und _ _ rfl) | exact d_eqbF (und _ _ rfl) | exact d_eqb (und _ _ rfl) | exact d_eqST | exact d_eqSF | exact d_eqS | exact d_fieldAddr (fld _ _ _ _ rfl) (isz _ _ rfl) | exact d_eqN (ifc _ rfl) | exact d_neN (ifc _ rfl) | exact d_makeI (con _ rfl) | exact d_extract | exact d_load (und _ _ rfl) a6); clear hF; clear a; intro a hF) | ((first | apply q_step hF | apply q_stg hF); intro wq hwq; (first | exact d_move | exact d_assign | exact d_not | exact d_pickT | exact d_pickF | exact d_cmpT | exact d_cmpF | exact d_cmp | exact d_eqbT (und _ _ rfl) | exact d_eqbF (und _ _ rfl) | exact d_eqb (und _ _ rfl) | exact d_eqST | exact d_eqSF | exact d_eqS | exact d_fieldAddr (fld _ _ _ _ rfl) (isz _ _ rfl) | exact d_eqN (ifc _ rfl) | exact d_neN (ifc _ rfl) | exact d_makeI (con _ rfl) | exact d_extract | exact q_load (und _ _ rfl) hwq (by exact a6)); clear hF; clear a; intro a hF) | ((first | apply stm hF | apply stu hF | apply q_stm hF | apply q_stu hF); clear hF; clear a; intro a hF) | (apply c_cond_t hF; exact rfl; first | exact rfl | assumption) | (apply c_cond_f hF; exact rfl; first | exact rfl | assumption) | refine s_nil ?_)
        exact ret2 hF rfl rfl rfl ⟨⟨_, rfl, by split at q1 <;> split at q2 <;> omega⟩, hB6⟩
      · repeat (first | refine c_seq ?_ | refine c_block ?_ | refine c_region _ ?_ | refine wpList_nil ?_ | refine c_then ?_ | refine c_then_exit ?_ | refine c_then_ret ?_ | refine c_in ?_ | refine c_in_ret ?_ | refine c_in_hit ?_ | refine wp_skip ?_ | refine wp_exit ?_ | refine wp_ret ?_ | refine c_in_miss rfl ?_ | (refine q_nil ?_; rintro _ ⟨ndr, rfl⟩) | refine c_region_draw _ mixed (by kernel_rfl) ?_ | ((first | apply st hF | apply stg hF | apply s_step hF | apply s_stg hF); (first | exact d_move | exact d_assign | exact d_not | exact d_pickT | exact d_pickF | exact d_cmpT | exact d_cmpF | exact d_cmp | exact d_eqbT (und _ _ rfl) | exact d_eqbF (und _ _ rfl) | exact d_eqb (und _ _ rfl) | exact d_eqST | exact d_eqSF | exact d_eqS | exact d_fieldAddr (fld _ _ _ _ rfl) (isz _ _ rfl) | exact d_eqN (ifc _ rfl) | exact d_neN (ifc _ rfl) | exact d_makeI (con _ rfl) | exact d_extract | exact d_load (und _ _ rfl) a6); clear hF; clear a; intro a hF) | ((first | apply q_step hF | apply q_stg hF); intro wq hwq; (first | exact d_move | exact d_assign | exact d_not | exact d_pickT | exact d_pickF | exact d_cmpT | exact d_cmpF | exact d_cmp | exact d_eqbT (und _ _ rfl) | exact d_eqbF (und _ _ rfl) | exact d_eqb (und _ _ rfl) | exact d_eqST | exact d_eqSF | exact d_eqS | exact d_fieldAddr (fld _ _ _ _ rfl) (isz _ _ rfl) | exact d_eqN (ifc _ rfl) | exact d_neN (ifc _ rfl) | exact d_makeI (con _ rfl) | exact d_extract | exact q_load (und _ _ rfl) hwq (by exact a6)); clear hF; clear a; intro a hF) | ((first | apply stm hF | apply stu hF | apply q_stm hF | apply q_stu hF); clear hF; clear a; intro a hF) | (apply c_cond_t hF; exact rfl; first | exact rfl | assumption) | (apply c_cond_f hF; exact rfl; first | exact rfl | assumption) | refine s_nil ?_)
        exact ret2 hF rfl rfl rfl ⟨⟨_, rfl, by split at q1 <;> split at q2 <;> omega⟩, hB6⟩
      · repeat (first | refine c_seq ?_ | refine c_block ?_ | refine c_region _ ?_ | refine wpList_nil ?_ | refine c_then ?_ | refine c_then_exit ?_ | refine c_then_ret ?_ | refine c_in ?_ | refine c_in_ret ?_ | refine c_in_hit ?_ | refine wp_skip ?_ | refine wp_exit ?_ | refine wp_ret ?_ | refine c_in_miss rfl ?_ | (refine q_nil ?_; rintro _ ⟨ndr, rfl⟩) | refine c_region_draw _ mixed (by kernel_rfl) ?_ | ((first | apply st hF | apply stg hF | apply s_step hF | apply s_stg hF); (first | exact d_move | exact d_assign | exact d_not | exact d_pickT | exact d_pickF | exact d_cmpT | exact d_cmpF | exact d_cmp | exact d_eqbT (und _ _ rfl) | exact d_eqbF (und _ _ rfl) | exact d_eqb (und _ _ rfl) | exact d_eqST | exact d_eqSF | exact d_eqS | exact d_fieldAddr (fld _ _ _ _ rfl) (isz _ _ rfl) | exact d_eqN (ifc _ rfl) | exact d_neN (ifc _ rfl) | exact d_makeI (con _ rfl) | exact d_extract | exact d_load (und _ _ rfl) a6); clear hF; clear a; intro a hF) | ((first | apply q_step hF | apply q_stg hF); intro wq hwq; (first | exact d_move | exact d_assign | exact d_not | exact d_pickT | exact d_pickF | exact d_cmpT | exact d_cmpF | exact d_cmp | exact d_eqbT (und _ _ rfl) | exact d_eqbF (und _ _ rfl) | exact d_eqb (und _ _ rfl) | exact d_eqST | exact d_eqSF | exact d_eqS | exact d_fieldAddr (fld _ _ _ _ rfl) (isz _ _ rfl) | exact d_eqN (ifc _ rfl) | exact d_neN (ifc _ rfl) | exact d_makeI (con _ rfl) | exact d_extract | exact q_load (und _ _ rfl) hwq (by exact a6)); clear hF; clear a; intro a hF) | ((first | apply stm hF | apply stu hF | apply q_stm hF | apply q_stu hF); clear hF; clear a; intro a hF) | (apply c_cond_t hF; exact rfl; first | exact rfl | assumption) | (apply c_cond_f hF; exact rfl; first | exact rfl | assumption) | refine s_nil ?_)
        exact ret2 hF rfl rfl rfl ⟨⟨_, rfl, by split at q1 <;> split at q2 <;> omega⟩, hB6⟩
    · repeat (first | refine c_seq ?_ | refine c_block ?_ | refine c_region _ ?_ | refine wpList_nil ?_ | refine c_then ?_ | refine c_then_exit ?_ | refine c_then_ret ?_ | refine c_in ?_ | refine c_in_ret ?_ | refine c_in_hit ?_ | refine wp_skip ?_ | refine wp_exit ?_ | refine wp_ret ?_ | refine c_in_miss rfl ?_ | (refine q_nil ?_; rintro _ ⟨ndr, rfl⟩) | refine c_region_draw _ mixed (by kernel_rfl) ?_ | ((first | apply st hF | apply stg hF | apply s_step hF | apply s_stg hF); (first | exact d_move | exact d_assign | exact d_not | exact d_pickT | exact d_pickF | exact d_cmpT | exact d_cmpF | exact d_cmp | exact d_eqbT (und _ _ rfl) | exact d_eqbF (und _ _ rfl) | exact d_eqb (und _ _ rfl) | exact d_eqST | exact d_eqSF | exact d_eqS | exact d_fieldAddr (fld _ _ _ _ rfl) (isz _ _ rfl) | exact d_eqN (ifc _ rfl) | exact d_neN (ifc _ rfl) | exact d_makeI (con _ rfl) | exact d_extract | exact d_load (und _ _ rfl) a6); clear hF; clear a; intro a hF) | ((first | apply q_step hF | apply q_stg hF); intro wq hwq; (first | exact d_move | exact d_assign | exact d_not | exact d_pickT | exact d_pickF | exact d_cmpT | exact d_cmpF | exact d_cmp | exact d_eqbT (und _ _ rfl) | exact d_eqbF (und _ _ rfl) | exact d_eqb (und _ _ rfl) | exact d_eqST | exact d_eqSF | exact d_eqS | exact d_fieldAddr (fld _ _ _ _ rfl) (isz _ _ rfl) | exact d_eqN (ifc _ rfl) | exact d_neN (ifc _ rfl) | exact d_makeI (con _ rfl) | exact d_extract | exact q_load (und _ _ rfl) hwq (by exact a6)); clear hF; clear a; intro a hF) | ((first | apply stm hF | apply stu hF | apply q_stm hF | apply q_stu hF); clear hF; clear a; intro a hF) | (apply c_cond_t hF; exact rfl; first | exact rfl | assumption) | (apply c_cond_f hF; exact rfl; first | exact rfl | assumption) | refine s_nil ?_)
      exact ret2 hF rfl rfl rfl ⟨⟨_, rfl, by split at q1 <;> split at q2 <;> omega⟩, hB6⟩
end Go.Proofs.YtjomihhpglojpaaDoor
end
section
/- From what an argument reads as to what the walk is told of it. -/
namespace Go.Proofs.YtjomihhpglojpaaDoor
open Go.ChangeShapes Go.WideShapes Go.ChangeAt Go.RowKit Go.Deep

section
variable {H : Type} {enc : TypeId × Value → H} {P : Program} {w : World} {base : Nat} {held : Bool}

theorem spotless {a : Addr} {v : Value} (h : w.cell? a = some v) : a = ⟨a.block, a.off, none⟩ := by
  cases a with
  | mk b o s =>
    cases s with
    | none => rfl
    | some s =>
      simp only [World.cell?] at h
      cases hb : w.heap[b]? with
      | none => simp [hb] at h
      | some ob => cases ob <;> simp [hb] at h

theorem open_rd_bool {t e : TypeId} {a : Option Addr} {len cap : Nat} {d : DataW H} {ps : List MemPlace} (ht : P.underlying t = some (.slice e)) (he : P.underlying e = some .bool) (hc : P.cellsOf e = 1)
    (h : DataW.Trod enc P w base (fun _ => true) held t (.slice a len cap) d ps) : ∃ xs : List Bool, xs.length = len ∧ len ≤ cap ∧ cap ≤ maxLen ∧ Rd w a .bool xs := by
  obtain ⟨fuel, hf⟩ := h
  rcases open_bools ht he hc hf with ⟨hcs, _⟩ | ⟨x, l, c, B, hcs, _, hl, hm, _, hcell⟩
  · simp [Value.cells] at hcs
    obtain ⟨rfl, rfl, rfl⟩ := hcs
    exact ⟨[], rfl, Nat.le_refl _, Nat.zero_le _, fun i hi => absurd hi (Nat.not_lt_zero _)⟩
  · simp [Value.cells] at hcs
    obtain ⟨rfl, rfl, rfl⟩ := hcs
    refine ⟨(List.range len).map B, by simp, hl, hm, fun i hi => ?_⟩
    simp at hi
    have h0 := hcell 0 (by omega)
    have hs := spotless h0
    have e0 : x.add 0 = x := by simp [Addr.add]
    rw [e0] at hs
    refine ⟨x.block, x.off, by rw [← hs], ?_⟩
    have h1 := hcell i (by omega)
    rw [hs, addr_add] at h1
    rw [h1]
    simp

theorem open_rd_int {t e : TypeId} {k : IntKind} {a : Option Addr} {len cap : Nat} {d : DataW H} {ps : List MemPlace} (ht : P.underlying t = some (.slice e)) (he : P.underlying e = some (.int k)) (hc : P.cellsOf e = 1)
    (h : DataW.Trod enc P w base (fun _ => true) held t (.slice a len cap) d ps) : ∃ xs : List Int, xs.length = len ∧ len ≤ cap ∧ cap ≤ maxLen ∧ Rd w a (.int k) xs ∧ ∀ x ∈ xs, (Lit.int k x).wf = true := by
  obtain ⟨fuel, hf⟩ := h
  rcases open_ints ht he hc hf with ⟨hcs, _⟩ | ⟨x, l, c, zs, hcs, _, hl, hm, hz, _, hcell, hwf⟩
  · simp [Value.cells] at hcs
    obtain ⟨rfl, rfl, rfl⟩ := hcs
    exact ⟨[], rfl, Nat.le_refl _, Nat.zero_le _, fun i hi => absurd hi (Nat.not_lt_zero _), by simp⟩
  · simp [Value.cells] at hcs
    obtain ⟨rfl, rfl, rfl⟩ := hcs
    simp at hz
    refine ⟨zs.take len, by simp; omega, hl, hm, fun i hi => ?_, fun y hy => hwf y (List.mem_of_mem_take hy)⟩
    have hi' : i < len := by simp at hi; omega
    have h0 := hcell 0 (by omega)
    have hs := spotless h0
    have e0 : x.add 0 = x := by simp [Addr.add]
    rw [e0] at hs
    refine ⟨x.block, x.off, by rw [← hs], ?_⟩
    have h1 := hcell i (by omega)
    rw [hs, addr_add] at h1
    rw [h1]
    have : i < zs.length := by omega
    simp [List.getElem_take, List.getD, this]
end
end Go.Proofs.YtjomihhpglojpaaDoor
end
section
/- From what a struct reads as to its cells. -/
namespace Go.Proofs.YtjomihhpglojpaaDoor
open Go.ChangeShapes Go.WideShapes Go.ChangeAt Go.RowKit

section
variable {H : Type} {enc : TypeId × Value → H} {P : Program} {w : World}

/-- The cells read as a value of the type. -/
def Rds (enc : TypeId × Value → H) (P : Program) (w : World) (t : TypeId) (cs : List Value) : Prop := ∃ fuel x, DataW.trod enc P w 0 (fun _ => true) true fuel t cs = some x
theorem rds_of {t : TypeId} {v : Value} {d : DataW H} {ps : List MemPlace} (h : DataW.Trod enc P w 0 (fun _ => true) true t v d ps) : Rds enc P w t v.cells.toList := by
  obtain ⟨m, hm⟩ := h
  exact ⟨m, _, hm⟩
theorem Rds.fld {s f off ft : Nat} {cs : List Value} (h : Rds enc P w s cs) (hF : Fld P s f off ft) : Rds enc P w ft ((cs.drop off).take (P.cellsOf ft)) := by
  obtain ⟨fuel, x, hx⟩ := h
  obtain ⟨fields, fd, h1, h2, rfl, rfl⟩ := hF
  obtain ⟨xs, n, _, _, _, hl, hf⟩ := DataW.trod_struct h1 hx
  have := hf f fd h2
  have hlt : f < fields.size := (Array.getElem?_eq_some_iff.1 h2).1
  rw [List.getElem?_eq_getElem (by omega)] at this
  exact ⟨n, _, this⟩
theorem Rds.len {s f off ft : Nat} {cs : List Value} (h : Rds enc P w s cs) (hF : Fld P s f off ft) : cs.length = P.cellsOf s := by
  obtain ⟨fuel, x, hx⟩ := h
  obtain ⟨fields, fd, h1, h2, rfl, rfl⟩ := hF
  obtain ⟨xs, n, _, _, hl, _, _⟩ := DataW.trod_struct h1 hx
  exact hl
theorem one_at {cs : List Value} {off : Nat} {v : Value} (h : (cs.drop off).take 1 = [v]) : cs[off]? = some v := by
  have : ((cs.drop off).take 1)[0]? = some v := by rw [h]; rfl
  rw [List.getElem?_take_of_lt (by omega)] at this
  simpa using this
theorem Rds.int {t : TypeId} {k : IntKind} {cs : List Value} (h : Rds enc P w t cs) (hU : P.underlying t = some (.int k)) : ∃ n, cs = [.int k n] ∧ (Lit.int k n).wf = true := by
  obtain ⟨fuel, x, hx⟩ := h
  obtain ⟨n, h1, _, h2⟩ := DataW.trod_int hU hx
  exact ⟨n, h1, h2⟩
theorem Rds.bool {t : TypeId} {cs : List Value} (h : Rds enc P w t cs) (hU : P.underlying t = some .bool) : ∃ b, cs = [.bool b] := by
  obtain ⟨fuel, x, hx⟩ := h
  obtain ⟨n, h1, _⟩ := DataW.trod_bool hU hx
  exact ⟨n, h1⟩
theorem Rds.string {t : TypeId} {cs : List Value} (h : Rds enc P w t cs) (hU : P.underlying t = some .string) : ∃ s : ByteArray, cs = [.string s] ∧ s.size ≤ maxLen := by
  obtain ⟨fuel, x, hx⟩ := h
  obtain ⟨n, h1, _, h2⟩ := DataW.trod_string hU hx
  exact ⟨n, h1, h2⟩
theorem Rds.intAt {s f off ft : Nat} {k : IntKind} {cs : List Value} (h : Rds enc P w s cs) (hF : Fld P s f off ft) (hU : P.underlying ft = some (.int k)) (hc : P.cellsOf ft = 1) : ∃ n, cs[off]? = some (.int k n) ∧ (Lit.int k n).wf = true := by
  obtain ⟨n, h1, h2⟩ := (h.fld hF).int hU
  rw [hc] at h1
  exact ⟨n, one_at h1, h2⟩
theorem Rds.boolAt {s f off ft : Nat} {cs : List Value} (h : Rds enc P w s cs) (hF : Fld P s f off ft) (hU : P.underlying ft = some .bool) (hc : P.cellsOf ft = 1) : ∃ n, cs[off]? = some (.bool n) := by
  obtain ⟨n, h1⟩ := (h.fld hF).bool hU
  rw [hc] at h1
  exact ⟨n, one_at h1⟩
theorem Rds.stringAt {s f off ft : Nat} {cs : List Value} (h : Rds enc P w s cs) (hF : Fld P s f off ft) (hU : P.underlying ft = some .string) (hc : P.cellsOf ft = 1) : ∃ n : ByteArray, cs[off]? = some (.string n) ∧ n.size ≤ maxLen := by
  obtain ⟨n, h1, h2⟩ := (h.fld hF).string hU
  rw [hc] at h1
  exact ⟨n, one_at h1, h2⟩
end
end Go.Proofs.YtjomihhpglojpaaDoor
end
