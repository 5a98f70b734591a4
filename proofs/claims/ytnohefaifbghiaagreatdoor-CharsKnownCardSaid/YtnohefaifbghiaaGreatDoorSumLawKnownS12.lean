/- Laid together by a program of mine: KnownU Small CFunc As Door ShV. -/
import Derived.Test.YtnohefaifbghiaaGreatDoorSumLawKnownS11
import Derived.Test.YtnohefaifbghiaaGreatDoorSumLawKnownS8
import Derived.Test.YtnohefaifbghiaaGreatDoorSumLawKnownS9
import Derived.Test.YtnohefaifbghiaaGreatDoorChecked
import Derived.Test.YtnohefaifbghiaaGreatDoorSumLawKnownS4
import Derived.WalkKit
import Derived.LaidEql
import Derived.Stop.Asserts
import Derived.RowKitTokens
import Derived.Test.YtnohefaifbghiaaGreatDoorRows
import Derived.ChangeSame
import Derived.ChangeVars
import Derived.JoinedOf
import Derived.RowKit
import Derived.LaidLaws
import Derived.LaidHandle
import Derived.Stop.Joined
import Derived.Shelf.Unicode.ValidAny
import Derived.Test.YtnohefaifbghiaaGreatDoorProg
import Derived.KernelRfl
set_option linter.unusedSimpArgs false
set_option linter.unusedVariables false
section
/- CharsKnown: the ten quoted texts. -/
namespace Go.Proofs.YtnohefaifbghiaaGreatDoor
open Go.RowKit
set_option linter.unusedSimpArgs false
set_option linter.unusedVariables false
instance (s : ByteArray) (i : Nat) : Decidable (goP s i) := by unfold goP; infer_instance
def tenX : List ByteArray := [⟨#[34, 97, 92, 34, 98, 34]⟩, ⟨#[34]⟩, ⟨#[97, 34]⟩, ⟨#[34, 97]⟩, ⟨#[34, 97, 34, 98]⟩, ⟨#[34, 92, 110, 34]⟩, ⟨#[34, 10, 34]⟩, ⟨#[34, 92]⟩, ⟨#[34, 255, 34]⟩, ⟨#[34, 34]⟩]
def tenN : List Int := [0, 2, 4, 2, 3, 4, 6, 4, 6, 0]
theorem ten_0 : ∃ t, UnqR ⟨#[34, 97, 92, 34, 98, 34]⟩ 0 t := by
  have e : (⟨(sc ⟨#[34, 97, 92, 34, 98, 34]⟩ 3).2.toArray⟩ : ByteArray) = ⟨#[97, 34, 98]⟩ := by decide +kernel
  exact ⟨_, .inr (.inr ⟨by decide +kernel, by decide +kernel, 3, by decide +kernel, by decide +kernel, .inr (.inr (.inl ⟨by decide +kernel, by decide +kernel, by decide +kernel, by rw [e]; exact may_of (vis_ok (by unfold Vis; decide +kernel)) (by decide), .inl ⟨rfl, rfl⟩⟩))⟩)⟩
theorem ten_1 : ∃ t, UnqR ⟨#[34]⟩ 2 t := ⟨_, .inl ⟨by decide, rfl, rfl⟩⟩
theorem ten_2 : ∃ t, UnqR ⟨#[97, 34]⟩ 4 t := ⟨_, .inr (.inl ⟨by decide, by decide +kernel, rfl, rfl⟩)⟩
theorem ten_3 : ∃ t, UnqR ⟨#[34, 97]⟩ 2 t := ⟨_, .inr (.inr ⟨by decide, by decide +kernel, 1, by decide +kernel, by decide +kernel, .inl ⟨by decide +kernel, rfl, rfl⟩⟩)⟩
theorem ten_4 : ∃ t, UnqR ⟨#[34, 97, 34, 98]⟩ 3 t := ⟨_, .inr (.inr ⟨by decide, by decide +kernel, 1, by decide +kernel, by decide +kernel, .inr (.inl ⟨by decide +kernel, by decide +kernel, by decide +kernel, rfl, rfl⟩)⟩)⟩
theorem ten_5 : ∃ t, UnqR ⟨#[34, 92, 110, 34]⟩ 4 t := ⟨_, .inr (.inr ⟨by decide, by decide +kernel, 0, by decide +kernel, by decide +kernel, .inr (.inr (.inr ⟨by decide +kernel, by decide +kernel, rfl, rfl⟩))⟩)⟩
theorem ten_6 : ∃ t, UnqR ⟨#[34, 10, 34]⟩ 6 t := by
  have e : (⟨(sc ⟨#[34, 10, 34]⟩ 1).2.toArray⟩ : ByteArray) = ⟨#[10]⟩ := by decide +kernel
  exact ⟨_, .inr (.inr ⟨by decide, by decide +kernel, 1, by decide +kernel, by decide +kernel, .inr (.inr (.inl ⟨by decide +kernel, by decide +kernel, by decide +kernel, by rw [e]; exact may_no (fun h => Bool.noConfusion ((h 0 (by decide +kernel)).2.symm.trans (show ctl (uR ⟨#[10]⟩ 0) = true by decide +kernel))) (by decide), .inr ⟨by decide, rfl⟩⟩))⟩)⟩
theorem ten_7 : ∃ t, UnqR ⟨#[34, 92]⟩ 4 t := ⟨_, .inr (.inr ⟨by decide, by decide +kernel, 0, by decide +kernel, by decide +kernel, .inr (.inr (.inr ⟨by decide +kernel, by decide +kernel, rfl, rfl⟩))⟩)⟩
theorem ten_8 : ∃ t, UnqR ⟨#[34, 255, 34]⟩ 6 t := by
  have e : (⟨(sc ⟨#[34, 255, 34]⟩ 1).2.toArray⟩ : ByteArray) = c3 := by decide +kernel
  exact ⟨_, .inr (.inr ⟨by decide, by decide +kernel, 1, by decide +kernel, by decide +kernel, .inr (.inr (.inl ⟨by decide +kernel, by decide +kernel, by decide +kernel, by rw [e]; exact may_c3, .inr ⟨by decide, rfl⟩⟩))⟩)⟩
theorem ten_9 : ∃ t, UnqR ⟨#[34, 34]⟩ 0 t := by
  have e : (⟨(sc ⟨#[34, 34]⟩ 0).2.toArray⟩ : ByteArray) = ⟨#[]⟩ := by decide +kernel
  exact ⟨_, .inr (.inr ⟨by decide, by decide +kernel, 0, by decide +kernel, by decide +kernel, .inr (.inr (.inl ⟨by decide +kernel, by decide +kernel, by decide +kernel, by rw [e]; exact may_of (vis_ok (by unfold Vis; decide +kernel)) (by decide), .inl ⟨rfl, rfl⟩⟩))⟩)⟩
theorem ten_unq {k : Nat} (h : k < tenX.length) : ∃ t, UnqR tenX[k] (tenN[k]'h) t ∧ tenX[k].size ≤ 6 := by
  have h10 : k < 10 := h
  have : k = 0 ∨ k = 1 ∨ k = 2 ∨ k = 3 ∨ k = 4 ∨ k = 5 ∨ k = 6 ∨ k = 7 ∨ k = 8 ∨ k = 9 := by omega
  rcases this with rfl | rfl | rfl | rfl | rfl | rfl | rfl | rfl | rfl | rfl
  · exact ten_0.imp fun t x => ⟨x, Nat.le_of_ble_eq_true rfl⟩
  · exact ten_1.imp fun t x => ⟨x, Nat.le_of_ble_eq_true rfl⟩
  · exact ten_2.imp fun t x => ⟨x, Nat.le_of_ble_eq_true rfl⟩
  · exact ten_3.imp fun t x => ⟨x, Nat.le_of_ble_eq_true rfl⟩
  · exact ten_4.imp fun t x => ⟨x, Nat.le_of_ble_eq_true rfl⟩
  · exact ten_5.imp fun t x => ⟨x, Nat.le_of_ble_eq_true rfl⟩
  · exact ten_6.imp fun t x => ⟨x, Nat.le_of_ble_eq_true rfl⟩
  · exact ten_7.imp fun t x => ⟨x, Nat.le_of_ble_eq_true rfl⟩
  · exact ten_8.imp fun t x => ⟨x, Nat.le_of_ble_eq_true rfl⟩
  · exact ten_9.imp fun t x => ⟨x, Nat.le_of_ble_eq_true rfl⟩
theorem bare_b0 : ∃ t, UnqR b0 2 t ∧ t = ⟨#[]⟩ := ⟨_, .inl ⟨by decide, rfl, rfl⟩, rfl⟩
theorem bare_c3 : ∃ t, UnqR c3 2 t ∧ t = ⟨#[]⟩ := ⟨_, .inl ⟨by decide, rfl, rfl⟩, rfl⟩
theorem bare_b1 : ∃ t, UnqR b1 4 t ∧ t = ⟨#[]⟩ := ⟨_, .inr (.inl ⟨by decide, by decide +kernel, rfl, rfl⟩), rfl⟩
theorem bare_b2 : ∃ t, UnqR b2 4 t ∧ t = ⟨#[]⟩ := ⟨_, .inr (.inl ⟨by decide, by decide +kernel, rfl, rfl⟩), rfl⟩
end Go.Proofs.YtnohefaifbghiaaGreatDoor
end
section
/- The small functions that Check reaches, walked. -/
namespace Go.Proofs.YtnohefaifbghiaaGreatDoor
open Go.RowKit
set_option linter.unusedSimpArgs false
set_option linter.unusedVariables false
attribute [local irreducible] wpList wpQuiet wpStill Code.wp Exit.then Exit.inBlock bodyPost Calls Does Does0
theorem lite_ok (w : World) (t : ByteArray) : Ret Tryz.prog 31 #[.string t, .string ⟨#[239, 191, 189]⟩] w (fun v w' => v = .bool (decide (3 ≤ t.size) && decide (t.extract 0 3 = ⟨#[239, 191, 189]⟩)) ∧ w' = w) := by
  refine enter2 Tryz.func31 rfl 16 rfl 18 rfl (fun a hF => ?_)
  obtain ⟨u, hu⟩ : ∃ u : ByteArray, (⟨#[239, 191, 189]⟩ : ByteArray) = u := ⟨_, rfl⟩
  have hz : u.size = 3 := by rw [← hu]; rfl
  rw [hu] at hF ⊢
  by_cases h : 3 ≤ t.size
  · repeat (first | refine c_seq ?_ | refine c_block ?_ | refine c_region _ ?_ | refine wpList_nil ?_ | refine c_then ?_ | refine c_then_exit ?_ | refine c_then_ret ?_ | refine c_in ?_ | refine c_in_ret ?_ | refine c_in_hit ?_ | refine wp_skip ?_ | refine wp_exit ?_ | refine wp_ret ?_ | refine c_in_miss rfl ?_ | ((first | apply st hF | apply stg hF | apply s_step hF | apply s_stg hF); (first | exact d_move | exact d_assign | exact d_pickT | exact d_pickF | exact d_cmpT | exact d_cmpF | exact d_cmp | exact d_eqbT (und _ _ rfl) | exact d_eqbF (und _ _ rfl) | exact d_eqb (und _ _ rfl) | exact d_eqST | exact d_eqSF | exact d_eqS | exact d_len (und _ _ rfl) | exact d_lens (und _ _ rfl) | exact d_slice (und _ _ rfl) (isz _ _ rfl) | exact d_slice3 (und _ _ rfl) (isz _ _ rfl) | exact d_slice3l (und _ _ rfl) (isz _ _ rfl) | exact d_sliceL (und _ _ rfl) (isz _ _ rfl) | exact d_eqN (ifc _ rfl) | exact d_neN (ifc _ rfl) | exact d_sliceSH (und _ _ rfl) (j := u.size)); clear hF; clear a; intro a hF) | ((first | apply stm hF | apply stu hF); clear hF; clear a; intro a hF) | (apply c_cond_t hF; exact rfl; first | exact rfl | assumption) | (apply c_cond_f hF; exact rfl; first | exact rfl | assumption) | refine s_nil ?_)
    rw [hz] at hF
    exact ret1 hF rfl rfl ⟨by rw [decide_eq_true h, Bool.true_and], rfl⟩
  · repeat (first | refine c_seq ?_ | refine c_block ?_ | refine c_region _ ?_ | refine wpList_nil ?_ | refine c_then ?_ | refine c_then_exit ?_ | refine c_then_ret ?_ | refine c_in ?_ | refine c_in_ret ?_ | refine c_in_hit ?_ | refine wp_skip ?_ | refine wp_exit ?_ | refine wp_ret ?_ | refine c_in_miss rfl ?_ | ((first | apply st hF | apply stg hF | apply s_step hF | apply s_stg hF); (first | exact d_move | exact d_assign | exact d_pickT | exact d_pickF | exact d_cmpT | exact d_cmpF | exact d_cmp | exact d_eqbT (und _ _ rfl) | exact d_eqbF (und _ _ rfl) | exact d_eqb (und _ _ rfl) | exact d_eqST | exact d_eqSF | exact d_eqS | exact d_len (und _ _ rfl) | exact d_lens (und _ _ rfl) | exact d_slice (und _ _ rfl) (isz _ _ rfl) | exact d_slice3 (und _ _ rfl) (isz _ _ rfl) | exact d_slice3l (und _ _ rfl) (isz _ _ rfl) | exact d_sliceL (und _ _ rfl) (isz _ _ rfl) | exact d_eqN (ifc _ rfl) | exact d_neN (ifc _ rfl)); clear hF; clear a; intro a hF) | ((first | apply stm hF | apply stu hF); clear hF; clear a; intro a hF) | (apply c_cond_t hF; exact rfl; first | exact rfl | assumption) | (apply c_cond_f hF; exact rfl; first | exact rfl | assumption) | refine s_nil ?_)
    exact ret1 hF rfl rfl ⟨by rw [decide_eq_false h, Bool.false_and], rfl⟩
theorem pre_ok (w : World) (t : ByteArray) : Ret Tryz.prog 17 #[.string t, .string ⟨#[239, 191, 189]⟩] w (fun v w' => v = .bool (decide (3 ≤ t.size) && decide (t.extract 0 3 = ⟨#[239, 191, 189]⟩)) ∧ w' = w) := by
  refine enter2 Tryz.func17 rfl 6 rfl 8 rfl (fun a hF => ?_)
  repeat (first | refine c_seq ?_ | refine c_block ?_ | refine c_region _ ?_ | refine wpList_nil ?_ | refine c_then ?_ | refine c_then_exit ?_ | refine c_then_ret ?_ | refine c_in ?_ | refine c_in_ret ?_ | refine c_in_hit ?_ | refine wp_skip ?_ | refine wp_exit ?_ | refine wp_ret ?_ | refine c_in_miss rfl ?_ | ((first | apply st hF | apply stg hF | apply s_step hF | apply s_stg hF); (first | exact d_move | exact d_assign); clear hF; clear a; intro a hF) | ((first | apply stm hF | apply stu hF); clear hF; clear a; intro a hF) | (apply c_cond_t hF; exact rfl; first | exact rfl | assumption) | (apply c_cond_f hF; exact rfl; first | exact rfl | assumption) | refine s_nil ?_)
  refine stc hF (lite_ok w t) cal31 ⟨rfl, rfl, trivial⟩ (k := fun a v w1 hR hF => ?_)
  obtain ⟨rfl, rfl⟩ := hR
  repeat (first | refine c_seq ?_ | refine c_block ?_ | refine c_region _ ?_ | refine wpList_nil ?_ | refine c_then ?_ | refine c_then_exit ?_ | refine c_then_ret ?_ | refine c_in ?_ | refine c_in_ret ?_ | refine c_in_hit ?_ | refine wp_skip ?_ | refine wp_exit ?_ | refine wp_ret ?_ | refine c_in_miss rfl ?_ | ((first | apply st hF | apply stg hF | apply s_step hF | apply s_stg hF); (first | exact d_move | exact d_assign); clear hF; clear a; intro a hF) | ((first | apply stm hF | apply stu hF); clear hF; clear a; intro a hF) | (apply c_cond_t hF; exact rfl; first | exact rfl | assumption) | (apply c_cond_f hF; exact rfl; first | exact rfl | assumption) | refine s_nil ?_)
  exact ret1 hF rfl rfl ⟨rfl, rfl⟩
theorem runeLen_ok (w : World) (r : Int) : Ret Tryz.prog 18 #[.int .i32 r] w (fun v w' => v = .int .i64 (rl r) ∧ w' = w) := by
  refine enter1 Tryz.func18 rfl 24 rfl 25 rfl (fun a hF => ?_)
  repeat' (first | refine c_seq ?_ | refine c_block ?_ | refine c_region _ ?_ | refine wpList_nil ?_ | refine c_then ?_ | refine c_then_exit ?_ | refine c_then_ret ?_ | refine c_in ?_ | refine c_in_ret ?_ | refine c_in_hit ?_ | refine wp_skip ?_ | refine wp_exit ?_ | refine wp_ret ?_ | refine c_in_miss rfl ?_ | ((first | apply st hF | apply stg hF | apply s_step hF | apply s_stg hF); (first | exact d_move | exact d_assign | exact d_pickT | exact d_pickF | exact d_cmpT | exact d_cmpF); clear hF; clear a; intro a hF) | ((first | apply stm hF | apply stu hF); clear hF; clear a; intro a hF) | (apply c_cond_t hF; exact rfl; first | exact rfl | assumption) | (apply c_cond_f hF; exact rfl; first | exact rfl | assumption) | refine s_nil ?_ | ((first | refine st_split hF (kT := ?_) (kF := ?_) | refine stg_split hF (kT := ?_) (kF := ?_)) <;> (intro hsp; simp only [decide_eq_true_eq, decide_eq_false_iff_not, beq_iff_eq, beq_eq_false_iff_ne, bne_iff_ne, ne_eq, bne_eq_false_iff_eq] at hsp; clear hF; clear a; intro a hF)))
  all_goals refine ret1 hF rfl rfl ⟨?_, rfl⟩
  all_goals (congr 1; unfold rl; repeat' split)
  all_goals omega
theorem control_ok (w : World) (r : Int) : Ret Tryz.prog 19 #[.int .i32 r] w (fun v w' => v = .bool (ctl r) ∧ w' = w) := by
  refine enter1 Tryz.func19 rfl 8 rfl 9 rfl (fun a hF => ?_)
  repeat' (first | refine c_seq ?_ | refine c_block ?_ | refine c_region _ ?_ | refine wpList_nil ?_ | refine c_then ?_ | refine c_then_exit ?_ | refine c_then_ret ?_ | refine c_in ?_ | refine c_in_ret ?_ | refine c_in_hit ?_ | refine wp_skip ?_ | refine wp_exit ?_ | refine wp_ret ?_ | refine c_in_miss rfl ?_ | ((first | apply st hF | apply stg hF | apply s_step hF | apply s_stg hF); (first | exact d_move | exact d_assign | exact d_pickT | exact d_pickF | exact d_cmpT | exact d_cmpF | exact d_eqbT (und _ _ rfl) | exact d_eqbF (und _ _ rfl) | exact d_eqb (und _ _ rfl) | exact d_eqST | exact d_eqSF | exact d_eqS | exact d_eqN (ifc _ rfl) | exact d_neN (ifc _ rfl)); clear hF; clear a; intro a hF) | ((first | apply stm hF | apply stu hF); clear hF; clear a; intro a hF) | (apply c_cond_t hF; exact rfl; first | exact rfl | assumption) | (apply c_cond_f hF; exact rfl; first | exact rfl | assumption) | refine s_nil ?_ | ((first | refine st_split hF (kT := ?_) (kF := ?_) | refine stg_split hF (kT := ?_) (kF := ?_)) <;> (intro hsp; simp only [decide_eq_true_eq, decide_eq_false_iff_not, beq_iff_eq, beq_eq_false_iff_ne, bne_iff_ne, ne_eq, bne_eq_false_iff_eq] at hsp; clear hF; clear a; intro a hF)))
  all_goals exact ret1 hF rfl rfl ⟨by first | exact congrArg Value.bool (decide_eq_true (by omega)).symm | exact congrArg Value.bool (decide_eq_false (by omega)).symm, rfl⟩
theorem blank_ok (w : World) (r : Int) : Ret Tryz.prog 20 #[.int .i32 r] w (fun v w' => v = .bool (blk r) ∧ w' = w) := by
  refine enter1 Tryz.func20 rfl 16 rfl 17 rfl (fun a hF => ?_)
  repeat' (first | refine c_seq ?_ | refine c_block ?_ | refine c_region _ ?_ | refine wpList_nil ?_ | refine c_then ?_ | refine c_then_exit ?_ | refine c_then_ret ?_ | refine c_in ?_ | refine c_in_ret ?_ | refine c_in_hit ?_ | refine wp_skip ?_ | refine wp_exit ?_ | refine wp_ret ?_ | refine c_in_miss rfl ?_ | ((first | apply st hF | apply stg hF | apply s_step hF | apply s_stg hF); (first | exact d_move | exact d_assign | exact d_pickT | exact d_pickF | exact d_cmpT | exact d_cmpF | exact d_eqbT (und _ _ rfl) | exact d_eqbF (und _ _ rfl) | exact d_eqb (und _ _ rfl) | exact d_eqST | exact d_eqSF | exact d_eqS | exact d_eqN (ifc _ rfl) | exact d_neN (ifc _ rfl)); clear hF; clear a; intro a hF) | ((first | apply stm hF | apply stu hF); clear hF; clear a; intro a hF) | (apply c_cond_t hF; exact rfl; first | exact rfl | assumption) | (apply c_cond_f hF; exact rfl; first | exact rfl | assumption) | refine s_nil ?_ | ((first | refine st_split hF (kT := ?_) (kF := ?_) | refine stg_split hF (kT := ?_) (kF := ?_)) <;> (intro hsp; simp only [decide_eq_true_eq, decide_eq_false_iff_not, beq_iff_eq, beq_eq_false_iff_ne, bne_iff_ne, ne_eq, bne_eq_false_iff_eq] at hsp; clear hF; clear a; intro a hF)))
  all_goals exact ret1 hF rfl rfl ⟨by first | exact congrArg Value.bool (decide_eq_true (by omega)).symm | exact congrArg Value.bool (decide_eq_false (by omega)).symm, rfl⟩
end Go.Proofs.YtnohefaifbghiaaGreatDoor
end
section
/- strings.ContainsFunc at chars.control; the reference's May: walked. -/
namespace Go.Proofs.YtnohefaifbghiaaGreatDoor
open Go.RowKit
set_option linter.unusedSimpArgs false
set_option linter.unusedVariables false
attribute [local irreducible] wpList wpQuiet wpStill Code.wp Exit.then Exit.inBlock bodyPost Calls Does Does0

set_option maxHeartbeats 4000000 in
theorem idx_ok (w : World) (s : ByteArray) : Ret Tryz.prog 51 #[.string s, .func (.func 19) #[] #[], .bool true] w (fun v w' => (∃ p : Int, v = .int .i64 p ∧ ((0 ≤ p ∧ ∃ k, (uSt s k).1 < s.size ∧ ctl (uR s k) = true) ∨ (p = -1 ∧ ∀ k, (uSt s k).1 < s.size → ctl (uR s k) = false))) ∧ Below w.heap.size w w') := by
  refine enter3 Tryz.func51 rfl 18 rfl 21 rfl (fun a hF => ?_)
  repeat (first | refine c_seq ?_ | refine c_block ?_ | refine c_region _ ?_ | refine wpList_nil ?_ | refine c_then ?_ | refine c_then_exit ?_ | refine c_then_ret ?_ | refine c_in ?_ | refine c_in_ret ?_ | refine c_in_hit ?_ | refine wp_skip ?_ | refine wp_exit ?_ | refine wp_ret ?_ | refine c_in_miss rfl ?_ | ((first | apply st hF | apply stg hF | apply s_step hF | apply s_stg hF); (first | exact d_move | exact d_assign | exact d_cmpT | exact d_cmpF | exact d_cmp | exact d_eqbT (und _ _ rfl) | exact d_eqbF (und _ _ rfl) | exact d_eqb (und _ _ rfl) | exact d_eqST | exact d_eqSF | exact d_eqS | exact d_eqN (ifc _ rfl) | exact d_neN (ifc _ rfl) | exact d_extract); clear hF; clear a; intro a hF) | ((first | apply stm hF | apply stu hF); clear hF; clear a; intro a hF) | (apply c_cond_t hF; exact rfl; first | exact rfl | assumption) | (apply c_cond_f hF; exact rfl; first | exact rfl | assumption) | refine s_nil ?_)
  refine st_range hF (und _ _ rfl) (k := fun a w1 hit hgr1 hsz1 hF => ?_)
  have hb1 : Below w.heap.size w w1 := (Below.refl _ w).grown hgr1 (Nat.le_refl _) (fun k hk => by cases hk)
  repeat (first | refine c_seq ?_ | refine c_block ?_ | refine c_region _ ?_ | refine wpList_nil ?_ | refine c_then ?_ | refine c_then_exit ?_ | refine c_then_ret ?_ | refine c_in ?_ | refine c_in_ret ?_ | refine c_in_hit ?_ | refine wp_skip ?_ | refine wp_exit ?_ | refine wp_ret ?_ | refine c_in_miss rfl ?_ | ((first | apply st hF | apply stg hF | apply s_step hF | apply s_stg hF); (first | exact d_move | exact d_assign | exact d_cmpT | exact d_cmpF | exact d_cmp | exact d_eqbT (und _ _ rfl) | exact d_eqbF (und _ _ rfl) | exact d_eqb (und _ _ rfl) | exact d_eqST | exact d_eqSF | exact d_eqS | exact d_eqN (ifc _ rfl) | exact d_neN (ifc _ rfl) | exact d_extract); clear hF; clear a; intro a hF) | ((first | apply stm hF | apply stu hF); clear hF; clear a; intro a hF) | (apply c_cond_t hF; exact rfl; first | exact rfl | assumption) | (apply c_cond_f hF; exact rfl; first | exact rfl | assumption) | refine s_nil ?_)
  refine c_loop (fun q a wr => ∃ k : Nat, (∀ j, j < k → (uSt s j).1 < s.size ∧ ctl (uR s j) = false) ∧ q = s.size - (uSt s k).1 ∧ Fr 21 [(0, .string s), (1, .func (.func 19) #[] #[]), (2, .bool true), (10, .pointer (some ⟨w.heap.size, 0, none⟩))] a ∧ IterAt wr w.heap.size s (uSt s k).1 ∧ Below w.heap.size w wr) s.size
    ⟨0, fun j hj => absurd hj (Nat.not_lt_zero _), rfl, hF.keep' ⟨rfl, rfl, rfl, rfl, trivial⟩, hit, hb1⟩ ?_
  clear hF a hit hb1
  rintro q a wr ⟨k, hpre, rfl, hF, hit, hbel⟩
  have hsz := hbel.size
  by_cases hlt : (uSt s k).1 < s.size
  · have hstep := uSt_fst s k
    have hlt2 := uSt_lt s k hlt
    repeat (first | refine c_seq ?_ | refine c_block ?_ | refine c_region _ ?_ | refine wpList_nil ?_ | refine c_then ?_ | refine c_then_exit ?_ | refine c_then_ret ?_ | refine c_in ?_ | refine c_in_ret ?_ | refine c_in_hit ?_ | refine wp_skip ?_ | refine wp_exit ?_ | refine wp_ret ?_ | refine c_in_miss rfl ?_ | ((first | apply st hF | apply stg hF | apply s_step hF | apply s_stg hF); (first | exact d_move | exact d_assign | exact d_cmpT | exact d_cmpF | exact d_cmp | exact d_eqbT (und _ _ rfl) | exact d_eqbF (und _ _ rfl) | exact d_eqb (und _ _ rfl) | exact d_eqST | exact d_eqSF | exact d_eqS | exact d_eqN (ifc _ rfl) | exact d_neN (ifc _ rfl) | exact d_extract); clear hF; clear a; intro a hF) | ((first | apply stm hF | apply stu hF); clear hF; clear a; intro a hF) | (apply c_cond_t hF; exact rfl; first | exact rfl | assumption) | (apply c_cond_f hF; exact rfl; first | exact rfl | assumption) | refine s_nil ?_)
    refine st_next hF hit hlt (k := fun a w2 hit2 hgr2 hsz2 hF => ?_)
    rw [← hstep] at hit2
    have hbel2 : Below w.heap.size w w2 := hbel.grown hgr2 hsz (fun k hk => by cases hk; exact Nat.le_refl _)
    repeat (first | refine c_seq ?_ | refine c_block ?_ | refine c_region _ ?_ | refine wpList_nil ?_ | refine c_then ?_ | refine c_then_exit ?_ | refine c_then_ret ?_ | refine c_in ?_ | refine c_in_ret ?_ | refine c_in_hit ?_ | refine wp_skip ?_ | refine wp_exit ?_ | refine wp_ret ?_ | refine c_in_miss rfl ?_ | ((first | apply st hF | apply stg hF | apply s_step hF | apply s_stg hF); (first | exact d_move | exact d_assign | exact d_cmpT | exact d_cmpF | exact d_cmp | exact d_eqbT (und _ _ rfl) | exact d_eqbF (und _ _ rfl) | exact d_eqb (und _ _ rfl) | exact d_eqST | exact d_eqSF | exact d_eqS | exact d_eqN (ifc _ rfl) | exact d_neN (ifc _ rfl) | exact d_extract); clear hF; clear a; intro a hF) | ((first | apply stm hF | apply stu hF); clear hF; clear a; intro a hF) | (apply c_cond_t hF; exact rfl; first | exact rfl | assumption) | (apply c_cond_f hF; exact rfl; first | exact rfl | assumption) | refine s_nil ?_)
    refine stcv hF (cs := []) (vs := [.int .i32 (uR s k)]) (control_ok w2 (uR s k)) cal19 ⟨rfl, trivial⟩ (k := fun a v w3 hR hF => ?_)
    obtain ⟨rfl, rfl⟩ := hR
    cases hc : ctl (uR s k) with
    | true =>
      rw [hc] at hF
      repeat (first | refine c_seq ?_ | refine c_block ?_ | refine c_region _ ?_ | refine wpList_nil ?_ | refine c_then ?_ | refine c_then_exit ?_ | refine c_then_ret ?_ | refine c_in ?_ | refine c_in_ret ?_ | refine c_in_hit ?_ | refine wp_skip ?_ | refine wp_exit ?_ | refine wp_ret ?_ | refine c_in_miss rfl ?_ | ((first | apply st hF | apply stg hF | apply s_step hF | apply s_stg hF); (first | exact d_move | exact d_assign | exact d_cmpT | exact d_cmpF | exact d_cmp | exact d_eqbT (und _ _ rfl) | exact d_eqbF (und _ _ rfl) | exact d_eqb (und _ _ rfl) | exact d_eqST | exact d_eqSF | exact d_eqS | exact d_eqN (ifc _ rfl) | exact d_neN (ifc _ rfl) | exact d_extract); clear hF; clear a; intro a hF) | ((first | apply stm hF | apply stu hF); clear hF; clear a; intro a hF) | (apply c_cond_t hF; exact rfl; first | exact rfl | assumption) | (apply c_cond_f hF; exact rfl; first | exact rfl | assumption) | refine s_nil ?_)
      exact ret1 hF rfl rfl ⟨⟨_, rfl, .inl ⟨Int.natCast_nonneg _, k, hlt, hc⟩⟩, hbel2⟩
    | false =>
      rw [hc] at hF
      repeat (first | refine c_seq ?_ | refine c_block ?_ | refine c_region _ ?_ | refine wpList_nil ?_ | refine c_then ?_ | refine c_then_exit ?_ | refine c_then_ret ?_ | refine c_in ?_ | refine c_in_ret ?_ | refine c_in_hit ?_ | refine wp_skip ?_ | refine wp_exit ?_ | refine wp_ret ?_ | refine c_in_miss rfl ?_ | ((first | apply st hF | apply stg hF | apply s_step hF | apply s_stg hF); (first | exact d_move | exact d_assign | exact d_cmpT | exact d_cmpF | exact d_cmp | exact d_eqbT (und _ _ rfl) | exact d_eqbF (und _ _ rfl) | exact d_eqb (und _ _ rfl) | exact d_eqST | exact d_eqSF | exact d_eqS | exact d_eqN (ifc _ rfl) | exact d_neN (ifc _ rfl) | exact d_extract); clear hF; clear a; intro a hF) | ((first | apply stm hF | apply stu hF); clear hF; clear a; intro a hF) | (apply c_cond_t hF; exact rfl; first | exact rfl | assumption) | (apply c_cond_f hF; exact rfl; first | exact rfl | assumption) | refine s_nil ?_)
      exact ⟨s.size - (uSt s (k + 1)).1, by omega, k + 1, fun j hj => by
        by_cases e : j = k
        · subst e; exact ⟨hlt, hc⟩
        · exact hpre j (by omega), rfl, hF.keep' ⟨rfl, rfl, rfl, rfl, trivial⟩, hit2, hbel2⟩
  · repeat (first | refine c_seq ?_ | refine c_block ?_ | refine c_region _ ?_ | refine wpList_nil ?_ | refine c_then ?_ | refine c_then_exit ?_ | refine c_then_ret ?_ | refine c_in ?_ | refine c_in_ret ?_ | refine c_in_hit ?_ | refine wp_skip ?_ | refine wp_exit ?_ | refine wp_ret ?_ | refine c_in_miss rfl ?_ | ((first | apply st hF | apply stg hF | apply s_step hF | apply s_stg hF); (first | exact d_move | exact d_assign | exact d_cmpT | exact d_cmpF | exact d_cmp | exact d_eqbT (und _ _ rfl) | exact d_eqbF (und _ _ rfl) | exact d_eqb (und _ _ rfl) | exact d_eqST | exact d_eqSF | exact d_eqS | exact d_eqN (ifc _ rfl) | exact d_neN (ifc _ rfl) | exact d_extract); clear hF; clear a; intro a hF) | ((first | apply stm hF | apply stu hF); clear hF; clear a; intro a hF) | (apply c_cond_t hF; exact rfl; first | exact rfl | assumption) | (apply c_cond_f hF; exact rfl; first | exact rfl | assumption) | refine s_nil ?_)
    refine st_nextE hF hit hlt (k := fun a hF => ?_)
    repeat (first | refine c_seq ?_ | refine c_block ?_ | refine c_region _ ?_ | refine wpList_nil ?_ | refine c_then ?_ | refine c_then_exit ?_ | refine c_then_ret ?_ | refine c_in ?_ | refine c_in_ret ?_ | refine c_in_hit ?_ | refine wp_skip ?_ | refine wp_exit ?_ | refine wp_ret ?_ | refine c_in_miss rfl ?_ | ((first | apply st hF | apply stg hF | apply s_step hF | apply s_stg hF); (first | exact d_move | exact d_assign | exact d_cmpT | exact d_cmpF | exact d_cmp | exact d_eqbT (und _ _ rfl) | exact d_eqbF (und _ _ rfl) | exact d_eqb (und _ _ rfl) | exact d_eqST | exact d_eqSF | exact d_eqS | exact d_eqN (ifc _ rfl) | exact d_neN (ifc _ rfl) | exact d_extract); clear hF; clear a; intro a hF) | ((first | apply stm hF | apply stu hF); clear hF; clear a; intro a hF) | (apply c_cond_t hF; exact rfl; first | exact rfl | assumption) | (apply c_cond_f hF; exact rfl; first | exact rfl | assumption) | refine s_nil ?_)
    exact ret1 hF rfl rfl ⟨⟨_, rfl, .inr ⟨rfl, fun j hj => (hpre j (uEnd hlt hj)).2⟩⟩, hbel⟩
theorem idxF_ok (w : World) (s : ByteArray) : Ret Tryz.prog 47 #[.string s, .func (.func 19) #[] #[]] w (fun v w' => (∃ p : Int, v = .int .i64 p ∧ ((0 ≤ p ∧ ∃ k, (uSt s k).1 < s.size ∧ ctl (uR s k) = true) ∨ (p = -1 ∧ ∀ k, (uSt s k).1 < s.size → ctl (uR s k) = false))) ∧ Below w.heap.size w w') := by
  refine enter2 Tryz.func47 rfl 6 rfl 8 rfl (fun a hF => ?_)
  repeat (first | refine c_seq ?_ | refine c_block ?_ | refine c_region _ ?_ | refine wpList_nil ?_ | refine c_then ?_ | refine c_then_exit ?_ | refine c_then_ret ?_ | refine c_in ?_ | refine c_in_ret ?_ | refine c_in_hit ?_ | refine wp_skip ?_ | refine wp_exit ?_ | refine wp_ret ?_ | refine c_in_miss rfl ?_ | ((first | apply st hF | apply stg hF | apply s_step hF | apply s_stg hF); (first | exact d_move | exact d_assign); clear hF; clear a; intro a hF) | ((first | apply stm hF | apply stu hF); clear hF; clear a; intro a hF) | (apply c_cond_t hF; exact rfl; first | exact rfl | assumption) | (apply c_cond_f hF; exact rfl; first | exact rfl | assumption) | refine s_nil ?_)
  refine stc hF (idx_ok w s) cal51 ⟨rfl, rfl, rfl, trivial⟩ (k := fun a v w1 hR hF => ?_)
  obtain ⟨⟨p, rfl, hp⟩, hb⟩ := hR
  repeat (first | refine c_seq ?_ | refine c_block ?_ | refine c_region _ ?_ | refine wpList_nil ?_ | refine c_then ?_ | refine c_then_exit ?_ | refine c_then_ret ?_ | refine c_in ?_ | refine c_in_ret ?_ | refine c_in_hit ?_ | refine wp_skip ?_ | refine wp_exit ?_ | refine wp_ret ?_ | refine c_in_miss rfl ?_ | ((first | apply st hF | apply stg hF | apply s_step hF | apply s_stg hF); (first | exact d_move | exact d_assign); clear hF; clear a; intro a hF) | ((first | apply stm hF | apply stu hF); clear hF; clear a; intro a hF) | (apply c_cond_t hF; exact rfl; first | exact rfl | assumption) | (apply c_cond_f hF; exact rfl; first | exact rfl | assumption) | refine s_nil ?_)
  exact ret1 hF rfl rfl ⟨⟨_, rfl, hp⟩, hb⟩
theorem contF_ok (w : World) (s : ByteArray) : Ret Tryz.prog 40 #[.string s, .func (.func 19) #[] #[]] w (fun v w' => (∃ b, v = .bool b ∧ (b = true → ∃ k, (uSt s k).1 < s.size ∧ ctl (uR s k) = true) ∧ (b = false → ∀ k, (uSt s k).1 < s.size → ctl (uR s k) = false)) ∧ Below w.heap.size w w') := by
  refine enter2 Tryz.func40 rfl 7 rfl 9 rfl (fun a hF => ?_)
  repeat (first | refine c_seq ?_ | refine c_block ?_ | refine c_region _ ?_ | refine wpList_nil ?_ | refine c_then ?_ | refine c_then_exit ?_ | refine c_then_ret ?_ | refine c_in ?_ | refine c_in_ret ?_ | refine c_in_hit ?_ | refine wp_skip ?_ | refine wp_exit ?_ | refine wp_ret ?_ | refine c_in_miss rfl ?_ | ((first | apply st hF | apply stg hF | apply s_step hF | apply s_stg hF); (first | exact d_move | exact d_assign | exact d_cmpT | exact d_cmpF | exact d_cmp); clear hF; clear a; intro a hF) | ((first | apply stm hF | apply stu hF); clear hF; clear a; intro a hF) | (apply c_cond_t hF; exact rfl; first | exact rfl | assumption) | (apply c_cond_f hF; exact rfl; first | exact rfl | assumption) | refine s_nil ?_)
  refine stc hF (idxF_ok w s) cal47 ⟨rfl, rfl, trivial⟩ (k := fun a v w1 hR hF => ?_)
  obtain ⟨⟨p, rfl, hp⟩, hb⟩ := hR
  rcases hp with ⟨h0, hk⟩ | ⟨rfl, hk⟩
  · repeat (first | refine c_seq ?_ | refine c_block ?_ | refine c_region _ ?_ | refine wpList_nil ?_ | refine c_then ?_ | refine c_then_exit ?_ | refine c_then_ret ?_ | refine c_in ?_ | refine c_in_ret ?_ | refine c_in_hit ?_ | refine wp_skip ?_ | refine wp_exit ?_ | refine wp_ret ?_ | refine c_in_miss rfl ?_ | ((first | apply st hF | apply stg hF | apply s_step hF | apply s_stg hF); (first | exact d_move | exact d_assign | exact d_cmpT | exact d_cmpF | exact d_cmp); clear hF; clear a; intro a hF) | ((first | apply stm hF | apply stu hF); clear hF; clear a; intro a hF) | (apply c_cond_t hF; exact rfl; first | exact rfl | assumption) | (apply c_cond_f hF; exact rfl; first | exact rfl | assumption) | refine s_nil ?_)
    exact ret1 hF rfl rfl ⟨⟨true, rfl, fun _ => hk, fun h => by cases h⟩, hb⟩
  · repeat (first | refine c_seq ?_ | refine c_block ?_ | refine c_region _ ?_ | refine wpList_nil ?_ | refine c_then ?_ | refine c_then_exit ?_ | refine c_then_ret ?_ | refine c_in ?_ | refine c_in_ret ?_ | refine c_in_hit ?_ | refine wp_skip ?_ | refine wp_exit ?_ | refine wp_ret ?_ | refine c_in_miss rfl ?_ | ((first | apply st hF | apply stg hF | apply s_step hF | apply s_stg hF); (first | exact d_move | exact d_assign | exact d_cmpT | exact d_cmpF | exact d_cmp); clear hF; clear a; intro a hF) | ((first | apply stm hF | apply stu hF); clear hF; clear a; intro a hF) | (apply c_cond_t hF; exact rfl; first | exact rfl | assumption) | (apply c_cond_f hF; exact rfl; first | exact rfl | assumption) | refine s_nil ?_)
    exact ret1 hF rfl rfl ⟨⟨false, rfl, fun h => (by cases h), fun _ => hk⟩, hb⟩

end Go.Proofs.YtnohefaifbghiaaGreatDoor
end
section
/- errors.As at a target of type *api.Fault: over a plain number of an error it finds none. -/
namespace Go.Proofs.YtnohefaifbghiaaGreatDoor
open Go.RowKit Go.Extern.Stop Go.Stop Go.Extern

theorem asValueOf (t : Addr) (w : World) : (ReflectliteValue.unpack (.iface 49 (.pointer (some t)))).run Tryz.prog w
    = .ok (.agg #[.pointer (some ⟨4, 49, none⟩), .pointer (some ⟨w.heap.size, 0, none⟩), .int .u64 150]) (w.alloc (.cells #[.pointer (some t)] 49)) := by kernel_rfl
theorem asType (a : Addr) (w : World) : (ReflectliteValue.methodAny (ReflectliteValue.valueError "reflectlite.Value.Type" 0) (fun t _ _ _ => ReflectliteType.toType t) #[.agg #[.pointer (some ⟨4, 49, none⟩), .pointer (some a), .int .u64 150]]).run Tryz.prog w
    = .ok (.iface 94 (.agg #[.pointer (some ⟨4, 49, none⟩)])) w := by kernel_rfl
theorem asMethodKind (h : Value) (w : World) : (Go.method 313 94 (.agg #[h]) "Kind").run Tryz.prog w = .ok (94, h) w := by kernel_rfl
theorem asKindP (w : World) : ((ReflectliteType.abiMethod fun t => (fun a : Nat => Value.int IntKind.u8 (a : Int)) <$> Rtype.kind t) #[.pointer (some ⟨4, 49, none⟩)]).run Tryz.prog w = .ok (.int .u8 22) w := by kernel_rfl
theorem asKindF (w : World) : ((ReflectliteType.abiMethod fun t => (fun a : Nat => Value.int IntKind.u8 (a : Int)) <$> Rtype.kind t) #[.pointer (some ⟨4, 47, none⟩)]).run Tryz.prog w = .ok (.int .u8 25) w := by kernel_rfl
theorem rlmV (z : Sem Value) (f : TypeId → Addr → Nat → Nat → Sem Value) (v : Value) :
    ReflectliteValue.method z f #[v] = (do match ← ReflectliteValue.parts v with | none => z | some (t, a, fl) => f t a fl (fl % 32)) := rfl
theorem asPartsP (a : Addr) (w : World) : (ReflectliteValue.parts (.agg #[.pointer (some ⟨4, 49, none⟩), .pointer (some a), .int .u64 150])).run Tryz.prog w = .ok (some (49, a, 150)) w := by kernel_rfl
theorem asIsNil (a p : Addr) (W : World) (ha : W.cell? a = some (.pointer (some p))) :
    (ReflectliteValue.method (ReflectliteValue.valueError "reflectlite.Value.IsNil" 0) ReflectliteValue.isNil #[.agg #[.pointer (some ⟨4, 49, none⟩), .pointer (some a), .int .u64 150]]).run Tryz.prog W = .ok (.bool false) W := by
  rw [rlmV]
  simp only [Sem.run_bind, asPartsP, Result.andThen]
  simp [ReflectliteValue.isNil, loadVar, isAgg, underlying, Tryz.underlying49, ha, Result.andThen]
theorem asMethodElem (h : Value) (w : World) : (Go.method 313 94 (.agg #[h]) "Elem").run Tryz.prog w = .ok (107, .agg #[h]) w := by kernel_rfl
theorem asMethodImplements (h : Value) (w : World) : (Go.method 313 94 (.agg #[h]) "Implements").run Tryz.prog w = .ok (108, .agg #[h]) w := by kernel_rfl
theorem asMethodAssignableTo (h : Value) (w : World) : (Go.method 313 94 (.agg #[h]) "AssignableTo").run Tryz.prog w = .ok (105, .agg #[h]) w := by kernel_rfl
theorem asElem (w : World) : (ReflectliteType.method ReflectliteType.elem #[.agg #[.pointer (some ⟨4, 49, none⟩)]]).run Tryz.prog w = .ok (.iface 94 (.agg #[.pointer (some ⟨4, 47, none⟩)])) w := by kernel_rfl
theorem asImplements (w : World) : (ReflectliteType.relation "Implements" ReflectliteType.implements_ #[.agg #[.pointer (some ⟨4, 47, none⟩)], .iface 94 (.agg #[.pointer (some ⟨4, 24, none⟩)])]).run Tryz.prog w = .ok (.bool true) w := by kernel_rfl
theorem asTypeOfE (v : Value) (w : World) : (ReflectliteType.typeOf #[.iface 38 v]).run Tryz.prog w = .ok (.iface 94 (.agg #[.pointer (some ⟨4, 38, none⟩)])) w := by kernel_rfl
theorem asAssignE (w : World) : (ReflectliteType.relation "AssignableTo" ReflectliteType.assignableTo #[.agg #[.pointer (some ⟨4, 38, none⟩)], .iface 94 (.agg #[.pointer (some ⟨4, 47, none⟩)])]).run Tryz.prog w = .ok (.bool false) w := by kernel_rfl
theorem asNoAsE (v : Value) (xT : TypeId) (w : World) : (Instr.typeAssert (.iface 38 v) xT 98 true).run Tryz.prog w = .ok (.tuple #[.nilIface, .bool false]) w := run_typeAssert_lacksB Tryz.underlying98 (by kernel_rfl) (by kernel_rfl) v xT w
theorem asNoUnwrapE (v : Value) (xT : TypeId) (w : World) : (Instr.typeAssert (.iface 38 v) xT 101 true).run Tryz.prog w = .ok (.tuple #[.nilIface, .bool false]) w := run_typeAssert_lacksB Tryz.underlying101 (by kernel_rfl) (by kernel_rfl) v xT w
theorem asNoUnwrapsE (v : Value) (xT : TypeId) (w : World) : (Instr.typeAssert (.iface 38 v) xT 103 true).run Tryz.prog w = .ok (.tuple #[.nilIface, .bool false]) w := run_typeAssert_lacksB Tryz.underlying103 (by kernel_rfl) (by kernel_rfl) v xT w

/-- What the row's condition says of the library's variable: the handle of 'error' lies in it. -/
def Handle (w : World) : Prop := w.cell? ⟨0, 0, none⟩ = some (.iface 94 (.agg #[.pointer (some ⟨4, 24, none⟩)]))

set_option maxHeartbeats 4000000 in
theorem as_miss_calls (n : Int) (t : Addr) (w : World) (hg : w.cell? ⟨0, 0, none⟩ = some (.iface 94 (.agg #[.pointer (some ⟨4, 24, none⟩)]))) :
    Calls Tryz.prog 21 #[.iface 38 (.int .i64 n), .iface 49 (.pointer (some t))] w fun ev w' => ev = .returned (.bool false) ∧ Below w.heap.size w w' := by
  have h6 := @run_callFunc_extern Tryz.prog 32 _ (fun args => ReflectliteValue.unpack (args.getD 0 (.tuple #[]))) Tryz.func32 (by kernel_rfl) (by kernel_rfl) (by kernel_rfl) (by kernel_rfl)
  have h7 := @run_callFunc_extern Tryz.prog 33 _ (ReflectliteValue.methodAny (ReflectliteValue.valueError "reflectlite.Value.Type" 0) (fun t _ _ _ => ReflectliteType.toType t)) Tryz.func33 (by kernel_rfl) (by kernel_rfl) (by kernel_rfl) (by kernel_rfl)
  have h8 := @run_callFunc_extern Tryz.prog 34 _ (ReflectliteValue.method (ReflectliteValue.valueError "reflectlite.Value.IsNil" 0) ReflectliteValue.isNil) Tryz.func34 (by kernel_rfl) (by kernel_rfl) (by kernel_rfl) (by kernel_rfl)
  have h27 := @run_callFunc_extern Tryz.prog 94 _ (ReflectliteType.abiMethod fun t => do pure (.int .u8 (← Rtype.kind t))) Tryz.func94 (by kernel_rfl) (by kernel_rfl) (by kernel_rfl) (by kernel_rfl)
  have h37 := @run_callFunc_extern Tryz.prog 107 _ (ReflectliteType.method ReflectliteType.elem) Tryz.func107 (by kernel_rfl) (by kernel_rfl) (by kernel_rfl) (by kernel_rfl)
  have h38 := @run_callFunc_extern Tryz.prog 108 _ (ReflectliteType.relation "Implements" ReflectliteType.implements_) Tryz.func108 (by kernel_rfl) (by kernel_rfl) (by kernel_rfl) (by kernel_rfl)
  have h10 := @run_callFunc_extern Tryz.prog 36 _ ReflectliteType.typeOf Tryz.func36 (by kernel_rfl) (by kernel_rfl) (by kernel_rfl) (by kernel_rfl)
  have h35 := @run_callFunc_extern Tryz.prog 105 _ (ReflectliteType.relation "AssignableTo" ReflectliteType.assignableTo) Tryz.func105 (by kernel_rfl) (by kernel_rfl) (by kernel_rfl) (by kernel_rfl)
  have tO := asTypeOfE
  have mA := asMethodAssignableTo
  have aE := asAssignE
  have f6 := asValueOf
  have f7 := asType
  have mK := asMethodKind
  have mE := asMethodElem
  have mI := asMethodImplements
  have kP := asKindP
  have kF := asKindF
  have eP := asElem
  have iF := asImplements
  have nA := asNoAsE
  have nU := asNoUnwrapE
  have nV := asNoUnwrapsE
  have n8 := asIsNil ⟨w.heap.size, 0, none⟩ t ((w.alloc (.cells #[.pointer (some t)] 49)).alloc (.cells #[.pointer (some ⟨4, 49, none⟩), .pointer (some ⟨w.heap.size, 0, none⟩), .int .u64 150] 63)) (by simp)
  have hlt : 0 < w.heap.size := by
    rcases Nat.eq_zero_or_pos w.heap.size with h0 | h
    · simp [World.cell?, h0] at hg
    · exact h
  have hg2 : ((w.alloc (.cells #[.pointer (some t)] 49)).alloc (.cells #[.pointer (some ⟨4, 49, none⟩), .pointer (some ⟨w.heap.size, 0, none⟩), .int .u64 150] 63)).cell? ⟨0, 0, none⟩ = some (.iface 94 (.agg #[.pointer (some ⟨4, 24, none⟩)])) := by
    rw [World.cell?_alloc_lt _ _ ⟨0, 0, none⟩ (by simp), World.cell?_alloc_lt _ _ ⟨0, 0, none⟩ hlt]; exact hg
  have bl : ∀ (W : World) (o : Obj), Below w.heap.size w W → Below w.heap.size w (W.alloc o) := fun W o h => h.grown (World.grownBy_alloc _ _ none) h.size (fun k hk => by cases hk)
  go_enter Tryz.func21, Tryz.ntmps21
  go_wp2
  refine wp_loop_rounds 1 ?_
  rw [rounds_succ]
  go_wp2
  go_ret
  exact ⟨rfl, bl _ _ (bl _ _ (bl _ _ (Below.refl _ _)))⟩
theorem as_miss (w : World) (n : Int) (t : Addr) (hg : Handle w) : Ret Tryz.prog 21 #[.iface 38 (.int .i64 n), .iface 49 (.pointer (some t))] w (fun v w' => v = .bool false ∧ Below w.heap.size w w') :=
  Calls.mono (as_miss_calls n t w hg) fun e w' h => ⟨_, h.1, rfl, h.2⟩
end Go.Proofs.YtnohefaifbghiaaGreatDoor
end
section
/- The condition of a door's row: what it gives a walk, and a world that meets it. -/
namespace Go.Proofs.YtnohefaifbghiaaGreatDoor
open Go.ChangeShapes Go.WideShapes Go.RowKit

def theLaid : List (String × DataW Unit) := [("errors.errorType", Rows.laid_errors_errorType)]
theorem doorEt : Tryz.prog.globalNamed "errors.errorType" = some 0 := by kernel_rfl
theorem doorRt : (Tryz.prog.cutTypes.find? (·.1 == "internal/reflectlite.rtype")).map (·.2) = some 94 := by kernel_rfl
theorem doorOne : ((List.range Tryz.prog.types.size).filter fun t => Tryz.prog.rowNamed t [101, 114, 114, 111, 114]) = [24] := by kernel_rfl

theorem handle_of_laid {W : World} (h : laidMetH Tryz.prog theLaid W) : Handle W := by
  have h' : laidMet Tryz.prog [] W ∧ handlesMet Tryz.prog theLaid W := h
  obtain ⟨name, u, ty, e1, e2, e3, e4, e5⟩ := h'.2 _ (List.mem_singleton.2 rfl)
  have en : name = [101, 114, 114, 111, 114] := (Option.some.inj e1).symm
  subst en
  obtain rfl := Option.some.inj (doorRt.symm.trans e2)
  have hm : ty ∈ (List.range Tryz.prog.types.size).filter fun t => Tryz.prog.rowNamed t [101, 114, 114, 111, 114] := List.mem_filter.2 ⟨List.mem_range.2 e3, e4⟩
  rw [doorOne] at hm
  obtain rfl := List.mem_singleton.1 hm
  have hh : typeHandle Tryz.prog 24 = .pointer (some ⟨4, 24, none⟩) := by kernel_rfl
  rw [hh] at e5
  have := World.var?_cell doorEt e5 0
  simpa [Handle] using this
theorem Handle.below {w w' : World} (h : Handle w) (hb : Below w.heap.size w w') : Handle w' :=
  (hb.cell (p := ⟨0, 0, none⟩) (World.block_lt_of_cell? w _ h)).trans h

/-- A world that meets the condition: the settled one, the variable's cell laid. -/
noncomputable def laidWorld (os : Os) : World :=
  let w0 := World.holding Tryz.prog os ⟨#[], #[], []⟩
  { w0 with heap := w0.heap.modify 0 fun
      | .cells _ t frozen => .cells #[.iface 94 (.agg #[.pointer (some ⟨4, 24, none⟩)])] t frozen
      | o => o }
theorem laidWorld_met (os : Os) (args : Array Value) : laidMetH Tryz.prog theLaid ((laidWorld os).forCall (fun _ _ => 0) ⟨#[], args, []⟩).memory :=
  laidMetH_of_parts (laidMet_nil _ _) (by kernel_rfl)
end Go.Proofs.YtnohefaifbghiaaGreatDoor
end
section
/- The library's utf8.ValidString at this program. -/
namespace Go.Proofs
open Go.Shelf Go.RowKit
def Tryz.lays196_ren : Go.Shelf.Ren := ⟨fun | 196 => 39 | 259 => 46 | n => n, fun | 0 => 0 | 3 => 3 | 4 => 4 | 5 => 5 | 9 => 9 | 12 => 12 | 46 => 115 | 53 => 119 | 119 => 111 | 138 => 113 | 139 => 114 | n => n, fun | 3 => 1 | 4 => 2 | n => n⟩
theorem Tryz.lays196 : Go.Proofs.Lays.n196 Tryz.prog Tryz.lays196_ren := {
  mixed := by kernel_rfl
  f196 := Tryz.func39.trans (congrArg some (by kernel_rfl))
  f259 := Tryz.func46.trans (congrArg some (by kernel_rfl))
  t0 := Tryz.underlying0
  a0 := Tryz.isAgg0
  z0 := Tryz.sizeOf0
  v0 := Tryz.zeroValue0
  t3 := Tryz.underlying3
  a3 := Tryz.isAgg3
  z3 := Tryz.sizeOf3
  v3 := Tryz.zeroValue3
  t4 := Tryz.underlying4
  a4 := Tryz.isAgg4
  z4 := Tryz.sizeOf4
  v4 := Tryz.zeroValue4
  t5 := Tryz.underlying5
  a5 := Tryz.isAgg5
  z5 := Tryz.sizeOf5
  v5 := Tryz.zeroValue5
  t9 := Tryz.underlying9
  a9 := Tryz.isAgg9
  z9 := Tryz.sizeOf9
  v9 := Tryz.zeroValue9
  t12 := Tryz.underlying12
  a12 := Tryz.isAgg12
  z12 := Tryz.sizeOf12
  v12 := Tryz.zeroValue12
  t46 := Tryz.underlying115
  a46 := Tryz.isAgg115
  z46 := Tryz.sizeOf115
  v46 := Tryz.zeroValue115
  t53 := Tryz.underlying119
  a53 := Tryz.isAgg119
  z53 := Tryz.sizeOf119
  v53 := Tryz.zeroValue119
  t119 := Tryz.underlying111
  a119 := Tryz.isAgg111
  z119 := Tryz.sizeOf111
  t138 := Tryz.underlying113
  a138 := Tryz.isAgg113
  z138 := Tryz.sizeOf113
  v138 := Tryz.zeroValue113
  t139 := Tryz.underlying114
  a139 := Tryz.isAgg114
  z139 := Tryz.sizeOf114
  v139 := Tryz.zeroValue114
  g3 := by kernel_rfl
  g4 := by kernel_rfl }
theorem Tryz.utf8_ValidString (s : ByteArray) (w : World) (hs : s.size ≤ 9223372036854775807) (hT : Lib.Utf8Tabs (Tryz.lays196_ren.g 3) (Tryz.lays196_ren.g 4) w) :
    Calls Tryz.prog 39 #[.string s] w fun e w' => e = .returned (.bool (Lib.validD s.data.toList)) ∧ Below w.heap.size w w' := Any.utf8_ValidString Tryz.lays196 s w hs hT
end Go.Proofs
end
