/- Laid together by a program of mine: Word MapW. -/
import Derived.Test.YtjomihhpglojpaaDoorSumBOneW11
import Derived.Test.YtjomihhpglojpaaDoorSumBOneW2
import Derived.Test.YtjomihhpglojpaaDoorSumBOneW3
import Derived.Maps.Views
import Derived.Maps.OwnSet
import Derived.Carry
set_option linter.unusedSimpArgs false
set_option linter.unusedVariables false
section
/- Words: what the program's word and the reference's Word answer. -/
namespace Go.Proofs.YtjomihhpglojpaaDoor
open Go.RowKit
set_option linter.unusedSimpArgs false
set_option linter.unusedVariables false
attribute [local irreducible] wpList wpQuiet wpStill Code.wp Exit.then Exit.inBlock bodyPost Calls Does Does0
def kw : List ByteArray := [⟨#[86, 69, 82, 83, 73, 79, 78]⟩, ⟨#[66, 85, 95]⟩, ⟨#[66, 79, 95]⟩, ⟨#[83, 71, 95]⟩, ⟨#[86, 65, 76, 95]⟩, ⟨#[67, 77, 95]⟩]
def wordB (s : ByteArray) : Bool := !(kw.any fun k => decide (s = k)) && Pl.name s
theorem wordB_in {s : ByteArray} (h : s ∈ kw) : wordB s = false := by
  have : (kw.any fun k => decide (s = k)) = true := List.any_eq_true.2 ⟨s, h, decide_eq_true rfl⟩
  unfold wordB; rw [this]; rfl
theorem wordB_out {s : ByteArray} (h : s ∉ kw) : wordB s = Pl.name s := by
  have : (kw.any fun k => decide (s = k)) = false := by
    rw [Bool.eq_false_iff]
    intro h2
    obtain ⟨k, hk, e⟩ := List.any_eq_true.1 h2
    exact h (by rw [of_decide_eq_true e]; exact hk)
  unfold wordB; rw [this]; simp
theorem wordB_name {s : ByteArray} (h : Pl.name s = false) : wordB s = false := by unfold wordB; rw [h, Bool.and_false]
set_option maxHeartbeats 4000000 in
theorem word_ok' (w : World) (s : ByteArray) : Ret Tryd.prog 50 [.string s].toArray w (fun v w' => v = .bool (wordB s) ∧ Below w.heap.size w w') := by
  refine enter1 Tryd.func50 rfl 12 rfl 13 rfl (fun a hF => ?_)
  cases h1 : decide (s = ⟨#[86, 69, 82, 83, 73, 79, 78]⟩) with
  | true =>
    repeat (first | refine c_seq ?_ | refine c_block ?_ | refine c_region _ ?_ | refine wpList_nil ?_ | refine c_then ?_ | refine c_then_exit ?_ | refine c_then_ret ?_ | refine c_in ?_ | refine c_in_ret ?_ | refine c_in_hit ?_ | refine wp_skip ?_ | refine wp_exit ?_ | refine wp_ret ?_ | refine c_in_miss rfl ?_ | ((first | apply st hF | apply stg hF | apply s_step hF | apply s_stg hF); (first | exact d_move | exact d_assign | exact d_cmpT | exact d_cmpF | exact d_cmp | exact d_eqbT (und _ _ rfl) | exact d_eqbF (und _ _ rfl) | exact d_eqb (und _ _ rfl) | exact d_eqST | exact d_eqSF | exact d_eqS | exact d_eqN (ifc _ rfl) | exact d_neN (ifc _ rfl)); clear hF; clear a; intro a hF) | ((first | apply stm hF | apply stu hF); clear hF; clear a; intro a hF) | (apply c_cond_t hF; exact rfl; first | exact rfl | assumption) | (apply c_cond_f hF; exact rfl; first | exact rfl | assumption) | refine s_nil ?_)
    exact ret1 hF rfl rfl ⟨by rw [wordB_in (by rw [of_decide_eq_true h1]; simp [kw])], Below.refl _ w⟩
  | false =>
  cases h2 : decide (s = ⟨#[66, 85, 95]⟩) with
  | true =>
    repeat (first | refine c_seq ?_ | refine c_block ?_ | refine c_region _ ?_ | refine wpList_nil ?_ | refine c_then ?_ | refine c_then_exit ?_ | refine c_then_ret ?_ | refine c_in ?_ | refine c_in_ret ?_ | refine c_in_hit ?_ | refine wp_skip ?_ | refine wp_exit ?_ | refine wp_ret ?_ | refine c_in_miss rfl ?_ | ((first | apply st hF | apply stg hF | apply s_step hF | apply s_stg hF); (first | exact d_move | exact d_assign | exact d_cmpT | exact d_cmpF | exact d_cmp | exact d_eqbT (und _ _ rfl) | exact d_eqbF (und _ _ rfl) | exact d_eqb (und _ _ rfl) | exact d_eqST | exact d_eqSF | exact d_eqS | exact d_eqN (ifc _ rfl) | exact d_neN (ifc _ rfl)); clear hF; clear a; intro a hF) | ((first | apply stm hF | apply stu hF); clear hF; clear a; intro a hF) | (apply c_cond_t hF; exact rfl; first | exact rfl | assumption) | (apply c_cond_f hF; exact rfl; first | exact rfl | assumption) | refine s_nil ?_)
    exact ret1 hF rfl rfl ⟨by rw [wordB_in (by rw [of_decide_eq_true h2]; simp [kw])], Below.refl _ w⟩
  | false =>
  cases h3 : decide (s = ⟨#[66, 79, 95]⟩) with
  | true =>
    repeat (first | refine c_seq ?_ | refine c_block ?_ | refine c_region _ ?_ | refine wpList_nil ?_ | refine c_then ?_ | refine c_then_exit ?_ | refine c_then_ret ?_ | refine c_in ?_ | refine c_in_ret ?_ | refine c_in_hit ?_ | refine wp_skip ?_ | refine wp_exit ?_ | refine wp_ret ?_ | refine c_in_miss rfl ?_ | ((first | apply st hF | apply stg hF | apply s_step hF | apply s_stg hF); (first | exact d_move | exact d_assign | exact d_cmpT | exact d_cmpF | exact d_cmp | exact d_eqbT (und _ _ rfl) | exact d_eqbF (und _ _ rfl) | exact d_eqb (und _ _ rfl) | exact d_eqST | exact d_eqSF | exact d_eqS | exact d_eqN (ifc _ rfl) | exact d_neN (ifc _ rfl)); clear hF; clear a; intro a hF) | ((first | apply stm hF | apply stu hF); clear hF; clear a; intro a hF) | (apply c_cond_t hF; exact rfl; first | exact rfl | assumption) | (apply c_cond_f hF; exact rfl; first | exact rfl | assumption) | refine s_nil ?_)
    exact ret1 hF rfl rfl ⟨by rw [wordB_in (by rw [of_decide_eq_true h3]; simp [kw])], Below.refl _ w⟩
  | false =>
  cases h4 : decide (s = ⟨#[83, 71, 95]⟩) with
  | true =>
    repeat (first | refine c_seq ?_ | refine c_block ?_ | refine c_region _ ?_ | refine wpList_nil ?_ | refine c_then ?_ | refine c_then_exit ?_ | refine c_then_ret ?_ | refine c_in ?_ | refine c_in_ret ?_ | refine c_in_hit ?_ | refine wp_skip ?_ | refine wp_exit ?_ | refine wp_ret ?_ | refine c_in_miss rfl ?_ | ((first | apply st hF | apply stg hF | apply s_step hF | apply s_stg hF); (first | exact d_move | exact d_assign | exact d_cmpT | exact d_cmpF | exact d_cmp | exact d_eqbT (und _ _ rfl) | exact d_eqbF (und _ _ rfl) | exact d_eqb (und _ _ rfl) | exact d_eqST | exact d_eqSF | exact d_eqS | exact d_eqN (ifc _ rfl) | exact d_neN (ifc _ rfl)); clear hF; clear a; intro a hF) | ((first | apply stm hF | apply stu hF); clear hF; clear a; intro a hF) | (apply c_cond_t hF; exact rfl; first | exact rfl | assumption) | (apply c_cond_f hF; exact rfl; first | exact rfl | assumption) | refine s_nil ?_)
    exact ret1 hF rfl rfl ⟨by rw [wordB_in (by rw [of_decide_eq_true h4]; simp [kw])], Below.refl _ w⟩
  | false =>
  cases h5 : decide (s = ⟨#[86, 65, 76, 95]⟩) with
  | true =>
    repeat (first | refine c_seq ?_ | refine c_block ?_ | refine c_region _ ?_ | refine wpList_nil ?_ | refine c_then ?_ | refine c_then_exit ?_ | refine c_then_ret ?_ | refine c_in ?_ | refine c_in_ret ?_ | refine c_in_hit ?_ | refine wp_skip ?_ | refine wp_exit ?_ | refine wp_ret ?_ | refine c_in_miss rfl ?_ | ((first | apply st hF | apply stg hF | apply s_step hF | apply s_stg hF); (first | exact d_move | exact d_assign | exact d_cmpT | exact d_cmpF | exact d_cmp | exact d_eqbT (und _ _ rfl) | exact d_eqbF (und _ _ rfl) | exact d_eqb (und _ _ rfl) | exact d_eqST | exact d_eqSF | exact d_eqS | exact d_eqN (ifc _ rfl) | exact d_neN (ifc _ rfl)); clear hF; clear a; intro a hF) | ((first | apply stm hF | apply stu hF); clear hF; clear a; intro a hF) | (apply c_cond_t hF; exact rfl; first | exact rfl | assumption) | (apply c_cond_f hF; exact rfl; first | exact rfl | assumption) | refine s_nil ?_)
    exact ret1 hF rfl rfl ⟨by rw [wordB_in (by rw [of_decide_eq_true h5]; simp [kw])], Below.refl _ w⟩
  | false =>
  cases h6 : decide (s = ⟨#[67, 77, 95]⟩) with
  | true =>
    repeat (first | refine c_seq ?_ | refine c_block ?_ | refine c_region _ ?_ | refine wpList_nil ?_ | refine c_then ?_ | refine c_then_exit ?_ | refine c_then_ret ?_ | refine c_in ?_ | refine c_in_ret ?_ | refine c_in_hit ?_ | refine wp_skip ?_ | refine wp_exit ?_ | refine wp_ret ?_ | refine c_in_miss rfl ?_ | ((first | apply st hF | apply stg hF | apply s_step hF | apply s_stg hF); (first | exact d_move | exact d_assign | exact d_cmpT | exact d_cmpF | exact d_cmp | exact d_eqbT (und _ _ rfl) | exact d_eqbF (und _ _ rfl) | exact d_eqb (und _ _ rfl) | exact d_eqST | exact d_eqSF | exact d_eqS | exact d_eqN (ifc _ rfl) | exact d_neN (ifc _ rfl)); clear hF; clear a; intro a hF) | ((first | apply stm hF | apply stu hF); clear hF; clear a; intro a hF) | (apply c_cond_t hF; exact rfl; first | exact rfl | assumption) | (apply c_cond_f hF; exact rfl; first | exact rfl | assumption) | refine s_nil ?_)
    exact ret1 hF rfl rfl ⟨by rw [wordB_in (by rw [of_decide_eq_true h6]; simp [kw])], Below.refl _ w⟩
  | false =>
    repeat (first | refine c_seq ?_ | refine c_block ?_ | refine c_region _ ?_ | refine wpList_nil ?_ | refine c_then ?_ | refine c_then_exit ?_ | refine c_then_ret ?_ | refine c_in ?_ | refine c_in_ret ?_ | refine c_in_hit ?_ | refine wp_skip ?_ | refine wp_exit ?_ | refine wp_ret ?_ | refine c_in_miss rfl ?_ | ((first | apply st hF | apply stg hF | apply s_step hF | apply s_stg hF); (first | exact d_move | exact d_assign | exact d_cmpT | exact d_cmpF | exact d_cmp | exact d_eqbT (und _ _ rfl) | exact d_eqbF (und _ _ rfl) | exact d_eqb (und _ _ rfl) | exact d_eqST | exact d_eqSF | exact d_eqS | exact d_eqN (ifc _ rfl) | exact d_neN (ifc _ rfl)); clear hF; clear a; intro a hF) | ((first | apply stm hF | apply stu hF); clear hF; clear a; intro a hF) | (apply c_cond_t hF; exact rfl; first | exact rfl | assumption) | (apply c_cond_f hF; exact rfl; first | exact rfl | assumption) | refine s_nil ?_)
    refine stc hF (name_ok w s) cal78 ⟨rfl, trivial⟩ (k := fun a v w1 hR hF => ?_)
    obtain ⟨rfl, hb⟩ := hR
    repeat (first | refine c_seq ?_ | refine c_block ?_ | refine c_region _ ?_ | refine wpList_nil ?_ | refine c_then ?_ | refine c_then_exit ?_ | refine c_then_ret ?_ | refine c_in ?_ | refine c_in_ret ?_ | refine c_in_hit ?_ | refine wp_skip ?_ | refine wp_exit ?_ | refine wp_ret ?_ | refine c_in_miss rfl ?_ | ((first | apply st hF | apply stg hF | apply s_step hF | apply s_stg hF); (first | exact d_move | exact d_assign | exact d_cmpT | exact d_cmpF | exact d_cmp | exact d_eqbT (und _ _ rfl) | exact d_eqbF (und _ _ rfl) | exact d_eqb (und _ _ rfl) | exact d_eqST | exact d_eqSF | exact d_eqS | exact d_eqN (ifc _ rfl) | exact d_neN (ifc _ rfl)); clear hF; clear a; intro a hF) | ((first | apply stm hF | apply stu hF); clear hF; clear a; intro a hF) | (apply c_cond_t hF; exact rfl; first | exact rfl | assumption) | (apply c_cond_f hF; exact rfl; first | exact rfl | assumption) | refine s_nil ?_)
    have ho : s ∉ kw := by
      intro h
      simp only [kw, List.mem_cons, List.mem_nil_iff, or_false] at h
      rcases h with h | h | h | h | h | h
      · exact of_decide_eq_false h1 h
      · exact of_decide_eq_false h2 h
      · exact of_decide_eq_false h3 h
      · exact of_decide_eq_false h4 h
      · exact of_decide_eq_false h5 h
      · exact of_decide_eq_false h6 h
    exact ret1 hF rfl rfl ⟨by rw [wordB_out ho], hb⟩
theorem bnt {s u : ByteArray} {b : Bool} (h : decide (s = u) = b) : (!decide (s = u)) = !b := by rw [h]
set_option maxHeartbeats 4000000 in
theorem rword_ok' (w : World) (s : ByteArray) : Ret Tryd.prog 68 [.string s].toArray w (fun v w' => v = .bool (wordB s) ∧ Below w.heap.size w w') := by
  refine enter1 Tryd.func68 rfl 28 rfl 29 rfl (fun a hF => ?_)
  repeat (first | refine c_seq ?_ | refine c_block ?_ | refine c_region _ ?_ | refine wpList_nil ?_ | refine c_then ?_ | refine c_then_exit ?_ | refine c_then_ret ?_ | refine c_in ?_ | refine c_in_ret ?_ | refine c_in_hit ?_ | refine wp_skip ?_ | refine wp_exit ?_ | refine wp_ret ?_ | refine c_in_miss rfl ?_ | ((first | apply st hF | apply stg hF | apply s_step hF | apply s_stg hF); (first | exact d_move | exact d_assign | exact d_pickT | exact d_pickF | exact d_cmpT | exact d_cmpF | exact d_cmp | exact d_eqbT (und _ _ rfl) | exact d_eqbF (und _ _ rfl) | exact d_eqb (und _ _ rfl) | exact d_eqST | exact d_eqSF | exact d_eqS | exact d_eqN (ifc _ rfl) | exact d_neN (ifc _ rfl)); clear hF; clear a; intro a hF) | ((first | apply stm hF | apply stu hF); clear hF; clear a; intro a hF) | (apply c_cond_t hF; exact rfl; first | exact rfl | assumption) | (apply c_cond_f hF; exact rfl; first | exact rfl | assumption) | refine s_nil ?_)
  refine stc hF (refName_ok w s) cal89 ⟨rfl, trivial⟩ (k := fun a v w1 hR hF => ?_)
  obtain ⟨rfl, hdr⟩ := hR
  have hb : Below w.heap.size w w1 := hdr.below _
  cases hn : Pl.name s with
  | false =>
    rw [hn] at hF
    repeat (first | refine c_seq ?_ | refine c_block ?_ | refine c_region _ ?_ | refine wpList_nil ?_ | refine c_then ?_ | refine c_then_exit ?_ | refine c_then_ret ?_ | refine c_in ?_ | refine c_in_ret ?_ | refine c_in_hit ?_ | refine wp_skip ?_ | refine wp_exit ?_ | refine wp_ret ?_ | refine c_in_miss rfl ?_ | ((first | apply st hF | apply stg hF | apply s_step hF | apply s_stg hF); (first | exact d_move | exact d_assign | exact d_pickT | exact d_pickF | exact d_cmpT | exact d_cmpF | exact d_cmp | exact d_eqbT (und _ _ rfl) | exact d_eqbF (und _ _ rfl) | exact d_eqb (und _ _ rfl) | exact d_eqST | exact d_eqSF | exact d_eqS | exact d_eqN (ifc _ rfl) | exact d_neN (ifc _ rfl)); clear hF; clear a; intro a hF) | ((first | apply stm hF | apply stu hF); clear hF; clear a; intro a hF) | (apply c_cond_t hF; exact rfl; first | exact rfl | assumption) | (apply c_cond_f hF; exact rfl; first | exact rfl | assumption) | refine s_nil ?_)
    exact ret1 hF rfl rfl ⟨by rw [wordB_name hn], hb⟩
  | true =>
  rw [hn] at hF
  cases h1 : decide (s = ⟨#[86, 69, 82, 83, 73, 79, 78]⟩) with
  | true =>
    have g1 := bnt h1
    simp only [Bool.not_true] at g1
    repeat (first | refine c_seq ?_ | refine c_block ?_ | refine c_region _ ?_ | refine wpList_nil ?_ | refine c_then ?_ | refine c_then_exit ?_ | refine c_then_ret ?_ | refine c_in ?_ | refine c_in_ret ?_ | refine c_in_hit ?_ | refine wp_skip ?_ | refine wp_exit ?_ | refine wp_ret ?_ | refine c_in_miss rfl ?_ | ((first | apply st hF | apply stg hF | apply s_step hF | apply s_stg hF); (first | exact d_move | exact d_assign | exact d_pickT | exact d_pickF | exact d_cmpT | exact d_cmpF | exact d_cmp | exact d_eqbT (und _ _ rfl) | exact d_eqbF (und _ _ rfl) | exact d_eqb (und _ _ rfl) | exact d_eqST | exact d_eqSF | exact d_eqS | exact d_eqN (ifc _ rfl) | exact d_neN (ifc _ rfl)); clear hF; clear a; intro a hF) | ((first | apply stm hF | apply stu hF); clear hF; clear a; intro a hF) | (apply c_cond_t hF; exact rfl; first | exact rfl | assumption) | (apply c_cond_f hF; exact rfl; first | exact rfl | assumption) | refine s_nil ?_)
    exact ret1 hF rfl rfl ⟨by rw [wordB_in (by rw [of_decide_eq_true h1]; simp [kw])], hb⟩
  | false =>
  have g1 := bnt h1
  cases h2 : decide (s = ⟨#[66, 85, 95]⟩) with
  | true =>
    have g2 := bnt h2
    simp only [Bool.not_true, Bool.not_false] at g1 g2
    repeat (first | refine c_seq ?_ | refine c_block ?_ | refine c_region _ ?_ | refine wpList_nil ?_ | refine c_then ?_ | refine c_then_exit ?_ | refine c_then_ret ?_ | refine c_in ?_ | refine c_in_ret ?_ | refine c_in_hit ?_ | refine wp_skip ?_ | refine wp_exit ?_ | refine wp_ret ?_ | refine c_in_miss rfl ?_ | ((first | apply st hF | apply stg hF | apply s_step hF | apply s_stg hF); (first | exact d_move | exact d_assign | exact d_pickT | exact d_pickF | exact d_cmpT | exact d_cmpF | exact d_cmp | exact d_eqbT (und _ _ rfl) | exact d_eqbF (und _ _ rfl) | exact d_eqb (und _ _ rfl) | exact d_eqST | exact d_eqSF | exact d_eqS | exact d_eqN (ifc _ rfl) | exact d_neN (ifc _ rfl)); clear hF; clear a; intro a hF) | ((first | apply stm hF | apply stu hF); clear hF; clear a; intro a hF) | (apply c_cond_t hF; exact rfl; first | exact rfl | assumption) | (apply c_cond_f hF; exact rfl; first | exact rfl | assumption) | refine s_nil ?_)
    exact ret1 hF rfl rfl ⟨by rw [wordB_in (by rw [of_decide_eq_true h2]; simp [kw])], hb⟩
  | false =>
  have g2 := bnt h2
  cases h3 : decide (s = ⟨#[66, 79, 95]⟩) with
  | true =>
    have g3 := bnt h3
    simp only [Bool.not_true, Bool.not_false] at g1 g2 g3
    repeat (first | refine c_seq ?_ | refine c_block ?_ | refine c_region _ ?_ | refine wpList_nil ?_ | refine c_then ?_ | refine c_then_exit ?_ | refine c_then_ret ?_ | refine c_in ?_ | refine c_in_ret ?_ | refine c_in_hit ?_ | refine wp_skip ?_ | refine wp_exit ?_ | refine wp_ret ?_ | refine c_in_miss rfl ?_ | ((first | apply st hF | apply stg hF | apply s_step hF | apply s_stg hF); (first | exact d_move | exact d_assign | exact d_pickT | exact d_pickF | exact d_cmpT | exact d_cmpF | exact d_cmp | exact d_eqbT (und _ _ rfl) | exact d_eqbF (und _ _ rfl) | exact d_eqb (und _ _ rfl) | exact d_eqST | exact d_eqSF | exact d_eqS | exact d_eqN (ifc _ rfl) | exact d_neN (ifc _ rfl)); clear hF; clear a; intro a hF) | ((first | apply stm hF | apply stu hF); clear hF; clear a; intro a hF) | (apply c_cond_t hF; exact rfl; first | exact rfl | assumption) | (apply c_cond_f hF; exact rfl; first | exact rfl | assumption) | refine s_nil ?_)
    exact ret1 hF rfl rfl ⟨by rw [wordB_in (by rw [of_decide_eq_true h3]; simp [kw])], hb⟩
  | false =>
  have g3 := bnt h3
  cases h4 : decide (s = ⟨#[83, 71, 95]⟩) with
  | true =>
    have g4 := bnt h4
    simp only [Bool.not_true, Bool.not_false] at g1 g2 g3 g4
    repeat (first | refine c_seq ?_ | refine c_block ?_ | refine c_region _ ?_ | refine wpList_nil ?_ | refine c_then ?_ | refine c_then_exit ?_ | refine c_then_ret ?_ | refine c_in ?_ | refine c_in_ret ?_ | refine c_in_hit ?_ | refine wp_skip ?_ | refine wp_exit ?_ | refine wp_ret ?_ | refine c_in_miss rfl ?_ | ((first | apply st hF | apply stg hF | apply s_step hF | apply s_stg hF); (first | exact d_move | exact d_assign | exact d_pickT | exact d_pickF | exact d_cmpT | exact d_cmpF | exact d_cmp | exact d_eqbT (und _ _ rfl) | exact d_eqbF (und _ _ rfl) | exact d_eqb (und _ _ rfl) | exact d_eqST | exact d_eqSF | exact d_eqS | exact d_eqN (ifc _ rfl) | exact d_neN (ifc _ rfl)); clear hF; clear a; intro a hF) | ((first | apply stm hF | apply stu hF); clear hF; clear a; intro a hF) | (apply c_cond_t hF; exact rfl; first | exact rfl | assumption) | (apply c_cond_f hF; exact rfl; first | exact rfl | assumption) | refine s_nil ?_)
    exact ret1 hF rfl rfl ⟨by rw [wordB_in (by rw [of_decide_eq_true h4]; simp [kw])], hb⟩
  | false =>
  have g4 := bnt h4
  cases h5 : decide (s = ⟨#[86, 65, 76, 95]⟩) with
  | true =>
    have g5 := bnt h5
    simp only [Bool.not_true, Bool.not_false] at g1 g2 g3 g4 g5
    repeat (first | refine c_seq ?_ | refine c_block ?_ | refine c_region _ ?_ | refine wpList_nil ?_ | refine c_then ?_ | refine c_then_exit ?_ | refine c_then_ret ?_ | refine c_in ?_ | refine c_in_ret ?_ | refine c_in_hit ?_ | refine wp_skip ?_ | refine wp_exit ?_ | refine wp_ret ?_ | refine c_in_miss rfl ?_ | ((first | apply st hF | apply stg hF | apply s_step hF | apply s_stg hF); (first | exact d_move | exact d_assign | exact d_pickT | exact d_pickF | exact d_cmpT | exact d_cmpF | exact d_cmp | exact d_eqbT (und _ _ rfl) | exact d_eqbF (und _ _ rfl) | exact d_eqb (und _ _ rfl) | exact d_eqST | exact d_eqSF | exact d_eqS | exact d_eqN (ifc _ rfl) | exact d_neN (ifc _ rfl)); clear hF; clear a; intro a hF) | ((first | apply stm hF | apply stu hF); clear hF; clear a; intro a hF) | (apply c_cond_t hF; exact rfl; first | exact rfl | assumption) | (apply c_cond_f hF; exact rfl; first | exact rfl | assumption) | refine s_nil ?_)
    exact ret1 hF rfl rfl ⟨by rw [wordB_in (by rw [of_decide_eq_true h5]; simp [kw])], hb⟩
  | false =>
  have g5 := bnt h5
  cases h6 : decide (s = ⟨#[67, 77, 95]⟩) with
  | true =>
    have g6 := bnt h6
    simp only [Bool.not_true, Bool.not_false] at g1 g2 g3 g4 g5 g6
    repeat (first | refine c_seq ?_ | refine c_block ?_ | refine c_region _ ?_ | refine wpList_nil ?_ | refine c_then ?_ | refine c_then_exit ?_ | refine c_then_ret ?_ | refine c_in ?_ | refine c_in_ret ?_ | refine c_in_hit ?_ | refine wp_skip ?_ | refine wp_exit ?_ | refine wp_ret ?_ | refine c_in_miss rfl ?_ | ((first | apply st hF | apply stg hF | apply s_step hF | apply s_stg hF); (first | exact d_move | exact d_assign | exact d_pickT | exact d_pickF | exact d_cmpT | exact d_cmpF | exact d_cmp | exact d_eqbT (und _ _ rfl) | exact d_eqbF (und _ _ rfl) | exact d_eqb (und _ _ rfl) | exact d_eqST | exact d_eqSF | exact d_eqS | exact d_eqN (ifc _ rfl) | exact d_neN (ifc _ rfl)); clear hF; clear a; intro a hF) | ((first | apply stm hF | apply stu hF); clear hF; clear a; intro a hF) | (apply c_cond_t hF; exact rfl; first | exact rfl | assumption) | (apply c_cond_f hF; exact rfl; first | exact rfl | assumption) | refine s_nil ?_)
    exact ret1 hF rfl rfl ⟨by rw [wordB_in (by rw [of_decide_eq_true h6]; simp [kw])], hb⟩
  | false =>
  have g6 := bnt h6
  simp only [Bool.not_true, Bool.not_false] at g1 g2 g3 g4 g5 g6
  repeat (first | refine c_seq ?_ | refine c_block ?_ | refine c_region _ ?_ | refine wpList_nil ?_ | refine c_then ?_ | refine c_then_exit ?_ | refine c_then_ret ?_ | refine c_in ?_ | refine c_in_ret ?_ | refine c_in_hit ?_ | refine wp_skip ?_ | refine wp_exit ?_ | refine wp_ret ?_ | refine c_in_miss rfl ?_ | ((first | apply st hF | apply stg hF | apply s_step hF | apply s_stg hF); (first | exact d_move | exact d_assign | exact d_pickT | exact d_pickF | exact d_cmpT | exact d_cmpF | exact d_cmp | exact d_eqbT (und _ _ rfl) | exact d_eqbF (und _ _ rfl) | exact d_eqb (und _ _ rfl) | exact d_eqST | exact d_eqSF | exact d_eqS | exact d_eqN (ifc _ rfl) | exact d_neN (ifc _ rfl)); clear hF; clear a; intro a hF) | ((first | apply stm hF | apply stu hF); clear hF; clear a; intro a hF) | (apply c_cond_t hF; exact rfl; first | exact rfl | assumption) | (apply c_cond_f hF; exact rfl; first | exact rfl | assumption) | refine s_nil ?_)
  have ho : s ∉ kw := by
    intro h
    simp only [kw, List.mem_cons, List.mem_nil_iff, or_false] at h
    rcases h with h | h | h | h | h | h
    · exact of_decide_eq_false h1 h
    · exact of_decide_eq_false h2 h
    · exact of_decide_eq_false h3 h
    · exact of_decide_eq_false h4 h
    · exact of_decide_eq_false h5 h
    · exact of_decide_eq_false h6 h
  exact ret1 hF rfl rfl ⟨by rw [wordB_out ho, hn], hb⟩
end Go.Proofs.YtjomihhpglojpaaDoor
end
section
/- Maps of the call's own: the operations, and sets of texts. Plain lemmas over any program. -/
namespace Go.Proofs.YtjomihhpglojpaaDoor
open Go.RowKit
open Go.Maps (Keyed IsMap)
section
variable {P : Program} {ops : Array Oper} {Q : Exit → Act → World → Prop} {rest : List Oper} {a : Act} {w w' : World} {N : Nat} {l : List (Nat × Value)}
theorem d_makeMap {t k e ty : TypeId} (hU : P.underlying t = some (.map k e)) : Does P l w (.makeMap t none) ty (.map (some w.heap.size)) (w.alloc (.map #[] 0)) := by
  intro ρ hρ d pos af g
  simp [execOp, run_makeMap]
theorem d_makeMapR {t k e ty : TypeId} {x : Operand} {q : IntKind} {n : Int} (hU : P.underlying t = some (.map k e)) (hx : Ev l x (.int q n) := by exact rfl) : Does P l w (.makeMap t (some x)) ty (.map (some w.heap.size)) (w.alloc (.map #[] 0)) := by
  intro ρ hρ d pos af g
  have e1 : (Instr.makeMap t (some (.int q n))).run P w = (Instr.makeMap t none).run P w := by simp [Instr.makeMap, run_underlying hU, asInt, asIntOf]
  simp [execOp, hρ _ _ hx, e1, run_makeMap]
theorem d_lookup {t ty : TypeId} {m x : Operand} {mv key v : Value} {c : Bool} (hr : (Instr.lookup t mv key c).run P w = .ok v w) (hm : Ev l m mv := by exact rfl) (hx : Ev l x key := by exact rfl) : Does P l w (.lookup t m x c) ty v w := by
  intro ρ hρ d pos af g
  simp [execOp, hρ _ _ hm, hρ _ _ hx, hr]
theorem d_mapUpdate {t ty : TypeId} {m x y : Operand} {mv key v : Value} (hr : (Instr.mapUpdate t mv key v).run P w = .ok () w') (hm : Ev l m mv := by exact rfl) (hx : Ev l x key := by exact rfl) (hy : Ev l y v := by exact rfl) : Does0 P l w (.mapUpdate t m x y) ty w' := by
  intro ρ hρ d pos af g
  simp [execOp, hρ _ _ hm, hρ _ _ hx, hρ _ _ hy, hr]
/-! ### a set of texts -/
def keyS (s : ByteArray) : Lit := .string s.data.toList
theorem keyS_inj {s t : ByteArray} (h : keyS s = keyS t) : s = t := by
  unfold keyS at h
  injection h with h
  apply ByteArray.ext
  exact Array.toList_inj.1 h
/-- The map that says of these texts: there. -/
def ksD : List ByteArray → DataW Unit
  | [] => .map []
  | k :: r => (ksD r).put (keyS k) (.lit (.bool true))
theorem ksD_map : ∀ ks, IsMap (ksD ks)
  | [] => ⟨_, rfl⟩
  | k :: r => by
    obtain ⟨es, h⟩ := ksD_map r
    unfold ksD
    rw [h]
    exact ⟨_, rfl⟩
theorem ksD_at (t : ByteArray) : ∀ ks, (ksD ks).atKey (keyS t) (.lit (.bool false)) = .lit (.bool (ks.any fun k => decide (t = k)))
  | [] => rfl
  | k :: r => by
    unfold ksD
    by_cases e : t = k
    · subst e
      rw [Maps.atKey_put_same (ksD_map r) (by trivial)]
      simp
    · rw [Maps.atKey_put_other (fun h => e (keyS_inj h)), ksD_at t r]
      simp [e]
/-- Block b is a map of the call's own: the texts ks are there. -/
def SetM (P : Program) (k e : TypeId) (w : World) (b : Nat) (ks : List ByteArray) : Prop := w.ownsMap P k (plainElem P e) b ks.length (ksD ks)
theorem SetM.new {k e : TypeId} (w : World) : SetM P k e (w.alloc (.map #[] 0)) w.heap.size [] := World.ownsMap_made w P k _
theorem SetM.kept {k e : TypeId} {b : Nat} {ks : List ByteArray} {row : Option Nat} (h : SetM P k e w b ks) (hg : w.grownBy w' row) (hne : some b ≠ row) : SetM P k e w' b ks := World.ownsMap.kept h hg hne
theorem SetM.lt {k e : TypeId} {b : Nat} {ks : List ByteArray} (h : SetM P k e w b ks) : b < w.heap.size := World.ownsMap.lt h
theorem SetM.below {k e : TypeId} {b : Nat} {ks : List ByteArray} (h : SetM P k e w b ks) (hb : Below w.heap.size w w') : SetM P k e w' b ks := by
  have hlt := h.lt
  obtain ⟨es, clock, h1, h2⟩ := h
  exact ⟨es, clock, (hb.block b hlt).trans h1, h2⟩
theorem key_string {k : TypeId} (hk : P.underlying k = some .string) (s : ByteArray) (hs : s.size ≤ maxLen) : keyOf P k (.string s) = some (keyS s) := by
  simp [keyOf, hk, hs, keyS, mapKey]
theorem SetM.look {t k e : TypeId} {b : Nat} {ks : List ByteArray} (h : SetM P k e w b ks) (ht : P.underlying t = some (.map k e)) (hk : P.underlying k = some .string) (he : P.underlying e = some .bool) (hz : (zeroValue e).run P w = .ok (.bool false) w) (s : ByteArray) (hs : s.size ≤ maxLen) :
    (Instr.lookup t (.map (some b)) (.string s) false).run P w = .ok (.bool (ks.any fun k => decide (s = k))) w := by
  obtain ⟨v, ps, hr, hv⟩ := World.ownsMap.lookup h (Maps.string_keyed hk) ht hz (plainElem_bool he false) (key_string hk s hs)
  rw [ksD_at] at hv
  unfold plainElem at hv
  rw [he] at hv
  cases v <;> simp at hv
  rw [hr, hv.1]
theorem SetM.put {t k e : TypeId} {b : Nat} {ks : List ByteArray} (h : SetM P k e w b ks) (ht : P.underlying t = some (.map k e)) (hk : P.underlying k = some .string) (he : P.underlying e = some .bool) (s : ByteArray) (hs : s.size ≤ maxLen) (hn : ks.length < maxLen) :
    ∃ w', (Instr.mapUpdate t (.map (some b)) (.string s) (.bool true)).run P w = .ok () w' ∧ SetM P k e w' b (s :: ks) ∧ w.grownBy w' (some b) ∧ w'.heap.size = w.heap.size := by
  obtain ⟨w', hr, ho, ht2⟩ := World.ownsMap.store (P := P) (w := w) (b := b) (k := k) (R := plainElem P e) h (Maps.string_keyed hk) ht hn (key_string hk s hs) (plainElem_bool he true)
  refine ⟨w', hr, ho, ht2.grown, ?_⟩
  obtain ⟨_, _, _, _, _, rfl⟩ := ht2
  simp [Go.ChangeMaps.setBlock]
end
end Go.Proofs.YtjomihhpglojpaaDoor
end
