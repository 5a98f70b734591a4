/- Laid together by a program of mine: NmR Word MapW ListW. -/
import Derived.Test.YtjomihhpglojpaaDoorSumLawFewerS15
import Derived.Test.YtjomihhpglojpaaDoorSumLawFewerS2
import Derived.Test.YtjomihhpglojpaaDoorSumLawFewerS3
import Derived.Maps.Views
import Derived.Maps.OwnSet
import Derived.Carry
set_option linter.unusedSimpArgs false
set_option linter.unusedVariables false
section
/- Names: what the reference's Name computes. -/
namespace Go.Proofs.YtjomihhpglojpaaDoor
open Go.RowKit
set_option linter.unusedSimpArgs false
set_option linter.unusedVariables false
attribute [local irreducible] wpList wpQuiet wpStill Code.wp Exit.then Exit.inBlock bodyPost Calls Does Does0

set_option maxHeartbeats 4000000 in
theorem refName_ok (w : World) (s : ByteArray) : Ret Tryd.prog 89 #[.string s] w (fun v w' => v = .bool (Pl.name s) ∧ Dr w w') := by
  refine enter1 Tryd.func89 rfl 54 rfl 55 rfl (fun a hF => ?_)
  by_cases h1 : s.size < 1 ∨ 64 < s.size
  · have hbad : Pl.name s = false := by unfold Pl.name; exact decide_eq_false (by omega)
    by_cases h2 : s.size < 1
    all_goals
      repeat (first | refine c_seq ?_ | refine c_region _ ?_ | refine wpList_nil ?_ | refine c_then ?_ | refine c_then_ret ?_ | refine wp_ret ?_ | ((first | apply st hF | apply stg hF); (first | exact d_move | exact d_assign | exact d_pickT | exact d_pickF | exact d_cmpT | exact d_cmpF | exact d_lens (und _ _ rfl)); clear hF; clear a; intro a hF) | ((apply stm hF); clear hF; clear a; intro a hF) | (apply c_cond_t hF; exact rfl; first | exact rfl | assumption))
      exact ret1 hF rfl rfl ⟨by rw [hbad], Dr.refl _⟩
  repeat (first | refine c_seq ?_ | refine c_block ?_ | refine c_region _ ?_ | refine wpList_nil ?_ | refine c_then ?_ | refine wp_skip ?_ | ((first | apply st hF | apply stg hF); (first | exact d_move | exact d_assign | exact d_pickF | exact d_cmpF | exact d_lens (und _ _ rfl)); clear hF; clear a; intro a hF) | (apply c_cond_f hF; exact rfl; first | exact rfl | assumption))
  refine c_loop (fun n a wr => ∃ k, k ≤ s.size ∧ n = s.size - k ∧ Fr 55 [(0, .string s), (3, .int .i64 (k : Nat))] a ∧
    (∀ j (h : j < s.size), j < k → Pl.okAt (decide (j = 0)) (s[j].toNat : Int) = true) ∧ Dr w wr) s.size
    ⟨0, by omega, rfl, hF.keep' ⟨rfl, rfl, trivial⟩, fun j _ h => absurd h (Nat.not_lt_zero _), Dr.refl _⟩ ?_
  clear hF a
  rintro n a wr ⟨k, hk, rfl, hF, hok, hbel⟩
  by_cases hlt : k < s.size
  · have hbk : s[k]? = some s[k] := by simp [hlt]
    have hu : (s[k].toNat : Int) < 256 := by have := s[k].toNat_lt; omega
    by_cases hg : Pl.okAt (decide (k = 0)) (s[k].toNat : Int) = true
    · have hok' : ∀ j (h : j < s.size), j < k + 1 → Pl.okAt (decide (j = 0)) (s[j].toNat : Int) = true := by
        intro j hj hjk
        by_cases e : j = k
        · subst e; exact hg
        · exact hok j hj (by omega)
      unfold Pl.okAt Pl.letter at hg
      simp only [Bool.or_eq_true, Bool.and_eq_true, decide_eq_true_eq, Bool.not_eq_true', decide_eq_false_iff_not] at hg
      repeat' (first | refine ⟨s.size - (k + 1), by omega, k + 1, by omega, rfl, hF.keep' ⟨rfl, rfl, trivial⟩, hok', hbel⟩ | refine c_seq ?_ | refine c_block ?_ | refine c_region _ ?_ | refine wpList_nil ?_ | refine c_then ?_ | refine c_in ?_ | refine wp_skip ?_ | ((first | apply st hF | apply stg hF); (first | exact d_move | exact d_assign | exact d_not | exact d_pickT | exact d_pickF | exact d_add | exact d_cmpT | exact d_cmpF | exact d_lens (und _ _ rfl) | exact d_indexS (und _ _ rfl) hbk); clear hF; clear a; intro a hF) | ((first | apply stm hF | apply stu hF); clear hF; clear a; intro a hF) | (apply c_cond_t hF; exact rfl; first | exact rfl | assumption) | (apply c_cond_f hF; exact rfl; first | exact rfl | assumption) | ((first | refine st_split hF (kT := ?_) (kF := ?_) | refine stg_split hF (kT := ?_) (kF := ?_)) <;> (intro hsp; simp only [decide_eq_true_eq, decide_eq_false_iff_not, beq_iff_eq, beq_eq_false_iff_ne, bne_iff_ne, ne_eq, bne_eq_false_iff_eq] at hsp; clear hF; clear a; intro a hF)))
    · have hbad : Pl.name s = false := Pl.name_false k hlt (Bool.eq_false_iff.2 hg)
      unfold Pl.okAt Pl.letter at hg
      simp only [Bool.or_eq_true, Bool.and_eq_true, decide_eq_true_eq, Bool.not_eq_true', decide_eq_false_iff_not] at hg
      repeat' (first | refine ret1 hF rfl rfl ⟨by rw [hbad], hbel⟩ | refine c_seq ?_ | refine c_block ?_ | refine c_region _ ?_ | refine wpList_nil ?_ | refine c_then ?_ | refine c_then_ret ?_ | refine c_in_ret ?_ | refine wp_skip ?_ | refine wp_ret ?_ | ((first | apply st hF | apply stg hF); (first | exact d_move | exact d_assign | exact d_not | exact d_pickT | exact d_pickF | exact d_cmpT | exact d_cmpF | exact d_lens (und _ _ rfl) | exact d_indexS (und _ _ rfl) hbk); clear hF; clear a; intro a hF) | ((apply stm hF); clear hF; clear a; intro a hF) | (apply c_cond_t hF; exact rfl; first | exact rfl | assumption) | ((first | refine st_split hF (kT := ?_) (kF := ?_) | refine stg_split hF (kT := ?_) (kF := ?_)) <;> (intro hsp; simp only [decide_eq_true_eq, decide_eq_false_iff_not, beq_iff_eq, beq_eq_false_iff_ne, bne_iff_ne, ne_eq, bne_eq_false_iff_eq] at hsp; clear hF; clear a; intro a hF)))
  · obtain rfl : k = s.size := by omega
    have hn : Pl.name s = true := decide_eq_true ⟨by omega, by omega, fun j h => hok j h h⟩
    repeat (first | refine c_seq ?_ | refine c_region _ ?_ | refine wpList_nil ?_ | refine c_then ?_ | refine c_then_exit ?_ | refine c_in_hit ?_ | refine wp_exit ?_ | refine wp_ret ?_ | ((apply st hF); (first | exact d_move | exact d_assign | exact d_cmpF | exact d_lens (und _ _ rfl)); clear hF; clear a; intro a hF) | (apply c_cond_f hF; exact rfl; first | exact rfl | assumption))
    exact ret1 hF rfl rfl ⟨by rw [hn], hbel⟩
end Go.Proofs.YtjomihhpglojpaaDoor
end
section
/- Words: what the program's word and the reference's Word answer. -/
namespace Go.Proofs.YtjomihhpglojpaaDoor
open Go.RowKit
set_option linter.unusedSimpArgs false
set_option linter.unusedVariables false
attribute [local irreducible] wpList wpQuiet wpStill Code.wp Exit.then Exit.inBlock bodyPost Calls Does Does0
def kw : List ByteArray := [⟨#[86, 69, 82, 83, 73, 79, 78]⟩, ⟨#[66, 85, 95]⟩, ⟨#[66, 79, 95]⟩, ⟨#[83, 71, 95]⟩, ⟨#[86, 65, 76, 95]⟩, ⟨#[67, 77, 95]⟩]
def wordB (s : ByteArray) : Bool := !(kw.any fun k => decide (s = k)) && Pl.name s
theorem wordB_in {s : ByteArray} (h : s ∈ kw) : wordB s = false := by
  have : (kw.any fun k => decide (s = k)) = true := List.any_eq_true.2 ⟨s, h, decide_eq_true rfl⟩
  unfold wordB; rw [this]; rfl
theorem wordB_out {s : ByteArray} (h : s ∉ kw) : wordB s = Pl.name s := by
  have : (kw.any fun k => decide (s = k)) = false := by
    rw [Bool.eq_false_iff]
    intro h2
    obtain ⟨k, hk, e⟩ := List.any_eq_true.1 h2
    exact h (by rw [of_decide_eq_true e]; exact hk)
  unfold wordB; rw [this]; simp
theorem wordB_name {s : ByteArray} (h : Pl.name s = false) : wordB s = false := by unfold wordB; rw [h, Bool.and_false]
set_option maxHeartbeats 4000000 in
theorem word_ok' (w : World) (s : ByteArray) : Ret Tryd.prog 50 [.string s].toArray w (fun v w' => v = .bool (wordB s) ∧ Below w.heap.size w w') := by
  refine enter1 Tryd.func50 rfl 12 rfl 13 rfl (fun a hF => ?_)
  cases h1 : decide (s = ⟨#[86, 69, 82, 83, 73, 79, 78]⟩) with
  | true =>
    repeat (first | refine c_seq ?_ | refine c_block ?_ | refine c_region _ ?_ | refine wpList_nil ?_ | refine c_then ?_ | refine c_then_ret ?_ | refine c_in_ret ?_ | refine wp_skip ?_ | refine wp_ret ?_ | ((apply st hF); (first | exact d_move | exact d_assign | exact d_eqST); clear hF; clear a; intro a hF) | (apply c_cond_t hF; exact rfl; first | exact rfl | assumption))
    exact ret1 hF rfl rfl ⟨by rw [wordB_in (by rw [of_decide_eq_true h1]; simp [kw])], Below.refl _ w⟩
  | false =>
  cases h2 : decide (s = ⟨#[66, 85, 95]⟩) with
  | true =>
    repeat (first | refine c_seq ?_ | refine c_block ?_ | refine c_region _ ?_ | refine wpList_nil ?_ | refine c_then ?_ | refine c_then_ret ?_ | refine c_in_ret ?_ | refine wp_skip ?_ | refine wp_ret ?_ | ((apply st hF); (first | exact d_move | exact d_assign | exact d_eqST | exact d_eqSF); clear hF; clear a; intro a hF) | (apply c_cond_t hF; exact rfl; first | exact rfl | assumption) | (apply c_cond_f hF; exact rfl; first | exact rfl | assumption))
    exact ret1 hF rfl rfl ⟨by rw [wordB_in (by rw [of_decide_eq_true h2]; simp [kw])], Below.refl _ w⟩
  | false =>
  cases h3 : decide (s = ⟨#[66, 79, 95]⟩) with
  | true =>
    repeat (first | refine c_seq ?_ | refine c_block ?_ | refine c_region _ ?_ | refine wpList_nil ?_ | refine c_then ?_ | refine c_then_ret ?_ | refine c_in_ret ?_ | refine wp_skip ?_ | refine wp_ret ?_ | ((apply st hF); (first | exact d_move | exact d_assign | exact d_eqST | exact d_eqSF); clear hF; clear a; intro a hF) | (apply c_cond_t hF; exact rfl; first | exact rfl | assumption) | (apply c_cond_f hF; exact rfl; first | exact rfl | assumption))
    exact ret1 hF rfl rfl ⟨by rw [wordB_in (by rw [of_decide_eq_true h3]; simp [kw])], Below.refl _ w⟩
  | false =>
  cases h4 : decide (s = ⟨#[83, 71, 95]⟩) with
  | true =>
    repeat (first | refine c_seq ?_ | refine c_block ?_ | refine c_region _ ?_ | refine wpList_nil ?_ | refine c_then ?_ | refine c_then_ret ?_ | refine c_in_ret ?_ | refine wp_skip ?_ | refine wp_ret ?_ | ((apply st hF); (first | exact d_move | exact d_assign | exact d_eqST | exact d_eqSF); clear hF; clear a; intro a hF) | (apply c_cond_t hF; exact rfl; first | exact rfl | assumption) | (apply c_cond_f hF; exact rfl; first | exact rfl | assumption))
    exact ret1 hF rfl rfl ⟨by rw [wordB_in (by rw [of_decide_eq_true h4]; simp [kw])], Below.refl _ w⟩
  | false =>
  cases h5 : decide (s = ⟨#[86, 65, 76, 95]⟩) with
  | true =>
    repeat (first | refine c_seq ?_ | refine c_block ?_ | refine c_region _ ?_ | refine wpList_nil ?_ | refine c_then ?_ | refine c_then_ret ?_ | refine c_in_ret ?_ | refine wp_skip ?_ | refine wp_ret ?_ | ((apply st hF); (first | exact d_move | exact d_assign | exact d_eqST | exact d_eqSF); clear hF; clear a; intro a hF) | (apply c_cond_t hF; exact rfl; first | exact rfl | assumption) | (apply c_cond_f hF; exact rfl; first | exact rfl | assumption))
    exact ret1 hF rfl rfl ⟨by rw [wordB_in (by rw [of_decide_eq_true h5]; simp [kw])], Below.refl _ w⟩
  | false =>
  cases h6 : decide (s = ⟨#[67, 77, 95]⟩) with
  | true =>
    repeat (first | refine c_seq ?_ | refine c_block ?_ | refine c_region _ ?_ | refine wpList_nil ?_ | refine c_then ?_ | refine c_then_ret ?_ | refine c_in_ret ?_ | refine wp_ret ?_ | ((apply st hF); (first | exact d_move | exact d_assign | exact d_eqST | exact d_eqSF); clear hF; clear a; intro a hF) | (apply c_cond_t hF; exact rfl; first | exact rfl | assumption) | (apply c_cond_f hF; exact rfl; first | exact rfl | assumption))
    exact ret1 hF rfl rfl ⟨by rw [wordB_in (by rw [of_decide_eq_true h6]; simp [kw])], Below.refl _ w⟩
  | false =>
    repeat (first | refine c_seq ?_ | refine c_block ?_ | refine c_region _ ?_ | refine wpList_nil ?_ | refine c_then ?_ | refine c_in ?_ | refine wp_skip ?_ | ((apply st hF); (first | exact d_move | exact d_assign | exact d_eqSF); clear hF; clear a; intro a hF) | (apply c_cond_f hF; exact rfl; first | exact rfl | assumption))
    refine stc hF (name_ok w s) cal78 ⟨rfl, trivial⟩ (k := fun a v w1 hR hF => ?_)
    obtain ⟨rfl, hb⟩ := hR
    repeat (first | refine wpList_nil ?_ | refine c_then ?_ | refine wp_ret ?_ | ((apply st hF); (exact d_assign); clear hF; clear a; intro a hF))
    have ho : s ∉ kw := by
      intro h
      simp only [kw, List.mem_cons, List.mem_nil_iff, or_false] at h
      rcases h with h | h | h | h | h | h
      · exact of_decide_eq_false h1 h
      · exact of_decide_eq_false h2 h
      · exact of_decide_eq_false h3 h
      · exact of_decide_eq_false h4 h
      · exact of_decide_eq_false h5 h
      · exact of_decide_eq_false h6 h
    exact ret1 hF rfl rfl ⟨by rw [wordB_out ho], hb⟩
theorem bnt {s u : ByteArray} {b : Bool} (h : decide (s = u) = b) : (!decide (s = u)) = !b := by rw [h]
set_option maxHeartbeats 4000000 in
theorem rword_ok' (w : World) (s : ByteArray) : Ret Tryd.prog 68 [.string s].toArray w (fun v w' => v = .bool (wordB s) ∧ Below w.heap.size w w') := by
  refine enter1 Tryd.func68 rfl 28 rfl 29 rfl (fun a hF => ?_)
  repeat (first | refine c_seq ?_ | refine c_region _ ?_ | refine wpList_nil ?_ | refine c_then ?_ | ((apply st hF); (first | exact d_move | exact d_assign); clear hF; clear a; intro a hF))
  refine stc hF (refName_ok w s) cal89 ⟨rfl, trivial⟩ (k := fun a v w1 hR hF => ?_)
  obtain ⟨rfl, hdr⟩ := hR
  have hb : Below w.heap.size w w1 := hdr.below _
  cases hn : Pl.name s with
  | false =>
    rw [hn] at hF
    repeat (first | refine wpList_nil ?_ | refine c_then ?_ | refine wp_ret ?_ | ((apply st hF); (first | exact d_move | exact d_assign | exact d_pickF); clear hF; clear a; intro a hF) | ((apply stm hF); clear hF; clear a; intro a hF))
    exact ret1 hF rfl rfl ⟨by rw [wordB_name hn], hb⟩
  | true =>
  rw [hn] at hF
  cases h1 : decide (s = ⟨#[86, 69, 82, 83, 73, 79, 78]⟩) with
  | true =>
    have g1 := bnt h1
    simp only [Bool.not_true] at g1
    repeat (first | refine wpList_nil ?_ | refine c_then ?_ | refine wp_ret ?_ | ((first | apply st hF | apply stg hF); (first | exact d_move | exact d_assign | exact d_pickT | exact d_pickF | exact d_eqSF); clear hF; clear a; intro a hF) | ((apply stm hF); clear hF; clear a; intro a hF))
    exact ret1 hF rfl rfl ⟨by rw [wordB_in (by rw [of_decide_eq_true h1]; simp [kw])], hb⟩
  | false =>
  have g1 := bnt h1
  cases h2 : decide (s = ⟨#[66, 85, 95]⟩) with
  | true =>
    have g2 := bnt h2
    simp only [Bool.not_true, Bool.not_false] at g1 g2
    repeat (first | refine wpList_nil ?_ | refine c_then ?_ | refine wp_ret ?_ | ((first | apply st hF | apply stg hF); (first | exact d_move | exact d_assign | exact d_pickT | exact d_pickF | exact d_eqST | exact d_eqSF); clear hF; clear a; intro a hF) | ((apply stm hF); clear hF; clear a; intro a hF))
    exact ret1 hF rfl rfl ⟨by rw [wordB_in (by rw [of_decide_eq_true h2]; simp [kw])], hb⟩
  | false =>
  have g2 := bnt h2
  cases h3 : decide (s = ⟨#[66, 79, 95]⟩) with
  | true =>
    have g3 := bnt h3
    simp only [Bool.not_true, Bool.not_false] at g1 g2 g3
    repeat (first | refine wpList_nil ?_ | refine c_then ?_ | refine wp_ret ?_ | ((first | apply st hF | apply stg hF); (first | exact d_move | exact d_assign | exact d_pickT | exact d_pickF | exact d_eqST | exact d_eqSF); clear hF; clear a; intro a hF) | ((apply stm hF); clear hF; clear a; intro a hF))
    exact ret1 hF rfl rfl ⟨by rw [wordB_in (by rw [of_decide_eq_true h3]; simp [kw])], hb⟩
  | false =>
  have g3 := bnt h3
  cases h4 : decide (s = ⟨#[83, 71, 95]⟩) with
  | true =>
    have g4 := bnt h4
    simp only [Bool.not_true, Bool.not_false] at g1 g2 g3 g4
    repeat (first | refine wpList_nil ?_ | refine c_then ?_ | refine wp_ret ?_ | ((first | apply st hF | apply stg hF); (first | exact d_move | exact d_assign | exact d_pickT | exact d_pickF | exact d_eqST | exact d_eqSF); clear hF; clear a; intro a hF) | ((apply stm hF); clear hF; clear a; intro a hF))
    exact ret1 hF rfl rfl ⟨by rw [wordB_in (by rw [of_decide_eq_true h4]; simp [kw])], hb⟩
  | false =>
  have g4 := bnt h4
  cases h5 : decide (s = ⟨#[86, 65, 76, 95]⟩) with
  | true =>
    have g5 := bnt h5
    simp only [Bool.not_true, Bool.not_false] at g1 g2 g3 g4 g5
    repeat (first | refine wpList_nil ?_ | refine c_then ?_ | refine wp_ret ?_ | ((first | apply st hF | apply stg hF); (first | exact d_move | exact d_assign | exact d_pickT | exact d_pickF | exact d_eqST | exact d_eqSF); clear hF; clear a; intro a hF) | ((apply stm hF); clear hF; clear a; intro a hF))
    exact ret1 hF rfl rfl ⟨by rw [wordB_in (by rw [of_decide_eq_true h5]; simp [kw])], hb⟩
  | false =>
  have g5 := bnt h5
  cases h6 : decide (s = ⟨#[67, 77, 95]⟩) with
  | true =>
    have g6 := bnt h6
    simp only [Bool.not_true, Bool.not_false] at g1 g2 g3 g4 g5 g6
    repeat (first | refine wpList_nil ?_ | refine c_then ?_ | refine wp_ret ?_ | ((first | apply st hF | apply stg hF); (first | exact d_move | exact d_assign | exact d_pickT | exact d_eqST | exact d_eqSF); clear hF; clear a; intro a hF))
    exact ret1 hF rfl rfl ⟨by rw [wordB_in (by rw [of_decide_eq_true h6]; simp [kw])], hb⟩
  | false =>
  have g6 := bnt h6
  simp only [Bool.not_true, Bool.not_false] at g1 g2 g3 g4 g5 g6
  repeat (first | refine wpList_nil ?_ | refine c_then ?_ | refine wp_ret ?_ | ((first | apply st hF | apply stg hF); (first | exact d_move | exact d_assign | exact d_pickT | exact d_eqST); clear hF; clear a; intro a hF))
  have ho : s ∉ kw := by
    intro h
    simp only [kw, List.mem_cons, List.mem_nil_iff, or_false] at h
    rcases h with h | h | h | h | h | h
    · exact of_decide_eq_false h1 h
    · exact of_decide_eq_false h2 h
    · exact of_decide_eq_false h3 h
    · exact of_decide_eq_false h4 h
    · exact of_decide_eq_false h5 h
    · exact of_decide_eq_false h6 h
  exact ret1 hF rfl rfl ⟨by rw [wordB_out ho, hn], hb⟩
end Go.Proofs.YtjomihhpglojpaaDoor
end
section
/- Maps of the call's own: the operations, and sets of texts. Plain lemmas over any program. -/
namespace Go.Proofs.YtjomihhpglojpaaDoor
open Go.RowKit
open Go.Maps (Keyed IsMap)
section
variable {P : Program} {ops : Array Oper} {Q : Exit → Act → World → Prop} {rest : List Oper} {a : Act} {w w' : World} {N : Nat} {l : List (Nat × Value)}
theorem d_makeMap {t k e ty : TypeId} (hU : P.underlying t = some (.map k e)) : Does P l w (.makeMap t none) ty (.map (some w.heap.size)) (w.alloc (.map #[] 0)) := by
  intro ρ hρ d pos af g
  simp [execOp, run_makeMap]
theorem d_makeMapR {t k e ty : TypeId} {x : Operand} {q : IntKind} {n : Int} (hU : P.underlying t = some (.map k e)) (hx : Ev l x (.int q n) := by exact rfl) : Does P l w (.makeMap t (some x)) ty (.map (some w.heap.size)) (w.alloc (.map #[] 0)) := by
  intro ρ hρ d pos af g
  have e1 : (Instr.makeMap t (some (.int q n))).run P w = (Instr.makeMap t none).run P w := by simp [Instr.makeMap, run_underlying hU, asInt, asIntOf]
  simp [execOp, hρ _ _ hx, e1, run_makeMap]
theorem d_lookup {t ty : TypeId} {m x : Operand} {mv key v : Value} {c : Bool} (hr : (Instr.lookup t mv key c).run P w = .ok v w) (hm : Ev l m mv := by exact rfl) (hx : Ev l x key := by exact rfl) : Does P l w (.lookup t m x c) ty v w := by
  intro ρ hρ d pos af g
  simp [execOp, hρ _ _ hm, hρ _ _ hx, hr]
theorem d_mapUpdate {t ty : TypeId} {m x y : Operand} {mv key v : Value} (hr : (Instr.mapUpdate t mv key v).run P w = .ok () w') (hm : Ev l m mv := by exact rfl) (hx : Ev l x key := by exact rfl) (hy : Ev l y v := by exact rfl) : Does0 P l w (.mapUpdate t m x y) ty w' := by
  intro ρ hρ d pos af g
  simp [execOp, hρ _ _ hm, hρ _ _ hx, hρ _ _ hy, hr]
/-! ### a set of texts -/
def keyS (s : ByteArray) : Lit := .string s.data.toList
theorem keyS_inj {s t : ByteArray} (h : keyS s = keyS t) : s = t := by
  unfold keyS at h
  injection h with h
  apply ByteArray.ext
  exact Array.toList_inj.1 h
/-- The map that says of these texts: there. -/
def ksD : List ByteArray → DataW Unit
  | [] => .map []
  | k :: r => (ksD r).put (keyS k) (.lit (.bool true))
theorem ksD_map : ∀ ks, IsMap (ksD ks)
  | [] => ⟨_, rfl⟩
  | k :: r => by
    obtain ⟨es, h⟩ := ksD_map r
    unfold ksD
    rw [h]
    exact ⟨_, rfl⟩
theorem ksD_at (t : ByteArray) : ∀ ks, (ksD ks).atKey (keyS t) (.lit (.bool false)) = .lit (.bool (ks.any fun k => decide (t = k)))
  | [] => rfl
  | k :: r => by
    unfold ksD
    by_cases e : t = k
    · subst e
      rw [Maps.atKey_put_same (ksD_map r) (by trivial)]
      simp
    · rw [Maps.atKey_put_other (fun h => e (keyS_inj h)), ksD_at t r]
      simp [e]
/-- Block b is a map of the call's own: the texts ks are there. -/
def SetM (P : Program) (k e : TypeId) (w : World) (b : Nat) (ks : List ByteArray) : Prop := w.ownsMap P k (plainElem P e) b ks.length (ksD ks)
theorem SetM.new {k e : TypeId} (w : World) : SetM P k e (w.alloc (.map #[] 0)) w.heap.size [] := World.ownsMap_made w P k _
theorem SetM.kept {k e : TypeId} {b : Nat} {ks : List ByteArray} {row : Option Nat} (h : SetM P k e w b ks) (hg : w.grownBy w' row) (hne : some b ≠ row) : SetM P k e w' b ks := World.ownsMap.kept h hg hne
theorem SetM.lt {k e : TypeId} {b : Nat} {ks : List ByteArray} (h : SetM P k e w b ks) : b < w.heap.size := World.ownsMap.lt h
theorem SetM.below {k e : TypeId} {b : Nat} {ks : List ByteArray} (h : SetM P k e w b ks) (hb : Below w.heap.size w w') : SetM P k e w' b ks := by
  have hlt := h.lt
  obtain ⟨es, clock, h1, h2⟩ := h
  exact ⟨es, clock, (hb.block b hlt).trans h1, h2⟩
theorem key_string {k : TypeId} (hk : P.underlying k = some .string) (s : ByteArray) (hs : s.size ≤ maxLen) : keyOf P k (.string s) = some (keyS s) := by
  simp [keyOf, hk, hs, keyS, mapKey]
theorem SetM.look {t k e : TypeId} {b : Nat} {ks : List ByteArray} (h : SetM P k e w b ks) (ht : P.underlying t = some (.map k e)) (hk : P.underlying k = some .string) (he : P.underlying e = some .bool) (hz : (zeroValue e).run P w = .ok (.bool false) w) (s : ByteArray) (hs : s.size ≤ maxLen) :
    (Instr.lookup t (.map (some b)) (.string s) false).run P w = .ok (.bool (ks.any fun k => decide (s = k))) w := by
  obtain ⟨v, ps, hr, hv⟩ := World.ownsMap.lookup h (Maps.string_keyed hk) ht hz (plainElem_bool he false) (key_string hk s hs)
  rw [ksD_at] at hv
  unfold plainElem at hv
  rw [he] at hv
  cases v <;> simp at hv
  rw [hr, hv.1]
theorem SetM.put {t k e : TypeId} {b : Nat} {ks : List ByteArray} (h : SetM P k e w b ks) (ht : P.underlying t = some (.map k e)) (hk : P.underlying k = some .string) (he : P.underlying e = some .bool) (s : ByteArray) (hs : s.size ≤ maxLen) (hn : ks.length < maxLen) :
    ∃ w', (Instr.mapUpdate t (.map (some b)) (.string s) (.bool true)).run P w = .ok () w' ∧ SetM P k e w' b (s :: ks) ∧ w.grownBy w' (some b) ∧ w'.heap.size = w.heap.size := by
  obtain ⟨w', hr, ho, ht2⟩ := World.ownsMap.store (P := P) (w := w) (b := b) (k := k) (R := plainElem P e) h (Maps.string_keyed hk) ht hn (key_string hk s hs) (plainElem_bool he true)
  refine ⟨w', hr, ho, ht2.grown, ?_⟩
  obtain ⟨_, _, _, _, _, rfl⟩ := ht2
  simp [Go.ChangeMaps.setBlock]
end
end Go.Proofs.YtjomihhpglojpaaDoor
end
section
/- check.list and the reference's names: walked. -/
namespace Go.Proofs.YtjomihhpglojpaaDoor
open Go.RowKit
/-- Words that must be there once: 11, 12, or 0. -/
def listGo : List ByteArray → List ByteArray → Int
  | _, [] => 0
  | seen, s :: r => if wordB s = false then 11 else if seen.any (fun k => decide (s = k)) = true then 12 else listGo (s :: seen) r
def namesE (xs : List ByteArray) : Int := if xs.length = 0 then 2 else if 64 < xs.length then 5 else listGo [] xs
theorem listGo_at {xs : List ByteArray} {k : Nat} (h : k < xs.length) : listGo (xs.take k).reverse (xs.drop k) = if wordB xs[k] = false then 11 else if (xs.take k).reverse.any (fun x => decide (xs[k] = x)) = true then 12 else listGo (xs.take (k + 1)).reverse (xs.drop (k + 1)) := by
  rw [List.drop_eq_getElem_cons h, List.take_succ_eq_append_getElem h]
  simp only [listGo, List.reverse_append, List.reverse_cons, List.reverse_nil, List.nil_append, List.singleton_append]
theorem any_take {xs : List ByteArray} {k : Nat} (h : k < xs.length) : (xs.take k).reverse.any (fun x => decide (xs[k] = x)) = true ↔ ∃ j, ∃ hj : j < xs.length, j < k ∧ xs[j] = xs[k] := by
  rw [List.any_reverse, List.any_eq_true]
  constructor
  · rintro ⟨x, hx, e⟩
    obtain ⟨j, hj, rfl⟩ := List.getElem_of_mem hx
    have hj2 : j < k := by simp at hj; omega
    exact ⟨j, by omega, hj2, by rw [List.getElem_take] at e; exact (of_decide_eq_true e).symm⟩
  · rintro ⟨j, hj, hjk, e⟩
    exact ⟨xs[j], List.mem_take_iff_getElem.2 ⟨j, by omega, rfl⟩, decide_eq_true e.symm⟩
theorem wordB_size {s : ByteArray} (h : wordB s = true) : s.size ≤ 64 := by
  unfold wordB Pl.name at h
  rw [Bool.and_eq_true] at h
  exact (of_decide_eq_true h.2).2.1
open Go.RowKit
set_option linter.unusedSimpArgs false
set_option linter.unusedVariables false
attribute [local irreducible] wpList wpQuiet wpStill Code.wp Exit.then Exit.inBlock bodyPost Calls Does Does0
set_option maxRecDepth 100000
set_option maxHeartbeats 4000000 in
theorem list_ok (w : World) (xs : List ByteArray) (ao : Option Addr) (n c : Nat) (most : Int) (hn : xs.length = n) (hR : Rd w ao Value.string xs) (hm : most ≤ 1000000) :
    Ret Tryd.prog 49 [.slice ao n c, .int .i64 most].toArray w (fun v w' => v = .int .i64 (if most < (n : Int) then 5 else listGo [] xs) ∧ Below w.heap.size w w') := by
  subst hn
  refine enter2 Tryd.func49 rfl 30 rfl 32 rfl (fun a hF => ?_)
  by_cases hbig : most < (xs.length : Int)
  · repeat (first | refine c_seq ?_ | refine c_region _ ?_ | refine wpList_nil ?_ | refine c_then ?_ | refine c_then_ret ?_ | refine wp_ret ?_ | ((apply st hF); (first | exact d_move | exact d_assign | exact d_cmpT | exact d_len (und _ _ rfl)); clear hF; clear a; intro a hF) | (apply c_cond_t hF; exact rfl; first | exact rfl | assumption))
    exact ret1 hF rfl rfl ⟨by rw [if_pos hbig], Below.refl _ w⟩
  rw [if_neg hbig]
  repeat (first | refine c_seq ?_ | refine c_region _ ?_ | refine wpList_nil ?_ | refine c_then ?_ | refine wp_skip ?_ | ((apply st hF); (first | exact d_move | exact d_assign | exact d_cmpF | exact d_len (und _ _ rfl)); clear hF; clear a; intro a hF) | (apply c_cond_f hF; exact rfl; first | exact rfl | assumption))
  refine st hF (d_makeMapR Tryd.underlying76) rfl (fun a hF => ?_)
  repeat (first | refine c_seq ?_ | refine c_block ?_ | refine c_region _ ?_ | refine wpList_nil ?_ | refine c_then ?_ | ((apply st hF); (first | exact d_move | exact d_assign | exact d_len (und _ _ rfl)); clear hF; clear a; intro a hF))
  have hb0 : Below w.heap.size w (w.alloc (.map #[] 0)) := (Below.refl _ w).grown (World.grownBy_alloc w _ none) (Nat.le_refl _) (fun k hk => by cases hk)
  refine c_loop (fun q a wr => ∃ k : Nat, k ≤ xs.length ∧ q = xs.length - k ∧ listGo (xs.take k).reverse (xs.drop k) = listGo [] xs ∧ Fr 32 [(5, .map (some w.heap.size)), (15, .slice ao xs.length c), (16, .int .i64 (xs.length : Int)), (17, .int .i64 (k : Int))] a ∧ SetM Tryd.prog 9 4 wr w.heap.size (xs.take k).reverse ∧ Below w.heap.size w wr) xs.length
    ⟨0, Nat.zero_le _, rfl, rfl, hF.keep' ⟨rfl, rfl, rfl, rfl, trivial⟩, SetM.new w, hb0⟩ ?_
  clear hF a
  rintro q a wr ⟨k, hk, rfl, hE, hF, hM, hbel⟩
  have hsz := hbel.size
  by_cases hlt : k < xs.length
  · have hE2 := listGo_at hlt
    rw [hE] at hE2
    obtain ⟨b, o, rfl, hc⟩ := hR k hlt
    replace hc : wr.cell? ⟨b, o + k, none⟩ = some (.string xs[k]) := (hbel.cell (p := ⟨b, o + k, none⟩) (World.block_lt_of_cell? w _ hc)).trans hc
    repeat (first | refine c_seq ?_ | refine c_block ?_ | refine c_region _ ?_ | refine wpList_nil ?_ | refine c_then ?_ | refine wp_skip ?_ | ((apply st hF); (first | exact d_move | exact d_assign | exact d_cmpT | exact d_indexAddr1 (und _ _ rfl) (isz _ _ rfl) | exact d_load (und _ _ rfl) hc); clear hF; clear a; intro a hF) | (apply c_cond_t hF; exact rfl; first | exact rfl | assumption))
    refine stc hF (word_ok' wr xs[k]) cal50 ⟨rfl, trivial⟩ (k := fun a v w2 hR2 hF => ?_)
    obtain ⟨rfl, hb2⟩ := hR2
    have hM2 := hM.below hb2
    have hB2 : Below w.heap.size w w2 := hbel.trans (hb2.mono hsz)
    cases hw : wordB xs[k] with
    | false =>
      rw [hw] at hF
      repeat (first | refine c_seq ?_ | refine c_region _ ?_ | refine wpList_nil ?_ | refine c_then ?_ | refine c_then_ret ?_ | refine c_in_ret ?_ | refine wp_ret ?_ | ((apply st hF); (first | exact d_assign | exact d_not); clear hF; clear a; intro a hF) | (apply c_cond_t hF; exact rfl; first | exact rfl | assumption))
      exact ret1 hF rfl rfl ⟨by rw [hE2, if_pos hw], hB2⟩
    | true =>
      rw [hw] at hF
      have hs64 := wordB_size hw
      have hl := hM2.look Tryd.underlying76 Tryd.underlying9 Tryd.underlying4 (Tryd.zeroValue4 w2) xs[k] (by unfold maxLen; omega)
      cases hany : (xs.take k).reverse.any (fun x => decide (xs[k] = x)) with
      | true =>
        rw [hany] at hl
        repeat (first | refine c_seq ?_ | refine c_region _ ?_ | refine wpList_nil ?_ | refine c_then ?_ | refine c_then_ret ?_ | refine c_in_ret ?_ | refine wp_ret ?_ | ((apply st hF); (first | exact d_move | exact d_assign | exact d_not | exact d_lookup hl); clear hF; clear a; intro a hF) | (apply c_cond_t hF; exact rfl; first | exact rfl | assumption) | (apply c_cond_f hF; exact rfl; first | exact rfl | assumption))
        exact ret1 hF rfl rfl ⟨by rw [hE2, if_neg (by rw [hw]; simp), if_pos hany], hB2⟩
      | false =>
        rw [hany] at hl
        repeat (first | refine c_seq ?_ | refine c_region _ ?_ | refine wpList_nil ?_ | refine c_then ?_ | refine c_in ?_ | refine wp_skip ?_ | ((apply st hF); (first | exact d_move | exact d_assign | exact d_not | exact d_lookup hl); clear hF; clear a; intro a hF) | (apply c_cond_f hF; exact rfl; first | exact rfl | assumption))
        obtain ⟨w3, hr3, hM3, hgr3, hsz3⟩ := hM2.put Tryd.underlying76 Tryd.underlying9 Tryd.underlying4 xs[k] (by unfold maxLen; omega) (by simp; unfold maxLen; omega)
        refine st0 hF (d_mapUpdate hr3) rfl (fun a hF => ?_)
        repeat (first | refine c_region _ ?_ | refine wpList_nil ?_ | refine c_then ?_ | refine c_in ?_ | ((apply st hF); (first | exact d_move | exact d_add); clear hF; clear a; intro a hF))
        refine ⟨xs.length - (k + 1), by omega, k + 1, by omega, rfl, by rw [hE2, if_neg (by rw [hw]; simp), if_neg (by rw [hany]; simp)], hF.keep' ⟨rfl, rfl, rfl, rfl, trivial⟩, ?_, hB2.grown hgr3 hB2.size (fun q e => by cases e; exact Nat.le_refl _)⟩
        rw [List.take_succ_eq_append_getElem hlt, List.reverse_append]
        exact hM3
  · obtain rfl : k = xs.length := by omega
    repeat (first | refine c_seq ?_ | refine c_region _ ?_ | refine wpList_nil ?_ | refine c_then ?_ | refine c_then_exit ?_ | refine c_in_hit ?_ | refine wp_exit ?_ | refine wp_ret ?_ | ((apply st hF); (first | exact d_assign | exact d_cmpF); clear hF; clear a; intro a hF) | (apply c_cond_f hF; exact rfl; first | exact rfl | assumption))
    exact ret1 hF rfl rfl ⟨by rw [← hE, List.drop_length]; rfl, hbel⟩
set_option maxHeartbeats 4000000 in
theorem rnames_ok (w : World) (xs : List ByteArray) (ao : Option Addr) (n c : Nat) (hn : xs.length = n) (hR : Rd w ao Value.string xs) (hbn : n ≤ 4611686018427387904) :
    Ret Tryd.prog 73 [.slice ao n c].toArray w (fun v w' => v = .int .i64 (namesE xs) ∧ Below w.heap.size w w') := by
  subst hn
  refine enter1 Tryd.func73 rfl 36 rfl 37 rfl (fun a hF => ?_)
  unfold namesE
  by_cases h0 : xs.length = 0
  · rw [if_pos h0]
    repeat (first | refine c_seq ?_ | refine c_region _ ?_ | refine wpList_nil ?_ | refine c_then ?_ | refine c_then_ret ?_ | refine wp_ret ?_ | ((apply st hF); (first | exact d_move | exact d_assign | exact d_cmpT | exact d_len (und _ _ rfl)); clear hF; clear a; intro a hF) | (apply c_cond_t hF; exact rfl; first | exact rfl | assumption))
    exact ret1 hF rfl rfl ⟨rfl, Below.refl _ w⟩
  rw [if_neg h0]
  by_cases h64 : 64 < xs.length
  · rw [if_pos h64]
    repeat (first | refine c_seq ?_ | refine c_region _ ?_ | refine wpList_nil ?_ | refine c_then ?_ | refine c_then_ret ?_ | refine wp_skip ?_ | refine wp_ret ?_ | ((apply st hF); (first | exact d_move | exact d_assign | exact d_cmpT | exact d_cmpF | exact d_len (und _ _ rfl)); clear hF; clear a; intro a hF) | (apply c_cond_t hF; exact rfl; first | exact rfl | assumption) | (apply c_cond_f hF; exact rfl; first | exact rfl | assumption))
    exact ret1 hF rfl rfl ⟨rfl, Below.refl _ w⟩
  rw [if_neg h64]
  repeat (first | refine c_seq ?_ | refine c_block ?_ | refine c_region _ ?_ | refine wpList_nil ?_ | refine c_then ?_ | refine wp_skip ?_ | ((apply st hF); (first | exact d_move | exact d_assign | exact d_cmpF | exact d_len (und _ _ rfl)); clear hF; clear a; intro a hF) | (apply c_cond_f hF; exact rfl; first | exact rfl | assumption))
  refine c_loop (fun q a wr => ∃ k : Nat, k ≤ xs.length ∧ q = xs.length - k ∧ listGo (xs.take k).reverse (xs.drop k) = listGo [] xs ∧ Fr 37 [(0, .slice ao xs.length c), (3, .int .i64 (k : Int))] a ∧ Below w.heap.size w wr) xs.length
    ⟨0, Nat.zero_le _, rfl, rfl, hF.keep' ⟨rfl, rfl, trivial⟩, Below.refl _ w⟩ ?_
  clear hF a
  rintro q a wr ⟨k, hk, rfl, hE, hF, hbel⟩
  have hsz := hbel.size
  by_cases hlt : k < xs.length
  · have hE2 := listGo_at hlt
    rw [hE] at hE2
    obtain ⟨b, o, hao, hc⟩ := hR k hlt
    replace hc : wr.cell? ⟨b, o + k, none⟩ = some (.string xs[k]) := (hbel.cell (p := ⟨b, o + k, none⟩) (World.block_lt_of_cell? w _ hc)).trans hc
    rw [hao] at hF
    repeat (first | refine c_seq ?_ | refine c_block ?_ | refine c_region _ ?_ | refine wpList_nil ?_ | refine c_then ?_ | refine wp_skip ?_ | ((apply st hF); (first | exact d_move | exact d_cmpT | exact d_len (und _ _ rfl) | exact d_indexAddr1 (und _ _ rfl) (isz _ _ rfl) | exact d_load (und _ _ rfl) hc); clear hF; clear a; intro a hF) | (apply c_cond_t hF; exact rfl; first | exact rfl | assumption))
    refine stc hF (rword_ok' wr xs[k]) cal68 ⟨rfl, trivial⟩ (k := fun a v w2 hR2 hF => ?_)
    obtain ⟨rfl, hb2⟩ := hR2
    have hB2 : Below w.heap.size w w2 := hbel.trans (hb2.mono hsz)
    cases hw : wordB xs[k] with
    | false =>
      rw [hw] at hF
      repeat (first | refine c_seq ?_ | refine c_region _ ?_ | refine wpList_nil ?_ | refine c_then ?_ | refine c_then_ret ?_ | refine c_in_ret ?_ | refine wp_ret ?_ | ((apply st hF); (first | exact d_assign | exact d_not); clear hF; clear a; intro a hF) | (apply c_cond_t hF; exact rfl; first | exact rfl | assumption))
      exact ret1 hF rfl rfl ⟨by rw [hE2, if_pos hw], hB2⟩
    | true =>
      rw [hw] at hF
      rw [if_neg (by rw [hw]; simp)] at hE2
      repeat (first | refine c_seq ?_ | refine c_block ?_ | refine c_region _ ?_ | refine wpList_nil ?_ | refine c_then ?_ | refine wp_skip ?_ | ((apply st hF); (first | exact d_assign | exact d_not); clear hF; clear a; intro a hF) | (apply c_cond_f hF; exact rfl; first | exact rfl | assumption))
      refine c_loop (fun q a wr => ∃ j : Nat, j ≤ k ∧ q = k - j ∧ (∀ i (hi : i < xs.length), i < j → xs[i] ≠ xs[k]) ∧ Fr 37 [(0, .slice (some ⟨b, o, none⟩) xs.length c), (3, .int .i64 (k : Int)), (4, .int .i64 (j : Int))] a ∧ Below w.heap.size w wr) k
        ⟨0, Nat.zero_le _, rfl, fun i hi h => absurd h (Nat.not_lt_zero _), hF.keep' ⟨rfl, rfl, rfl, trivial⟩, hB2⟩ ?_
      clear hF a hB2 hb2
      rintro q a wq ⟨j, hj, rfl, hno, hF, hbel2⟩
      by_cases hjk : j < k
      · obtain ⟨b', o', hao', hcj⟩ := hR j (by omega)
        rw [hao] at hao'
        cases hao'
        replace hcj : wq.cell? ⟨b, o + j, none⟩ = some (.string (xs[j]'(by omega))) := (hbel2.cell (p := ⟨b, o + j, none⟩) (World.block_lt_of_cell? w _ hcj)).trans hcj
        obtain ⟨_, _, hao2, hck0⟩ := hR k hlt
        rw [hao] at hao2
        cases hao2
        have hck : wq.cell? ⟨b, o + k, none⟩ = some (.string xs[k]) := (hbel2.cell (p := ⟨b, o + k, none⟩) (World.block_lt_of_cell? w _ hck0)).trans hck0
        cases he : decide ((xs[j]'(by omega)) = xs[k]) with
        | true =>
          repeat (first | refine c_seq ?_ | refine c_block ?_ | refine c_region _ ?_ | refine wpList_nil ?_ | refine c_then ?_ | refine c_then_ret ?_ | refine c_in_ret ?_ | refine wp_skip ?_ | refine wp_ret ?_ | (refine q_nil ?_; rintro _ ⟨ndr, rfl⟩) | refine c_region_draw _ mixed (by kernel_rfl) ?_ | ((apply st hF); (first | exact d_move | exact d_assign | exact d_cmpT); clear hF; clear a; intro a hF) | ((apply q_step hF); intro wq hwq; (first | exact d_move | exact d_eqST | exact d_indexAddr1 (und _ _ rfl) (isz _ _ rfl) | exact q_load (und _ _ rfl) hwq (by exact hcj) | exact q_load (und _ _ rfl) hwq (by exact hck)); clear hF; clear a; intro a hF) | (apply c_cond_t hF; exact rfl; first | exact rfl | assumption))
          exact ret1 hF rfl rfl ⟨by rw [hE2, if_pos ((any_take hlt).2 ⟨j, by omega, hjk, of_decide_eq_true he⟩)], below_more hbel2 _⟩
        | false =>
          repeat (first | refine c_seq ?_ | refine c_block ?_ | refine c_region _ ?_ | refine wpList_nil ?_ | refine c_then ?_ | refine c_in ?_ | refine wp_skip ?_ | (refine q_nil ?_; rintro _ ⟨ndr, rfl⟩) | refine c_region_draw _ mixed (by kernel_rfl) ?_ | ((apply st hF); (first | exact d_move | exact d_assign | exact d_add | exact d_cmpT); clear hF; clear a; intro a hF) | ((apply q_step hF); intro wq hwq; (first | exact d_move | exact d_eqSF | exact d_indexAddr1 (und _ _ rfl) (isz _ _ rfl) | exact q_load (und _ _ rfl) hwq (by exact hcj) | exact q_load (und _ _ rfl) hwq (by exact hck)); clear hF; clear a; intro a hF) | (apply c_cond_t hF; exact rfl; first | exact rfl | assumption) | (apply c_cond_f hF; exact rfl; first | exact rfl | assumption))
          exact ⟨k - (j + 1), by omega, j + 1, by omega, rfl, fun i hi h => by
            by_cases e : i = j
            · subst e; exact of_decide_eq_false he
            · exact hno i hi (by omega), hF.keep' ⟨rfl, rfl, rfl, trivial⟩, below_more hbel2 _⟩
      · obtain rfl : j = k := by omega
        have hany : ¬ (xs.take j).reverse.any (fun x => decide (xs[j] = x)) = true := fun h => by
          obtain ⟨i, hi, hik, e⟩ := (any_take hlt).1 h
          exact hno i hi hik e
        rw [if_neg hany] at hE2
        repeat (first | refine c_seq ?_ | refine c_region _ ?_ | refine wpList_nil ?_ | refine c_then ?_ | refine c_then_exit ?_ | refine c_in ?_ | refine c_in_hit ?_ | refine wp_exit ?_ | ((apply st hF); (first | exact d_move | exact d_assign | exact d_add | exact d_cmpF); clear hF; clear a; intro a hF) | (apply c_cond_f hF; exact rfl; first | exact rfl | assumption))
        exact ⟨xs.length - (j + 1), by omega, j + 1, by omega, rfl, hE2.symm, by rw [hao]; exact hF.keep' ⟨rfl, rfl, trivial⟩, hbel2⟩
  · obtain rfl : k = xs.length := by omega
    repeat (first | refine c_seq ?_ | refine c_region _ ?_ | refine wpList_nil ?_ | refine c_then ?_ | refine c_then_exit ?_ | refine c_in_hit ?_ | refine wp_exit ?_ | refine wp_ret ?_ | ((apply st hF); (first | exact d_move | exact d_assign | exact d_cmpF | exact d_len (und _ _ rfl)); clear hF; clear a; intro a hF) | (apply c_cond_f hF; exact rfl; first | exact rfl | assumption))
    exact ret1 hF rfl rfl ⟨by rw [← hE, List.drop_length]; rfl, hbel⟩
end Go.Proofs.YtjomihhpglojpaaDoor
end
