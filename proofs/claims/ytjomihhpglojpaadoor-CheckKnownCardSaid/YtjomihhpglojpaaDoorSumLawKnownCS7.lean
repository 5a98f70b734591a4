/- Laid together by a program of mine: Nm NmR Word MapW ListW Nn RatL NnW NnP NnT NnD Perm. -/
import Derived.Test.YtjomihhpglojpaaDoorSumLawKnownCS3
import Derived.Test.YtjomihhpglojpaaDoorSumLawKnownCS2
import Derived.Maps.Views
import Derived.Maps.OwnSet
import Derived.Carry
import Derived.Test.YtjomihhpglojpaaDoorSumLawKnownCS5
import Derived.OrdersHeld
set_option linter.unusedSimpArgs false
set_option linter.unusedVariables false
section
/- Names: what the program's Name and the reference's compute. -/
namespace Go.Proofs.YtjomihhpglojpaaDoor
open Go.RowKit
set_option linter.unusedSimpArgs false
set_option linter.unusedVariables false
attribute [local irreducible] wpList wpQuiet wpStill Code.wp Exit.then Exit.inBlock bodyPost Calls Does Does0

namespace Pl
/-- May a unit begin a name? -/
def letter (r : Int) : Bool := decide ((97 ≤ r ∧ r ≤ 122) ∨ (65 ≤ r ∧ r ≤ 90) ∨ r = 95)
/-- May it stand there? -/
def okAt (first : Bool) (r : Int) : Bool := letter r || (!first && decide (48 ≤ r ∧ r ≤ 57))
def okName (s : ByteArray) : Prop := ∀ j (h : j < s.size), okAt (decide (j = 0)) (s[j].toNat : Int) = true
instance (s : ByteArray) : Decidable (okName s) := by unfold okName; infer_instance
def name (s : ByteArray) : Bool := decide (1 ≤ s.size ∧ s.size ≤ 64 ∧ okName s)
theorem name_false {s : ByteArray} (j : Nat) (h : j < s.size) (hb : okAt (decide (j = 0)) (s[j].toNat : Int) = false) : name s = false := by
  unfold name
  refine decide_eq_false fun x => ?_
  have := x.2.2 j h
  rw [hb] at this
  cases this
end Pl

set_option maxHeartbeats 2000000 in
theorem letter_ok (w : World) (r : Int) : Ret Tryd.prog 100 #[.int .i32 r] w (fun v w' => v = .bool (Pl.letter r) ∧ w' = w) := by
  refine enter1 Tryd.func100 rfl 20 rfl 21 rfl (fun a hF => ?_)
  repeat' (first | refine ret1 hF rfl rfl ⟨by unfold Pl.letter; first | rw [decide_eq_true (by omega)] | rw [decide_eq_false (by omega)], rfl⟩ | refine c_seq ?_ | refine c_region _ ?_ | refine wpList_nil ?_ | refine c_then ?_ | refine wp_ret ?_ | ((first | apply st hF | apply stg hF); (first | exact d_move | exact d_assign | exact d_pickT | exact d_pickF | exact d_cmpT | exact d_cmpF); clear hF; clear a; intro a hF) | ((first | apply stm hF | apply stu hF); clear hF; clear a; intro a hF) | ((first | refine st_split hF (kT := ?_) (kF := ?_) | refine stg_split hF (kT := ?_) (kF := ?_)) <;> (intro hsp; simp only [decide_eq_true_eq, decide_eq_false_iff_not, beq_iff_eq, beq_eq_false_iff_ne, bne_iff_ne, ne_eq, bne_eq_false_iff_eq] at hsp; clear hF; clear a; intro a hF)))

set_option maxHeartbeats 2000000 in
theorem name_ok (w : World) (s : ByteArray) : Ret Tryd.prog 78 #[.string s] w (fun v w' => v = .bool (Pl.name s) ∧ Below w.heap.size w w') := by
  refine enter1 Tryd.func78 rfl 32 rfl 33 rfl (fun a hF => ?_)
  repeat (first | refine c_seq ?_ | refine c_region _ ?_ | refine wpList_nil ?_ | refine c_then ?_ | ((apply st hF); (first | exact d_move | exact d_assign); clear hF; clear a; intro a hF))
  refine st_range hF (und _ _ rfl) (k := fun a w1 hit hgr hsz1 hF => ?_)
  have hb1 : Below w.heap.size w w1 := (Below.refl _ w).grown hgr (Nat.le_refl _) (fun k hk => by cases hk)
  obtain ⟨r, hr⟩ : ∃ r, r = w.heap.size := ⟨_, rfl⟩
  rw [← hr] at hit hF
  repeat (first | refine c_block ?_ | refine wpList_nil ?_ | refine c_then ?_)
  refine c_loop (fun n a wr => ∃ k, k ≤ s.size ∧ n = s.size - k ∧ Fr 33 [(0, .string s), (6, .pointer (some ⟨r, 0, none⟩))] a ∧ IterAt wr r s k ∧
    (∀ j (h : j < s.size), j < k → Pl.okAt (decide (j = 0)) (s[j].toNat : Int) = true) ∧ Below w.heap.size w wr) s.size
    ⟨0, by omega, rfl, hF.keep' ⟨rfl, rfl, trivial⟩, hit, fun j _ h => absurd h (Nat.not_lt_zero _), hb1⟩ ?_
  clear hF a hit hb1 hgr hsz1 w1
  rintro n a wr ⟨k, hk, rfl, hF, hit, hok, hbel⟩
  by_cases hlt : k < s.size
  · repeat (first | refine c_seq ?_ | refine c_region _ ?_)
    refine st_next hF hit hlt (k := fun a w2 hit2 hgr2 hsz2 hF => ?_)
    have hb2 : Below w.heap.size w w2 := hbel.grown hgr2 hbel.size (fun k hk => by cases hk; omega)
    repeat (first | refine c_seq ?_ | refine c_block ?_ | refine c_region _ ?_ | refine wpList_nil ?_ | refine c_then ?_ | refine wp_skip ?_ | ((apply st hF); (first | exact d_move | exact d_assign | exact d_extract); clear hF; clear a; intro a hF) | (apply c_cond_t hF; exact rfl; first | exact rfl | assumption))
    refine stc hF (letter_ok w2 _) cal100 ⟨rfl, trivial⟩ (k := fun a v w3 hR hF => ?_)
    obtain ⟨rfl, rfl⟩ := hR
    by_cases ha : (s[k]'hlt).toNat < 128
    · rw [decode_ascii s k hlt ha] at hF hit2
      simp only at hF hit2
      generalize hc : ((s[k]'hlt).toNat : Int) = c at hF
      cases hL : Pl.letter c with
      | true =>
        rw [hL] at hF
        repeat (first | refine wpList_nil ?_ | refine c_then ?_ | refine c_in ?_ | refine wp_skip ?_ | ((apply st hF); (first | exact d_move | exact d_not | exact d_pickF); clear hF; clear a; intro a hF) | ((first | apply stm hF | apply stu hF); clear hF; clear a; intro a hF) | (apply c_cond_f hF; exact rfl; first | exact rfl | assumption))
        refine ⟨s.size - (k + 1), by omega, k + 1, by omega, rfl, hF.keep' ⟨rfl, rfl, trivial⟩, hit2, fun j hj hjk => ?_, hb2⟩
        by_cases e : j = k
        · subst e; rw [hc]; unfold Pl.okAt; rw [hL]; rfl
        · exact hok j hj (by omega)
      | false =>
        rw [hL] at hF
        by_cases hgood : k ≠ 0 ∧ 48 ≤ c ∧ c ≤ 57
        · repeat (first | refine wpList_nil ?_ | refine c_then ?_ | refine c_in ?_ | refine wp_skip ?_ | ((first | apply st hF | apply stg hF); (first | exact d_move | exact d_not | exact d_pickT | exact d_pickF | exact d_cmpF); clear hF; clear a; intro a hF) | (apply c_cond_f hF; exact rfl; first | exact rfl | assumption))
          refine ⟨s.size - (k + 1), by omega, k + 1, by omega, rfl, hF.keep' ⟨rfl, rfl, trivial⟩, hit2, fun j hj hjk => ?_, hb2⟩
          by_cases e : j = k
          · subst e; rw [hc]; unfold Pl.okAt; rw [hL, decide_eq_false hgood.1, decide_eq_true hgood.2]; rfl
          · exact hok j hj (by omega)
        · have hbad : Pl.name s = false := by
            refine Pl.name_false k hlt ?_
            rw [hc]; unfold Pl.okAt; rw [hL]
            by_cases e : k = 0
            · subst e; rfl
            · rw [decide_eq_false e, decide_eq_false (fun x => hgood ⟨e, x⟩)]; rfl
          repeat' (first | refine ret1 hF rfl rfl ⟨by rw [hbad], hb2⟩ | refine c_seq ?_ | refine c_region _ ?_ | refine wpList_nil ?_ | refine c_then ?_ | refine c_then_ret ?_ | refine c_in_ret ?_ | refine wp_ret ?_ | ((first | apply st hF | apply stg hF); (first | exact d_move | exact d_assign | exact d_not | exact d_pickT | exact d_pickF | exact d_cmpT); clear hF; clear a; intro a hF) | ((apply stm hF); clear hF; clear a; intro a hF) | (apply c_cond_t hF; exact rfl; first | exact rfl | assumption) | ((refine stg_split hF (kT := ?_) (kF := ?_)) <;> (intro hsp; simp only [decide_eq_true_eq, decide_eq_false_iff_not, beq_iff_eq, beq_eq_false_iff_ne, bne_iff_ne, ne_eq, bne_eq_false_iff_eq] at hsp; clear hF; clear a; intro a hF)))
    · have hh := decode_high s k hlt (by omega)
      have hnl : Pl.letter ((Utf8.decode s k).1 : Int) = false := by unfold Pl.letter; exact decide_eq_false (by omega)
      rw [hnl] at hF
      have hbad : Pl.name s = false := by
        refine Pl.name_false k hlt ?_
        unfold Pl.okAt Pl.letter
        rw [decide_eq_false (by omega), decide_eq_false (show ¬ (48 ≤ (s[k].toNat : Int) ∧ (s[k].toNat : Int) ≤ 57) by omega)]
        simp
      by_cases hk0 : k = 0
      all_goals
        repeat (first | refine c_seq ?_ | refine c_region _ ?_ | refine wpList_nil ?_ | refine c_then ?_ | refine c_then_ret ?_ | refine c_in_ret ?_ | refine wp_ret ?_ | ((first | apply st hF | apply stg hF); (first | exact d_move | exact d_assign | exact d_not | exact d_pickT | exact d_pickF | exact d_cmpT | exact d_cmpF); clear hF; clear a; intro a hF) | ((apply stm hF); clear hF; clear a; intro a hF) | (apply c_cond_t hF; exact rfl; first | exact rfl | assumption))
        exact ret1 hF rfl rfl ⟨by rw [hbad], hb2⟩
  · obtain rfl : k = s.size := by omega
    repeat (first | refine c_seq ?_ | refine c_region _ ?_)
    refine st_nextE hF hit hlt (k := fun a hF => ?_)
    have hn : Pl.name s = decide (1 ≤ s.size ∧ s.size ≤ 64) := by
      unfold Pl.name
      have : Pl.okName s := fun j h => hok j h h
      simp [this]
    by_cases h0 : s = ⟨#[]⟩
    · have hq : (!decide (s = ⟨#[]⟩)) = false := by rw [decide_eq_true h0]; rfl
      repeat (first | refine c_seq ?_ | refine c_region _ ?_ | refine wpList_nil ?_ | refine c_then ?_ | refine c_then_exit ?_ | refine c_in_hit ?_ | refine wp_exit ?_ | refine wp_ret ?_ | ((apply st hF); (first | exact d_move | exact d_assign | exact d_pickF | exact d_eqSF | exact d_extract); clear hF; clear a; intro a hF) | ((apply stm hF); clear hF; clear a; intro a hF) | (apply c_cond_f hF; exact rfl; first | exact rfl | assumption))
      refine ret1 hF rfl rfl ⟨?_, hbel⟩
      rw [hn]; subst h0; rfl
    · have hq : (!decide (s = ⟨#[]⟩)) = true := by rw [decide_eq_false h0]; rfl
      have hs : 1 ≤ s.size := by
        rcases Nat.eq_zero_or_pos s.size with e | e
        · exact absurd (ByteArray.ext (Array.eq_empty_of_size_eq_zero e)) h0
        · exact e
      repeat (first | refine c_seq ?_ | refine c_region _ ?_ | refine wpList_nil ?_ | refine c_then ?_ | refine c_then_exit ?_ | refine c_in_hit ?_ | refine wp_exit ?_ | refine wp_ret ?_ | ((first | apply st hF | apply stg hF); (first | exact d_move | exact d_assign | exact d_pickT | exact d_cmp | exact d_eqST | exact d_lens (und _ _ rfl) | exact d_extract); clear hF; clear a; intro a hF) | (apply c_cond_f hF; exact rfl; first | exact rfl | assumption))
      refine ret1 hF rfl rfl ⟨?_, hbel⟩
      rw [hn]
      congr 1
      exact decide_eq_decide.2 (by omega)

end Go.Proofs.YtjomihhpglojpaaDoor
end
section
/- Names: what the reference's Name computes. -/
namespace Go.Proofs.YtjomihhpglojpaaDoor
open Go.RowKit
set_option linter.unusedSimpArgs false
set_option linter.unusedVariables false
attribute [local irreducible] wpList wpQuiet wpStill Code.wp Exit.then Exit.inBlock bodyPost Calls Does Does0

end Go.Proofs.YtjomihhpglojpaaDoor
end
section
/- Words: what the program's word and the reference's Word answer. -/
namespace Go.Proofs.YtjomihhpglojpaaDoor
open Go.RowKit
set_option linter.unusedSimpArgs false
set_option linter.unusedVariables false
attribute [local irreducible] wpList wpQuiet wpStill Code.wp Exit.then Exit.inBlock bodyPost Calls Does Does0
def kw : List ByteArray := [⟨#[86, 69, 82, 83, 73, 79, 78]⟩, ⟨#[66, 85, 95]⟩, ⟨#[66, 79, 95]⟩, ⟨#[83, 71, 95]⟩, ⟨#[86, 65, 76, 95]⟩, ⟨#[67, 77, 95]⟩]
def wordB (s : ByteArray) : Bool := !(kw.any fun k => decide (s = k)) && Pl.name s
theorem wordB_in {s : ByteArray} (h : s ∈ kw) : wordB s = false := by
  have : (kw.any fun k => decide (s = k)) = true := List.any_eq_true.2 ⟨s, h, decide_eq_true rfl⟩
  unfold wordB; rw [this]; rfl
theorem wordB_out {s : ByteArray} (h : s ∉ kw) : wordB s = Pl.name s := by
  have : (kw.any fun k => decide (s = k)) = false := by
    rw [Bool.eq_false_iff]
    intro h2
    obtain ⟨k, hk, e⟩ := List.any_eq_true.1 h2
    exact h (by rw [of_decide_eq_true e]; exact hk)
  unfold wordB; rw [this]; simp
set_option maxHeartbeats 4000000 in
theorem word_ok' (w : World) (s : ByteArray) : Ret Tryd.prog 50 [.string s].toArray w (fun v w' => v = .bool (wordB s) ∧ Below w.heap.size w w') := by
  refine enter1 Tryd.func50 rfl 12 rfl 13 rfl (fun a hF => ?_)
  cases h1 : decide (s = ⟨#[86, 69, 82, 83, 73, 79, 78]⟩) with
  | true =>
    repeat (first | refine c_seq ?_ | refine c_block ?_ | refine c_region _ ?_ | refine wpList_nil ?_ | refine c_then ?_ | refine c_then_ret ?_ | refine c_in_ret ?_ | refine wp_skip ?_ | refine wp_ret ?_ | ((apply st hF); (first | exact d_move | exact d_assign | exact d_eqST); clear hF; clear a; intro a hF) | (apply c_cond_t hF; exact rfl; first | exact rfl | assumption))
    exact ret1 hF rfl rfl ⟨by rw [wordB_in (by rw [of_decide_eq_true h1]; simp [kw])], Below.refl _ w⟩
  | false =>
  cases h2 : decide (s = ⟨#[66, 85, 95]⟩) with
  | true =>
    repeat (first | refine c_seq ?_ | refine c_block ?_ | refine c_region _ ?_ | refine wpList_nil ?_ | refine c_then ?_ | refine c_then_ret ?_ | refine c_in_ret ?_ | refine wp_skip ?_ | refine wp_ret ?_ | ((apply st hF); (first | exact d_move | exact d_assign | exact d_eqST | exact d_eqSF); clear hF; clear a; intro a hF) | (apply c_cond_t hF; exact rfl; first | exact rfl | assumption) | (apply c_cond_f hF; exact rfl; first | exact rfl | assumption))
    exact ret1 hF rfl rfl ⟨by rw [wordB_in (by rw [of_decide_eq_true h2]; simp [kw])], Below.refl _ w⟩
  | false =>
  cases h3 : decide (s = ⟨#[66, 79, 95]⟩) with
  | true =>
    repeat (first | refine c_seq ?_ | refine c_block ?_ | refine c_region _ ?_ | refine wpList_nil ?_ | refine c_then ?_ | refine c_then_ret ?_ | refine c_in_ret ?_ | refine wp_skip ?_ | refine wp_ret ?_ | ((apply st hF); (first | exact d_move | exact d_assign | exact d_eqST | exact d_eqSF); clear hF; clear a; intro a hF) | (apply c_cond_t hF; exact rfl; first | exact rfl | assumption) | (apply c_cond_f hF; exact rfl; first | exact rfl | assumption))
    exact ret1 hF rfl rfl ⟨by rw [wordB_in (by rw [of_decide_eq_true h3]; simp [kw])], Below.refl _ w⟩
  | false =>
  cases h4 : decide (s = ⟨#[83, 71, 95]⟩) with
  | true =>
    repeat (first | refine c_seq ?_ | refine c_block ?_ | refine c_region _ ?_ | refine wpList_nil ?_ | refine c_then ?_ | refine c_then_ret ?_ | refine c_in_ret ?_ | refine wp_skip ?_ | refine wp_ret ?_ | ((apply st hF); (first | exact d_move | exact d_assign | exact d_eqST | exact d_eqSF); clear hF; clear a; intro a hF) | (apply c_cond_t hF; exact rfl; first | exact rfl | assumption) | (apply c_cond_f hF; exact rfl; first | exact rfl | assumption))
    exact ret1 hF rfl rfl ⟨by rw [wordB_in (by rw [of_decide_eq_true h4]; simp [kw])], Below.refl _ w⟩
  | false =>
  cases h5 : decide (s = ⟨#[86, 65, 76, 95]⟩) with
  | true =>
    repeat (first | refine c_seq ?_ | refine c_block ?_ | refine c_region _ ?_ | refine wpList_nil ?_ | refine c_then ?_ | refine c_then_ret ?_ | refine c_in_ret ?_ | refine wp_skip ?_ | refine wp_ret ?_ | ((apply st hF); (first | exact d_move | exact d_assign | exact d_eqST | exact d_eqSF); clear hF; clear a; intro a hF) | (apply c_cond_t hF; exact rfl; first | exact rfl | assumption) | (apply c_cond_f hF; exact rfl; first | exact rfl | assumption))
    exact ret1 hF rfl rfl ⟨by rw [wordB_in (by rw [of_decide_eq_true h5]; simp [kw])], Below.refl _ w⟩
  | false =>
  cases h6 : decide (s = ⟨#[67, 77, 95]⟩) with
  | true =>
    repeat (first | refine c_seq ?_ | refine c_block ?_ | refine c_region _ ?_ | refine wpList_nil ?_ | refine c_then ?_ | refine c_then_ret ?_ | refine c_in_ret ?_ | refine wp_ret ?_ | ((apply st hF); (first | exact d_move | exact d_assign | exact d_eqST | exact d_eqSF); clear hF; clear a; intro a hF) | (apply c_cond_t hF; exact rfl; first | exact rfl | assumption) | (apply c_cond_f hF; exact rfl; first | exact rfl | assumption))
    exact ret1 hF rfl rfl ⟨by rw [wordB_in (by rw [of_decide_eq_true h6]; simp [kw])], Below.refl _ w⟩
  | false =>
    repeat (first | refine c_seq ?_ | refine c_block ?_ | refine c_region _ ?_ | refine wpList_nil ?_ | refine c_then ?_ | refine c_in ?_ | refine wp_skip ?_ | ((apply st hF); (first | exact d_move | exact d_assign | exact d_eqSF); clear hF; clear a; intro a hF) | (apply c_cond_f hF; exact rfl; first | exact rfl | assumption))
    refine stc hF (name_ok w s) cal78 ⟨rfl, trivial⟩ (k := fun a v w1 hR hF => ?_)
    obtain ⟨rfl, hb⟩ := hR
    repeat (first | refine wpList_nil ?_ | refine c_then ?_ | refine wp_ret ?_ | ((apply st hF); (exact d_assign); clear hF; clear a; intro a hF))
    have ho : s ∉ kw := by
      intro h
      simp only [kw, List.mem_cons, List.mem_nil_iff, or_false] at h
      rcases h with h | h | h | h | h | h
      · exact of_decide_eq_false h1 h
      · exact of_decide_eq_false h2 h
      · exact of_decide_eq_false h3 h
      · exact of_decide_eq_false h4 h
      · exact of_decide_eq_false h5 h
      · exact of_decide_eq_false h6 h
    exact ret1 hF rfl rfl ⟨by rw [wordB_out ho], hb⟩
end Go.Proofs.YtjomihhpglojpaaDoor
end
section
/- Maps of the call's own: the operations, and sets of texts. Plain lemmas over any program. -/
namespace Go.Proofs.YtjomihhpglojpaaDoor
open Go.RowKit
open Go.Maps (Keyed IsMap)
section
variable {P : Program} {ops : Array Oper} {Q : Exit → Act → World → Prop} {rest : List Oper} {a : Act} {w w' : World} {N : Nat} {l : List (Nat × Value)}
theorem d_makeMap {t k e ty : TypeId} (hU : P.underlying t = some (.map k e)) : Does P l w (.makeMap t none) ty (.map (some w.heap.size)) (w.alloc (.map #[] 0)) := by
  intro ρ hρ d pos af g
  simp [execOp, run_makeMap]
theorem d_makeMapR {t k e ty : TypeId} {x : Operand} {q : IntKind} {n : Int} (hU : P.underlying t = some (.map k e)) (hx : Ev l x (.int q n) := by exact rfl) : Does P l w (.makeMap t (some x)) ty (.map (some w.heap.size)) (w.alloc (.map #[] 0)) := by
  intro ρ hρ d pos af g
  have e1 : (Instr.makeMap t (some (.int q n))).run P w = (Instr.makeMap t none).run P w := by simp [Instr.makeMap, run_underlying hU, asInt, asIntOf]
  simp [execOp, hρ _ _ hx, e1, run_makeMap]
theorem d_lookup {t ty : TypeId} {m x : Operand} {mv key v : Value} {c : Bool} (hr : (Instr.lookup t mv key c).run P w = .ok v w) (hm : Ev l m mv := by exact rfl) (hx : Ev l x key := by exact rfl) : Does P l w (.lookup t m x c) ty v w := by
  intro ρ hρ d pos af g
  simp [execOp, hρ _ _ hm, hρ _ _ hx, hr]
theorem d_mapUpdate {t ty : TypeId} {m x y : Operand} {mv key v : Value} (hr : (Instr.mapUpdate t mv key v).run P w = .ok () w') (hm : Ev l m mv := by exact rfl) (hx : Ev l x key := by exact rfl) (hy : Ev l y v := by exact rfl) : Does0 P l w (.mapUpdate t m x y) ty w' := by
  intro ρ hρ d pos af g
  simp [execOp, hρ _ _ hm, hρ _ _ hx, hρ _ _ hy, hr]
/-! ### a set of texts -/
def keyS (s : ByteArray) : Lit := .string s.data.toList
theorem keyS_inj {s t : ByteArray} (h : keyS s = keyS t) : s = t := by
  unfold keyS at h
  injection h with h
  apply ByteArray.ext
  exact Array.toList_inj.1 h
/-- The map that says of these texts: there. -/
def ksD : List ByteArray → DataW Unit
  | [] => .map []
  | k :: r => (ksD r).put (keyS k) (.lit (.bool true))
theorem ksD_map : ∀ ks, IsMap (ksD ks)
  | [] => ⟨_, rfl⟩
  | k :: r => by
    obtain ⟨es, h⟩ := ksD_map r
    unfold ksD
    rw [h]
    exact ⟨_, rfl⟩
theorem ksD_at (t : ByteArray) : ∀ ks, (ksD ks).atKey (keyS t) (.lit (.bool false)) = .lit (.bool (ks.any fun k => decide (t = k)))
  | [] => rfl
  | k :: r => by
    unfold ksD
    by_cases e : t = k
    · subst e
      rw [Maps.atKey_put_same (ksD_map r) (by trivial)]
      simp
    · rw [Maps.atKey_put_other (fun h => e (keyS_inj h)), ksD_at t r]
      simp [e]
/-- Block b is a map of the call's own: the texts ks are there. -/
def SetM (P : Program) (k e : TypeId) (w : World) (b : Nat) (ks : List ByteArray) : Prop := w.ownsMap P k (plainElem P e) b ks.length (ksD ks)
theorem SetM.new {k e : TypeId} (w : World) : SetM P k e (w.alloc (.map #[] 0)) w.heap.size [] := World.ownsMap_made w P k _
theorem SetM.kept {k e : TypeId} {b : Nat} {ks : List ByteArray} {row : Option Nat} (h : SetM P k e w b ks) (hg : w.grownBy w' row) (hne : some b ≠ row) : SetM P k e w' b ks := World.ownsMap.kept h hg hne
theorem SetM.lt {k e : TypeId} {b : Nat} {ks : List ByteArray} (h : SetM P k e w b ks) : b < w.heap.size := World.ownsMap.lt h
theorem SetM.below {k e : TypeId} {b : Nat} {ks : List ByteArray} (h : SetM P k e w b ks) (hb : Below w.heap.size w w') : SetM P k e w' b ks := by
  have hlt := h.lt
  obtain ⟨es, clock, h1, h2⟩ := h
  exact ⟨es, clock, (hb.block b hlt).trans h1, h2⟩
theorem key_string {k : TypeId} (hk : P.underlying k = some .string) (s : ByteArray) (hs : s.size ≤ maxLen) : keyOf P k (.string s) = some (keyS s) := by
  simp [keyOf, hk, hs, keyS, mapKey]
theorem SetM.look {t k e : TypeId} {b : Nat} {ks : List ByteArray} (h : SetM P k e w b ks) (ht : P.underlying t = some (.map k e)) (hk : P.underlying k = some .string) (he : P.underlying e = some .bool) (hz : (zeroValue e).run P w = .ok (.bool false) w) (s : ByteArray) (hs : s.size ≤ maxLen) :
    (Instr.lookup t (.map (some b)) (.string s) false).run P w = .ok (.bool (ks.any fun k => decide (s = k))) w := by
  obtain ⟨v, ps, hr, hv⟩ := World.ownsMap.lookup h (Maps.string_keyed hk) ht hz (plainElem_bool he false) (key_string hk s hs)
  rw [ksD_at] at hv
  unfold plainElem at hv
  rw [he] at hv
  cases v <;> simp at hv
  rw [hr, hv.1]
theorem SetM.put {t k e : TypeId} {b : Nat} {ks : List ByteArray} (h : SetM P k e w b ks) (ht : P.underlying t = some (.map k e)) (hk : P.underlying k = some .string) (he : P.underlying e = some .bool) (s : ByteArray) (hs : s.size ≤ maxLen) (hn : ks.length < maxLen) :
    ∃ w', (Instr.mapUpdate t (.map (some b)) (.string s) (.bool true)).run P w = .ok () w' ∧ SetM P k e w' b (s :: ks) ∧ w.grownBy w' (some b) ∧ w'.heap.size = w.heap.size := by
  obtain ⟨w', hr, ho, ht2⟩ := World.ownsMap.store (P := P) (w := w) (b := b) (k := k) (R := plainElem P e) h (Maps.string_keyed hk) ht hn (key_string hk s hs) (plainElem_bool he true)
  refine ⟨w', hr, ho, ht2.grown, ?_⟩
  obtain ⟨_, _, _, _, _, rfl⟩ := ht2
  simp [Go.ChangeMaps.setBlock]
end
end Go.Proofs.YtjomihhpglojpaaDoor
end
section
/- check.list and the reference's names: walked. -/
namespace Go.Proofs.YtjomihhpglojpaaDoor
open Go.RowKit
/-- Words that must be there once: 11, 12, or 0. -/
def listGo : List ByteArray → List ByteArray → Int
  | _, [] => 0
  | seen, s :: r => if wordB s = false then 11 else if seen.any (fun k => decide (s = k)) = true then 12 else listGo (s :: seen) r
def namesE (xs : List ByteArray) : Int := if xs.length = 0 then 2 else if 64 < xs.length then 5 else listGo [] xs
theorem listGo_at {xs : List ByteArray} {k : Nat} (h : k < xs.length) : listGo (xs.take k).reverse (xs.drop k) = if wordB xs[k] = false then 11 else if (xs.take k).reverse.any (fun x => decide (xs[k] = x)) = true then 12 else listGo (xs.take (k + 1)).reverse (xs.drop (k + 1)) := by
  rw [List.drop_eq_getElem_cons h, List.take_succ_eq_append_getElem h]
  simp only [listGo, List.reverse_append, List.reverse_cons, List.reverse_nil, List.nil_append, List.singleton_append]
theorem wordB_size {s : ByteArray} (h : wordB s = true) : s.size ≤ 64 := by
  unfold wordB Pl.name at h
  rw [Bool.and_eq_true] at h
  exact (of_decide_eq_true h.2).2.1
open Go.RowKit
set_option linter.unusedSimpArgs false
set_option linter.unusedVariables false
attribute [local irreducible] wpList wpQuiet wpStill Code.wp Exit.then Exit.inBlock bodyPost Calls Does Does0
set_option maxRecDepth 100000
set_option maxHeartbeats 4000000 in
theorem list_ok (w : World) (xs : List ByteArray) (ao : Option Addr) (n c : Nat) (most : Int) (hn : xs.length = n) (hR : Rd w ao Value.string xs) (hm : most ≤ 1000000) :
    Ret Tryd.prog 49 [.slice ao n c, .int .i64 most].toArray w (fun v w' => v = .int .i64 (if most < (n : Int) then 5 else listGo [] xs) ∧ Below w.heap.size w w') := by
  subst hn
  refine enter2 Tryd.func49 rfl 30 rfl 32 rfl (fun a hF => ?_)
  by_cases hbig : most < (xs.length : Int)
  · repeat (first | refine c_seq ?_ | refine c_region _ ?_ | refine wpList_nil ?_ | refine c_then ?_ | refine c_then_ret ?_ | refine wp_ret ?_ | ((apply st hF); (first | exact d_move | exact d_assign | exact d_cmpT | exact d_len (und _ _ rfl)); clear hF; clear a; intro a hF) | (apply c_cond_t hF; exact rfl; first | exact rfl | assumption))
    exact ret1 hF rfl rfl ⟨by rw [if_pos hbig], Below.refl _ w⟩
  rw [if_neg hbig]
  repeat (first | refine c_seq ?_ | refine c_region _ ?_ | refine wpList_nil ?_ | refine c_then ?_ | refine wp_skip ?_ | ((apply st hF); (first | exact d_move | exact d_assign | exact d_cmpF | exact d_len (und _ _ rfl)); clear hF; clear a; intro a hF) | (apply c_cond_f hF; exact rfl; first | exact rfl | assumption))
  refine st hF (d_makeMapR Tryd.underlying76) rfl (fun a hF => ?_)
  repeat (first | refine c_seq ?_ | refine c_block ?_ | refine c_region _ ?_ | refine wpList_nil ?_ | refine c_then ?_ | ((apply st hF); (first | exact d_move | exact d_assign | exact d_len (und _ _ rfl)); clear hF; clear a; intro a hF))
  have hb0 : Below w.heap.size w (w.alloc (.map #[] 0)) := (Below.refl _ w).grown (World.grownBy_alloc w _ none) (Nat.le_refl _) (fun k hk => by cases hk)
  refine c_loop (fun q a wr => ∃ k : Nat, k ≤ xs.length ∧ q = xs.length - k ∧ listGo (xs.take k).reverse (xs.drop k) = listGo [] xs ∧ Fr 32 [(5, .map (some w.heap.size)), (15, .slice ao xs.length c), (16, .int .i64 (xs.length : Int)), (17, .int .i64 (k : Int))] a ∧ SetM Tryd.prog 9 4 wr w.heap.size (xs.take k).reverse ∧ Below w.heap.size w wr) xs.length
    ⟨0, Nat.zero_le _, rfl, rfl, hF.keep' ⟨rfl, rfl, rfl, rfl, trivial⟩, SetM.new w, hb0⟩ ?_
  clear hF a
  rintro q a wr ⟨k, hk, rfl, hE, hF, hM, hbel⟩
  have hsz := hbel.size
  by_cases hlt : k < xs.length
  · have hE2 := listGo_at hlt
    rw [hE] at hE2
    obtain ⟨b, o, rfl, hc⟩ := hR k hlt
    replace hc : wr.cell? ⟨b, o + k, none⟩ = some (.string xs[k]) := (hbel.cell (p := ⟨b, o + k, none⟩) (World.block_lt_of_cell? w _ hc)).trans hc
    repeat (first | refine c_seq ?_ | refine c_block ?_ | refine c_region _ ?_ | refine wpList_nil ?_ | refine c_then ?_ | refine wp_skip ?_ | ((apply st hF); (first | exact d_move | exact d_assign | exact d_cmpT | exact d_indexAddr1 (und _ _ rfl) (isz _ _ rfl) | exact d_load (und _ _ rfl) hc); clear hF; clear a; intro a hF) | (apply c_cond_t hF; exact rfl; first | exact rfl | assumption))
    refine stc hF (word_ok' wr xs[k]) cal50 ⟨rfl, trivial⟩ (k := fun a v w2 hR2 hF => ?_)
    obtain ⟨rfl, hb2⟩ := hR2
    have hM2 := hM.below hb2
    have hB2 : Below w.heap.size w w2 := hbel.trans (hb2.mono hsz)
    cases hw : wordB xs[k] with
    | false =>
      rw [hw] at hF
      repeat (first | refine c_seq ?_ | refine c_region _ ?_ | refine wpList_nil ?_ | refine c_then ?_ | refine c_then_ret ?_ | refine c_in_ret ?_ | refine wp_ret ?_ | ((apply st hF); (first | exact d_assign | exact d_not); clear hF; clear a; intro a hF) | (apply c_cond_t hF; exact rfl; first | exact rfl | assumption))
      exact ret1 hF rfl rfl ⟨by rw [hE2, if_pos hw], hB2⟩
    | true =>
      rw [hw] at hF
      have hs64 := wordB_size hw
      have hl := hM2.look Tryd.underlying76 Tryd.underlying9 Tryd.underlying4 (Tryd.zeroValue4 w2) xs[k] (by unfold maxLen; omega)
      cases hany : (xs.take k).reverse.any (fun x => decide (xs[k] = x)) with
      | true =>
        rw [hany] at hl
        repeat (first | refine c_seq ?_ | refine c_region _ ?_ | refine wpList_nil ?_ | refine c_then ?_ | refine c_then_ret ?_ | refine c_in_ret ?_ | refine wp_ret ?_ | ((apply st hF); (first | exact d_move | exact d_assign | exact d_not | exact d_lookup hl); clear hF; clear a; intro a hF) | (apply c_cond_t hF; exact rfl; first | exact rfl | assumption) | (apply c_cond_f hF; exact rfl; first | exact rfl | assumption))
        exact ret1 hF rfl rfl ⟨by rw [hE2, if_neg (by rw [hw]; simp), if_pos hany], hB2⟩
      | false =>
        rw [hany] at hl
        repeat (first | refine c_seq ?_ | refine c_region _ ?_ | refine wpList_nil ?_ | refine c_then ?_ | refine c_in ?_ | refine wp_skip ?_ | ((apply st hF); (first | exact d_move | exact d_assign | exact d_not | exact d_lookup hl); clear hF; clear a; intro a hF) | (apply c_cond_f hF; exact rfl; first | exact rfl | assumption))
        obtain ⟨w3, hr3, hM3, hgr3, hsz3⟩ := hM2.put Tryd.underlying76 Tryd.underlying9 Tryd.underlying4 xs[k] (by unfold maxLen; omega) (by simp; unfold maxLen; omega)
        refine st0 hF (d_mapUpdate hr3) rfl (fun a hF => ?_)
        repeat (first | refine c_region _ ?_ | refine wpList_nil ?_ | refine c_then ?_ | refine c_in ?_ | ((apply st hF); (first | exact d_move | exact d_add); clear hF; clear a; intro a hF))
        refine ⟨xs.length - (k + 1), by omega, k + 1, by omega, rfl, by rw [hE2, if_neg (by rw [hw]; simp), if_neg (by rw [hany]; simp)], hF.keep' ⟨rfl, rfl, rfl, rfl, trivial⟩, ?_, hB2.grown hgr3 hB2.size (fun q e => by cases e; exact Nat.le_refl _)⟩
        rw [List.take_succ_eq_append_getElem hlt, List.reverse_append]
        exact hM3
  · obtain rfl : k = xs.length := by omega
    repeat (first | refine c_seq ?_ | refine c_region _ ?_ | refine wpList_nil ?_ | refine c_then ?_ | refine c_then_exit ?_ | refine c_in_hit ?_ | refine wp_exit ?_ | refine wp_ret ?_ | ((apply st hF); (first | exact d_assign | exact d_cmpF); clear hF; clear a; intro a hF) | (apply c_cond_f hF; exact rfl; first | exact rfl | assumption))
    exact ret1 hF rfl rfl ⟨by rw [← hE, List.drop_length]; rfl, hbel⟩
end Go.Proofs.YtjomihhpglojpaaDoor
end
section
/- Natural numbers as rows of digits to the base 2^32: plain laws. -/
namespace Go.Proofs.YtjomihhpglojpaaDoor.Nn

def B (k : Nat) : Nat := 4294967296 ^ k
attribute [irreducible] B
/-! ### the sum -/
/-! ### the difference -/
/-! ### the rest of a row -/
/-! ### the product -/
/-! ### the whole part and what is left -/
/-! ### the greatest common divisor -/
end Go.Proofs.YtjomihhpglojpaaDoor.Nn
end
section
/- Fractions: plain laws. -/
namespace Go.Proofs.YtjomihhpglojpaaDoor
/-- Is a fraction right? -/
def rightB (n d : Int) : Bool := decide (1 ≤ d ∧ Nat.gcd n.natAbs d.natAbs = 1)
/-- Is one above another? -/
def aboveP (n1 d1 n2 d2 : Int) : Prop := n2 * d1 < n1 * d2
theorem natAbs_mul_pos {n d : Int} (hd : 1 ≤ d) : ((n.natAbs * d.natAbs : Nat) : Int) = if n < 0 then -(n * d) else n * d := by
  have h2 : (d.natAbs : Int) = d := by omega
  push_cast
  rw [h2]
  split
  · have h1 : (n.natAbs : Int) = -n := by omega
    rw [h1, Int.neg_mul]
  · have h1 : (n.natAbs : Int) = n := by omega
    rw [h1]
theorem mul_sign {n d : Int} (hd : 1 ≤ d) : (n < 0 → n * d < 0) ∧ (0 ≤ n → 0 ≤ n * d) :=
  ⟨fun h => Int.mul_neg_of_neg_of_pos h (by omega), fun h => Int.mul_nonneg h (by omega)⟩
/-- The whole product of two words, in two words. -/
theorem cmp_words {h i l m x y : Nat} (hx : x = h * 18446744073709551616 + l) (hy : y = i * 18446744073709551616 + m) (hl : l < 18446744073709551616) (hm : m < 18446744073709551616) :
    ((h < i ∨ h = i ∧ l < m) ↔ x < y) ∧ ((h = i ∧ l = m) ↔ x = y) := by
  subst hx; subst hy
  constructor <;> constructor <;> intro h <;> omega
theorem mul_words {x y : Nat} (hx : x < 18446744073709551616) (hy : y < 18446744073709551616) :
    let x0 := x % 4294967296; let x1 := x / 4294967296; let y0 := y % 4294967296; let y1 := y / 4294967296
    let w0 := x0 * y0; let t := x1 * y0 + w0 / 4294967296; let w1 := t % 4294967296 + x0 * y1
    w0 < 18446744073709551616 ∧ x1 * y0 < 18446744073709551616 ∧ t < 18446744073709551616 ∧ x0 * y1 < 18446744073709551616 ∧ w1 < 18446744073709551616 ∧ x1 * y1 < 18446744073709551616 ∧ x1 * y1 + t / 4294967296 < 18446744073709551616 ∧ x1 * y1 + t / 4294967296 + w1 / 4294967296 < 18446744073709551616 ∧
    x * y = (x1 * y1 + t / 4294967296 + w1 / 4294967296) * 18446744073709551616 + x * y % 18446744073709551616 := by
  intro x0 x1 y0 y1 w0 t w1
  have a0 : x0 < 4294967296 := Nat.mod_lt _ (by decide)
  have b0 : y0 < 4294967296 := Nat.mod_lt _ (by decide)
  have a1 : x1 < 4294967296 := by show x / 4294967296 < _; omega
  have b1 : y1 < 4294967296 := by show y / 4294967296 < _; omega
  have ex : x = x1 * 4294967296 + x0 := by show x = x / 4294967296 * 4294967296 + x % 4294967296; omega
  have ey : y = y1 * 4294967296 + y0 := by show y = y / 4294967296 * 4294967296 + y % 4294967296; omega
  have p00 : x0 * y0 ≤ 4294967295 * 4294967295 := Nat.mul_le_mul (by omega) (by omega)
  have p10 : x1 * y0 ≤ 4294967295 * 4294967295 := Nat.mul_le_mul (by omega) (by omega)
  have p01 : x0 * y1 ≤ 4294967295 * 4294967295 := Nat.mul_le_mul (by omega) (by omega)
  have p11 : x1 * y1 ≤ 4294967295 * 4294967295 := Nat.mul_le_mul (by omega) (by omega)
  have exy : x * y = x1 * y1 * 18446744073709551616 + (x1 * y0 + x0 * y1) * 4294967296 + x0 * y0 := by
    rw [ex, ey, Nat.add_mul, Nat.mul_add, Nat.mul_add]
    have q1 : x1 * 4294967296 * (y1 * 4294967296) = x1 * y1 * 18446744073709551616 := by
      rw [show (18446744073709551616 : Nat) = 4294967296 * 4294967296 by decide]; ac_rfl
    have q2 : x1 * 4294967296 * y0 = x1 * y0 * 4294967296 := by ac_rfl
    have q3 : x0 * (y1 * 4294967296) = x0 * y1 * 4294967296 := by ac_rfl
    rw [q1, q2, q3, Nat.add_mul]; omega
  clear_value x0 x1 y0 y1
  have hw0 : w0 = x0 * y0 := rfl
  have ht : t = x1 * y0 + w0 / 4294967296 := rfl
  have hw1 : w1 = t % 4294967296 + x0 * y1 := rfl
  clear_value w0 t w1
  rw [exy]
  generalize x0 * y0 = u00 at *
  generalize x1 * y0 = u10 at *
  generalize x0 * y1 = u01 at *
  generalize x1 * y1 = u11 at *
  clear ex ey exy hx hy
  omega
end Go.Proofs.YtjomihhpglojpaaDoor
end
section
/- The reference's big numbers: trim, from, word, digit, held, plus, less: walked. -/
namespace Go.Proofs.YtjomihhpglojpaaDoor
open Go.RowKit
section
variable {P : Program} {w : World} {l : List (Nat × Value)}
end
open Go.RowKit
set_option linter.unusedSimpArgs false
set_option linter.unusedVariables false
attribute [local irreducible] wpList wpQuiet wpStill Code.wp Exit.then Exit.inBlock bodyPost Calls Does Does0
open Nn
end Go.Proofs.YtjomihhpglojpaaDoor
end
section
/- The reference's big numbers: plus, less, word: walked. -/
namespace Go.Proofs.YtjomihhpglojpaaDoor
open Go.RowKit
set_option linter.unusedSimpArgs false
set_option linter.unusedVariables false
attribute [local irreducible] wpList wpQuiet wpStill Code.wp Exit.then Exit.inBlock bodyPost Calls Does Does0
open Nn
end Go.Proofs.YtjomihhpglojpaaDoor
end
section
/- The reference's big numbers: times: walked. -/
namespace Go.Proofs.YtjomihhpglojpaaDoor
open Go.RowKit
set_option linter.unusedSimpArgs false
set_option linter.unusedVariables false
attribute [local irreducible] wpList wpQuiet wpStill Code.wp Exit.then Exit.inBlock bodyPost Calls Does Does0
open Nn
end Go.Proofs.YtjomihhpglojpaaDoor
end
section
/- The reference's big numbers: divided, common: walked. -/
namespace Go.Proofs.YtjomihhpglojpaaDoor
open Go.RowKit
set_option linter.unusedSimpArgs false
set_option linter.unusedVariables false
attribute [local irreducible] wpList wpQuiet wpStill Code.wp Exit.then Exit.inBlock bodyPost Calls Does Does0
open Nn
end Go.Proofs.YtjomihhpglojpaaDoor
end
section
/- A region that draws its order and holds reads, and besides a chain of operations that change memory (an alloc, a store, an append): the reads are taken first, in an order that is named, in every world that meets a condition; the chain behind them, each of its operations showing the condition anew. Plain lemmas over any program. -/
namespace Go.Proofs.YtjomihhpglojpaaDoor
open Go.RowKit

section
variable {P : Program} {ops : Array Oper} {md : Region.Mode} {S : World → Prop} {Q Q' : Exit → Act → World → Prop}

theorem oper_wp_monoQ {o : Oper} {a : Act} {w : World} {K : Act → World → Prop} (hq : ∀ e a w, e ≠ .normal → Q' e a w → Q e a w) (hh : o.wp P a w K Q') : o.wp P a w K Q := by
  unfold Oper.wp at *
  generalize (execOp a.eval o).run P w = r at *
  cases r with
  | ok n w' =>
    cases n <;> simp only [Oper.upon] at hh ⊢ <;>
      first
        | exact hh
        | exact Calls.mono hh (fun e w'' he => by
            cases e with
            | returned v => exact he
            | panicked c => exact hq _ _ _ (by simp) he
            | outgrown => obtain ⟨x, y, h⟩ := he; exact ⟨x, y, hq _ _ _ (by simp) h⟩)
  | halt x w' =>
    cases x <;> simp only [Oper.upon] at hh ⊢ <;> first | exact hh | exact hq _ _ _ (by simp) hh
theorem letsOut_mono (hq : ∀ e a w, Q' e a w → Q e a w) (h : LetsOut Q') : LetsOut Q := by
  obtain ⟨x, y, h⟩ := h; exact ⟨x, y, hq _ _ _ h⟩
theorem wpOp_monoQ {i : Nat} {a : Act} {w : World} {K : Act → World → Prop} (hq : ∀ e a w, Q' e a w → Q e a w) (hh : wpOp P ops Q' i K a w) : wpOp P ops Q i K a w := by
  unfold wpOp at *
  split
  · simpa [*] using hh
  · rename_i o ho
    simp only [ho] at hh
    split
    · rename_i hw; simp only [hw, if_true] at hh; exact hh.imp (oper_wp_monoQ (fun e a w _ => hq e a w)) (fun ⟨h1, h2⟩ => ⟨h1, letsOut_mono hq h2⟩)
    · rename_i hw; simp only [hw] at hh; exact hh
theorem wpAny_monoQ (hq : ∀ e a w, Q' e a w → Q e a w) : ∀ (fuel : Nat) (listed : Array Bool) (a : Act) (w : World), wpAny P md ops Q' fuel listed a w → wpAny P md ops Q fuel listed a w
  | 0, _, _, _, h => ⟨h.1, hq _ _ _ h.2⟩
  | fuel + 1, _, _, _, h => ⟨fun h0 => hq _ _ _ (h.1 h0), fun i hi => wpOp_mono (fun a' w' h' => wpAny_monoQ hq fuel _ a' w' h') (wpOp_monoQ hq (h.2 i hi))⟩

theorem mem_ready_lt {j : Nat} {listed : Array Bool} (h : j ∈ Region.ready md ops listed) : ∃ o, ops[j]? = some o := by
  obtain ⟨_, o, ho, _⟩ := mem_ready.1 h; exact ⟨o, ho⟩
/-! ### steps -/
variable {a : Act} {w w' : World} {rest : List Oper} {N : Nat} {l : List (Nat × Value)} {K : Act → Prop}
/-! ### reads and sole operations in one order -/
/-- Each is a read, that yields its value in every world that meets the condition, or the only one that may come up. -/
def wpMix (P : Program) (ops : Array Oper) (Q : Exit → Act → World → Prop) (S : World → Prop) : List (Oper × Bool) → Act → World → Prop
  | [], a, w => Q .normal a w
  | (o, true) :: rest, a, w => ∃ v, YieldsIf P ops S o v a ∧ wpMix P ops Q S rest (a.put o.dst v) w
  | (o, false) :: rest, a, w => wpList P ops (fun e a' w' => e = .normal ∧ S w' ∧ wpMix P ops Q S rest a' w') [o] a w
def mixL (md : Region.Mode) (ops : Array Oper) : List (Nat × Bool) → Array Bool → Bool
  | [], listed => (Region.ready md ops listed).isEmpty
  | (i, true) :: is, listed => (Region.ready md ops listed).contains i && Region.free md ops listed i && mixL md ops is (listed.setIfInBounds i true)
  | (t, false) :: is, listed => decide (Region.ready md ops listed = [t]) && mixL md ops is (listed.setIfInBounds t true)
def mixB (md : Region.Mode) (ops : Array Oper) (is : List (Nat × Bool)) : Bool :=
  Region.noSelect ops && decide (is.length = ops.size) && mixL md ops is (Array.replicate ops.size false)
def pickX (l : List Oper) (is : List (Nat × Bool)) : List (Oper × Bool) := is.filterMap fun i => (l[i.1]?).map (·, i.2)
theorem pickX_cons {l : List Oper} {i : Nat} {b : Bool} {is : List (Nat × Bool)} {o : Oper} (h : l[i]? = some o) : pickX l ((i, b) :: is) = (o, b) :: pickX l is := by simp [pickX, h]
theorem wpAnyH_mix {l : List Oper} (Q : Exit → Act → World → Prop) (hs : Region.noSelect l.toArray = true) : ∀ (is : List (Nat × Bool)) (listed : Array Bool) (a : Act) (w : World), mixL md l.toArray is listed = true → S w →
    wpMix P l.toArray Q S (pickX l is) a w → wpAnyH P md l.toArray (fun e a w => e = .normal ∧ Q .normal a w) S is.length listed a w
  | [], listed, a, w, hB, _, h => ⟨by simpa [mixL] using hB, rfl, by simpa [pickX, wpMix] using h⟩
  | (i, true) :: is, listed, a, w, hB, hS, h => by
    simp only [mixL, Bool.and_eq_true] at hB
    obtain ⟨⟨hr, hf⟩, hB'⟩ := hB
    obtain ⟨o, ho⟩ := mem_ready_lt (by simpa using hr : i ∈ Region.ready md l.toArray listed)
    rw [pickX_cons (by simpa using ho)] at h
    obtain ⟨v, hy, hk⟩ := h
    exact wpAnyH_take ho hs hf hr (fun c a w h => by cases h.1) hy hS (wpAnyH_mix Q hs is _ _ w hB' hS hk)
  | (t, false) :: is, listed, a, w, hB, hS, h => by
    simp only [mixL, Bool.and_eq_true, decide_eq_true_eq] at hB
    refine ⟨fun h1 => (by rw [hB.1] at h1; cases h1), fun i hi => ?_⟩
    obtain ⟨o, ho⟩ := mem_ready_lt hi
    rw [hB.1] at hi
    have hik : i = t := by simpa using hi
    subst hik
    rw [pickX_cons (by simpa using ho)] at h
    simp only [wpMix, wpList] at h
    unfold wpOp
    simp only [ho]
    split
    · rename_i hw
      rw [if_pos hw] at h
      rcases h with h | ⟨_, x, y, h, _⟩
      · refine .inl (oper_wp_monoQ (Q' := fun e a' w' => e = .normal ∧ S w' ∧ wpMix P l.toArray Q S (pickX l is) a' w') (fun e a' w' hn h' => absurd h'.1 hn) (Oper.wp_mono ?_ h))
        rintro a' w' ⟨_, h1, h2⟩
        exact ⟨h1, wpAnyH_mix Q hs is _ a' w' hB.2 h1 h2⟩
      · cases h
    · rename_i hw
      rw [if_neg hw] at h
      exact ⟨h.2.1, wpAnyH_mix Q hs is _ _ _ hB.2 h.2.1 h.2.2⟩
theorem c_region_mix (S : World → Prop) (is : List (Nat × Bool)) (id : Nat) {l' : List Oper} {a : Act} {w : World} (hm : P.follows .mixedOrders = true) (hB : mixB .any l'.toArray is = true) (hS : S (w.drewN 1))
    (h : wpMix P l'.toArray Q S (pickX l' is) a (w.drewN 1)) : (Code.region id l'.toArray true).wp P Q a w := by
  simp only [mixB, Bool.and_eq_true, decide_eq_true_eq] at hB
  obtain ⟨⟨h1, h2⟩, h3⟩ := hB
  have := wpAnyH_mix (md := .any) (S := S) Q h1 is _ a _ h3 hS h
  rw [h2] at this
  refine wp_region_any hm (wpAny_monoQ ?_ _ _ _ _ (wpAny_of_held _ _ _ _ this))
  rintro e a w ⟨rfl, h⟩
  exact h
section
variable {a : Act} {w : World} {restx : List (Oper × Bool)} {N : Nat} {l : List (Nat × Value)}
theorem x_nil (h : Q .normal a w) : wpMix P ops Q S [] a w := h
theorem x_step (h : Fr N l a) {d : Nat} {op : Op} {ty : TypeId} {pos : String} {af : Array Edge} {v : Value} (hr : ∀ w, S w → Does P l w op ty v w) (hd : Nat.blt d N = true := by exact rfl)
    (k : ∀ a', Fr N ((d, v) :: l) a' → wpMix P ops Q S restx a' w) : wpMix P ops Q S ((⟨some d, op, ty, pos, af, none⟩, true) :: restx) a w :=
  ⟨v, .inl ⟨by simp [Region.wanted], fun w hw => hr w hw a.eval h.eval _ _ _ _⟩, k _ (h.put hd v)⟩
theorem x_stg (h : Fr N l a) {d : Nat} {op : Op} {ty : TypeId} {pos : String} {af : Array Edge} {v : Value} {j e : Nat} {b : Bool} (hj : (ops[j]?).bind (·.dst) = some e := by exact rfl) (hb : look l e = some (.bool b) := by exact rfl)
    (hr : ∀ w, S w → Does P l w op ty v w) (hd : Nat.blt d N = true := by exact rfl)
    (k : ∀ a', Fr N ((d, v) :: l) a' → wpMix P ops Q S restx a' w) : wpMix P ops Q S ((⟨some d, op, ty, pos, af, some (j, b)⟩, true) :: restx) a w :=
  ⟨v, .inl ⟨by simp [Region.wanted, yielded_of (ops := ops) h hj hb], fun w hw => hr w hw a.eval h.eval _ _ _ _⟩, k _ (h.put hd v)⟩
theorem x_stm (h : Fr N l a) {d : Nat} {op : Op} {ty : TypeId} {pos : String} {af : Array Edge} {j e : Nat} {b c : Bool} (hj : (ops[j]?).bind (·.dst) = some e := by exact rfl) (hb : look l e = some (.bool c) := by exact rfl) (hne : c = !b := by exact rfl) (hd : Nat.blt d N = true := by exact rfl)
    (k : ∀ a', Fr N ((d, undef) :: l) a' → wpMix P ops Q S restx a' w) : wpMix P ops Q S ((⟨some d, op, ty, pos, af, some (j, b)⟩, true) :: restx) a w :=
  ⟨undef, .inr ⟨by subst hne; simp [Region.wanted, yielded_of (ops := ops) h hj hb], rfl⟩, k _ (h.put hd _)⟩
theorem x_stu (h : Fr N l a) {d : Nat} {op : Op} {ty : TypeId} {pos : String} {af : Array Edge} {j e : Nat} {b : Bool} (hj : (ops[j]?).bind (·.dst) = some e := by exact rfl) (hb : look l e = some undef := by exact rfl) (hd : Nat.blt d N = true := by exact rfl)
    (k : ∀ a', Fr N ((d, undef) :: l) a' → wpMix P ops Q S restx a' w) : wpMix P ops Q S ((⟨some d, op, ty, pos, af, some (j, b)⟩, true) :: restx) a w :=
  ⟨undef, .inr ⟨by simp [Region.wanted, yielded_undef (ops := ops) h hj hb], rfl⟩, k _ (h.put hd _)⟩
theorem x_one {o : Oper} (h : wpList P ops (fun e a' w' => e = .normal ∧ S w' ∧ wpMix P ops Q S restx a' w') [o] a w) : wpMix P ops Q S ((o, false) :: restx) a w := h
end
end
end Go.Proofs.YtjomihhpglojpaaDoor
end
