/- Laid together by a program of mine: Nm NmR Word MapW. -/
import Derived.Test.YtjomihhpglojpaaGreatDoorSumLawDatabaseS4
import Derived.Test.YtjomihhpglojpaaGreatDoorSumLawDatabaseS2
import Derived.Test.YtjomihhpglojpaaGreatDoorSumLawDatabaseS3
import Derived.Maps.Views
import Derived.Maps.OwnSet
import Derived.Carry
set_option linter.unusedSimpArgs false
set_option linter.unusedVariables false
section
/- Names: what the program's Name and the reference's compute. -/
namespace Go.Proofs.YtjomihhpglojpaaGreatDoor
open Go.RowKit
set_option linter.unusedSimpArgs false
set_option linter.unusedVariables false
attribute [local irreducible] wpList wpQuiet wpStill Code.wp Exit.then Exit.inBlock bodyPost Calls Does Does0

namespace Pl
/-- May a unit begin a name? -/
def letter (r : Int) : Bool := decide ((97 ≤ r ∧ r ≤ 122) ∨ (65 ≤ r ∧ r ≤ 90) ∨ r = 95)
/-- May it stand there? -/
def okAt (first : Bool) (r : Int) : Bool := letter r || (!first && decide (48 ≤ r ∧ r ≤ 57))
def okName (s : ByteArray) : Prop := ∀ j (h : j < s.size), okAt (decide (j = 0)) (s[j].toNat : Int) = true
instance (s : ByteArray) : Decidable (okName s) := by unfold okName; infer_instance
def name (s : ByteArray) : Bool := decide (1 ≤ s.size ∧ s.size ≤ 64 ∧ okName s)
theorem name_false {s : ByteArray} (j : Nat) (h : j < s.size) (hb : okAt (decide (j = 0)) (s[j].toNat : Int) = false) : name s = false := by
  unfold name
  refine decide_eq_false fun x => ?_
  have := x.2.2 j h
  rw [hb] at this
  cases this
end Pl

set_option maxHeartbeats 2000000 in
theorem letter_ok (w : World) (r : Int) : Ret Tryz.prog 89 #[.int .i32 r] w (fun v w' => v = .bool (Pl.letter r) ∧ w' = w) := by
  refine enter1 Tryz.func89 rfl 20 rfl 21 rfl (fun a hF => ?_)
  repeat' (first | refine ret1 hF rfl rfl ⟨by unfold Pl.letter; first | rw [decide_eq_true (by omega)] | rw [decide_eq_false (by omega)], rfl⟩ | refine c_seq ?_ | refine c_region _ ?_ | refine wpList_nil ?_ | refine c_then ?_ | refine wp_ret ?_ | ((first | apply st hF | apply stg hF); (first | exact d_move | exact d_assign | exact d_pickT | exact d_pickF | exact d_cmpT | exact d_cmpF); clear hF; clear a; intro a hF) | ((first | apply stm hF | apply stu hF); clear hF; clear a; intro a hF) | ((first | refine st_split hF (kT := ?_) (kF := ?_) | refine stg_split hF (kT := ?_) (kF := ?_)) <;> (intro hsp; simp only [decide_eq_true_eq, decide_eq_false_iff_not, beq_iff_eq, beq_eq_false_iff_ne, bne_iff_ne, ne_eq, bne_eq_false_iff_eq] at hsp; clear hF; clear a; intro a hF)))

set_option maxHeartbeats 2000000 in
theorem name_ok (w : World) (s : ByteArray) : Ret Tryz.prog 63 #[.string s] w (fun v w' => v = .bool (Pl.name s) ∧ Below w.heap.size w w') := by
  refine enter1 Tryz.func63 rfl 32 rfl 33 rfl (fun a hF => ?_)
  repeat (first | refine c_seq ?_ | refine c_region _ ?_ | refine wpList_nil ?_ | refine c_then ?_ | ((apply st hF); (first | exact d_move | exact d_assign); clear hF; clear a; intro a hF))
  refine st_range hF (und _ _ rfl) (k := fun a w1 hit hgr hsz1 hF => ?_)
  have hb1 : Below w.heap.size w w1 := (Below.refl _ w).grown hgr (Nat.le_refl _) (fun k hk => by cases hk)
  obtain ⟨r, hr⟩ : ∃ r, r = w.heap.size := ⟨_, rfl⟩
  rw [← hr] at hit hF
  repeat (first | refine c_block ?_ | refine wpList_nil ?_ | refine c_then ?_)
  refine c_loop (fun n a wr => ∃ k, k ≤ s.size ∧ n = s.size - k ∧ Fr 33 [(0, .string s), (6, .pointer (some ⟨r, 0, none⟩))] a ∧ IterAt wr r s k ∧
    (∀ j (h : j < s.size), j < k → Pl.okAt (decide (j = 0)) (s[j].toNat : Int) = true) ∧ Below w.heap.size w wr) s.size
    ⟨0, by omega, rfl, hF.keep' ⟨rfl, rfl, trivial⟩, hit, fun j _ h => absurd h (Nat.not_lt_zero _), hb1⟩ ?_
  clear hF a hit hb1 hgr hsz1 w1
  rintro n a wr ⟨k, hk, rfl, hF, hit, hok, hbel⟩
  by_cases hlt : k < s.size
  · repeat (first | refine c_seq ?_ | refine c_region _ ?_)
    refine st_next hF hit hlt (k := fun a w2 hit2 hgr2 hsz2 hF => ?_)
    have hb2 : Below w.heap.size w w2 := hbel.grown hgr2 hbel.size (fun k hk => by cases hk; omega)
    repeat (first | refine c_seq ?_ | refine c_block ?_ | refine c_region _ ?_ | refine wpList_nil ?_ | refine c_then ?_ | refine wp_skip ?_ | ((apply st hF); (first | exact d_move | exact d_assign | exact d_extract); clear hF; clear a; intro a hF) | (apply c_cond_t hF; exact rfl; first | exact rfl | assumption))
    refine stc hF (letter_ok w2 _) cal89 ⟨rfl, trivial⟩ (k := fun a v w3 hR hF => ?_)
    obtain ⟨rfl, rfl⟩ := hR
    by_cases ha : (s[k]'hlt).toNat < 128
    · rw [decode_ascii s k hlt ha] at hF hit2
      simp only at hF hit2
      generalize hc : ((s[k]'hlt).toNat : Int) = c at hF
      cases hL : Pl.letter c with
      | true =>
        rw [hL] at hF
        repeat (first | refine wpList_nil ?_ | refine c_then ?_ | refine c_in ?_ | refine wp_skip ?_ | ((apply st hF); (first | exact d_move | exact d_not | exact d_pickF); clear hF; clear a; intro a hF) | ((first | apply stm hF | apply stu hF); clear hF; clear a; intro a hF) | (apply c_cond_f hF; exact rfl; first | exact rfl | assumption))
        refine ⟨s.size - (k + 1), by omega, k + 1, by omega, rfl, hF.keep' ⟨rfl, rfl, trivial⟩, hit2, fun j hj hjk => ?_, hb2⟩
        by_cases e : j = k
        · subst e; rw [hc]; unfold Pl.okAt; rw [hL]; rfl
        · exact hok j hj (by omega)
      | false =>
        rw [hL] at hF
        by_cases hgood : k ≠ 0 ∧ 48 ≤ c ∧ c ≤ 57
        · repeat (first | refine wpList_nil ?_ | refine c_then ?_ | refine c_in ?_ | refine wp_skip ?_ | ((first | apply st hF | apply stg hF); (first | exact d_move | exact d_not | exact d_pickT | exact d_pickF | exact d_cmpF); clear hF; clear a; intro a hF) | (apply c_cond_f hF; exact rfl; first | exact rfl | assumption))
          refine ⟨s.size - (k + 1), by omega, k + 1, by omega, rfl, hF.keep' ⟨rfl, rfl, trivial⟩, hit2, fun j hj hjk => ?_, hb2⟩
          by_cases e : j = k
          · subst e; rw [hc]; unfold Pl.okAt; rw [hL, decide_eq_false hgood.1, decide_eq_true hgood.2]; rfl
          · exact hok j hj (by omega)
        · have hbad : Pl.name s = false := by
            refine Pl.name_false k hlt ?_
            rw [hc]; unfold Pl.okAt; rw [hL]
            by_cases e : k = 0
            · subst e; rfl
            · rw [decide_eq_false e, decide_eq_false (fun x => hgood ⟨e, x⟩)]; rfl
          repeat' (first | refine ret1 hF rfl rfl ⟨by rw [hbad], hb2⟩ | refine c_seq ?_ | refine c_region _ ?_ | refine wpList_nil ?_ | refine c_then ?_ | refine c_then_ret ?_ | refine c_in_ret ?_ | refine wp_ret ?_ | ((first | apply st hF | apply stg hF); (first | exact d_move | exact d_assign | exact d_not | exact d_pickT | exact d_pickF | exact d_cmpT); clear hF; clear a; intro a hF) | ((apply stm hF); clear hF; clear a; intro a hF) | (apply c_cond_t hF; exact rfl; first | exact rfl | assumption) | ((refine stg_split hF (kT := ?_) (kF := ?_)) <;> (intro hsp; simp only [decide_eq_true_eq, decide_eq_false_iff_not, beq_iff_eq, beq_eq_false_iff_ne, bne_iff_ne, ne_eq, bne_eq_false_iff_eq] at hsp; clear hF; clear a; intro a hF)))
    · have hh := decode_high s k hlt (by omega)
      have hnl : Pl.letter ((Utf8.decode s k).1 : Int) = false := by unfold Pl.letter; exact decide_eq_false (by omega)
      rw [hnl] at hF
      have hbad : Pl.name s = false := by
        refine Pl.name_false k hlt ?_
        unfold Pl.okAt Pl.letter
        rw [decide_eq_false (by omega), decide_eq_false (show ¬ (48 ≤ (s[k].toNat : Int) ∧ (s[k].toNat : Int) ≤ 57) by omega)]
        simp
      by_cases hk0 : k = 0
      all_goals
        repeat (first | refine c_seq ?_ | refine c_region _ ?_ | refine wpList_nil ?_ | refine c_then ?_ | refine c_then_ret ?_ | refine c_in_ret ?_ | refine wp_ret ?_ | ((first | apply st hF | apply stg hF); (first | exact d_move | exact d_assign | exact d_not | exact d_pickT | exact d_pickF | exact d_cmpT | exact d_cmpF); clear hF; clear a; intro a hF) | ((apply stm hF); clear hF; clear a; intro a hF) | (apply c_cond_t hF; exact rfl; first | exact rfl | assumption))
        exact ret1 hF rfl rfl ⟨by rw [hbad], hb2⟩
  · obtain rfl : k = s.size := by omega
    repeat (first | refine c_seq ?_ | refine c_region _ ?_)
    refine st_nextE hF hit hlt (k := fun a hF => ?_)
    have hn : Pl.name s = decide (1 ≤ s.size ∧ s.size ≤ 64) := by
      unfold Pl.name
      have : Pl.okName s := fun j h => hok j h h
      simp [this]
    by_cases h0 : s = ⟨#[]⟩
    · have hq : (!decide (s = ⟨#[]⟩)) = false := by rw [decide_eq_true h0]; rfl
      repeat (first | refine c_seq ?_ | refine c_region _ ?_ | refine wpList_nil ?_ | refine c_then ?_ | refine c_then_exit ?_ | refine c_in_hit ?_ | refine wp_exit ?_ | refine wp_ret ?_ | ((apply st hF); (first | exact d_move | exact d_assign | exact d_pickF | exact d_eqSF | exact d_extract); clear hF; clear a; intro a hF) | ((apply stm hF); clear hF; clear a; intro a hF) | (apply c_cond_f hF; exact rfl; first | exact rfl | assumption))
      refine ret1 hF rfl rfl ⟨?_, hbel⟩
      rw [hn]; subst h0; rfl
    · have hq : (!decide (s = ⟨#[]⟩)) = true := by rw [decide_eq_false h0]; rfl
      have hs : 1 ≤ s.size := by
        rcases Nat.eq_zero_or_pos s.size with e | e
        · exact absurd (ByteArray.ext (Array.eq_empty_of_size_eq_zero e)) h0
        · exact e
      repeat (first | refine c_seq ?_ | refine c_region _ ?_ | refine wpList_nil ?_ | refine c_then ?_ | refine c_then_exit ?_ | refine c_in_hit ?_ | refine wp_exit ?_ | refine wp_ret ?_ | ((first | apply st hF | apply stg hF); (first | exact d_move | exact d_assign | exact d_pickT | exact d_cmp | exact d_eqST | exact d_lens (und _ _ rfl) | exact d_extract); clear hF; clear a; intro a hF) | (apply c_cond_f hF; exact rfl; first | exact rfl | assumption))
      refine ret1 hF rfl rfl ⟨?_, hbel⟩
      rw [hn]
      congr 1
      exact decide_eq_decide.2 (by omega)

end Go.Proofs.YtjomihhpglojpaaGreatDoor
end
section
/- Names: what the reference's Name computes. -/
namespace Go.Proofs.YtjomihhpglojpaaGreatDoor
open Go.RowKit
set_option linter.unusedSimpArgs false
set_option linter.unusedVariables false
attribute [local irreducible] wpList wpQuiet wpStill Code.wp Exit.then Exit.inBlock bodyPost Calls Does Does0

set_option maxHeartbeats 4000000 in
theorem refName_ok (w : World) (s : ByteArray) : Ret Tryz.prog 78 #[.string s] w (fun v w' => v = .bool (Pl.name s) ∧ Dr w w') := by
  refine enter1 Tryz.func78 rfl 54 rfl 55 rfl (fun a hF => ?_)
  by_cases h1 : s.size < 1 ∨ 64 < s.size
  · have hbad : Pl.name s = false := by unfold Pl.name; exact decide_eq_false (by omega)
    by_cases h2 : s.size < 1
    all_goals
      repeat (first | refine c_seq ?_ | refine c_region _ ?_ | refine wpList_nil ?_ | refine c_then ?_ | refine c_then_ret ?_ | refine wp_ret ?_ | ((first | apply st hF | apply stg hF); (first | exact d_move | exact d_assign | exact d_pickT | exact d_pickF | exact d_cmpT | exact d_cmpF | exact d_lens (und _ _ rfl)); clear hF; clear a; intro a hF) | ((apply stm hF); clear hF; clear a; intro a hF) | (apply c_cond_t hF; exact rfl; first | exact rfl | assumption))
      exact ret1 hF rfl rfl ⟨by rw [hbad], Dr.refl _⟩
  repeat (first | refine c_seq ?_ | refine c_block ?_ | refine c_region _ ?_ | refine wpList_nil ?_ | refine c_then ?_ | refine wp_skip ?_ | ((first | apply st hF | apply stg hF); (first | exact d_move | exact d_assign | exact d_pickF | exact d_cmpF | exact d_lens (und _ _ rfl)); clear hF; clear a; intro a hF) | (apply c_cond_f hF; exact rfl; first | exact rfl | assumption))
  refine c_loop (fun n a wr => ∃ k, k ≤ s.size ∧ n = s.size - k ∧ Fr 55 [(0, .string s), (3, .int .i64 (k : Nat))] a ∧
    (∀ j (h : j < s.size), j < k → Pl.okAt (decide (j = 0)) (s[j].toNat : Int) = true) ∧ Dr w wr) s.size
    ⟨0, by omega, rfl, hF.keep' ⟨rfl, rfl, trivial⟩, fun j _ h => absurd h (Nat.not_lt_zero _), Dr.refl _⟩ ?_
  clear hF a
  rintro n a wr ⟨k, hk, rfl, hF, hok, hbel⟩
  by_cases hlt : k < s.size
  · have hbk : s[k]? = some s[k] := by simp [hlt]
    have hu : (s[k].toNat : Int) < 256 := by have := s[k].toNat_lt; omega
    by_cases hg : Pl.okAt (decide (k = 0)) (s[k].toNat : Int) = true
    · have hok' : ∀ j (h : j < s.size), j < k + 1 → Pl.okAt (decide (j = 0)) (s[j].toNat : Int) = true := by
        intro j hj hjk
        by_cases e : j = k
        · subst e; exact hg
        · exact hok j hj (by omega)
      unfold Pl.okAt Pl.letter at hg
      simp only [Bool.or_eq_true, Bool.and_eq_true, decide_eq_true_eq, Bool.not_eq_true', decide_eq_false_iff_not] at hg
      repeat' (first | refine ⟨s.size - (k + 1), by omega, k + 1, by omega, rfl, hF.keep' ⟨rfl, rfl, trivial⟩, hok', hbel⟩ | refine c_seq ?_ | refine c_block ?_ | refine c_region _ ?_ | refine wpList_nil ?_ | refine c_then ?_ | refine c_in ?_ | refine wp_skip ?_ | ((first | apply st hF | apply stg hF); (first | exact d_move | exact d_assign | exact d_not | exact d_pickT | exact d_pickF | exact d_add | exact d_cmpT | exact d_cmpF | exact d_lens (und _ _ rfl) | exact d_indexS (und _ _ rfl) hbk); clear hF; clear a; intro a hF) | ((first | apply stm hF | apply stu hF); clear hF; clear a; intro a hF) | (apply c_cond_t hF; exact rfl; first | exact rfl | assumption) | (apply c_cond_f hF; exact rfl; first | exact rfl | assumption) | ((first | refine st_split hF (kT := ?_) (kF := ?_) | refine stg_split hF (kT := ?_) (kF := ?_)) <;> (intro hsp; simp only [decide_eq_true_eq, decide_eq_false_iff_not, beq_iff_eq, beq_eq_false_iff_ne, bne_iff_ne, ne_eq, bne_eq_false_iff_eq] at hsp; clear hF; clear a; intro a hF)))
    · have hbad : Pl.name s = false := Pl.name_false k hlt (Bool.eq_false_iff.2 hg)
      unfold Pl.okAt Pl.letter at hg
      simp only [Bool.or_eq_true, Bool.and_eq_true, decide_eq_true_eq, Bool.not_eq_true', decide_eq_false_iff_not] at hg
      repeat' (first | refine ret1 hF rfl rfl ⟨by rw [hbad], hbel⟩ | refine c_seq ?_ | refine c_block ?_ | refine c_region _ ?_ | refine wpList_nil ?_ | refine c_then ?_ | refine c_then_ret ?_ | refine c_in_ret ?_ | refine wp_skip ?_ | refine wp_ret ?_ | ((first | apply st hF | apply stg hF); (first | exact d_move | exact d_assign | exact d_not | exact d_pickT | exact d_pickF | exact d_cmpT | exact d_cmpF | exact d_lens (und _ _ rfl) | exact d_indexS (und _ _ rfl) hbk); clear hF; clear a; intro a hF) | ((apply stm hF); clear hF; clear a; intro a hF) | (apply c_cond_t hF; exact rfl; first | exact rfl | assumption) | ((first | refine st_split hF (kT := ?_) (kF := ?_) | refine stg_split hF (kT := ?_) (kF := ?_)) <;> (intro hsp; simp only [decide_eq_true_eq, decide_eq_false_iff_not, beq_iff_eq, beq_eq_false_iff_ne, bne_iff_ne, ne_eq, bne_eq_false_iff_eq] at hsp; clear hF; clear a; intro a hF)))
  · obtain rfl : k = s.size := by omega
    have hn : Pl.name s = true := decide_eq_true ⟨by omega, by omega, fun j h => hok j h h⟩
    repeat (first | refine c_seq ?_ | refine c_region _ ?_ | refine wpList_nil ?_ | refine c_then ?_ | refine c_then_exit ?_ | refine c_in_hit ?_ | refine wp_exit ?_ | refine wp_ret ?_ | ((apply st hF); (first | exact d_move | exact d_assign | exact d_cmpF | exact d_lens (und _ _ rfl)); clear hF; clear a; intro a hF) | (apply c_cond_f hF; exact rfl; first | exact rfl | assumption))
    exact ret1 hF rfl rfl ⟨by rw [hn], hbel⟩
end Go.Proofs.YtjomihhpglojpaaGreatDoor
end
section
/- Words: what the program's word and the reference's Word answer. -/
namespace Go.Proofs.YtjomihhpglojpaaGreatDoor
open Go.RowKit
set_option linter.unusedSimpArgs false
set_option linter.unusedVariables false
attribute [local irreducible] wpList wpQuiet wpStill Code.wp Exit.then Exit.inBlock bodyPost Calls Does Does0
def kw : List ByteArray := [⟨#[86, 69, 82, 83, 73, 79, 78]⟩, ⟨#[66, 85, 95]⟩, ⟨#[66, 79, 95]⟩, ⟨#[83, 71, 95]⟩, ⟨#[86, 65, 76, 95]⟩, ⟨#[67, 77, 95]⟩]
def wordB (s : ByteArray) : Bool := !(kw.any fun k => decide (s = k)) && Pl.name s
theorem wordB_in {s : ByteArray} (h : s ∈ kw) : wordB s = false := by
  have : (kw.any fun k => decide (s = k)) = true := List.any_eq_true.2 ⟨s, h, decide_eq_true rfl⟩
  unfold wordB; rw [this]; rfl
theorem wordB_out {s : ByteArray} (h : s ∉ kw) : wordB s = Pl.name s := by
  have : (kw.any fun k => decide (s = k)) = false := by
    rw [Bool.eq_false_iff]
    intro h2
    obtain ⟨k, hk, e⟩ := List.any_eq_true.1 h2
    exact h (by rw [of_decide_eq_true e]; exact hk)
  unfold wordB; rw [this]; simp
theorem wordB_name {s : ByteArray} (h : Pl.name s = false) : wordB s = false := by unfold wordB; rw [h, Bool.and_false]
set_option maxHeartbeats 4000000 in
theorem word_ok' (w : World) (s : ByteArray) : Ret Tryz.prog 34 [.string s].toArray w (fun v w' => v = .bool (wordB s) ∧ Below w.heap.size w w') := by
  refine enter1 Tryz.func34 rfl 12 rfl 13 rfl (fun a hF => ?_)
  cases h1 : decide (s = ⟨#[86, 69, 82, 83, 73, 79, 78]⟩) with
  | true =>
    repeat (first | refine c_seq ?_ | refine c_block ?_ | refine c_region _ ?_ | refine wpList_nil ?_ | refine c_then ?_ | refine c_then_ret ?_ | refine c_in_ret ?_ | refine wp_skip ?_ | refine wp_ret ?_ | ((apply st hF); (first | exact d_move | exact d_assign | exact d_eqST); clear hF; clear a; intro a hF) | (apply c_cond_t hF; exact rfl; first | exact rfl | assumption))
    exact ret1 hF rfl rfl ⟨by rw [wordB_in (by rw [of_decide_eq_true h1]; simp [kw])], Below.refl _ w⟩
  | false =>
  cases h2 : decide (s = ⟨#[66, 85, 95]⟩) with
  | true =>
    repeat (first | refine c_seq ?_ | refine c_block ?_ | refine c_region _ ?_ | refine wpList_nil ?_ | refine c_then ?_ | refine c_then_ret ?_ | refine c_in_ret ?_ | refine wp_skip ?_ | refine wp_ret ?_ | ((apply st hF); (first | exact d_move | exact d_assign | exact d_eqST | exact d_eqSF); clear hF; clear a; intro a hF) | (apply c_cond_t hF; exact rfl; first | exact rfl | assumption) | (apply c_cond_f hF; exact rfl; first | exact rfl | assumption))
    exact ret1 hF rfl rfl ⟨by rw [wordB_in (by rw [of_decide_eq_true h2]; simp [kw])], Below.refl _ w⟩
  | false =>
  cases h3 : decide (s = ⟨#[66, 79, 95]⟩) with
  | true =>
    repeat (first | refine c_seq ?_ | refine c_block ?_ | refine c_region _ ?_ | refine wpList_nil ?_ | refine c_then ?_ | refine c_then_ret ?_ | refine c_in_ret ?_ | refine wp_skip ?_ | refine wp_ret ?_ | ((apply st hF); (first | exact d_move | exact d_assign | exact d_eqST | exact d_eqSF); clear hF; clear a; intro a hF) | (apply c_cond_t hF; exact rfl; first | exact rfl | assumption) | (apply c_cond_f hF; exact rfl; first | exact rfl | assumption))
    exact ret1 hF rfl rfl ⟨by rw [wordB_in (by rw [of_decide_eq_true h3]; simp [kw])], Below.refl _ w⟩
  | false =>
  cases h4 : decide (s = ⟨#[83, 71, 95]⟩) with
  | true =>
    repeat (first | refine c_seq ?_ | refine c_block ?_ | refine c_region _ ?_ | refine wpList_nil ?_ | refine c_then ?_ | refine c_then_ret ?_ | refine c_in_ret ?_ | refine wp_skip ?_ | refine wp_ret ?_ | ((apply st hF); (first | exact d_move | exact d_assign | exact d_eqST | exact d_eqSF); clear hF; clear a; intro a hF) | (apply c_cond_t hF; exact rfl; first | exact rfl | assumption) | (apply c_cond_f hF; exact rfl; first | exact rfl | assumption))
    exact ret1 hF rfl rfl ⟨by rw [wordB_in (by rw [of_decide_eq_true h4]; simp [kw])], Below.refl _ w⟩
  | false =>
  cases h5 : decide (s = ⟨#[86, 65, 76, 95]⟩) with
  | true =>
    repeat (first | refine c_seq ?_ | refine c_block ?_ | refine c_region _ ?_ | refine wpList_nil ?_ | refine c_then ?_ | refine c_then_ret ?_ | refine c_in_ret ?_ | refine wp_skip ?_ | refine wp_ret ?_ | ((apply st hF); (first | exact d_move | exact d_assign | exact d_eqST | exact d_eqSF); clear hF; clear a; intro a hF) | (apply c_cond_t hF; exact rfl; first | exact rfl | assumption) | (apply c_cond_f hF; exact rfl; first | exact rfl | assumption))
    exact ret1 hF rfl rfl ⟨by rw [wordB_in (by rw [of_decide_eq_true h5]; simp [kw])], Below.refl _ w⟩
  | false =>
  cases h6 : decide (s = ⟨#[67, 77, 95]⟩) with
  | true =>
    repeat (first | refine c_seq ?_ | refine c_block ?_ | refine c_region _ ?_ | refine wpList_nil ?_ | refine c_then ?_ | refine c_then_ret ?_ | refine c_in_ret ?_ | refine wp_ret ?_ | ((apply st hF); (first | exact d_move | exact d_assign | exact d_eqST | exact d_eqSF); clear hF; clear a; intro a hF) | (apply c_cond_t hF; exact rfl; first | exact rfl | assumption) | (apply c_cond_f hF; exact rfl; first | exact rfl | assumption))
    exact ret1 hF rfl rfl ⟨by rw [wordB_in (by rw [of_decide_eq_true h6]; simp [kw])], Below.refl _ w⟩
  | false =>
    repeat (first | refine c_seq ?_ | refine c_block ?_ | refine c_region _ ?_ | refine wpList_nil ?_ | refine c_then ?_ | refine c_in ?_ | refine wp_skip ?_ | ((apply st hF); (first | exact d_move | exact d_assign | exact d_eqSF); clear hF; clear a; intro a hF) | (apply c_cond_f hF; exact rfl; first | exact rfl | assumption))
    refine stc hF (name_ok w s) cal63 ⟨rfl, trivial⟩ (k := fun a v w1 hR hF => ?_)
    obtain ⟨rfl, hb⟩ := hR
    repeat (first | refine wpList_nil ?_ | refine c_then ?_ | refine wp_ret ?_ | ((apply st hF); (exact d_assign); clear hF; clear a; intro a hF))
    have ho : s ∉ kw := by
      intro h
      simp only [kw, List.mem_cons, List.mem_nil_iff, or_false] at h
      rcases h with h | h | h | h | h | h
      · exact of_decide_eq_false h1 h
      · exact of_decide_eq_false h2 h
      · exact of_decide_eq_false h3 h
      · exact of_decide_eq_false h4 h
      · exact of_decide_eq_false h5 h
      · exact of_decide_eq_false h6 h
    exact ret1 hF rfl rfl ⟨by rw [wordB_out ho], hb⟩
theorem bnt {s u : ByteArray} {b : Bool} (h : decide (s = u) = b) : (!decide (s = u)) = !b := by rw [h]
set_option maxHeartbeats 4000000 in
theorem rword_ok' (w : World) (s : ByteArray) : Ret Tryz.prog 51 [.string s].toArray w (fun v w' => v = .bool (wordB s) ∧ Below w.heap.size w w') := by
  refine enter1 Tryz.func51 rfl 28 rfl 29 rfl (fun a hF => ?_)
  repeat (first | refine c_seq ?_ | refine c_region _ ?_ | refine wpList_nil ?_ | refine c_then ?_ | ((apply st hF); (first | exact d_move | exact d_assign); clear hF; clear a; intro a hF))
  refine stc hF (refName_ok w s) cal78 ⟨rfl, trivial⟩ (k := fun a v w1 hR hF => ?_)
  obtain ⟨rfl, hdr⟩ := hR
  have hb : Below w.heap.size w w1 := hdr.below _
  cases hn : Pl.name s with
  | false =>
    rw [hn] at hF
    repeat (first | refine wpList_nil ?_ | refine c_then ?_ | refine wp_ret ?_ | ((apply st hF); (first | exact d_move | exact d_assign | exact d_pickF); clear hF; clear a; intro a hF) | ((apply stm hF); clear hF; clear a; intro a hF))
    exact ret1 hF rfl rfl ⟨by rw [wordB_name hn], hb⟩
  | true =>
  rw [hn] at hF
  cases h1 : decide (s = ⟨#[86, 69, 82, 83, 73, 79, 78]⟩) with
  | true =>
    have g1 := bnt h1
    simp only [Bool.not_true] at g1
    repeat (first | refine wpList_nil ?_ | refine c_then ?_ | refine wp_ret ?_ | ((first | apply st hF | apply stg hF); (first | exact d_move | exact d_assign | exact d_pickT | exact d_pickF | exact d_eqSF); clear hF; clear a; intro a hF) | ((apply stm hF); clear hF; clear a; intro a hF))
    exact ret1 hF rfl rfl ⟨by rw [wordB_in (by rw [of_decide_eq_true h1]; simp [kw])], hb⟩
  | false =>
  have g1 := bnt h1
  cases h2 : decide (s = ⟨#[66, 85, 95]⟩) with
  | true =>
    have g2 := bnt h2
    simp only [Bool.not_true, Bool.not_false] at g1 g2
    repeat (first | refine wpList_nil ?_ | refine c_then ?_ | refine wp_ret ?_ | ((first | apply st hF | apply stg hF); (first | exact d_move | exact d_assign | exact d_pickT | exact d_pickF | exact d_eqST | exact d_eqSF); clear hF; clear a; intro a hF) | ((apply stm hF); clear hF; clear a; intro a hF))
    exact ret1 hF rfl rfl ⟨by rw [wordB_in (by rw [of_decide_eq_true h2]; simp [kw])], hb⟩
  | false =>
  have g2 := bnt h2
  cases h3 : decide (s = ⟨#[66, 79, 95]⟩) with
  | true =>
    have g3 := bnt h3
    simp only [Bool.not_true, Bool.not_false] at g1 g2 g3
    repeat (first | refine wpList_nil ?_ | refine c_then ?_ | refine wp_ret ?_ | ((first | apply st hF | apply stg hF); (first | exact d_move | exact d_assign | exact d_pickT | exact d_pickF | exact d_eqST | exact d_eqSF); clear hF; clear a; intro a hF) | ((apply stm hF); clear hF; clear a; intro a hF))
    exact ret1 hF rfl rfl ⟨by rw [wordB_in (by rw [of_decide_eq_true h3]; simp [kw])], hb⟩
  | false =>
  have g3 := bnt h3
  cases h4 : decide (s = ⟨#[83, 71, 95]⟩) with
  | true =>
    have g4 := bnt h4
    simp only [Bool.not_true, Bool.not_false] at g1 g2 g3 g4
    repeat (first | refine wpList_nil ?_ | refine c_then ?_ | refine wp_ret ?_ | ((first | apply st hF | apply stg hF); (first | exact d_move | exact d_assign | exact d_pickT | exact d_pickF | exact d_eqST | exact d_eqSF); clear hF; clear a; intro a hF) | ((apply stm hF); clear hF; clear a; intro a hF))
    exact ret1 hF rfl rfl ⟨by rw [wordB_in (by rw [of_decide_eq_true h4]; simp [kw])], hb⟩
  | false =>
  have g4 := bnt h4
  cases h5 : decide (s = ⟨#[86, 65, 76, 95]⟩) with
  | true =>
    have g5 := bnt h5
    simp only [Bool.not_true, Bool.not_false] at g1 g2 g3 g4 g5
    repeat (first | refine wpList_nil ?_ | refine c_then ?_ | refine wp_ret ?_ | ((first | apply st hF | apply stg hF); (first | exact d_move | exact d_assign | exact d_pickT | exact d_pickF | exact d_eqST | exact d_eqSF); clear hF; clear a; intro a hF) | ((apply stm hF); clear hF; clear a; intro a hF))
    exact ret1 hF rfl rfl ⟨by rw [wordB_in (by rw [of_decide_eq_true h5]; simp [kw])], hb⟩
  | false =>
  have g5 := bnt h5
  cases h6 : decide (s = ⟨#[67, 77, 95]⟩) with
  | true =>
    have g6 := bnt h6
    simp only [Bool.not_true, Bool.not_false] at g1 g2 g3 g4 g5 g6
    repeat (first | refine wpList_nil ?_ | refine c_then ?_ | refine wp_ret ?_ | ((first | apply st hF | apply stg hF); (first | exact d_move | exact d_assign | exact d_pickT | exact d_eqST | exact d_eqSF); clear hF; clear a; intro a hF))
    exact ret1 hF rfl rfl ⟨by rw [wordB_in (by rw [of_decide_eq_true h6]; simp [kw])], hb⟩
  | false =>
  have g6 := bnt h6
  simp only [Bool.not_true, Bool.not_false] at g1 g2 g3 g4 g5 g6
  repeat (first | refine wpList_nil ?_ | refine c_then ?_ | refine wp_ret ?_ | ((first | apply st hF | apply stg hF); (first | exact d_move | exact d_assign | exact d_pickT | exact d_eqST); clear hF; clear a; intro a hF))
  have ho : s ∉ kw := by
    intro h
    simp only [kw, List.mem_cons, List.mem_nil_iff, or_false] at h
    rcases h with h | h | h | h | h | h
    · exact of_decide_eq_false h1 h
    · exact of_decide_eq_false h2 h
    · exact of_decide_eq_false h3 h
    · exact of_decide_eq_false h4 h
    · exact of_decide_eq_false h5 h
    · exact of_decide_eq_false h6 h
  exact ret1 hF rfl rfl ⟨by rw [wordB_out ho, hn], hb⟩
end Go.Proofs.YtjomihhpglojpaaGreatDoor
end
section
/- Maps of the call's own: the operations, and sets of texts. Plain lemmas over any program. -/
namespace Go.Proofs.YtjomihhpglojpaaGreatDoor
open Go.RowKit
open Go.Maps (Keyed IsMap)
section
variable {P : Program} {ops : Array Oper} {Q : Exit → Act → World → Prop} {rest : List Oper} {a : Act} {w w' : World} {N : Nat} {l : List (Nat × Value)}
theorem d_makeMap {t k e ty : TypeId} (hU : P.underlying t = some (.map k e)) : Does P l w (.makeMap t none) ty (.map (some w.heap.size)) (w.alloc (.map #[] 0)) := by
  intro ρ hρ d pos af g
  simp [execOp, run_makeMap]
theorem d_makeMapR {t k e ty : TypeId} {x : Operand} {q : IntKind} {n : Int} (hU : P.underlying t = some (.map k e)) (hx : Ev l x (.int q n) := by exact rfl) : Does P l w (.makeMap t (some x)) ty (.map (some w.heap.size)) (w.alloc (.map #[] 0)) := by
  intro ρ hρ d pos af g
  have e1 : (Instr.makeMap t (some (.int q n))).run P w = (Instr.makeMap t none).run P w := by simp [Instr.makeMap, run_underlying hU, asInt, asIntOf]
  simp [execOp, hρ _ _ hx, e1, run_makeMap]
theorem d_lookup {t ty : TypeId} {m x : Operand} {mv key v : Value} {c : Bool} (hr : (Instr.lookup t mv key c).run P w = .ok v w) (hm : Ev l m mv := by exact rfl) (hx : Ev l x key := by exact rfl) : Does P l w (.lookup t m x c) ty v w := by
  intro ρ hρ d pos af g
  simp [execOp, hρ _ _ hm, hρ _ _ hx, hr]
theorem d_mapUpdate {t ty : TypeId} {m x y : Operand} {mv key v : Value} (hr : (Instr.mapUpdate t mv key v).run P w = .ok () w') (hm : Ev l m mv := by exact rfl) (hx : Ev l x key := by exact rfl) (hy : Ev l y v := by exact rfl) : Does0 P l w (.mapUpdate t m x y) ty w' := by
  intro ρ hρ d pos af g
  simp [execOp, hρ _ _ hm, hρ _ _ hx, hρ _ _ hy, hr]
/-! ### a set of texts -/
def keyS (s : ByteArray) : Lit := .string s.data.toList
theorem keyS_inj {s t : ByteArray} (h : keyS s = keyS t) : s = t := by
  unfold keyS at h
  injection h with h
  apply ByteArray.ext
  exact Array.toList_inj.1 h
/-- The map that says of these texts: there. -/
def ksD : List ByteArray → DataW Unit
  | [] => .map []
  | k :: r => (ksD r).put (keyS k) (.lit (.bool true))
theorem ksD_map : ∀ ks, IsMap (ksD ks)
  | [] => ⟨_, rfl⟩
  | k :: r => by
    obtain ⟨es, h⟩ := ksD_map r
    unfold ksD
    rw [h]
    exact ⟨_, rfl⟩
theorem ksD_at (t : ByteArray) : ∀ ks, (ksD ks).atKey (keyS t) (.lit (.bool false)) = .lit (.bool (ks.any fun k => decide (t = k)))
  | [] => rfl
  | k :: r => by
    unfold ksD
    by_cases e : t = k
    · subst e
      rw [Maps.atKey_put_same (ksD_map r) (by trivial)]
      simp
    · rw [Maps.atKey_put_other (fun h => e (keyS_inj h)), ksD_at t r]
      simp [e]
/-- Block b is a map of the call's own: the texts ks are there. -/
def SetM (P : Program) (k e : TypeId) (w : World) (b : Nat) (ks : List ByteArray) : Prop := w.ownsMap P k (plainElem P e) b ks.length (ksD ks)
theorem SetM.new {k e : TypeId} (w : World) : SetM P k e (w.alloc (.map #[] 0)) w.heap.size [] := World.ownsMap_made w P k _
theorem SetM.kept {k e : TypeId} {b : Nat} {ks : List ByteArray} {row : Option Nat} (h : SetM P k e w b ks) (hg : w.grownBy w' row) (hne : some b ≠ row) : SetM P k e w' b ks := World.ownsMap.kept h hg hne
theorem SetM.lt {k e : TypeId} {b : Nat} {ks : List ByteArray} (h : SetM P k e w b ks) : b < w.heap.size := World.ownsMap.lt h
theorem SetM.below {k e : TypeId} {b : Nat} {ks : List ByteArray} (h : SetM P k e w b ks) (hb : Below w.heap.size w w') : SetM P k e w' b ks := by
  have hlt := h.lt
  obtain ⟨es, clock, h1, h2⟩ := h
  exact ⟨es, clock, (hb.block b hlt).trans h1, h2⟩
theorem key_string {k : TypeId} (hk : P.underlying k = some .string) (s : ByteArray) (hs : s.size ≤ maxLen) : keyOf P k (.string s) = some (keyS s) := by
  simp [keyOf, hk, hs, keyS, mapKey]
theorem SetM.look {t k e : TypeId} {b : Nat} {ks : List ByteArray} (h : SetM P k e w b ks) (ht : P.underlying t = some (.map k e)) (hk : P.underlying k = some .string) (he : P.underlying e = some .bool) (hz : (zeroValue e).run P w = .ok (.bool false) w) (s : ByteArray) (hs : s.size ≤ maxLen) :
    (Instr.lookup t (.map (some b)) (.string s) false).run P w = .ok (.bool (ks.any fun k => decide (s = k))) w := by
  obtain ⟨v, ps, hr, hv⟩ := World.ownsMap.lookup h (Maps.string_keyed hk) ht hz (plainElem_bool he false) (key_string hk s hs)
  rw [ksD_at] at hv
  unfold plainElem at hv
  rw [he] at hv
  cases v <;> simp at hv
  rw [hr, hv.1]
theorem SetM.put {t k e : TypeId} {b : Nat} {ks : List ByteArray} (h : SetM P k e w b ks) (ht : P.underlying t = some (.map k e)) (hk : P.underlying k = some .string) (he : P.underlying e = some .bool) (s : ByteArray) (hs : s.size ≤ maxLen) (hn : ks.length < maxLen) :
    ∃ w', (Instr.mapUpdate t (.map (some b)) (.string s) (.bool true)).run P w = .ok () w' ∧ SetM P k e w' b (s :: ks) ∧ w.grownBy w' (some b) ∧ w'.heap.size = w.heap.size := by
  obtain ⟨w', hr, ho, ht2⟩ := World.ownsMap.store (P := P) (w := w) (b := b) (k := k) (R := plainElem P e) h (Maps.string_keyed hk) ht hn (key_string hk s hs) (plainElem_bool he true)
  refine ⟨w', hr, ho, ht2.grown, ?_⟩
  obtain ⟨_, _, _, _, _, rfl⟩ := ht2
  simp [Go.ChangeMaps.setBlock]
end
end Go.Proofs.YtjomihhpglojpaaGreatDoor
end
