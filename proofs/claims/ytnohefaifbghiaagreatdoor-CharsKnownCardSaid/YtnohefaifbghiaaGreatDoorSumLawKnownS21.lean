/- Laid together by a program of mine: Plain KnownA AsF. -/
import Derived.Test.YtnohefaifbghiaaGreatDoorSumLawKnownS16
import Derived.Test.YtnohefaifbghiaaGreatDoorSumLawKnownS12
import Derived.Test.YtnohefaifbghiaaGreatDoorSumLawKnownS11
import Derived.Test.YtnohefaifbghiaaGreatDoorSumLawKnownS20
import Derived.Test.YtnohefaifbghiaaGreatDoorSumLawKnownS14
import Derived.Test.YtnohefaifbghiaaGreatDoorSumLawKnownS8
import Derived.Test.YtnohefaifbghiaaGreatDoorSumLawKnownS19
set_option linter.unusedSimpArgs false
set_option linter.unusedVariables false
section
/- busbarkit.Plain: of no error, and of a plain number. -/
namespace Go.Proofs.YtnohefaifbghiaaGreatDoor
open Go.RowKit
set_option linter.unusedSimpArgs false
set_option linter.unusedVariables false
attribute [local irreducible] wpList wpQuiet wpStill Code.wp Exit.then Exit.inBlock bodyPost Calls Does Does0

theorem plain_nil (w : World) : Ret Tryz.prog 8 #[.nilIface, .int .i64 0] w (fun v w' => v = .bool true ∧ Below w.heap.size w w') := by
  refine enter2 Tryz.func8 rfl 18 rfl 20 rfl (fun a hF => ?_)
  repeat (first | refine c_seq ?_ | refine c_block ?_ | refine c_region _ ?_ | refine wpList_nil ?_ | refine c_then ?_ | refine c_then_exit ?_ | refine c_then_ret ?_ | refine c_in ?_ | refine c_in_ret ?_ | refine c_in_hit ?_ | refine wp_skip ?_ | refine wp_exit ?_ | refine wp_ret ?_ | refine c_in_miss rfl ?_ | ((first | apply st hF | apply stg hF | apply s_step hF | apply s_stg hF); (first | exact d_move | exact d_assign | exact d_not | exact d_pickT | exact d_pickF | exact d_cmpT | exact d_cmpF | exact d_cmp | exact d_eqbT (und _ _ rfl) | exact d_eqbF (und _ _ rfl) | exact d_eqb (und _ _ rfl) | exact d_eqST | exact d_eqSF | exact d_eqS | exact d_eqN (ifc _ rfl) | exact d_neN (ifc _ rfl) | exact d_makeI (con _ rfl)); clear hF; clear a; intro a hF) | ((first | apply stm hF | apply stu hF); clear hF; clear a; intro a hF) | (apply c_cond_t hF; exact rfl; first | exact rfl | assumption) | (apply c_cond_f hF; exact rfl; first | exact rfl | assumption) | refine s_nil ?_)
  refine st_alloc hF inf47 (k := fun a w1 hg1 hgr1 hsz1 hF => ?_)
  have hb1 : Below w.heap.size w w1 := (Below.refl _ w).grown hgr1 (Nat.le_refl _) (fun k hk => by cases hk)
  repeat (first | refine c_seq ?_ | refine c_block ?_ | refine c_region _ ?_ | refine wpList_nil ?_ | refine c_then ?_ | refine c_then_exit ?_ | refine c_then_ret ?_ | refine c_in ?_ | refine c_in_ret ?_ | refine c_in_hit ?_ | refine wp_skip ?_ | refine wp_exit ?_ | refine wp_ret ?_ | refine c_in_miss rfl ?_ | ((first | apply st hF | apply stg hF | apply s_step hF | apply s_stg hF); (first | exact d_move | exact d_assign | exact d_not | exact d_pickT | exact d_pickF | exact d_cmpT | exact d_cmpF | exact d_cmp | exact d_eqbT (und _ _ rfl) | exact d_eqbF (und _ _ rfl) | exact d_eqb (und _ _ rfl) | exact d_eqST | exact d_eqSF | exact d_eqS | exact d_eqN (ifc _ rfl) | exact d_neN (ifc _ rfl) | exact d_makeI (con _ rfl)); clear hF; clear a; intro a hF) | ((first | apply stm hF | apply stu hF); clear hF; clear a; intro a hF) | (apply c_cond_t hF; exact rfl; first | exact rfl | assumption) | (apply c_cond_f hF; exact rfl; first | exact rfl | assumption) | refine s_nil ?_)
  refine stc hF (num_nil w1) cal9 ⟨rfl, trivial⟩ (k := fun a v w2 hR hF => ?_)
  obtain ⟨rfl, rfl⟩ := hR
  repeat (first | refine c_seq ?_ | refine c_block ?_ | refine c_region _ ?_ | refine wpList_nil ?_ | refine c_then ?_ | refine c_then_exit ?_ | refine c_then_ret ?_ | refine c_in ?_ | refine c_in_ret ?_ | refine c_in_hit ?_ | refine wp_skip ?_ | refine wp_exit ?_ | refine wp_ret ?_ | refine c_in_miss rfl ?_ | ((first | apply st hF | apply stg hF | apply s_step hF | apply s_stg hF); (first | exact d_move | exact d_assign | exact d_not | exact d_pickT | exact d_pickF | exact d_cmpT | exact d_cmpF | exact d_cmp | exact d_eqbT (und _ _ rfl) | exact d_eqbF (und _ _ rfl) | exact d_eqb (und _ _ rfl) | exact d_eqST | exact d_eqSF | exact d_eqS | exact d_eqN (ifc _ rfl) | exact d_neN (ifc _ rfl) | exact d_makeI (con _ rfl)); clear hF; clear a; intro a hF) | ((first | apply stm hF | apply stu hF); clear hF; clear a; intro a hF) | (apply c_cond_t hF; exact rfl; first | exact rfl | assumption) | (apply c_cond_f hF; exact rfl; first | exact rfl | assumption) | refine s_nil ?_)
  exact ret1 hF rfl rfl ⟨rfl, hb1⟩
theorem plain_ok (w : World) (k : Int) (hg : Handle w) (h1 : 1 ≤ k) (h2 : k ≤ 26) : Ret Tryz.prog 8 #[.iface 38 (.int .i64 k), .int .i64 k] w (fun v w' => v = .bool true ∧ Below w.heap.size w w') := by
  refine enter2 Tryz.func8 rfl 18 rfl 20 rfl (fun a hF => ?_)
  repeat (first | refine c_seq ?_ | refine c_block ?_ | refine c_region _ ?_ | refine wpList_nil ?_ | refine c_then ?_ | refine c_then_exit ?_ | refine c_then_ret ?_ | refine c_in ?_ | refine c_in_ret ?_ | refine c_in_hit ?_ | refine wp_skip ?_ | refine wp_exit ?_ | refine wp_ret ?_ | refine c_in_miss rfl ?_ | ((first | apply st hF | apply stg hF | apply s_step hF | apply s_stg hF); (first | exact d_move | exact d_assign | exact d_not | exact d_pickT | exact d_pickF | exact d_cmpT | exact d_cmpF | exact d_cmp | exact d_eqbT (und _ _ rfl) | exact d_eqbF (und _ _ rfl) | exact d_eqb (und _ _ rfl) | exact d_eqST | exact d_eqSF | exact d_eqS | exact d_eqN (ifc _ rfl) | exact d_neN (ifc _ rfl) | exact d_makeI (con _ rfl)); clear hF; clear a; intro a hF) | ((first | apply stm hF | apply stu hF); clear hF; clear a; intro a hF) | (apply c_cond_t hF; exact rfl; first | exact rfl | assumption) | (apply c_cond_f hF; exact rfl; first | exact rfl | assumption) | refine s_nil ?_)
  refine st_alloc hF inf47 (k := fun a w1 hg1 hgr1 hsz1 hF => ?_)
  have hb1 : Below w.heap.size w w1 := (Below.refl _ w).grown hgr1 (Nat.le_refl _) (fun k hk => by cases hk)
  repeat (first | refine c_seq ?_ | refine c_block ?_ | refine c_region _ ?_ | refine wpList_nil ?_ | refine c_then ?_ | refine c_then_exit ?_ | refine c_then_ret ?_ | refine c_in ?_ | refine c_in_ret ?_ | refine c_in_hit ?_ | refine wp_skip ?_ | refine wp_exit ?_ | refine wp_ret ?_ | refine c_in_miss rfl ?_ | ((first | apply st hF | apply stg hF | apply s_step hF | apply s_stg hF); (first | exact d_move | exact d_assign | exact d_not | exact d_pickT | exact d_pickF | exact d_cmpT | exact d_cmpF | exact d_cmp | exact d_eqbT (und _ _ rfl) | exact d_eqbF (und _ _ rfl) | exact d_eqb (und _ _ rfl) | exact d_eqST | exact d_eqSF | exact d_eqS | exact d_eqN (ifc _ rfl) | exact d_neN (ifc _ rfl) | exact d_makeI (con _ rfl)); clear hF; clear a; intro a hF) | ((first | apply stm hF | apply stu hF); clear hF; clear a; intro a hF) | (apply c_cond_t hF; exact rfl; first | exact rfl | assumption) | (apply c_cond_f hF; exact rfl; first | exact rfl | assumption) | refine s_nil ?_)
  refine stc hF (num_ok w1 k h1 h2) cal9 ⟨rfl, trivial⟩ (k := fun a v w2 hR hF => ?_)
  obtain ⟨rfl, rfl⟩ := hR
  repeat (first | refine c_seq ?_ | refine c_block ?_ | refine c_region _ ?_ | refine wpList_nil ?_ | refine c_then ?_ | refine c_then_exit ?_ | refine c_then_ret ?_ | refine c_in ?_ | refine c_in_ret ?_ | refine c_in_hit ?_ | refine wp_skip ?_ | refine wp_exit ?_ | refine wp_ret ?_ | refine c_in_miss rfl ?_ | ((first | apply st hF | apply stg hF | apply s_step hF | apply s_stg hF); (first | exact d_move | exact d_assign | exact d_not | exact d_pickT | exact d_pickF | exact d_cmpT | exact d_cmpF | exact d_cmp | exact d_eqbT (und _ _ rfl) | exact d_eqbF (und _ _ rfl) | exact d_eqb (und _ _ rfl) | exact d_eqST | exact d_eqSF | exact d_eqS | exact d_eqN (ifc _ rfl) | exact d_neN (ifc _ rfl) | exact d_makeI (con _ rfl)); clear hF; clear a; intro a hF) | ((first | apply stm hF | apply stu hF); clear hF; clear a; intro a hF) | (apply c_cond_t hF; exact rfl; first | exact rfl | assumption) | (apply c_cond_f hF; exact rfl; first | exact rfl | assumption) | refine s_nil ?_)
  refine stcg hF (as_miss w2 k ⟨w.heap.size, 0, none⟩ (hg.below hb1)) cal21 ⟨rfl, rfl, trivial⟩ (k := fun a v w3 hR hF => ?_)
  obtain ⟨rfl, hb3⟩ := hR
  repeat (first | refine c_seq ?_ | refine c_block ?_ | refine c_region _ ?_ | refine wpList_nil ?_ | refine c_then ?_ | refine c_then_exit ?_ | refine c_then_ret ?_ | refine c_in ?_ | refine c_in_ret ?_ | refine c_in_hit ?_ | refine wp_skip ?_ | refine wp_exit ?_ | refine wp_ret ?_ | refine c_in_miss rfl ?_ | ((first | apply st hF | apply stg hF | apply s_step hF | apply s_stg hF); (first | exact d_move | exact d_assign | exact d_not | exact d_pickT | exact d_pickF | exact d_cmpT | exact d_cmpF | exact d_cmp | exact d_eqbT (und _ _ rfl) | exact d_eqbF (und _ _ rfl) | exact d_eqb (und _ _ rfl) | exact d_eqST | exact d_eqSF | exact d_eqS | exact d_eqN (ifc _ rfl) | exact d_neN (ifc _ rfl) | exact d_makeI (con _ rfl)); clear hF; clear a; intro a hF) | ((first | apply stm hF | apply stu hF); clear hF; clear a; intro a hF) | (apply c_cond_t hF; exact rfl; first | exact rfl | assumption) | (apply c_cond_f hF; exact rfl; first | exact rfl | assumption) | refine s_nil ?_)
  exact ret1 hF rfl rfl ⟨rfl, hb1.trans (hb3.mono hb1.size)⟩
/-- An error's value, and its number, of what is told. -/
def errV {α : Type} : Except Int α → Value
  | .ok _ => .nilIface
  | .error k => .iface 38 (.int .i64 k)
def errN {α : Type} : Except Int α → Int
  | .ok _ => 0
  | .error k => k
/-- An error as the reference tells it: none, or a number. -/
theorem plain_of {α : Type} (w : World) (r : Except Int α) (ve : Value) (n : Int) (hg : Handle w) (hve : ve = errV r) (hn : n = errN r) (hr : ∀ k, r = .error k → 1 ≤ k ∧ k ≤ 26) :
    Ret Tryz.prog 8 #[ve, .int .i64 n] w (fun v w' => v = .bool true ∧ Below w.heap.size w w') := by
  subst hve; subst hn
  cases r with
  | ok x => exact plain_nil w
  | error k => exact plain_ok w k hg (hr k rfl).1 (hr k rfl).2
end Go.Proofs.YtnohefaifbghiaaGreatDoor
end
section
/- CharsKnown: texts of one letter; ends, walked. -/
namespace Go.Proofs.YtnohefaifbghiaaGreatDoor
open Go.RowKit
set_option linter.unusedSimpArgs false
set_option linter.unusedVariables false
attribute [local irreducible] wpList wpQuiet wpStill Code.wp Exit.then Exit.inBlock bodyPost Calls Does Does0
set_option maxRecDepth 100000
structure HeldK (p : Prop) : Prop where
  out : p
/-- So many a's. -/
def A (n : Nat) : ByteArray := ⟨(List.replicate n 97).toArray⟩
theorem A_list (n : Nat) : (A n).data.toList = List.replicate n 97 := rfl
theorem A_size (n : Nat) : (A n).size = n := by rw [← ba_size, A_list, List.length_replicate]
theorem A_add (m n : Nat) : A m ++ A n = A (m + n) := by
  apply ByteArray.ext
  apply Array.toList_inj.1
  rw [ba_app, A_list, A_list, A_list, List.replicate_append_replicate]
theorem A_get {n j : Nat} (h : j < n) : (A n).get! j = 97 := by
  have e := ba_get (s := A n) (i := j) (by rw [A_size]; exact h)
  rw [A_list, List.getElem?_replicate, if_pos h] at e
  exact (Option.some.inj e).symm
theorem A_vis (n : Nat) : Vis (A n) := fun j hj => by
  rw [A_size] at hj
  rw [A_get hj]
  exact ⟨by decide, by decide⟩
theorem A_nq (n : Nat) : NoQ (A n) := fun j hj => by
  rw [A_size] at hj
  rw [A_get hj]
  exact ⟨by decide, by decide⟩
theorem A_long (n : Nat) (h : 1024 < n) : UnqR (inQ (A n)) 5 ⟨#[]⟩ := nq_unq (A_nq n) (.inl ⟨by rw [A_size]; exact h, rfl⟩)
theorem A_short (n : Nat) (h : n ≤ 1024) : UnqR (inQ (A n)) 0 (A n) := nq_unq (A_nq n) (may_of (vis_ok (A_vis n)) (by rw [A_size]; exact h))
theorem A_tail (n : Nat) : ((⟨#[34]⟩ : ByteArray) ++ A n) ++ ⟨#[97, 34]⟩ = inQ (A (n + 1)) := by
  apply ByteArray.ext
  apply Array.toList_inj.1
  rw [inQ, ← A_add]
  simp only [ba_app, List.append_assoc]
  rfl
theorem kout_none {s : ByteArray} {v : Value} (h : COut s v) (hs : s.size ≤ 1048576) (ho : Out s none) : v = .nilIface := by
  rcases h with ⟨h, _⟩ | ⟨_, ⟨_, h⟩ | ⟨k, h, _⟩⟩
  · omega
  · exact h
  · exact absurd (out_one ho h) (by simp)
theorem kout_some {s : ByteArray} {v : Value} {k : Nat} (h : COut s v) (hs : s.size ≤ 1048576) (ho : Out s (some k)) : v = fltV 6 (uSt s k).2.1 (uSt s k).2.2 := by
  rcases h with ⟨h, _⟩ | ⟨_, ⟨h, _⟩ | ⟨j, h, h2⟩⟩
  · omega
  · exact absurd (out_one ho h) (by simp)
  · obtain rfl := Option.some.inj (out_one ho h)
    exact h2
theorem kout_long {s : ByteArray} {v : Value} (h : COut s v) (hs : 1048576 < s.size) : v = .iface 38 (.int .i64 5) := by
  rcases h with ⟨_, h⟩ | ⟨h, _⟩
  · exact h
  · omega
theorem pow_le18 {k : Nat} (h : k < 18) : 4 * 2 ^ k ≤ 524288 := by
  have : 2 ^ k ≤ 2 ^ 17 := Nat.pow_le_pow_right (by decide) (by omega)
  have e : (2 : Nat) ^ 17 = 131072 := by decide
  rw [e] at this
  omega
set_option maxHeartbeats 2000000 in
theorem ends_ok (w : World) (hg : Handle w) : Ret Tryz.prog 14 #[] w (fun v w' => v = .bool true ∧ Below w.heap.size w w') := by
  refine enter0 Tryz.func14 rfl 23 rfl 23 rfl (fun a hF => ?_)
  repeat (first | refine c_seq ?_ | refine c_block ?_ | refine c_region _ ?_ | refine wpList_nil ?_ | refine c_then ?_ | refine c_then_exit ?_ | refine c_then_ret ?_ | refine c_in ?_ | refine c_in_ret ?_ | refine c_in_hit ?_ | refine wp_skip ?_ | refine wp_exit ?_ | refine wp_ret ?_ | refine c_in_miss rfl ?_ | ((first | apply st hF | apply stg hF | apply s_step hF | apply s_stg hF); (first | exact d_move | exact d_assign | exact d_pickT | exact d_pickF | exact d_add | exact d_cmpT | exact d_cmpF | exact d_cmp | exact d_eqbT (und _ _ rfl) | exact d_eqbF (und _ _ rfl) | exact d_eqb (und _ _ rfl) | exact d_eqST | exact d_eqSF | exact d_eqS | exact d_len (und _ _ rfl) | exact d_lens (und _ _ rfl) | exact d_eqN (ifc _ rfl) | exact d_neN (ifc _ rfl)); clear hF; clear a; intro a hF) | ((first | apply stm hF | apply stu hF); clear hF; clear a; intro a hF) | (apply c_cond_t hF; exact rfl; first | exact rfl | assumption) | (apply c_cond_f hF; exact rfl; first | exact rfl | assumption) | refine s_nil ?_)
  refine c_loop (fun q a wr => ∃ (s : ByteArray) (k : Nat), Fr 23 [(0, .bool false), (1, .string s)] a ∧ Vis s ∧ s.size = 4 * 2 ^ k ∧ k ≤ 18 ∧ q = 18 - k ∧ wr = w) 18
    ⟨⟨#[97, 98, 32, 99]⟩, 0, hF.keep' ⟨rfl, rfl, trivial⟩, by unfold Vis; decide +kernel, rfl, by decide, rfl, rfl⟩ ?_
  clear hF a
  rintro q a wr ⟨s, k, hF, hv, hz, hk, rfl, rfl⟩
  by_cases hlt : k < 18
  · have hz2 := pow_le18 hlt
    rw [← hz] at hz2
    have hadd : s.size + s.size ≤ 9223372036854775807 := by omega
    have hcT : decide ((s.size : Int) < 1048576) = true := decide_eq_true (by omega)
    repeat (first | ((apply st hF); (exact d_to d_cmp hcT); clear hF; clear a; intro a hF) | refine c_seq ?_ | refine c_block ?_ | refine c_region _ ?_ | refine wpList_nil ?_ | refine c_then ?_ | refine c_then_exit ?_ | refine c_then_ret ?_ | refine c_in ?_ | refine c_in_ret ?_ | refine c_in_hit ?_ | refine wp_skip ?_ | refine wp_exit ?_ | refine wp_ret ?_ | refine c_in_miss rfl ?_ | ((first | apply st hF | apply stg hF | apply s_step hF | apply s_stg hF); (first | exact d_move | exact d_assign | exact d_pickT | exact d_pickF | exact d_add | exact d_cmpT | exact d_cmpF | exact d_cmp | exact d_eqbT (und _ _ rfl) | exact d_eqbF (und _ _ rfl) | exact d_eqb (und _ _ rfl) | exact d_eqST | exact d_eqSF | exact d_eqS | exact d_len (und _ _ rfl) | exact d_lens (und _ _ rfl) | exact d_eqN (ifc _ rfl) | exact d_neN (ifc _ rfl) | exact d_addS (h := hadd)); clear hF; clear a; intro a hF) | ((first | apply stm hF | apply stu hF); clear hF; clear a; intro a hF) | (apply c_cond_t hF; exact rfl; first | exact rfl | assumption) | (apply c_cond_f hF; exact rfl; first | exact rfl | assumption) | refine s_nil ?_)
    exact ⟨18 - (k + 1), by omega, s ++ s, k + 1, hF.keep' ⟨rfl, rfl, trivial⟩, vis_app hv hv, by rw [ByteArray.size_append, hz, Nat.pow_succ]; omega, by omega, rfl, rfl⟩
  · obtain rfl : k = 18 := by omega
    have e18 : 4 * (2 : Nat) ^ 18 = 1048576 := by decide
    rw [e18] at hz
    clear e18
    have z1 : (⟨#[120]⟩ : ByteArray).size = 1 := rfl
    have z2 : (⟨#[255]⟩ : ByteArray).size = 1 := rfl
    have ha1 : s.size + (⟨#[120]⟩ : ByteArray).size ≤ 9223372036854775807 := by omega
    have ha2 : s.size + (⟨#[255]⟩ : ByteArray).size ≤ 9223372036854775807 := by omega
    have hcF : HeldK (decide ((s.size : Int) < 1048576) = false) := ⟨decide_eq_false (by omega)⟩
    repeat (first | ((apply st hF); (exact d_to d_cmp hcF.out); clear hF; clear a; intro a hF) | refine c_seq ?_ | refine c_block ?_ | refine c_region _ ?_ | refine wpList_nil ?_ | refine c_then ?_ | refine c_then_exit ?_ | refine c_then_ret ?_ | refine c_in ?_ | refine c_in_ret ?_ | refine c_in_hit ?_ | refine wp_skip ?_ | refine wp_exit ?_ | refine wp_ret ?_ | refine c_in_miss rfl ?_ | ((first | apply st hF | apply stg hF | apply s_step hF | apply s_stg hF); (first | exact d_move | exact d_assign | exact d_pickT | exact d_pickF | exact d_add | exact d_cmpT | exact d_cmpF | exact d_cmp | exact d_eqbT (und _ _ rfl) | exact d_eqbF (und _ _ rfl) | exact d_eqb (und _ _ rfl) | exact d_eqST | exact d_eqSF | exact d_eqS | exact d_len (und _ _ rfl) | exact d_lens (und _ _ rfl) | exact d_eqN (ifc _ rfl) | exact d_neN (ifc _ rfl)); clear hF; clear a; intro a hF) | ((first | apply stm hF | apply stu hF); clear hF; clear a; intro a hF) | (apply c_cond_t hF; exact rfl; first | exact rfl | assumption) | (apply c_cond_f hF; exact rfl; first | exact rfl | assumption) | refine s_nil ?_)
    refine stc hF (check_ok wr s) cal6 ⟨rfl, trivial⟩ (k := fun a v w1 hR hF => ?_)
    obtain ⟨hc, hb1⟩ := hR
    obtain rfl := kout_none hc (by omega) (vis_out hv)
    repeat (first | refine c_seq ?_ | refine c_block ?_ | refine c_region _ ?_ | refine wpList_nil ?_ | refine c_then ?_ | refine c_then_exit ?_ | refine c_then_ret ?_ | refine c_in ?_ | refine c_in_ret ?_ | refine c_in_hit ?_ | refine wp_skip ?_ | refine wp_exit ?_ | refine wp_ret ?_ | refine c_in_miss rfl ?_ | ((first | apply st hF | apply stg hF | apply s_step hF | apply s_stg hF); (first | exact d_move | exact d_assign | exact d_pickT | exact d_pickF | exact d_add | exact d_cmpT | exact d_cmpF | exact d_cmp | exact d_eqbT (und _ _ rfl) | exact d_eqbF (und _ _ rfl) | exact d_eqb (und _ _ rfl) | exact d_eqST | exact d_eqSF | exact d_eqS | exact d_len (und _ _ rfl) | exact d_lens (und _ _ rfl) | exact d_eqN (ifc _ rfl) | exact d_neN (ifc _ rfl) | exact d_addS (h := ha1)); clear hF; clear a; intro a hF) | ((first | apply stm hF | apply stu hF); clear hF; clear a; intro a hF) | (apply c_cond_t hF; exact rfl; first | exact rfl | assumption) | (apply c_cond_f hF; exact rfl; first | exact rfl | assumption) | refine s_nil ?_)
    refine stcg hF (check_ok w1 (s ++ (⟨#[120]⟩ : ByteArray))) cal6 ⟨rfl, trivial⟩ (k := fun a v w2 hR hF => ?_)
    obtain ⟨hc2, hb2⟩ := hR
    obtain rfl := kout_long hc2 (by rw [ByteArray.size_append]; omega)
    have hB2 := hb1.trans (hb2.mono hb1.size)
    repeat (first | refine c_seq ?_ | refine c_block ?_ | refine c_region _ ?_ | refine wpList_nil ?_ | refine c_then ?_ | refine c_then_exit ?_ | refine c_then_ret ?_ | refine c_in ?_ | refine c_in_ret ?_ | refine c_in_hit ?_ | refine wp_skip ?_ | refine wp_exit ?_ | refine wp_ret ?_ | refine c_in_miss rfl ?_ | ((first | apply st hF | apply stg hF | apply s_step hF | apply s_stg hF); (first | exact d_move | exact d_assign | exact d_pickT | exact d_pickF | exact d_add | exact d_cmpT | exact d_cmpF | exact d_cmp | exact d_eqbT (und _ _ rfl) | exact d_eqbF (und _ _ rfl) | exact d_eqb (und _ _ rfl) | exact d_eqST | exact d_eqSF | exact d_eqS | exact d_len (und _ _ rfl) | exact d_lens (und _ _ rfl) | exact d_eqN (ifc _ rfl) | exact d_neN (ifc _ rfl)); clear hF; clear a; intro a hF) | ((first | apply stm hF | apply stu hF); clear hF; clear a; intro a hF) | (apply c_cond_t hF; exact rfl; first | exact rfl | assumption) | (apply c_cond_f hF; exact rfl; first | exact rfl | assumption) | refine s_nil ?_)
    refine stcg hF (plain_ok w2 5 (hg.below hB2) (by decide) (by decide)) cal8 ⟨rfl, rfl, trivial⟩ (k := fun a v w3 hR hF => ?_)
    obtain ⟨rfl, hb3⟩ := hR
    have hB3 := hB2.trans (hb3.mono hB2.size)
    repeat (first | refine c_seq ?_ | refine c_block ?_ | refine c_region _ ?_ | refine wpList_nil ?_ | refine c_then ?_ | refine c_then_exit ?_ | refine c_then_ret ?_ | refine c_in ?_ | refine c_in_ret ?_ | refine c_in_hit ?_ | refine wp_skip ?_ | refine wp_exit ?_ | refine wp_ret ?_ | refine c_in_miss rfl ?_ | ((first | apply st hF | apply stg hF | apply s_step hF | apply s_stg hF); (first | exact d_move | exact d_assign | exact d_pickT | exact d_pickF | exact d_add | exact d_cmpT | exact d_cmpF | exact d_cmp | exact d_eqbT (und _ _ rfl) | exact d_eqbF (und _ _ rfl) | exact d_eqb (und _ _ rfl) | exact d_eqST | exact d_eqSF | exact d_eqS | exact d_len (und _ _ rfl) | exact d_lens (und _ _ rfl) | exact d_eqN (ifc _ rfl) | exact d_neN (ifc _ rfl) | exact d_addS (h := ha2)); clear hF; clear a; intro a hF) | ((first | apply stm hF | apply stu hF); clear hF; clear a; intro a hF) | (apply c_cond_t hF; exact rfl; first | exact rfl | assumption) | (apply c_cond_f hF; exact rfl; first | exact rfl | assumption) | refine s_nil ?_)
    refine stcg hF (check_ok w3 (s ++ (⟨#[255]⟩ : ByteArray))) cal6 ⟨rfl, trivial⟩ (k := fun a v w4 hR hF => ?_)
    obtain ⟨hc4, hb4⟩ := hR
    obtain rfl := kout_long hc4 (by rw [ByteArray.size_append]; omega)
    have hB4 := hB3.trans (hb4.mono hB3.size)
    repeat (first | refine c_seq ?_ | refine c_block ?_ | refine c_region _ ?_ | refine wpList_nil ?_ | refine c_then ?_ | refine c_then_exit ?_ | refine c_then_ret ?_ | refine c_in ?_ | refine c_in_ret ?_ | refine c_in_hit ?_ | refine wp_skip ?_ | refine wp_exit ?_ | refine wp_ret ?_ | refine c_in_miss rfl ?_ | ((first | apply st hF | apply stg hF | apply s_step hF | apply s_stg hF); (first | exact d_move | exact d_assign | exact d_pickT | exact d_pickF | exact d_add | exact d_cmpT | exact d_cmpF | exact d_cmp | exact d_eqbT (und _ _ rfl) | exact d_eqbF (und _ _ rfl) | exact d_eqb (und _ _ rfl) | exact d_eqST | exact d_eqSF | exact d_eqS | exact d_len (und _ _ rfl) | exact d_lens (und _ _ rfl) | exact d_eqN (ifc _ rfl) | exact d_neN (ifc _ rfl)); clear hF; clear a; intro a hF) | ((first | apply stm hF | apply stu hF); clear hF; clear a; intro a hF) | (apply c_cond_t hF; exact rfl; first | exact rfl | assumption) | (apply c_cond_f hF; exact rfl; first | exact rfl | assumption) | refine s_nil ?_)
    refine stcg hF (plain_ok w4 5 (hg.below hB4) (by decide) (by decide)) cal8 ⟨rfl, rfl, trivial⟩ (k := fun a v w5 hR hF => ?_)
    obtain ⟨rfl, hb5⟩ := hR
    repeat (first | refine c_seq ?_ | refine c_block ?_ | refine c_region _ ?_ | refine wpList_nil ?_ | refine c_then ?_ | refine c_then_exit ?_ | refine c_then_ret ?_ | refine c_in ?_ | refine c_in_ret ?_ | refine c_in_hit ?_ | refine wp_skip ?_ | refine wp_exit ?_ | refine wp_ret ?_ | refine c_in_miss rfl ?_ | ((first | apply st hF | apply stg hF | apply s_step hF | apply s_stg hF); (first | exact d_move | exact d_assign | exact d_pickT | exact d_pickF | exact d_add | exact d_cmpT | exact d_cmpF | exact d_cmp | exact d_eqbT (und _ _ rfl) | exact d_eqbF (und _ _ rfl) | exact d_eqb (und _ _ rfl) | exact d_eqST | exact d_eqSF | exact d_eqS | exact d_len (und _ _ rfl) | exact d_lens (und _ _ rfl) | exact d_eqN (ifc _ rfl) | exact d_neN (ifc _ rfl)); clear hF; clear a; intro a hF) | ((first | apply stm hF | apply stu hF); clear hF; clear a; intro a hF) | (apply c_cond_t hF; exact rfl; first | exact rfl | assumption) | (apply c_cond_f hF; exact rfl; first | exact rfl | assumption) | refine s_nil ?_)
    exact ret1 hF rfl rfl ⟨rfl, hB4.trans (hb5.mono hB4.size)⟩
end Go.Proofs.YtnohefaifbghiaaGreatDoor
end
section
/- errors.As at a target of type *api.Fault, over a fault: it is found, and lies in the target. -/
namespace Go.Proofs.YtnohefaifbghiaaGreatDoor
open Go.RowKit Go.Extern.Stop Go.Stop Go.Extern

/-- The fault's cells. -/
def fltC (n x y : Int) : Array Value := #[.int .i64 n, .int .i64 x, .int .i64 y]
theorem asTypeOfF (v : Value) (w : World) : (ReflectliteType.typeOf #[.iface 47 v]).run Tryz.prog w = .ok (.iface 94 (.agg #[.pointer (some ⟨4, 47, none⟩)])) w := by kernel_rfl
theorem asAssignF (w : World) : (ReflectliteType.relation "AssignableTo" ReflectliteType.assignableTo #[.agg #[.pointer (some ⟨4, 47, none⟩)], .iface 94 (.agg #[.pointer (some ⟨4, 47, none⟩)])]).run Tryz.prog w = .ok (.bool true) w := by kernel_rfl
theorem asValueOfF (n x y : Int) (w : World) : (ReflectliteValue.unpack (.iface 47 (.agg #[.int .i64 n, .int .i64 x, .int .i64 y]))).run Tryz.prog w
    = .ok (.agg #[.pointer (some ⟨4, 47, none⟩), .pointer (some ⟨w.heap.size, 0, none⟩), .int .u64 153]) (w.alloc (.cells #[.int .i64 n, .int .i64 x, .int .i64 y] 47)) := by kernel_rfl
theorem asElemOfP (w : World) : (Rtype.elem? 49).run Tryz.prog w = .ok (some 47) w := by kernel_rfl
theorem asMkF (p : Addr) (w : World) : (ReflectliteValue.mk 47 p ReflectliteValue.flagAddr).run Tryz.prog w = .ok (.agg #[.pointer (some ⟨4, 47, none⟩), .pointer (some p), .int .u64 409]) w := by kernel_rfl
theorem asElemV (a p : Addr) (W : World) (ha : W.cell? a = some (.pointer (some p))) :
    (ReflectliteValue.method (ReflectliteValue.valueError "reflectlite.Value.Elem" 0) ReflectliteValue.elem #[.agg #[.pointer (some ⟨4, 49, none⟩), .pointer (some a), .int .u64 150]]).run Tryz.prog W
      = .ok (.agg #[.pointer (some ⟨4, 47, none⟩), .pointer (some p), .int .u64 409]) W := by
  rw [rlmV]
  simp only [Sem.run_bind, asPartsP, Result.andThen]
  simp [ReflectliteValue.elem, loadVar, isAgg, underlying, Tryz.underlying49, ha, Result.andThen, asElemOfP, asMkF]
theorem asRls (v x : Value) : ReflectliteValue.set #[v, x] = (do
    let (some (dst, a, fl), some (src, b, _)) := (← ReflectliteValue.parts v, ← ReflectliteValue.parts x)
      | unsupported (.noEntry "extern/(internal/reflectlite.Value).Set.zeroValue")
    if fl / ReflectliteValue.flagAddr % 2 == 0 then unsupported (.noEntry "extern/(internal/reflectlite.Value).Set.unaddressable")
    let val ← loadVar src b
    if ← Rtype.directlyAssignable dst src then storeVar dst a val
    else if ← Rtype.implements dst src then
      if (← Rtype.kind src) == 20 then
        match val with
        | .nilIface => unsupported (.noEntry "extern/reflectlite: a nil value of one interface type handed on as a value of another")
        | _ => storeVar dst a val
      else storeVar dst a (.iface src val)
    else panicString ("reflectlite.Set: value of type " ++ (← Rtype.spelt src) ++ " is not assignable to type " ++ (← Rtype.spelt dst))
    pure (.tuple #[])) := rfl
theorem asPartsFa (a : Addr) (w : World) : (ReflectliteValue.parts (.agg #[.pointer (some ⟨4, 47, none⟩), .pointer (some a), .int .u64 409])).run Tryz.prog w = .ok (some (47, a, 409)) w := by kernel_rfl
theorem asPartsF (a : Addr) (w : World) : (ReflectliteValue.parts (.agg #[.pointer (some ⟨4, 47, none⟩), .pointer (some a), .int .u64 153])).run Tryz.prog w = .ok (some (47, a, 153)) w := by kernel_rfl
theorem asDirectF (w : World) : (Rtype.directlyAssignable 47 47).run Tryz.prog w = .ok true w := by kernel_rfl
theorem asStoreF (n x y : Int) (g : Nat) (c : Array Value) (W : World) (hc : c.size = 3) (hg : W.heap[g]? = some (.cells c 47 (0, 0))) :
    (storeVar 47 ⟨g, 0, none⟩ (.agg #[.int .i64 n, .int .i64 x, .int .i64 y])).run Tryz.prog W = .ok () (W.setRow g #[.int .i64 n, .int .i64 x, .int .i64 y]) := by
  have hr := run_storeCells_at (P := Tryz.prog) g 0 47 [.int .i64 n, .int .i64 x, .int .i64 y] 0 c W hg (by simp [hc]) (by simp [Value.oneCell'])
  obtain ⟨ti, h1, h2⟩ := Option.map_eq_some_iff.1 (isz 47 3 rfl)
  have hd : List.drop 3 c.toList = [] := List.drop_eq_nil_of_le (by simp [hc])
  simp only [List.length_cons, List.length_nil, Nat.add_zero, Nat.zero_add, List.take_zero, List.nil_append] at hr
  rw [show (0 + 1 + 1 + 1 : Nat) = 3 from rfl] at hr
  rw [hd, List.append_nil] at hr
  have hcs : (Value.agg #[.int .i64 n, .int .i64 x, .int .i64 y]).cells = #[.int .i64 n, .int .i64 x, .int .i64 y] := rfl
  simp [storeVar, sizeOf, typeInfo, h1, h2, hcs, hr]
theorem asSetF (n x y : Int) (s g : Nat) (c : Array Value) (W : World) (hc : c.size = 3) (hs : W.heap[s]? = some (.cells #[.int .i64 n, .int .i64 x, .int .i64 y] 47 (0, 0))) (hg : W.heap[g]? = some (.cells c 47 (0, 0))) :
    (ReflectliteValue.set #[.agg #[.pointer (some ⟨4, 47, none⟩), .pointer (some ⟨g, 0, none⟩), .int .u64 409], .agg #[.pointer (some ⟨4, 47, none⟩), .pointer (some ⟨s, 0, none⟩), .int .u64 153]]).run Tryz.prog W
      = .ok (.tuple #[]) (W.setRow g #[.int .i64 n, .int .i64 x, .int .i64 y]) := by
  have hl := run_loadVar_agg (P := Tryz.prog) (w := W) (t := 47) (cs := #[.int .i64 n, .int .i64 x, .int .i64 y]) (agg _ rfl) (isz 47 3 rfl) hs
  have hst := asStoreF n x y g c W hc hg
  rw [asRls]
  simp only [Sem.run_bind, asPartsFa, asPartsF, Result.andThen]
  simp [ReflectliteValue.flagAddr, hl, Result.andThen, asDirectF, hst]

set_option maxRecDepth 100000 in
set_option maxHeartbeats 8000000 in
theorem as_hit_calls (n x y : Int) (g : Nat) (c : Array Value) (w : World) (hg : Handle w) (hc : c.size = 3) (ht : w.heap[g]? = some (.cells c 47 (0, 0))) :
    Calls Tryz.prog 21 #[.iface 47 (.agg #[.int .i64 n, .int .i64 x, .int .i64 y]), .iface 49 (.pointer (some ⟨g, 0, none⟩))] w fun ev w' => ev = .returned (.bool true) ∧
      w' = ((((w.alloc (.cells #[.pointer (some ⟨g, 0, none⟩)] 49)).alloc (.cells #[.pointer (some ⟨4, 49, none⟩), .pointer (some ⟨w.heap.size, 0, none⟩), .int .u64 150] 63)).alloc (.cells #[.pointer (some ⟨4, 49, none⟩), .pointer (some ⟨w.heap.size, 0, none⟩), .int .u64 150] 63)).alloc (.cells #[.int .i64 n, .int .i64 x, .int .i64 y] 47)).setRow g #[.int .i64 n, .int .i64 x, .int .i64 y] := by
  unfold Handle at hg
  have h6 := @run_callFunc_extern Tryz.prog 32 _ (fun args => ReflectliteValue.unpack (args.getD 0 (.tuple #[]))) Tryz.func32 (by kernel_rfl) (by kernel_rfl) (by kernel_rfl) (by kernel_rfl)
  have h7 := @run_callFunc_extern Tryz.prog 33 _ (ReflectliteValue.methodAny (ReflectliteValue.valueError "reflectlite.Value.Type" 0) (fun t _ _ _ => ReflectliteType.toType t)) Tryz.func33 (by kernel_rfl) (by kernel_rfl) (by kernel_rfl) (by kernel_rfl)
  have h8 := @run_callFunc_extern Tryz.prog 34 _ (ReflectliteValue.method (ReflectliteValue.valueError "reflectlite.Value.IsNil" 0) ReflectliteValue.isNil) Tryz.func34 (by kernel_rfl) (by kernel_rfl) (by kernel_rfl) (by kernel_rfl)
  have h27 := @run_callFunc_extern Tryz.prog 94 _ (ReflectliteType.abiMethod fun t => do pure (.int .u8 (← Rtype.kind t))) Tryz.func94 (by kernel_rfl) (by kernel_rfl) (by kernel_rfl) (by kernel_rfl)
  have h37 := @run_callFunc_extern Tryz.prog 107 _ (ReflectliteType.method ReflectliteType.elem) Tryz.func107 (by kernel_rfl) (by kernel_rfl) (by kernel_rfl) (by kernel_rfl)
  have h38 := @run_callFunc_extern Tryz.prog 108 _ (ReflectliteType.relation "Implements" ReflectliteType.implements_) Tryz.func108 (by kernel_rfl) (by kernel_rfl) (by kernel_rfl) (by kernel_rfl)
  have h10 := @run_callFunc_extern Tryz.prog 36 _ ReflectliteType.typeOf Tryz.func36 (by kernel_rfl) (by kernel_rfl) (by kernel_rfl) (by kernel_rfl)
  have h35 := @run_callFunc_extern Tryz.prog 105 _ (ReflectliteType.relation "AssignableTo" ReflectliteType.assignableTo) Tryz.func105 (by kernel_rfl) (by kernel_rfl) (by kernel_rfl) (by kernel_rfl)
  have h11 := @run_callFunc_extern Tryz.prog 43 _ (ReflectliteValue.method (ReflectliteValue.valueError "reflectlite.Value.Elem" 0) ReflectliteValue.elem) Tryz.func43 (by kernel_rfl) (by kernel_rfl) (by kernel_rfl) (by kernel_rfl)
  have h12 := @run_callFunc_extern Tryz.prog 44 _ ReflectliteValue.set Tryz.func44 (by kernel_rfl) (by kernel_rfl) (by kernel_rfl) (by kernel_rfl)
  have tO := asTypeOfF
  have mA := asMethodAssignableTo
  have aF := asAssignF
  have vF := asValueOfF
  have f6 := asValueOf
  have f7 := asType
  have mK := asMethodKind
  have mE := asMethodElem
  have mI := asMethodImplements
  have kP := asKindP
  have kF := asKindF
  have eP := asElem
  have iF := asImplements
  have n8 := asIsNil ⟨w.heap.size, 0, none⟩ ⟨g, 0, none⟩ ((w.alloc (.cells #[.pointer (some ⟨g, 0, none⟩)] 49)).alloc (.cells #[.pointer (some ⟨4, 49, none⟩), .pointer (some ⟨w.heap.size, 0, none⟩), .int .u64 150] 63)) (by simp)
  have hlt : 0 < w.heap.size := by
    rcases Nat.eq_zero_or_pos w.heap.size with h0 | h
    · simp [World.cell?, h0] at hg
    · exact h
  have hg2 : ((w.alloc (.cells #[.pointer (some ⟨g, 0, none⟩)] 49)).alloc (.cells #[.pointer (some ⟨4, 49, none⟩), .pointer (some ⟨w.heap.size, 0, none⟩), .int .u64 150] 63)).cell? ⟨0, 0, none⟩ = some (.iface 94 (.agg #[.pointer (some ⟨4, 24, none⟩)])) := by
    rw [World.cell?_alloc_lt _ _ ⟨0, 0, none⟩ (by simp), World.cell?_alloc_lt _ _ ⟨0, 0, none⟩ hlt]; exact hg
  have htl := lt_at ht
  have el := asElemV ⟨w.heap.size, 0, none⟩ ⟨g, 0, none⟩ (((w.alloc (.cells #[.pointer (some ⟨g, 0, none⟩)] 49)).alloc (.cells #[.pointer (some ⟨4, 49, none⟩), .pointer (some ⟨w.heap.size, 0, none⟩), .int .u64 150] 63)).alloc (.cells #[.pointer (some ⟨4, 49, none⟩), .pointer (some ⟨w.heap.size, 0, none⟩), .int .u64 150] 63)) (by rw [World.cell?_alloc_lt _ _ ⟨w.heap.size, 0, none⟩ (by simp; omega)]; simp)
  have st := asSetF n x y (w.heap.size + 1 + 1 + 1) g c ((((w.alloc (.cells #[.pointer (some ⟨g, 0, none⟩)] 49)).alloc (.cells #[.pointer (some ⟨4, 49, none⟩), .pointer (some ⟨w.heap.size, 0, none⟩), .int .u64 150] 63)).alloc (.cells #[.pointer (some ⟨4, 49, none⟩), .pointer (some ⟨w.heap.size, 0, none⟩), .int .u64 150] 63)).alloc (.cells #[.int .i64 n, .int .i64 x, .int .i64 y] 47)) hc
    (by
      have := heap_alloc_new (((w.alloc (.cells #[.pointer (some ⟨g, 0, none⟩)] 49)).alloc (.cells #[.pointer (some ⟨4, 49, none⟩), .pointer (some ⟨w.heap.size, 0, none⟩), .int .u64 150] 63)).alloc (.cells #[.pointer (some ⟨4, 49, none⟩), .pointer (some ⟨w.heap.size, 0, none⟩), .int .u64 150] 63)) (.cells #[.int .i64 n, .int .i64 x, .int .i64 y] 47)
      simpa using this)
    (by rw [Below.heap_alloc _ _ _ (by simp; omega), Below.heap_alloc _ _ _ (by simp; omega), Below.heap_alloc _ _ _ (by simp; omega), Below.heap_alloc _ _ _ htl]; exact ht)
  clear ht
  go_enter Tryz.func21, Tryz.ntmps21
  go_wp2
  refine wp_loop_rounds 1 ?_
  rw [rounds_succ]
  go_wp2
  go_ret
  exact ⟨rfl, rfl⟩
theorem as_hit (w : World) (n x y : Int) (g : Nat) (c : Array Value) (hg : Handle w) (hc : c.size = 3) (ht : w.heap[g]? = some (.cells c 47 (0, 0))) :
    Ret Tryz.prog 21 #[fltV n x y, .iface 49 (.pointer (some ⟨g, 0, none⟩))] w (fun v w' => v = .bool true ∧ w'.heap[g]? = some (.cells #[.int .i64 n, .int .i64 x, .int .i64 y] 47 (0, 0)) ∧ w.grownBy w' (some g)) := by
  refine Calls.mono (as_hit_calls n x y g c w hg hc ht) ?_
  rintro e w' ⟨rfl, rfl⟩
  have htl := lt_at ht
  have hal : ∀ (W : World) (o : Obj), w.grownBy W (some g) → w.grownBy (W.alloc o) (some g) := fun W o h => grown_trans h (have k := World.grownBy_alloc W o none; ⟨k.os, k.tape, k.output, k.size, fun i hi _ => k.block i hi (by simp)⟩)
  generalize hW : ((((w.alloc (.cells #[.pointer (some ⟨g, 0, none⟩)] 49)).alloc (.cells #[.pointer (some ⟨4, 49, none⟩), .pointer (some ⟨w.heap.size, 0, none⟩), .int .u64 150] 63)).alloc (.cells #[.pointer (some ⟨4, 49, none⟩), .pointer (some ⟨w.heap.size, 0, none⟩), .int .u64 150] 63)).alloc (.cells #[.int .i64 n, .int .i64 x, .int .i64 y] 47)) = W
  have hgr : w.grownBy W (some g) := by
    rw [← hW]; exact hal _ _ (hal _ _ (hal _ _ (hal _ _ (World.grownBy.refl _ _))))
  have hWg : W.heap[g]? = some (.cells c 47 (0, 0)) := by
    rw [← hW, Below.heap_alloc _ _ _ (by simp; omega), Below.heap_alloc _ _ _ (by simp; omega), Below.heap_alloc _ _ _ (by simp; omega), Below.heap_alloc _ _ _ htl]; exact ht
  refine ⟨_, rfl, rfl, setRow_heap W g c _ _ _ hWg, grown_trans hgr ⟨rfl, rfl, rfl, by simp [World.setRow], fun k hk hne => setRow_other W g k _ (by intro e; exact hne (by rw [e]))⟩⟩
end Go.Proofs.YtnohefaifbghiaaGreatDoor
end
