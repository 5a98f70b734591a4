/- Laid together by a program of mine: RDbS MuxW TogW. -/
import Derived.Test.YtjomihhpglojpaaGreatDoorSumLawDatabaseS18
import Derived.Test.YtjomihhpglojpaaGreatDoorSumLawDatabaseS16
import Derived.Test.YtjomihhpglojpaaGreatDoorSumLawDatabaseS19
import Derived.Test.YtjomihhpglojpaaGreatDoorSumLawDatabaseS20
import Derived.Test.YtjomihhpglojpaaGreatDoorSumLawDatabaseS22
import Derived.Test.YtjomihhpglojpaaGreatDoorSumLawDatabaseS26
import Derived.Test.YtjomihhpglojpaaGreatDoorSumLawDatabaseS5
import Derived.Test.YtjomihhpglojpaaGreatDoorSumLawDatabaseS3
import Derived.Test.YtjomihhpglojpaaGreatDoorSumLawDatabaseS6
import Derived.Test.YtjomihhpglojpaaGreatDoorSumLawDatabaseS2
set_option linter.unusedSimpArgs false
set_option linter.unusedVariables false
section
/- The reference's known, stations, Has and rows, walked. -/
namespace Go.Proofs.YtjomihhpglojpaaGreatDoor
open Go.RowKit
set_option linter.unusedSimpArgs false
set_option linter.unusedVariables false
attribute [local irreducible] wpList wpQuiet wpStill Code.wp Exit.then Exit.inBlock bodyPost Calls Does Does0
set_option maxRecDepth 100000
/-- What is wrong with stations. -/
noncomputable def stasE (ss : List ByteArray) : Int := if 64 < ss.length then 5 else someE (firstAt (fun i => staE ss i ≠ 0) ss.length) (staE ss)
theorem txt_at {w wr : World} {ao : Option Addr} {ss : List ByteArray} (h : Rd w ao .string ss) (hb : Below w.heap.size w wr) {k : Nat} (hk : k < ss.length) : ∃ b o, ao = some ⟨b, o, none⟩ ∧ wr.cell? ⟨b, o + k, none⟩ = some (.string ss[k]) := by
  obtain ⟨b, o, hao, hc⟩ := h k hk
  exact ⟨b, o, hao, (hb.cell (p := ⟨b, o + k, none⟩) (World.block_lt_of_cell? w _ hc)).trans hc⟩
set_option maxHeartbeats 4000000 in
theorem rknown_ok (w : World) (x y : Int) (ao : Option Addr) (n c : Nat) (ss : List ByteArray) (s : ByteArray) (hn : ss.length = n) (hR : Rd w ao .string ss) (hb : n * 16 ≤ 140737488351232) :
    Ret Tryz.prog 66 [.agg #[.int .i64 x, .int .i64 y, .slice ao n c], .string s].toArray w (fun v w' => (∃ b, v = .bool b ∧ (b = true ↔ knownB ss s)) ∧ Below w.heap.size w w') := by
  subst hn
  refine enter2 Tryz.func66 rfl 20 rfl 22 rfl (fun a hF => ?_)
  repeat (first | refine c_seq ?_ | refine c_region _ ?_)
  refine st_box hF (cs := #[.int .i64 x, .int .i64 y, .slice ao ss.length c]) rfl (k := fun a w1 hg1 hgr1 hsz1 hF => ?_)
  have hb1 : Below w.heap.size w w1 := (Below.refl _ w).grown hgr1 (Nat.le_refl _) (fun k hk => by cases hk)
  clear hgr1
  repeat (first | refine c_seq ?_ | refine c_block ?_ | refine c_region _ ?_ | refine wpList_nil ?_ | refine c_then ?_ | ((apply st hF); (exact d_assign); clear hF; clear a; intro a hF))
  refine c_loop (fun q a wr => ∃ k : Nat, k ≤ ss.length ∧ q = ss.length - k ∧ (∀ j (h : j < ss.length), j < k → ss[j] ≠ s) ∧ Fr 22 [(1, .string s), (2, .pointer (some ⟨w.heap.size, 0, none⟩)), (5, .int .i64 (k : Int))] a ∧ Below w1.heap.size w1 wr) ss.length
    ⟨0, Nat.zero_le _, rfl, fun j _ h => absurd h (Nat.not_lt_zero _), hF.keep' ⟨rfl, rfl, rfl, trivial⟩, Below.refl _ _⟩ ?_
  clear hF a
  rintro q a wr ⟨k, hk, rfl, hno, hF, hbel⟩
  have hB : Below w.heap.size w wr := hb1.trans (hbel.mono hb1.size)
  have hg := (hbel.block _ (lt_at hg1)).trans hg1
  have c2 : wr.cell? ⟨w.heap.size, 0 + 2, none⟩ = some (.slice ao ss.length c) := cell_at hg rfl
  by_cases hlt : k < ss.length
  case neg =>
    obtain rfl : k = ss.length := by omega
    repeat (first | refine c_seq ?_ | refine c_region _ ?_ | refine wpList_nil ?_ | refine c_then ?_ | refine c_then_exit ?_ | refine c_in_hit ?_ | refine wp_exit ?_ | refine wp_ret ?_ | ((apply st hF); (first | exact d_move | exact d_assign | exact d_cmpF | exact d_eqS | exact d_len (und _ _ rfl) | exact d_fieldAddr (fld _ _ _ _ rfl) (isz _ _ rfl) | exact d_load (und _ _ rfl) c2); clear hF; clear a; intro a hF) | (apply c_cond_f hF; exact rfl; first | exact rfl | assumption))
    refine ret1 hF rfl rfl ⟨⟨_, rfl, ?_⟩, hB⟩
    have hnm : s ∉ ss := fun h => by
      obtain ⟨j, hj, e⟩ := List.getElem_of_mem h
      exact hno j hj hj e
    unfold knownB nobody
    simp [hnm]
  obtain ⟨b, o, hao, hc⟩ := txt_at hR hB hlt
  rw [hao] at c2
  generalize hsk : ss[k] = sk at *
  by_cases e : sk = s
  · have hd : decide (sk = s) = true := decide_eq_true e
    repeat (first | refine c_seq ?_ | refine c_block ?_ | refine c_region _ ?_ | refine wpList_nil ?_ | refine c_then ?_ | refine c_then_ret ?_ | refine c_in_ret ?_ | refine wp_skip ?_ | refine wp_ret ?_ | ((apply st hF); (first | exact d_move | exact d_assign | exact d_cmpT | exact d_eqST | exact d_len (und _ _ rfl) | exact d_indexAddr1 (und _ _ rfl) (isz _ _ rfl) | exact d_fieldAddr (fld _ _ _ _ rfl) (isz _ _ rfl) | exact d_load (und _ _ rfl) c2 | exact d_load (und _ _ rfl) hc); clear hF; clear a; intro a hF) | (apply c_cond_t hF; exact rfl; first | exact rfl | assumption))
    exact ret1 hF rfl rfl ⟨⟨true, rfl, fun _ => .inl (by rw [← e, ← hsk]; exact List.getElem_mem _), fun _ => rfl⟩, hB⟩
  · have hd : decide (sk = s) = false := decide_eq_false e
    repeat (first | refine c_seq ?_ | refine c_block ?_ | refine c_region _ ?_ | refine wpList_nil ?_ | refine c_then ?_ | refine c_in ?_ | refine wp_skip ?_ | ((apply st hF); (first | exact d_move | exact d_assign | exact d_add | exact d_cmpT | exact d_eqSF | exact d_len (und _ _ rfl) | exact d_indexAddr1 (und _ _ rfl) (isz _ _ rfl) | exact d_fieldAddr (fld _ _ _ _ rfl) (isz _ _ rfl) | exact d_load (und _ _ rfl) c2 | exact d_load (und _ _ rfl) hc); clear hF; clear a; intro a hF) | (apply c_cond_t hF; exact rfl; first | exact rfl | assumption) | (apply c_cond_f hF; exact rfl; first | exact rfl | assumption))
    exact ⟨ss.length - (k + 1), by omega, k + 1, by omega, rfl, fun j h hj => by
      by_cases ej : j = k
      · subst ej; rw [hsk]; exact e
      · exact hno j h (by omega), hF.keep' ⟨rfl, rfl, rfl, trivial⟩, hbel⟩
theorem getD_lt {ss : List ByteArray} {k : Nat} (h : k < ss.length) : ss.getD k ⟨#[]⟩ = ss[k] := by rw [List.getD_eq_getElem?_getD, List.getElem?_eq_getElem h]; rfl
set_option maxHeartbeats 8000000 in
theorem rstations_ok (w : World) (x y : Int) (ao : Option Addr) (n c : Nat) (ss : List ByteArray) (hn : ss.length = n) (hR : Rd w ao .string ss) (hb : n * 16 ≤ 140737488351232) :
    Ret Tryz.prog 38 [.agg #[.int .i64 x, .int .i64 y, .slice ao n c]].toArray w (fun v w' => v = .int .i64 (stasE ss) ∧ Below w.heap.size w w') := by
  subst hn
  refine enter1 Tryz.func38 rfl 46 rfl 47 rfl (fun a hF => ?_)
  repeat (first | refine c_seq ?_ | refine c_region _ ?_)
  refine st_box hF (cs := #[.int .i64 x, .int .i64 y, .slice ao ss.length c]) rfl (k := fun a w1 hg1 hgr1 hsz1 hF => ?_)
  have hb1 : Below w.heap.size w w1 := (Below.refl _ w).grown hgr1 (Nat.le_refl _) (fun k hk => by cases hk)
  clear hgr1
  have c2 : w1.cell? ⟨w.heap.size, 0 + 2, none⟩ = some (.slice ao ss.length c) := cell_at hg1 rfl
  by_cases h64 : 64 < ss.length
  · repeat (first | refine c_seq ?_ | refine c_region _ ?_ | refine wpList_nil ?_ | refine c_then ?_ | refine c_then_ret ?_ | refine wp_ret ?_ | ((apply st hF); (first | exact d_assign | exact d_cmpT | exact d_len (und _ _ rfl) | exact d_fieldAddr (fld _ _ _ _ rfl) (isz _ _ rfl) | exact d_load (und _ _ rfl) c2); clear hF; clear a; intro a hF) | (apply c_cond_t hF; exact rfl; first | exact rfl | assumption))
    refine ret1 hF rfl rfl ⟨?_, hb1⟩
    unfold stasE
    rw [if_pos h64]
  have hE : stasE ss = someE (firstAt (fun i => staE ss i ≠ 0) ss.length) (staE ss) := by
    unfold stasE
    rw [if_neg h64]
  repeat (first | refine c_seq ?_ | refine c_block ?_ | refine c_region _ ?_ | refine wpList_nil ?_ | refine c_then ?_ | refine wp_skip ?_ | ((apply st hF); (first | exact d_assign | exact d_cmpF | exact d_len (und _ _ rfl) | exact d_fieldAddr (fld _ _ _ _ rfl) (isz _ _ rfl) | exact d_load (und _ _ rfl) c2); clear hF; clear a; intro a hF) | (apply c_cond_f hF; exact rfl; first | exact rfl | assumption))
  clear c2
  refine c_loop (fun q a wr => ∃ k : Nat, k ≤ ss.length ∧ q = ss.length - k ∧ (∀ j, j < k → staE ss j = 0) ∧ Fr 47 [(1, .pointer (some ⟨w.heap.size, 0, none⟩)), (3, .int .i64 (k : Int))] a ∧ Below w1.heap.size w1 wr) ss.length
    ⟨0, Nat.zero_le _, rfl, fun j h => absurd h (Nat.not_lt_zero _), hF.keep' ⟨rfl, rfl, trivial⟩, Below.refl _ _⟩ ?_
  clear hF a
  rintro q a wr ⟨k, hk, rfl, hno, hF, hbel⟩
  have hB : Below w.heap.size w wr := hb1.trans (hbel.mono hb1.size)
  have hg := (hbel.block _ (lt_at hg1)).trans hg1
  have c2 : wr.cell? ⟨w.heap.size, 0 + 2, none⟩ = some (.slice ao ss.length c) := cell_at hg rfl
  by_cases hlt : k < ss.length
  case neg =>
    obtain rfl : k = ss.length := by omega
    repeat (first | refine c_seq ?_ | refine c_region _ ?_ | refine wpList_nil ?_ | refine c_then ?_ | refine c_then_exit ?_ | refine c_in_hit ?_ | refine wp_exit ?_ | refine wp_ret ?_ | ((apply st hF); (first | exact d_move | exact d_assign | exact d_cmpF | exact d_len (und _ _ rfl) | exact d_fieldAddr (fld _ _ _ _ rfl) (isz _ _ rfl) | exact d_load (und _ _ rfl) c2); clear hF; clear a; intro a hF) | (apply c_cond_f hF; exact rfl; first | exact rfl | assumption))
    refine ret1 hF rfl rfl ⟨?_, hB⟩
    rw [hE, firstAt_none (fun i hi e => e (hno i hi))]
    rfl
  have hbad : ∀ e, staE ss k = e → e ≠ 0 → stasE ss = e := fun e he h => by
    rw [hE, firstAt_some hlt (by rw [he]; exact h) (fun j hj e => e (hno j hj)), ← he]; rfl
  obtain ⟨b, o, hao, hc⟩ := txt_at hR hB hlt
  rw [← getD_lt hlt] at hc
  have s11 := sta_bad (ss := ss) (i := k)
  have s12 := sta_two (ss := ss) (i := k)
  have s0 := sta_ok (ss := ss) (i := k)
  obtain ⟨s, hs⟩ : ∃ x, x = ss.getD k ⟨#[]⟩ := ⟨_, rfl⟩
  rw [← hs] at hc s11 s12 s0
  rw [hao] at c2
  repeat (first | refine c_seq ?_ | refine c_block ?_ | refine c_region _ ?_ | refine wpList_nil ?_ | refine c_then ?_ | refine wp_skip ?_ | ((apply st hF); (first | exact d_move | exact d_cmpT | exact d_len (und _ _ rfl) | exact d_indexAddr1 (und _ _ rfl) (isz _ _ rfl) | exact d_fieldAddr (fld _ _ _ _ rfl) (isz _ _ rfl) | exact d_load (und _ _ rfl) c2 | exact d_load (und _ _ rfl) hc); clear hF; clear a; intro a hF) | (apply c_cond_t hF; exact rfl; first | exact rfl | assumption))
  refine stc hF (rword_ok' wr s) cal51 ⟨rfl, trivial⟩ (k := fun a v w2 hR2 hF => ?_)
  obtain ⟨rfl, hb2⟩ := hR2
  have c2' := (hb2.cell (p := ⟨w.heap.size, 0 + 2, none⟩) (World.block_lt_of_cell? wr _ c2)).trans c2
  have hc' := (hb2.cell (p := ⟨b, o + k, none⟩) (World.block_lt_of_cell? wr _ hc)).trans hc
  have hbel2 : Below w1.heap.size w1 w2 := hbel.trans (hb2.mono hbel.size)
  have hB2 : Below w.heap.size w w2 := hb1.trans (hbel2.mono hb1.size)
  cases hw : wordB s with
  | false =>
    rw [hw] at hF
    have hEE := hbad 11 (s11 (.inl hw)) (by decide)
    repeat (first | refine c_seq ?_ | refine c_region _ ?_ | refine wpList_nil ?_ | refine c_then ?_ | refine c_then_ret ?_ | refine c_in_ret ?_ | refine wp_ret ?_ | ((apply st hF); (first | exact d_move | exact d_assign | exact d_not | exact d_pickT); clear hF; clear a; intro a hF) | ((apply stm hF); clear hF; clear a; intro a hF) | (apply c_cond_t hF; exact rfl; first | exact rfl | assumption))
    exact ret1 hF rfl rfl ⟨by rw [hEE], hB2⟩
  | true =>
  rw [hw] at hF
  by_cases hnb : s = nobody
  · have hd : decide (s = (⟨#[86, 101, 99, 116, 111, 114, 95, 95, 88, 88, 88]⟩ : ByteArray)) = true := decide_eq_true hnb
    have hEE := hbad 11 (s11 (.inr hnb)) (by decide)
    repeat (first | refine c_seq ?_ | refine c_region _ ?_ | refine wpList_nil ?_ | refine c_then ?_ | refine c_then_ret ?_ | refine c_in_ret ?_ | refine wp_ret ?_ | ((first | apply st hF | apply stg hF); (first | exact d_move | exact d_assign | exact d_not | exact d_pickF | exact d_eqST | exact d_indexAddr1 (und _ _ rfl) (isz _ _ rfl) | exact d_fieldAddr (fld _ _ _ _ rfl) (isz _ _ rfl) | exact d_load (und _ _ rfl) c2' | exact d_load (und _ _ rfl) hc'); clear hF; clear a; intro a hF) | (apply c_cond_t hF; exact rfl; first | exact rfl | assumption))
    exact ret1 hF rfl rfl ⟨by rw [hEE], hB2⟩
  have hd : decide (s = (⟨#[86, 101, 99, 116, 111, 114, 95, 95, 88, 88, 88]⟩ : ByteArray)) = false := decide_eq_false hnb
  have hn0 : ¬ (wordB s = false ∨ s = nobody) := fun h => h.elim (fun e => by rw [hw] at e; cases e) hnb
  repeat (first | refine c_seq ?_ | refine c_block ?_ | refine c_region _ ?_ | refine wpList_nil ?_ | refine c_then ?_ | refine wp_skip ?_ | ((first | apply st hF | apply stg hF); (first | exact d_move | exact d_assign | exact d_not | exact d_pickF | exact d_eqSF | exact d_indexAddr1 (und _ _ rfl) (isz _ _ rfl) | exact d_fieldAddr (fld _ _ _ _ rfl) (isz _ _ rfl) | exact d_load (und _ _ rfl) c2' | exact d_load (und _ _ rfl) hc'); clear hF; clear a; intro a hF) | (apply c_cond_f hF; exact rfl; first | exact rfl | assumption))
  refine c_loop (fun q a wr => ∃ j : Nat, j ≤ k ∧ q = k - j ∧ (∀ i, i < j → ss.getD i ⟨#[]⟩ ≠ s) ∧ Fr 47 [(1, .pointer (some ⟨w.heap.size, 0, none⟩)), (3, .int .i64 (k : Int)), (4, .int .i64 (j : Int))] a ∧ Below w1.heap.size w1 wr) k
    ⟨0, Nat.zero_le _, rfl, fun i h => absurd h (Nat.not_lt_zero _), hF.keep' ⟨rfl, rfl, rfl, trivial⟩, hbel2⟩ ?_
  clear hF a hB2 hb2 hbel2 c2' hc' c2 hc hg hB hbel
  rintro q a wq ⟨j, hj, rfl, hno2, hF, hbel⟩
  have hB : Below w.heap.size w wq := hb1.trans (hbel.mono hb1.size)
  have hg := (hbel.block _ (lt_at hg1)).trans hg1
  have c2 : wq.cell? ⟨w.heap.size, 0 + 2, none⟩ = some (.slice ao ss.length c) := cell_at hg rfl
  by_cases hjk : j < k
  case neg =>
    obtain rfl : j = k := by omega
    repeat (first | refine c_seq ?_ | refine c_region _ ?_ | refine wpList_nil ?_ | refine c_then ?_ | refine c_then_exit ?_ | refine c_in ?_ | refine c_in_hit ?_ | refine wp_exit ?_ | ((apply st hF); (first | exact d_move | exact d_assign | exact d_add | exact d_cmpF); clear hF; clear a; intro a hF) | (apply c_cond_f hF; exact rfl; first | exact rfl | assumption))
    exact ⟨ss.length - (j + 1), by omega, j + 1, by omega, rfl, fun i hi => by
      by_cases e : i = j
      · subst e; exact s0 hn0 (fun ⟨k, hk, e⟩ => hno2 k hk e)
      · exact hno i (by omega), hF.keep' ⟨rfl, rfl, trivial⟩, hbel⟩
  obtain ⟨b1, o1, hao1, hc1⟩ := txt_at hR hB (show j < ss.length by omega)
  obtain ⟨b2, o2, hao2, hc2⟩ := txt_at hR hB hlt
  rw [← getD_lt (show j < ss.length by omega)] at hc1
  rw [← getD_lt hlt, ← hs] at hc2
  have e1 := hao.symm.trans hao1; cases e1
  have e2 := hao.symm.trans hao2; cases e2
  rw [hao] at c2
  have hno2' := hno2
  generalize hsj : ss.getD j ⟨#[]⟩ = sj at *
  by_cases he : sj = s
  · have hd2 : decide (sj = s) = true := decide_eq_true he
    have hEE := hbad 12 (s12 hn0 ⟨j, hjk, by rw [hsj]; exact he⟩) (by decide)
    repeat (first | refine c_seq ?_ | refine c_block ?_ | refine c_region _ ?_ | refine wpList_nil ?_ | refine c_then ?_ | refine c_then_ret ?_ | refine c_in_ret ?_ | refine wp_skip ?_ | refine wp_ret ?_ | (refine q_nil ?_; rintro _ ⟨ndr, rfl⟩) | refine c_region_draw _ mixed (by kernel_rfl) ?_ | ((apply st hF); (first | exact d_move | exact d_assign | exact d_cmpT); clear hF; clear a; intro a hF) | ((apply q_step hF); intro wq hwq; (first | exact d_move | exact d_eqST | exact d_indexAddr1 (und _ _ rfl) (isz _ _ rfl) | exact d_fieldAddr (fld _ _ _ _ rfl) (isz _ _ rfl) | exact q_load (und _ _ rfl) hwq (by exact c2) | exact q_load (und _ _ rfl) hwq (by exact hc1) | exact q_load (und _ _ rfl) hwq (by exact hc2)); clear hF; clear a; intro a hF) | (apply c_cond_t hF; exact rfl; first | exact rfl | assumption))
    exact ret1 hF rfl rfl ⟨by rw [hEE], below_more hB _⟩
  · have hd2 : decide (sj = s) = false := decide_eq_false he
    repeat (first | refine c_seq ?_ | refine c_block ?_ | refine c_region _ ?_ | refine wpList_nil ?_ | refine c_then ?_ | refine c_in ?_ | refine wp_skip ?_ | (refine q_nil ?_; rintro _ ⟨ndr, rfl⟩) | refine c_region_draw _ mixed (by kernel_rfl) ?_ | ((apply st hF); (first | exact d_move | exact d_assign | exact d_add | exact d_cmpT); clear hF; clear a; intro a hF) | ((apply q_step hF); intro wq hwq; (first | exact d_move | exact d_eqSF | exact d_indexAddr1 (und _ _ rfl) (isz _ _ rfl) | exact d_fieldAddr (fld _ _ _ _ rfl) (isz _ _ rfl) | exact q_load (und _ _ rfl) hwq (by exact c2) | exact q_load (und _ _ rfl) hwq (by exact hc1) | exact q_load (und _ _ rfl) hwq (by exact hc2)); clear hF; clear a; intro a hF) | (apply c_cond_t hF; exact rfl; first | exact rfl | assumption) | (apply c_cond_f hF; exact rfl; first | exact rfl | assumption))
    exact ⟨k - (j + 1), by omega, j + 1, by omega, rfl, fun i hi => by
      by_cases e : i = j
      · subst e; rw [hsj]; exact he
      · exact hno2 i (by omega), hF.keep' ⟨rfl, rfl, rfl, trivial⟩, below_more hbel _⟩
set_option maxHeartbeats 4000000 in
theorem rhas_ok (w : World) (s : Sig) (v : Int) (hv : -9223372036854775808 ≤ v ∧ v ≤ 9223372036854775807) :
    Ret Tryz.prog 90 [.agg (Sig.cells s).toArray, .int .i64 v].toArray w (fun r w' => r = .bool (hasB s v) ∧ Below w.heap.size w w') := by
  have hwrap := wrap_u64 hv
  obtain ⟨uv, huv⟩ : ∃ x, x = if v < 0 then v + 18446744073709551616 else v := ⟨_, rfl⟩
  rw [← huv] at hwrap
  have hub : 0 ≤ uv ∧ uv < 18446744073709551616 := by rw [huv]; split <;> omega
  have hH : hasB s v = ((s.sgn || decide (0 ≤ v)) && fitsB uv s.size s.sgn) := by unfold hasB; rw [← huv]
  have hcast : ∀ (l : List (Nat × Value)) (x : Operand) (ty : TypeId) (wq : World), Ev l x (.int .i64 v) → Does Tryz.prog l wq (.convert 2 58 x) ty (.int .u64 uv) wq := fun l x ty wq hx => d_convI (und _ _ rfl) (und _ _ rfl) (hx := hx) (hm := hwrap)
  refine enter2 Tryz.func90 rfl 18 rfl 20 rfl (fun a hF => ?_)
  repeat (first | refine c_seq ?_ | refine c_region _ ?_)
  refine st_box hF (cs := (Sig.cells s).toArray) rfl (k := fun a w1 hg1 hgr1 hsz1 hF => ?_)
  have hb1 : Below w.heap.size w w1 := (Below.refl _ w).grown hgr1 (Nat.le_refl _) (fun k hk => by cases hk)
  have hs1 : SgAt w.heap.size s w1 := hg1
  clear hg1 hgr1
  have c6 := hs1.c' 6 _ rfl
  have c8 := hs1.c' 8 _ rfl
  clear huv hwrap
  cases hsg : s.sgn with
  | true =>
    rw [hsg] at c8
    rw [hsg, Bool.true_or, Bool.true_and] at hH
    repeat (first | refine c_seq ?_ | refine c_region _ ?_ | refine wpList_nil ?_ | refine c_then ?_ | ((first | apply st hF | apply stg hF); (first | exact d_move | exact d_assign | exact d_pickT | exact d_fieldAddr (fld _ _ _ _ rfl) (isz _ _ rfl) | exact hcast _ _ _ _ rfl | exact d_load (und _ _ rfl) c8 | exact d_load (und _ _ rfl) c6); clear hF; clear a; intro a hF) | ((apply stm hF); clear hF; clear a; intro a hF))
    refine stcg hF (rfits_ok w1 uv s.size true hub) cal25 ⟨rfl, rfl, rfl, trivial⟩ (k := fun a v' w2 hR hF => ?_)
    obtain ⟨rfl, rfl⟩ := hR
    repeat (first | refine wpList_nil ?_ | refine c_then ?_ | refine wp_ret ?_ | ((apply st hF); (first | exact d_assign | exact d_pickT); clear hF; clear a; intro a hF))
    exact ret1 hF rfl rfl ⟨by rw [hH], hb1⟩
  | false =>
    rw [hsg] at c8
    rw [hsg, Bool.false_or] at hH
    by_cases h0 : v ≥ 0
    · rw [decide_eq_true (show 0 ≤ v from h0), Bool.true_and] at hH
      repeat (first | refine c_seq ?_ | refine c_region _ ?_ | refine wpList_nil ?_ | refine c_then ?_ | ((first | apply st hF | apply stg hF); (first | exact d_move | exact d_assign | exact d_pickF | exact d_cmpT | exact d_fieldAddr (fld _ _ _ _ rfl) (isz _ _ rfl) | exact hcast _ _ _ _ rfl | exact d_load (und _ _ rfl) c8 | exact d_load (und _ _ rfl) c6); clear hF; clear a; intro a hF))
      refine stcg hF (rfits_ok w1 uv s.size false hub) cal25 ⟨rfl, rfl, rfl, trivial⟩ (k := fun a v' w2 hR hF => ?_)
      obtain ⟨rfl, rfl⟩ := hR
      repeat (first | refine wpList_nil ?_ | refine c_then ?_ | refine wp_ret ?_ | ((apply st hF); (first | exact d_assign | exact d_pickT); clear hF; clear a; intro a hF))
      exact ret1 hF rfl rfl ⟨by rw [hH], hb1⟩
    · rw [decide_eq_false (show ¬ 0 ≤ v from h0), Bool.false_and] at hH
      repeat (first | refine c_seq ?_ | refine c_region _ ?_ | refine wpList_nil ?_ | refine c_then ?_ | refine wp_ret ?_ | ((first | apply st hF | apply stg hF); (first | exact d_move | exact d_assign | exact d_pickF | exact d_cmpF | exact d_fieldAddr (fld _ _ _ _ rfl) (isz _ _ rfl) | exact d_load (und _ _ rfl) c8); clear hF; clear a; intro a hF) | ((apply stm hF); clear hF; clear a; intro a hF))
      exact ret1 hF rfl rfl ⟨by rw [hH], hb1⟩
set_option maxHeartbeats 8000000 in
theorem rrows_ok (w : World) (s : Sig) (ao : Option Addr) (n c : Nat) (rs : List RowV) (hn : rs.length = n) (hR : RdS w ao 2 RowV.cells rs) (hv : ∀ r ∈ rs, -9223372036854775808 ≤ r.value ∧ r.value ≤ 9223372036854775807) :
    Ret Tryz.prog 68 [.agg (Sig.cells s).toArray, .slice ao n c].toArray w (fun v w' => v = .int .i64 (rowsE s rs) ∧ Below w.heap.size w w') := by
  subst hn
  refine enter2 Tryz.func68 rfl 48 rfl 50 rfl (fun a hF => ?_)
  repeat (first | refine c_seq ?_ | refine c_region _ ?_)
  refine st_box hF (cs := (Sig.cells s).toArray) rfl (k := fun a w1 hg1 hgr1 hsz1 hF => ?_)
  have hb1 : Below w.heap.size w w1 := (Below.refl _ w).grown hgr1 (Nat.le_refl _) (fun k hk => by cases hk)
  have hs1 : SgAt w.heap.size s w1 := hg1
  clear hg1 hgr1
  by_cases hbig : 256 < rs.length
  · repeat (first | refine c_seq ?_ | refine c_region _ ?_ | refine wpList_nil ?_ | refine c_then ?_ | refine c_then_ret ?_ | refine wp_ret ?_ | ((apply st hF); (first | exact d_move | exact d_assign | exact d_cmpT | exact d_len (und _ _ rfl)); clear hF; clear a; intro a hF) | (apply c_cond_t hF; exact rfl; first | exact rfl | assumption))
    refine ret1 hF rfl rfl ⟨?_, hb1⟩
    unfold rowsE
    rw [if_pos hbig]
  have hE : rowsE s rs = someE (firstAt (fun i => rowE s rs i ≠ 0) rs.length) (rowE s rs) := by
    unfold rowsE
    rw [if_neg hbig]
  repeat (first | refine c_seq ?_ | refine c_block ?_ | refine c_region _ ?_ | refine wpList_nil ?_ | refine c_then ?_ | refine wp_skip ?_ | ((apply st hF); (first | exact d_move | exact d_assign | exact d_cmpF | exact d_len (und _ _ rfl)); clear hF; clear a; intro a hF) | (apply c_cond_f hF; exact rfl; first | exact rfl | assumption))
  refine c_loop (fun q a wr => ∃ k : Nat, k ≤ rs.length ∧ q = rs.length - k ∧ (∀ j, j < k → rowE s rs j = 0) ∧ Fr 50 [(1, .slice ao rs.length c), (2, .pointer (some ⟨w.heap.size, 0, none⟩)), (5, .int .i64 (k : Nat))] a ∧
    SgAt w.heap.size s wr ∧ Below w.heap.size w wr) rs.length
    ⟨0, Nat.zero_le _, rfl, fun j hj => absurd hj (Nat.not_lt_zero _), hF.keep' ⟨rfl, rfl, rfl, trivial⟩, hs1, hb1⟩ ?_
  clear hF a hs1 hb1
  rintro q a wr ⟨k, hk, rfl, hok, hF, hs, hbel⟩
  have hz := hbel.size
  by_cases hlt : k < rs.length
  case neg =>
    obtain rfl : k = rs.length := by omega
    repeat (first | refine c_seq ?_ | refine c_region _ ?_ | refine wpList_nil ?_ | refine c_then ?_ | refine c_then_exit ?_ | refine c_in_hit ?_ | refine wp_exit ?_ | refine wp_ret ?_ | ((apply st hF); (first | exact d_move | exact d_assign | exact d_cmpF | exact d_len (und _ _ rfl)); clear hF; clear a; intro a hF) | (apply c_cond_f hF; exact rfl; first | exact rfl | assumption))
    refine ret1 hF rfl rfl ⟨?_, hbel⟩
    rw [hE, firstAt_none (fun i hi e => e (hok i hi))]
    rfl
  have hbad : ∀ e, rowE s rs k = e → e ≠ 0 → rowsE s rs = e := fun e he h => by
    rw [hE, firstAt_some hlt (by rw [he]; exact h) (fun j hj e => e (hok j hj))]
    exact he
  have hcell : ∀ (wq : World), Below w.heap.size w wq → ∀ j, j < rs.length → ∃ b o, ao = some ⟨b, o, none⟩ ∧ ∀ q v, (RowV.cells (rv_ rs j))[q]? = some v → wq.cell? ⟨b, o + j * 2 + q, none⟩ = some v := fun wq hb j hj => by
    obtain ⟨b, o, h1, h2⟩ := hR.below hb j hj
    exact ⟨b, o, h1, by rw [rv_lt hj]; exact h2⟩
  obtain ⟨b, o, hao, hc⟩ := hcell wr hbel k hlt
  have hvk := hv _ (List.getElem_mem hlt)
  rw [← rv_lt hlt] at hvk
  have hEq : rowE s rs k = rowE s rs k := rfl
  conv at hEq => rhs; unfold rowE
  obtain ⟨r, hr⟩ : ∃ x, x = rv_ rs k := ⟨_, rfl⟩
  rw [← hr] at hc hvk hEq
  rw [hao] at hF
  repeat (first | refine c_seq ?_ | refine c_block ?_ | refine c_region _ ?_ | refine wpList_nil ?_ | refine c_then ?_ | refine wp_skip ?_ | ((apply st hF); (first | exact d_move | exact d_cmpT | exact d_len (und _ _ rfl) | exact d_fieldAddr (fld _ _ _ _ rfl) (isz _ _ rfl) | exact d_indexAddrS (und _ _ rfl) (isz _ _ rfl) (j := k) | exact d_load (und _ _ rfl) (hc 1 _ rfl)); clear hF; clear a; intro a hF) | (apply c_cond_t hF; exact rfl; first | exact rfl | assumption))
  refine stc hF (rmay_ok wr r.text) cal37 ⟨rfl, trivial⟩ (k := fun a v r1 hR1 hF => ?_)
  obtain ⟨m, rfl, hm, hb1⟩ := hR1
  rw [text_is hm] at hF
  have hs1 := hs.below hb1
  have hB1 : Below w.heap.size w r1 := hbel.trans (hb1.mono hz)
  clear hm m
  obtain ⟨te, hte⟩ : ∃ x, x = textE r.text := ⟨_, rfl⟩
  rw [← hte] at hF hEq
  by_cases ht0 : te = 0
  case neg =>
    rw [if_pos ht0] at hEq
    repeat (first | refine c_seq ?_ | refine c_region _ ?_ | refine wpList_nil ?_ | refine c_then ?_ | refine c_then_ret ?_ | refine c_in_ret ?_ | refine wp_ret ?_ | ((apply st hF); (first | exact d_move | exact d_assign | exact d_cmpT); clear hF; clear a; intro a hF) | (apply c_cond_t hF; exact rfl; first | exact rfl | assumption))
    exact ret1 hF rfl rfl ⟨by rw [hbad te hEq ht0], hB1⟩
  rw [if_neg (fun h => h ht0)] at hEq
  repeat (first | (refine c_region_mix (fun wq => Below r1.heap.size r1 wq) [(0, true), (1, true), (2, true), (3, true), (4, true), (5, true), (6, false), (7, true)] 9 mixed (by kernel_rfl) (below_more (Below.refl _ r1) 1) ?_; simp only [pickX, List.filterMap_cons, List.getElem?_cons_zero, List.getElem?_cons_succ, List.filterMap_nil, Option.map_some]) | refine c_seq ?_ | refine c_region _ ?_ | refine wpList_nil ?_ | refine c_then ?_ | refine wp_skip ?_ | ((apply st hF); (first | exact d_move | exact d_assign | exact d_cmpF); clear hF; clear a; intro a hF) | (apply c_cond_f hF; exact rfl; first | exact rfl | assumption))
  have hdb : Below r1.heap.size r1 (r1.drewN 1) := below_more (Below.refl _ r1) 1
  generalize r1.drewN 1 = r2 at *
  have hB2 : Below w.heap.size w r2 := hB1.trans (hdb.mono hB1.size)
  obtain ⟨b', o', hao', hc'⟩ := hcell r1 hB1 k hlt
  have e' := hao.symm.trans hao'; cases e'
  rw [← hr] at hc'
  repeat (((apply x_step hF); intro wq hwq; (first | exact d_move | exact d_fieldAddr (fld _ _ _ _ rfl) (isz _ _ rfl) | exact d_indexAddrS (und _ _ rfl) (isz _ _ rfl) (j := k) | exact d_loadAgg (agg _ rfl) (isz _ _ rfl) rfl (cells_at (hs1.below hwq)) | exact d_load (und _ _ rfl) ((keep_c (hc' 0 _ rfl) hwq))); clear hF; clear a; intro a hF))
  refine x_one ?_
  refine stc hF (rhas_ok r2 s r.value hvk) cal90 ⟨rfl, rfl, trivial⟩ (k := fun a v r3 hR3 hF => ?_)
  obtain ⟨rfl, hb3⟩ := hR3
  have hs3 := (hs1.below hdb).below hb3
  have hB3 : Below w.heap.size w r3 := hB2.trans (hb3.mono hB2.size)
  refine wpList_nil ⟨rfl, hdb.trans (hb3.mono hdb.size), ?_⟩
  cases hH : hasB s r.value with
  | false =>
    rw [hH] at hF
    rw [if_pos hH] at hEq
    repeat (((apply x_step hF); intro wq hwq; (exact d_not); clear hF; clear a; intro a hF))
    refine x_nil ?_
    repeat (first | refine c_seq ?_ | refine c_region _ ?_ | refine wpList_nil ?_ | refine c_then ?_ | refine c_then_ret ?_ | refine c_in_ret ?_ | refine wp_ret ?_ | ((apply st hF); (exact d_assign); clear hF; clear a; intro a hF) | (apply c_cond_t hF; exact rfl; first | exact rfl | assumption))
    exact ret1 hF rfl rfl ⟨by rw [hbad 19 hEq (by decide)], hB3⟩
  | true =>
  rw [hH] at hF
  rw [if_neg (by rw [hH]; decide)] at hEq
  repeat (((apply x_step hF); intro wq hwq; (exact d_not); clear hF; clear a; intro a hF))
  refine x_nil ?_
  repeat (first | refine c_seq ?_ | refine c_block ?_ | refine c_region _ ?_ | refine wpList_nil ?_ | refine c_then ?_ | refine wp_skip ?_ | ((apply st hF); (exact d_assign); clear hF; clear a; intro a hF) | (apply c_cond_f hF; exact rfl; first | exact rfl | assumption))
  refine c_loop (fun q a wq => ∃ j : Nat, j ≤ k ∧ q = k - j ∧ (∀ i, i < j → (rv_ rs i).value ≠ r.value) ∧ Fr 50 [(1, .slice (some ⟨b, o, none⟩) rs.length c), (2, .pointer (some ⟨w.heap.size, 0, none⟩)), (5, .int .i64 (k : Nat)), (7, .int .i64 (j : Nat))] a ∧
    SgAt w.heap.size s wq ∧ Below w.heap.size w wq) k
    ⟨0, Nat.zero_le _, rfl, fun j hj => absurd hj (Nat.not_lt_zero _), hF.keep' ⟨rfl, rfl, rfl, rfl, trivial⟩, hs3, hB3⟩ ?_
  clear hF a hs3 hB3 hb3 hdb hB2 hs1 hB1 hb1 hc' hc
  rintro q a wq ⟨j, hj, rfl, hno, hF, hsq, hBq⟩
  by_cases hjk : j < k
  case neg =>
    obtain rfl : j = k := by omega
    rw [if_neg (fun ⟨i, hi, e⟩ => hno i hi e)] at hEq
    repeat (first | refine c_seq ?_ | refine c_region _ ?_ | refine wpList_nil ?_ | refine c_then ?_ | refine c_then_exit ?_ | refine c_in ?_ | refine c_in_hit ?_ | refine wp_exit ?_ | ((apply st hF); (first | exact d_move | exact d_assign | exact d_add | exact d_cmpF); clear hF; clear a; intro a hF) | (apply c_cond_f hF; exact rfl; first | exact rfl | assumption))
    exact ⟨rs.length - (j + 1), by omega, j + 1, by omega, rfl, fun i hi => by
      by_cases e : i = j
      · subst e; exact hEq
      · exact hok i (by omega), by rw [hao]; exact hF.keep' ⟨rfl, rfl, rfl, trivial⟩, hsq, hBq⟩
  obtain ⟨b1, o1, hao1, hc1⟩ := hcell wq hBq j (by omega)
  obtain ⟨b2, o2, hao2, hc2⟩ := hcell wq hBq k hlt
  have e1 := hao.symm.trans hao1; cases e1
  have e2 := hao.symm.trans hao2; cases e2
  rw [← hr] at hc2
  have k1 := hc1 0 _ rfl
  have k2 := hc2 0 _ rfl
  generalize hvj : (rv_ rs j).value = vj at *
  by_cases he : vj = r.value
  · rw [if_pos ⟨j, hjk, by rw [hvj]; exact he⟩] at hEq
    repeat (first | refine c_seq ?_ | refine c_block ?_ | refine c_region _ ?_ | refine wpList_nil ?_ | refine c_then ?_ | refine c_then_ret ?_ | refine c_in_ret ?_ | refine wp_skip ?_ | refine wp_ret ?_ | (refine q_nil ?_; rintro _ ⟨ndr, rfl⟩) | refine c_region_draw _ mixed (by kernel_rfl) ?_ | ((apply st hF); (first | exact d_move | exact d_assign | exact d_cmpT); clear hF; clear a; intro a hF) | ((apply q_step hF); intro wq hwq; (first | exact d_move | exact d_cmpT | exact d_fieldAddr (fld _ _ _ _ rfl) (isz _ _ rfl) | exact d_indexAddrS (und _ _ rfl) (isz _ _ rfl) (j := j) | exact d_indexAddrS (und _ _ rfl) (isz _ _ rfl) (j := k) | exact q_load (und _ _ rfl) hwq (by exact k1) | exact q_load (und _ _ rfl) hwq (by exact k2)); clear hF; clear a; intro a hF) | (apply c_cond_t hF; exact rfl; first | exact rfl | assumption))
    exact ret1 hF rfl rfl ⟨by rw [hbad 12 hEq (by decide)], below_more hBq _⟩
  · repeat (first | refine c_seq ?_ | refine c_block ?_ | refine c_region _ ?_ | refine wpList_nil ?_ | refine c_then ?_ | refine c_in ?_ | refine wp_skip ?_ | (refine q_nil ?_; rintro _ ⟨ndr, rfl⟩) | refine c_region_draw _ mixed (by kernel_rfl) ?_ | ((apply st hF); (first | exact d_move | exact d_assign | exact d_add | exact d_cmpT); clear hF; clear a; intro a hF) | ((apply q_step hF); intro wq hwq; (first | exact d_move | exact d_cmpF | exact d_fieldAddr (fld _ _ _ _ rfl) (isz _ _ rfl) | exact d_indexAddrS (und _ _ rfl) (isz _ _ rfl) (j := j) | exact d_indexAddrS (und _ _ rfl) (isz _ _ rfl) (j := k) | exact q_load (und _ _ rfl) hwq (by exact k1) | exact q_load (und _ _ rfl) hwq (by exact k2)); clear hF; clear a; intro a hF) | (apply c_cond_t hF; exact rfl; first | exact rfl | assumption) | (apply c_cond_f hF; exact rfl; first | exact rfl | assumption))
    exact ⟨k - (j + 1), by omega, j + 1, by omega, rfl, fun i hi => by
      by_cases e : i = j
      · subst e; rw [hvj]; exact he
      · exact hno i (by omega), hF.keep' ⟨rfl, rfl, rfl, rfl, trivial⟩, hsq.below (below_more (Below.refl _ wq) _), below_more hBq _⟩
end Go.Proofs.YtjomihhpglojpaaGreatDoor
end
section
/- The reference's Mux, walked: the first multiplexor among the first so many signals. -/
namespace Go.Proofs.YtjomihhpglojpaaGreatDoor
open Go.RowKit
set_option linter.unusedSimpArgs false
set_option linter.unusedVariables false
attribute [local irreducible] wpList wpQuiet wpStill Code.wp Exit.then Exit.inBlock bodyPost Calls Does Does0
theorem sigc_len' (s : Sig) : (Sig.cells s).length = 19 := rfl
theorem mux_ok (w : World) (l : List Sig) (ao : Option Addr) (m c n : Nat) (hm : l.length = m) (hR : RdS w ao 19 Sig.cells l) (hn : n ≤ m) (hb : m ≤ 1000000000000) :
    Ret Tryz.prog 24 [.slice ao m c, .int .i64 (n : Int)].toArray w (fun v w' => (∃ z, MuxR l n z ∧ v = .int .i64 z) ∧ w' = w) := by
  subst hm
  refine enter2 Tryz.func24 rfl 16 rfl 18 rfl (fun a hF => ?_)
  repeat (first | refine c_seq ?_ | refine c_block ?_ | refine c_region _ ?_ | refine wpList_nil ?_ | refine c_then ?_ | ((apply st hF); (exact d_assign); clear hF; clear a; intro a hF))
  refine c_loop (fun q a wr => ∃ k : Nat, k ≤ n ∧ q = n - k ∧ (∀ j (hj : j < l.length), j < k → l[j].role ≠ 1) ∧ Fr 18 [(0, .slice ao l.length c), (1, .int .i64 (n : Int)), (5, .int .i64 (k : Int))] a ∧ wr = w) n
    ⟨0, Nat.zero_le _, rfl, fun j _ h => absurd h (Nat.not_lt_zero _), hF.keep' ⟨rfl, rfl, rfl, trivial⟩, rfl⟩ ?_
  clear hF a
  rintro q a wr ⟨k, hk, rfl, hpre, hF, rfl⟩
  by_cases hlt : k < n
  · have hkl : k < l.length := by omega
    obtain ⟨b, o, hao, hc⟩ := hR k hkl
    rw [hao] at hF
    have hr : wr.cell? ⟨b, o + k * 19 + 3, none⟩ = some (.int .i64 l[k].role) := hc 3 _ rfl
    by_cases h1 : l[k].role = 1
    · repeat (first | refine c_seq ?_ | refine c_block ?_ | refine c_region _ ?_ | refine wpList_nil ?_ | refine c_then ?_ | refine c_then_ret ?_ | refine c_in_ret ?_ | refine wp_skip ?_ | refine wp_ret ?_ | ((apply st hF); (first | exact d_move | exact d_assign | exact d_cmpT | exact d_fieldAddr (fld _ _ _ _ rfl) (isz _ _ rfl) | exact d_indexAddrS (und _ _ rfl) (isz _ _ rfl) (j := k) | exact d_load (und _ _ rfl) hr); clear hF; clear a; intro a hF) | (apply c_cond_t hF; exact rfl; first | exact rfl | assumption))
      exact ret1 hF rfl rfl ⟨⟨_, .inl ⟨k, hkl, hlt, h1, hpre, rfl⟩, rfl⟩, rfl⟩
    · repeat (first | refine c_seq ?_ | refine c_block ?_ | refine c_region _ ?_ | refine wpList_nil ?_ | refine c_then ?_ | refine c_in ?_ | refine wp_skip ?_ | ((apply st hF); (first | exact d_move | exact d_assign | exact d_add | exact d_cmpT | exact d_cmpF | exact d_fieldAddr (fld _ _ _ _ rfl) (isz _ _ rfl) | exact d_indexAddrS (und _ _ rfl) (isz _ _ rfl) (j := k) | exact d_load (und _ _ rfl) hr); clear hF; clear a; intro a hF) | (apply c_cond_t hF; exact rfl; first | exact rfl | assumption) | (apply c_cond_f hF; exact rfl; first | exact rfl | assumption))
      exact ⟨n - (k + 1), by omega, k + 1, by omega, rfl, fun j hj hjk => by
        by_cases e : j = k
        · subst e; exact h1
        · exact hpre j hj (by omega), hao.symm ▸ hF.keep' ⟨rfl, rfl, rfl, trivial⟩, rfl⟩
  · repeat (first | refine c_seq ?_ | refine c_region _ ?_ | refine wpList_nil ?_ | refine c_then ?_ | refine c_then_exit ?_ | refine c_in_hit ?_ | refine wp_exit ?_ | refine wp_ret ?_ | ((apply st hF); (first | exact d_move | exact d_assign | exact d_cmpF); clear hF; clear a; intro a hF) | (apply c_cond_f hF; exact rfl; first | exact rfl | assumption))
    exact ret1 hF rfl rfl ⟨⟨_, .inr ⟨fun j hj hjn => hpre j hj (by omega), rfl⟩, rfl⟩, rfl⟩
end Go.Proofs.YtjomihhpglojpaaGreatDoor
end
section
/- The reference's Together, walked. -/
namespace Go.Proofs.YtjomihhpglojpaaGreatDoor
open Go.RowKit
set_option linter.unusedSimpArgs false
set_option linter.unusedVariables false
attribute [local irreducible] wpList wpQuiet wpStill Code.wp Exit.then Exit.inBlock bodyPost Calls Does Does0
theorem together_ok (w : World) (s t : Sig) : Ret Tryz.prog 26 [.agg (Sig.cells s).toArray, .agg (Sig.cells t).toArray].toArray w (fun v w' => v = .bool (togB s t) ∧ Below w.heap.size w w') := by
  refine enter2 Tryz.func26 rfl 18 rfl 20 rfl (fun a hF => ?_)
  unfold togB
  repeat (first | refine c_seq ?_ | refine c_region _ ?_)
  refine st_box hF (cs := (Sig.cells s).toArray) rfl (k := fun a w1 hg1 hgr1 hsz1 hF => ?_)
  refine st_box hF (cs := (Sig.cells t).toArray) rfl (k := fun a w2 hg2 hgr2 hsz2 hF => ?_)
  have hb2 : Below w.heap.size w w2 := ((Below.refl _ w).grown hgr1 (Nat.le_refl _) (fun k hk => by cases hk)).grown hgr2 (by omega) (fun k hk => by cases hk)
  have hg12 := blk_kept hg1 hgr2 (by simp)
  have r1 : w2.cell? ⟨w.heap.size, 0 + 3, none⟩ = some (.int .i64 s.role) := cell_at hg12 rfl
  have r2 : w2.cell? ⟨w1.heap.size, 0 + 3, none⟩ = some (.int .i64 t.role) := cell_at hg2 rfl
  have r3 : w2.cell? ⟨w.heap.size, 0 + 4, none⟩ = some (.int .u64 s.branch) := cell_at hg12 rfl
  have r4 : w2.cell? ⟨w1.heap.size, 0 + 4, none⟩ = some (.int .u64 t.branch) := cell_at hg2 rfl
  by_cases h1 : s.role = 2
  · by_cases h2 : t.role = 2
    · by_cases h3 : s.branch = t.branch
      · rw [decide_eq_true (.inr (.inr h3))]
        repeat (first | refine c_seq ?_ | refine c_region _ ?_ | refine wpList_nil ?_ | refine c_then ?_ | refine wp_ret ?_ | ((first | apply st hF | apply stg hF); (first | exact d_move | exact d_assign | exact d_pickF | exact d_cmpT | exact d_cmpF | exact d_fieldAddr (fld _ _ _ _ rfl) (isz _ _ rfl) | exact d_load (und _ _ rfl) r1 | exact d_load (und _ _ rfl) r2 | exact d_load (und _ _ rfl) r3 | exact d_load (und _ _ rfl) r4); clear hF; clear a; intro a hF))
        exact ret1 hF rfl rfl ⟨rfl, hb2⟩
      · rw [decide_eq_false (fun h => h.elim (fun x => x h1) (fun h => h.elim (fun x => x h2) h3))]
        repeat (first | refine c_seq ?_ | refine c_region _ ?_ | refine wpList_nil ?_ | refine c_then ?_ | refine wp_ret ?_ | ((first | apply st hF | apply stg hF); (first | exact d_move | exact d_assign | exact d_pickF | exact d_cmpF | exact d_fieldAddr (fld _ _ _ _ rfl) (isz _ _ rfl) | exact d_load (und _ _ rfl) r1 | exact d_load (und _ _ rfl) r2 | exact d_load (und _ _ rfl) r3 | exact d_load (und _ _ rfl) r4); clear hF; clear a; intro a hF))
        exact ret1 hF rfl rfl ⟨rfl, hb2⟩
    · rw [decide_eq_true (.inr (.inl h2))]
      repeat (first | refine c_seq ?_ | refine c_region _ ?_ | refine wpList_nil ?_ | refine c_then ?_ | refine wp_ret ?_ | ((first | apply st hF | apply stg hF); (first | exact d_move | exact d_assign | exact d_pickT | exact d_pickF | exact d_cmpT | exact d_cmpF | exact d_fieldAddr (fld _ _ _ _ rfl) (isz _ _ rfl) | exact d_load (und _ _ rfl) r1 | exact d_load (und _ _ rfl) r2); clear hF; clear a; intro a hF) | ((apply stm hF); clear hF; clear a; intro a hF))
      exact ret1 hF rfl rfl ⟨rfl, hb2⟩
  · rw [decide_eq_true (.inl h1)]
    repeat (first | refine c_seq ?_ | refine c_region _ ?_ | refine wpList_nil ?_ | refine c_then ?_ | refine wp_ret ?_ | ((apply st hF); (first | exact d_move | exact d_assign | exact d_pickT | exact d_cmpT | exact d_fieldAddr (fld _ _ _ _ rfl) (isz _ _ rfl) | exact d_load (und _ _ rfl) r1); clear hF; clear a; intro a hF) | ((apply stm hF); clear hF; clear a; intro a hF))
    exact ret1 hF rfl rfl ⟨rfl, hb2⟩
end Go.Proofs.YtjomihhpglojpaaGreatDoor
end
