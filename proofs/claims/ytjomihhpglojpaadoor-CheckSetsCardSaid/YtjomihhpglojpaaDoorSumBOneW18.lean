/- Laid together by a program of mine: NnD. -/
import Derived.Test.YtjomihhpglojpaaDoorSumBOneW17
set_option linter.unusedSimpArgs false
set_option linter.unusedVariables false
section
/- The reference's big numbers: divided, common: walked. -/
namespace Go.Proofs.YtjomihhpglojpaaDoor
open Go.RowKit
set_option linter.unusedSimpArgs false
set_option linter.unusedVariables false
attribute [local irreducible] wpList wpQuiet wpStill Code.wp Exit.then Exit.inBlock bodyPost Calls Does Does0
open Nn
theorem bit_and (d k : Nat) : d / 2 ^ k &&& 1 = (d.testBit k).toNat := by
  rw [Nat.and_one_is_mod, Nat.testBit_eq_decide_div_mod_eq]
  have : d / 2 ^ k % 2 < 2 := Nat.mod_lt _ (by decide)
  by_cases h : d / 2 ^ k % 2 = 1
  · simp [h]
  · have h0 : d / 2 ^ k % 2 = 0 := by omega
    simp [h0]
theorem toNat_le (b : Bool) : b.toNat ≤ 1 := by cases b <;> decide
theorem heldI_ge {x y : Nat} (h : y ≤ x) : ∃ z : Int, heldI x y = z ∧ 0 ≤ z := by
  refine ⟨_, rfl, ?_⟩
  unfold heldI
  rw [if_neg (by omega)]
  split <;> omega
theorem heldI_lt {x y : Nat} (h : x < y) : heldI x y = -1 := if_pos h
set_option maxHeartbeats 8000000 in
theorem div_ok (w : World) (B1 B2 : Nat) (v1 v2 : Value) (x y : Nat) (h1 : NatV B1 w v1 x) (h2 : NatV B2 w v2 y) (hx : x < B 50) (hy : y < B 50) (hy0 : 0 < y) :
    Ret Tryd.prog 109 [v1, v2].toArray w (fun v w' => ∃ q r, v = .tuple #[q, r] ∧ NatV w.heap.size w' q (x / y) ∧ NatV w.heap.size w' r (x % y) ∧ Below w.heap.size w w') := by
  obtain ⟨ao, c, xs, rfl, hRa, hda, hna, rfl, _⟩ := h1
  have la := nat_len hna rfl hx
  have hB99 : ∀ z : Nat, z < 4 * B 50 → z < B 100 := fun z hz => by
    have e : B 51 = 4294967296 * B 50 := B_succ 50
    have h51 : 4 * B 50 ≤ B 51 := by rw [e]; exact Nat.mul_le_mul_right _ (by decide)
    exact Nat.lt_of_lt_of_le (Nat.lt_of_lt_of_le hz h51) (B_le (by decide))
  refine enter2 Tryd.func109 rfl 65 rfl 67 rfl (fun a hF => ?_)
  repeat (first | refine c_seq ?_ | refine c_block ?_ | refine c_region _ ?_ | refine wpList_nil ?_ | refine c_then ?_ | refine c_then_exit ?_ | refine c_then_ret ?_ | refine c_in ?_ | refine c_in_ret ?_ | refine c_in_hit ?_ | refine wp_skip ?_ | refine wp_exit ?_ | refine wp_ret ?_ | refine c_in_miss rfl ?_ | (refine q_nil ?_; rintro _ ⟨ndr, rfl⟩) | refine c_region_draw _ mixed (by kernel_rfl) ?_ | ((first | apply st hF | apply stg hF | apply s_step hF | apply s_stg hF); (first | exact d_move | exact d_assign | exact d_add | exact d_sub | exact d_quo | exact d_rem | exact d_cmpT | exact d_cmpF | exact d_cmp | exact d_len (und _ _ rfl) | exact d_lens (und _ _ rfl) | exact d_indexAddr1 (und _ _ rfl) (isz _ _ rfl)); clear hF; clear a; intro a hF) | ((first | apply q_step hF | apply q_stg hF); intro wq hwq; (first | exact d_move | exact d_assign | exact d_add | exact d_sub | exact d_quo | exact d_rem | exact d_cmpT | exact d_cmpF | exact d_cmp | exact d_len (und _ _ rfl) | exact d_lens (und _ _ rfl) | exact d_indexAddr1 (und _ _ rfl) (isz _ _ rfl)); clear hF; clear a; intro a hF) | ((first | apply stm hF | apply stu hF | apply q_stm hF | apply q_stu hF); clear hF; clear a; intro a hF) | (apply c_cond_t hF; exact rfl; first | exact rfl | assumption) | (apply c_cond_f hF; exact rfl; first | exact rfl | assumption) | refine s_nil ?_)
  refine c_loop (fun q a wr => ∃ (k cap : Nat) (ro : Option Addr), k ≤ xs.length ∧ q = xs.length - k ∧ Fr 67 [(0, .slice ao xs.length c), (1, v2), (6, .slice ro k cap), (7, .int .i64 (k : Int))] a ∧
      wr.ownsRow w.heap.size 24 1 (.slice ro k cap) k ((List.replicate k 0).map u32v) ∧ Below w.heap.size w wr) xs.length
    ⟨0, 0, none, Nat.zero_le _, rfl, hF.keep' ⟨rfl, rfl, rfl, rfl, trivial⟩, World.ownsRow_nil _ _ _ _, Below.refl _ w⟩ ?_
  clear hF a
  rintro q a wr ⟨k, cap, ro, hk, rfl, hF, hown, hbel⟩
  have hsz := hbel.size
  by_cases hlt : k < xs.length
  · repeat (first | refine c_seq ?_ | refine c_block ?_ | refine c_region _ ?_ | refine wpList_nil ?_ | refine c_then ?_ | refine c_then_exit ?_ | refine c_then_ret ?_ | refine c_in ?_ | refine c_in_ret ?_ | refine c_in_hit ?_ | refine wp_skip ?_ | refine wp_exit ?_ | refine wp_ret ?_ | refine c_in_miss rfl ?_ | (refine q_nil ?_; rintro _ ⟨ndr, rfl⟩) | refine c_region_draw _ mixed (by kernel_rfl) ?_ | ((first | apply st hF | apply stg hF | apply s_step hF | apply s_stg hF); (first | exact d_move | exact d_assign | exact d_add | exact d_sub | exact d_quo | exact d_rem | exact d_cmpT | exact d_cmpF | exact d_cmp | exact d_len (und _ _ rfl) | exact d_lens (und _ _ rfl) | exact d_indexAddr1 (und _ _ rfl) (isz _ _ rfl)); clear hF; clear a; intro a hF) | ((first | apply q_step hF | apply q_stg hF); intro wq hwq; (first | exact d_move | exact d_assign | exact d_add | exact d_sub | exact d_quo | exact d_rem | exact d_cmpT | exact d_cmpF | exact d_cmp | exact d_len (und _ _ rfl) | exact d_lens (und _ _ rfl) | exact d_indexAddr1 (und _ _ rfl) (isz _ _ rfl)); clear hF; clear a; intro a hF) | ((first | apply stm hF | apply stu hF | apply q_stm hF | apply q_stu hF); clear hF; clear a; intro a hF) | (apply c_cond_t hF; exact rfl; first | exact rfl | assumption) | (apply c_cond_f hF; exact rfl; first | exact rfl | assumption) | refine s_nil ?_)
    refine st_push' hF (u := .int .u32 0) (und _ _ rfl) inf24 rfl hown (by omega) (by unfold maxLen; omega) hsz (k := fun a ro2 cap2 w3 hown3 hgr3 hat3 hF => ?_)
    repeat (first | refine c_seq ?_ | refine c_block ?_ | refine c_region _ ?_ | refine wpList_nil ?_ | refine c_then ?_ | refine c_then_exit ?_ | refine c_then_ret ?_ | refine c_in ?_ | refine c_in_ret ?_ | refine c_in_hit ?_ | refine wp_skip ?_ | refine wp_exit ?_ | refine wp_ret ?_ | refine c_in_miss rfl ?_ | (refine q_nil ?_; rintro _ ⟨ndr, rfl⟩) | refine c_region_draw _ mixed (by kernel_rfl) ?_ | ((first | apply st hF | apply stg hF | apply s_step hF | apply s_stg hF); (first | exact d_move | exact d_assign | exact d_add | exact d_sub | exact d_quo | exact d_rem | exact d_cmpT | exact d_cmpF | exact d_cmp | exact d_len (und _ _ rfl) | exact d_lens (und _ _ rfl) | exact d_indexAddr1 (und _ _ rfl) (isz _ _ rfl)); clear hF; clear a; intro a hF) | ((first | apply q_step hF | apply q_stg hF); intro wq hwq; (first | exact d_move | exact d_assign | exact d_add | exact d_sub | exact d_quo | exact d_rem | exact d_cmpT | exact d_cmpF | exact d_cmp | exact d_len (und _ _ rfl) | exact d_lens (und _ _ rfl) | exact d_indexAddr1 (und _ _ rfl) (isz _ _ rfl)); clear hF; clear a; intro a hF) | ((first | apply stm hF | apply stu hF | apply q_stm hF | apply q_stu hF); clear hF; clear a; intro a hF) | (apply c_cond_t hF; exact rfl; first | exact rfl | assumption) | (apply c_cond_f hF; exact rfl; first | exact rfl | assumption) | refine s_nil ?_)
    exact ⟨xs.length - (k + 1), by omega, k + 1, cap2, ro2, by omega, rfl, hF.keep' ⟨rfl, rfl, rfl, rfl, trivial⟩, by rw [map_rep]; exact hown3, below_own hbel hsz hown hgr3⟩
  obtain rfl : k = xs.length := by omega
  have hH : ∀ g, (Value.slice ro xs.length cap).ownBlock = some g → g < wr.heap.size := fun g hg => (hown.lt g hg).2
  repeat (first | refine c_seq ?_ | refine c_block ?_ | refine c_region _ ?_ | refine wpList_nil ?_ | refine c_then ?_ | refine c_then_exit ?_ | refine c_then_ret ?_ | refine c_in ?_ | refine c_in_ret ?_ | refine c_in_hit ?_ | refine wp_skip ?_ | refine wp_exit ?_ | refine wp_ret ?_ | refine c_in_miss rfl ?_ | (refine q_nil ?_; rintro _ ⟨ndr, rfl⟩) | refine c_region_draw _ mixed (by kernel_rfl) ?_ | ((first | apply st hF | apply stg hF | apply s_step hF | apply s_stg hF); (first | exact d_move | exact d_assign | exact d_add | exact d_sub | exact d_quo | exact d_rem | exact d_cmpT | exact d_cmpF | exact d_cmp | exact d_len (und _ _ rfl) | exact d_lens (und _ _ rfl) | exact d_indexAddr1 (und _ _ rfl) (isz _ _ rfl) | exact d_mul (h := by omega)); clear hF; clear a; intro a hF) | ((first | apply q_step hF | apply q_stg hF); intro wq hwq; (first | exact d_move | exact d_assign | exact d_add | exact d_sub | exact d_quo | exact d_rem | exact d_cmpT | exact d_cmpF | exact d_cmp | exact d_len (und _ _ rfl) | exact d_lens (und _ _ rfl) | exact d_indexAddr1 (und _ _ rfl) (isz _ _ rfl) | exact d_mul (h := by omega)); clear hF; clear a; intro a hF) | ((first | apply stm hF | apply stu hF | apply q_stm hF | apply q_stu hF); clear hF; clear a; intro a hF) | (apply c_cond_t hF; exact rfl; first | exact rfl | assumption) | (apply c_cond_f hF; exact rfl; first | exact rfl | assumption) | refine s_nil ?_)
  have e32 : 32 * ((xs.length : Nat) : Int) - 1 = ((32 * xs.length : Nat) : Int) - 1 := by omega
  rw [e32] at hF
  generalize hHe : wr.heap.size = H at *
  refine c_loop (fun q a wq => ∃ (ql : List Nat) (rv : Value) (r : Nat), q ≤ 32 * xs.length ∧ DivAt xs ql y r q ∧ Fr 67 [(0, .slice ao xs.length c), (1, v2), (6, .slice ro xs.length cap), (8, rv), (9, .int .i64 ((q : Int) - 1))] a ∧
      wq.ownsRow w.heap.size 24 1 (.slice ro xs.length cap) xs.length (ql.map u32v) ∧ NatV H wq rv r ∧ Below w.heap.size w wq ∧ H ≤ wq.heap.size) (32 * xs.length)
    ⟨_, _, _, Nat.le_refl _, div_zero hda hy0, hF.keep' ⟨rfl, rfl, rfl, rfl, rfl, trivial⟩, hown, NatV.nil _ _ _, hbel, Nat.le_of_eq hHe.symm⟩ ?_
  clear hF a hown hbel hlt hHe wr
  rintro q a wr ⟨ql, rv, r, hq, hD, hF, hown, hNr, hbel, hHw⟩
  have hsz' := hbel.size
  rcases Nat.eq_zero_or_pos q with rfl | hpos
  · obtain ⟨o1, o2, o3, o4⟩ := own_u32 hown
    obtain ⟨e1, e2⟩ := div_end hD
    repeat (first | refine c_seq ?_ | refine c_block ?_ | refine c_region _ ?_ | refine wpList_nil ?_ | refine c_then ?_ | refine c_then_exit ?_ | refine c_then_ret ?_ | refine c_in ?_ | refine c_in_ret ?_ | refine c_in_hit ?_ | refine wp_skip ?_ | refine wp_exit ?_ | refine wp_ret ?_ | refine c_in_miss rfl ?_ | (refine q_nil ?_; rintro _ ⟨ndr, rfl⟩) | refine c_region_draw _ mixed (by kernel_rfl) ?_ | ((first | apply st hF | apply stg hF | apply s_step hF | apply s_stg hF); (first | exact d_move | exact d_assign | exact d_add | exact d_sub | exact d_quo | exact d_rem | exact d_cmpT | exact d_cmpF | exact d_cmp | exact d_len (und _ _ rfl) | exact d_lens (und _ _ rfl) | exact d_indexAddr1 (und _ _ rfl) (isz _ _ rfl)); clear hF; clear a; intro a hF) | ((first | apply q_step hF | apply q_stg hF); intro wq hwq; (first | exact d_move | exact d_assign | exact d_add | exact d_sub | exact d_quo | exact d_rem | exact d_cmpT | exact d_cmpF | exact d_cmp | exact d_len (und _ _ rfl) | exact d_lens (und _ _ rfl) | exact d_indexAddr1 (und _ _ rfl) (isz _ _ rfl)); clear hF; clear a; intro a hF) | ((first | apply stm hF | apply stu hF | apply q_stm hF | apply q_stu hF); clear hF; clear a; intro a hF) | (apply c_cond_t hF; exact rfl; first | exact rfl | assumption) | (apply c_cond_f hF; exact rfl; first | exact rfl | assumption) | refine s_nil ?_)
    refine stc hF (trim_ok wr w.heap.size ql ro _ cap o1 o2 o3 hD.dig (by omega) o4) cal110 ⟨rfl, trivial⟩ (k := fun a v w1 hR hF => ?_)
    obtain ⟨hv, rfl⟩ := hR
    rw [e1] at hv
    rw [e2] at hNr
    repeat (first | refine c_seq ?_ | refine c_block ?_ | refine c_region _ ?_ | refine wpList_nil ?_ | refine c_then ?_ | refine c_then_exit ?_ | refine c_then_ret ?_ | refine c_in ?_ | refine c_in_ret ?_ | refine c_in_hit ?_ | refine wp_skip ?_ | refine wp_exit ?_ | refine wp_ret ?_ | refine c_in_miss rfl ?_ | (refine q_nil ?_; rintro _ ⟨ndr, rfl⟩) | refine c_region_draw _ mixed (by kernel_rfl) ?_ | ((first | apply st hF | apply stg hF | apply s_step hF | apply s_stg hF); (first | exact d_move | exact d_assign | exact d_add | exact d_sub | exact d_quo | exact d_rem | exact d_cmpT | exact d_cmpF | exact d_cmp | exact d_len (und _ _ rfl) | exact d_lens (und _ _ rfl) | exact d_indexAddr1 (und _ _ rfl) (isz _ _ rfl)); clear hF; clear a; intro a hF) | ((first | apply q_step hF | apply q_stg hF); intro wq hwq; (first | exact d_move | exact d_assign | exact d_add | exact d_sub | exact d_quo | exact d_rem | exact d_cmpT | exact d_cmpF | exact d_cmp | exact d_len (und _ _ rfl) | exact d_lens (und _ _ rfl) | exact d_indexAddr1 (und _ _ rfl) (isz _ _ rfl)); clear hF; clear a; intro a hF) | ((first | apply stm hF | apply stu hF | apply q_stm hF | apply q_stu hF); clear hF; clear a; intro a hF) | (apply c_cond_t hF; exact rfl; first | exact rfl | assumption) | (apply c_cond_f hF; exact rfl; first | exact rfl | assumption) | refine s_nil ?_)
    exact ret2 hF rfl rfl rfl ⟨_, _, rfl, hv, hNr.mono hsz, hbel⟩
  · obtain ⟨i, rfl⟩ : ∃ i, q = i + 1 := ⟨q - 1, by omega⟩
    have e1 : ((i + 1 : Nat) : Int) - 1 = (i : Int) := by omega
    rw [e1] at hF
    have hi : i / 32 < xs.length := by omega
    obtain ⟨b1, p1, hao, c1⟩ := rd_u32 (hRa.below hbel) hi
    rw [hao] at hF
    have hdx := dgt_lt hda (i / 32)
    have hdx2 : dgt xs (i / 32) / 2 ^ (i % 32) < 4294967296 := Nat.lt_of_le_of_lt (Nat.div_le_self _ _) hdx
    have m1 : dgt xs (i / 32) / 2 ^ (i % 32) % 2 ^ IntKind.u64.bits = dgt xs (i / 32) / 2 ^ (i % 32) := Nat.mod_eq_of_lt (Nat.lt_trans hdx2 (by decide))
    have hdx3 : dgt xs (i / 32) / 2 ^ (i % 32) < 2 ^ IntKind.u64.bits := Nat.lt_trans hdx2 (by decide)
    have hm32 : i % 32 ≤ IntKind.u32.bits := by show i % 32 ≤ 32; omega
    have hbit : dgt xs (i / 32) / 2 ^ (i % 32) &&& 1 = ((valN xs).testBit i).toNat := by rw [bit_and, bit_val xs i hda]
    have hbt := toNat_le ((valN xs).testBit i)
    have ed : (i : Int) / 32 = ((i / 32 : Nat) : Int) := by omega
    have em : (i : Int) % 32 = ((i % 32 : Nat) : Int) := by omega
    repeat (first | refine c_seq ?_ | refine c_block ?_ | refine c_region _ ?_ | refine wpList_nil ?_ | refine c_then ?_ | refine c_then_exit ?_ | refine c_then_ret ?_ | refine c_in ?_ | refine c_in_ret ?_ | refine c_in_hit ?_ | refine wp_skip ?_ | refine wp_exit ?_ | refine wp_ret ?_ | refine c_in_miss rfl ?_ | (refine q_nil ?_; rintro _ ⟨ndr, rfl⟩) | refine c_region_draw _ mixed (by kernel_rfl) ?_ | ((first | apply st hF | apply stg hF | apply s_step hF | apply s_stg hF); (first | exact d_move | exact d_assign | exact d_add | exact d_sub | exact d_quo | exact d_rem | exact d_cmpT | exact d_cmpF | exact d_cmp | exact d_len (und _ _ rfl) | exact d_lens (und _ _ rfl) | exact d_indexAddr1 (und _ _ rfl) (isz _ _ rfl) | exact d_indexAddr1 (und _ _ rfl) (isz _ _ rfl) (j := i / 32) (hq := ed) | exact d_shr (a := dgt xs (i / 32)) (b := i % 32) (hq := em) (hb := hm32) | exact d_convN (und _ _ rfl) (und _ _ rfl) (hm := m1) | exact d_bits (a := dgt xs (i / 32) / 2 ^ (i % 32)) (b := 1) (ha := hdx3) (hb := by decide) | exact d_load (und _ _ rfl) c1); clear hF; clear a; intro a hF) | ((first | apply q_step hF | apply q_stg hF); intro wq hwq; (first | exact d_move | exact d_assign | exact d_add | exact d_sub | exact d_quo | exact d_rem | exact d_cmpT | exact d_cmpF | exact d_cmp | exact d_len (und _ _ rfl) | exact d_lens (und _ _ rfl) | exact d_indexAddr1 (und _ _ rfl) (isz _ _ rfl) | exact d_indexAddr1 (und _ _ rfl) (isz _ _ rfl) (j := i / 32) (hq := ed) | exact d_shr (a := dgt xs (i / 32)) (b := i % 32) (hq := em) (hb := hm32) | exact d_convN (und _ _ rfl) (und _ _ rfl) (hm := m1) | exact d_bits (a := dgt xs (i / 32) / 2 ^ (i % 32)) (b := 1) (ha := hdx3) (hb := by decide) | exact q_load (und _ _ rfl) hwq (by exact c1)); clear hF; clear a; intro a hF) | ((first | apply stm hF | apply stu hF | apply q_stm hF | apply q_stu hF); clear hF; clear a; intro a hF) | (apply c_cond_t hF; exact rfl; first | exact rfl | assumption) | (apply c_cond_f hF; exact rfl; first | exact rfl | assumption) | refine s_nil ?_)
    rw [hbit, ← hao] at hF
    generalize hbe : ((valN xs).testBit i).toNat = bt at *
    have hr := hD.lt
    have hr2 : r < B 100 := hB99 r (by omega)
    have hrr : r + r < B 100 := hB99 _ (by omega)
    have hbB : bt < B 100 := hB99 _ (by omega)
    have hrb : r + r + bt < B 100 := hB99 _ (by omega)
    have hyB : y < B 100 := hB99 _ (by omega)
    refine stc hF (plus_ok wr H H rv rv r r hNr hNr hr2 hr2) cal115 ⟨rfl, rfl, trivial⟩ (k := fun a v w1 hR hF => ?_)
    obtain ⟨hN1, hb1⟩ := hR
    repeat (first | refine c_seq ?_ | refine c_block ?_ | refine c_region _ ?_ | refine wpList_nil ?_ | refine c_then ?_ | refine c_then_exit ?_ | refine c_then_ret ?_ | refine c_in ?_ | refine c_in_ret ?_ | refine c_in_hit ?_ | refine wp_skip ?_ | refine wp_exit ?_ | refine wp_ret ?_ | refine c_in_miss rfl ?_ | (refine q_nil ?_; rintro _ ⟨ndr, rfl⟩) | refine c_region_draw _ mixed (by kernel_rfl) ?_ | ((first | apply st hF | apply stg hF | apply s_step hF | apply s_stg hF); (first | exact d_move | exact d_assign | exact d_add | exact d_sub | exact d_quo | exact d_rem | exact d_cmpT | exact d_cmpF | exact d_cmp | exact d_len (und _ _ rfl) | exact d_lens (und _ _ rfl) | exact d_indexAddr1 (und _ _ rfl) (isz _ _ rfl)); clear hF; clear a; intro a hF) | ((first | apply q_step hF | apply q_stg hF); intro wq hwq; (first | exact d_move | exact d_assign | exact d_add | exact d_sub | exact d_quo | exact d_rem | exact d_cmpT | exact d_cmpF | exact d_cmp | exact d_len (und _ _ rfl) | exact d_lens (und _ _ rfl) | exact d_indexAddr1 (und _ _ rfl) (isz _ _ rfl)); clear hF; clear a; intro a hF) | ((first | apply stm hF | apply stu hF | apply q_stm hF | apply q_stu hF); clear hF; clear a; intro a hF) | (apply c_cond_t hF; exact rfl; first | exact rfl | assumption) | (apply c_cond_f hF; exact rfl; first | exact rfl | assumption) | refine s_nil ?_)
    refine stc hF (from_ok w1 bt (by omega)) cal92 ⟨rfl, trivial⟩ (k := fun a v' w2 hR hF => ?_)
    obtain ⟨hN2, hb2⟩ := hR
    repeat (first | refine c_seq ?_ | refine c_block ?_ | refine c_region _ ?_ | refine wpList_nil ?_ | refine c_then ?_ | refine c_then_exit ?_ | refine c_then_ret ?_ | refine c_in ?_ | refine c_in_ret ?_ | refine c_in_hit ?_ | refine wp_skip ?_ | refine wp_exit ?_ | refine wp_ret ?_ | refine c_in_miss rfl ?_ | (refine q_nil ?_; rintro _ ⟨ndr, rfl⟩) | refine c_region_draw _ mixed (by kernel_rfl) ?_ | ((first | apply st hF | apply stg hF | apply s_step hF | apply s_stg hF); (first | exact d_move | exact d_assign | exact d_add | exact d_sub | exact d_quo | exact d_rem | exact d_cmpT | exact d_cmpF | exact d_cmp | exact d_len (und _ _ rfl) | exact d_lens (und _ _ rfl) | exact d_indexAddr1 (und _ _ rfl) (isz _ _ rfl)); clear hF; clear a; intro a hF) | ((first | apply q_step hF | apply q_stg hF); intro wq hwq; (first | exact d_move | exact d_assign | exact d_add | exact d_sub | exact d_quo | exact d_rem | exact d_cmpT | exact d_cmpF | exact d_cmp | exact d_len (und _ _ rfl) | exact d_lens (und _ _ rfl) | exact d_indexAddr1 (und _ _ rfl) (isz _ _ rfl)); clear hF; clear a; intro a hF) | ((first | apply stm hF | apply stu hF | apply q_stm hF | apply q_stu hF); clear hF; clear a; intro a hF) | (apply c_cond_t hF; exact rfl; first | exact rfl | assumption) | (apply c_cond_f hF; exact rfl; first | exact rfl | assumption) | refine s_nil ?_)
    refine stc hF (plus_ok w2 _ _ v v' (r + r) bt (hN1.below hb2) hN2 hrr hbB) cal115 ⟨rfl, rfl, trivial⟩ (k := fun a v3 w3 hR hF => ?_)
    obtain ⟨hN3, hb3⟩ := hR
    have z1 := hb1.size
    have z2 := hb2.size
    have z3 := hb3.size
    have hB13 : Below wr.heap.size wr w3 := (hb1.trans (hb2.mono z1)).trans (hb3.mono (Nat.le_trans z1 z2))
    have hbel3 : Below w.heap.size w w3 := hbel.trans (hB13.mono hsz')
    have hown3 := own_below hown hB13
    replace hN3 : NatV H w3 v3 (r + r + bt) := hN3.mono (by omega)
    have hrw : r + r + bt = 2 * r + bt := by omega
    repeat (first | refine c_seq ?_ | refine c_block ?_ | refine c_region _ ?_ | refine wpList_nil ?_ | refine c_then ?_ | refine c_then_exit ?_ | refine c_then_ret ?_ | refine c_in ?_ | refine c_in_ret ?_ | refine c_in_hit ?_ | refine wp_skip ?_ | refine wp_exit ?_ | refine wp_ret ?_ | refine c_in_miss rfl ?_ | (refine q_nil ?_; rintro _ ⟨ndr, rfl⟩) | refine c_region_draw _ mixed (by kernel_rfl) ?_ | ((first | apply st hF | apply stg hF | apply s_step hF | apply s_stg hF); (first | exact d_move | exact d_assign | exact d_add | exact d_sub | exact d_quo | exact d_rem | exact d_cmpT | exact d_cmpF | exact d_cmp | exact d_len (und _ _ rfl) | exact d_lens (und _ _ rfl) | exact d_indexAddr1 (und _ _ rfl) (isz _ _ rfl)); clear hF; clear a; intro a hF) | ((first | apply q_step hF | apply q_stg hF); intro wq hwq; (first | exact d_move | exact d_assign | exact d_add | exact d_sub | exact d_quo | exact d_rem | exact d_cmpT | exact d_cmpF | exact d_cmp | exact d_len (und _ _ rfl) | exact d_lens (und _ _ rfl) | exact d_indexAddr1 (und _ _ rfl) (isz _ _ rfl)); clear hF; clear a; intro a hF) | ((first | apply stm hF | apply stu hF | apply q_stm hF | apply q_stu hF); clear hF; clear a; intro a hF) | (apply c_cond_t hF; exact rfl; first | exact rfl | assumption) | (apply c_cond_f hF; exact rfl; first | exact rfl | assumption) | refine s_nil ?_)
    refine stc hF (held_ok w3 H B2 v3 v2 (r + r + bt) y hN3 (h2.below hbel3) hrb hyB) cal116 ⟨rfl, rfl, trivial⟩ (k := fun a vh w4 hR hF => ?_)
    obtain ⟨rfl, rfl⟩ := hR
    by_cases hge : y ≤ r + r + bt
    · obtain ⟨z, hz, hz0⟩ := heldI_ge hge
      rw [hz] at hF
      repeat (first | refine c_seq ?_ | refine c_block ?_ | refine c_region _ ?_ | refine wpList_nil ?_ | refine c_then ?_ | refine c_then_exit ?_ | refine c_then_ret ?_ | refine c_in ?_ | refine c_in_ret ?_ | refine c_in_hit ?_ | refine wp_skip ?_ | refine wp_exit ?_ | refine wp_ret ?_ | refine c_in_miss rfl ?_ | (refine q_nil ?_; rintro _ ⟨ndr, rfl⟩) | refine c_region_draw _ mixed (by kernel_rfl) ?_ | ((first | apply st hF | apply stg hF | apply s_step hF | apply s_stg hF); (first | exact d_move | exact d_assign | exact d_add | exact d_sub | exact d_quo | exact d_rem | exact d_cmpT | exact d_cmpF | exact d_cmp | exact d_len (und _ _ rfl) | exact d_lens (und _ _ rfl) | exact d_indexAddr1 (und _ _ rfl) (isz _ _ rfl)); clear hF; clear a; intro a hF) | ((first | apply q_step hF | apply q_stg hF); intro wq hwq; (first | exact d_move | exact d_assign | exact d_add | exact d_sub | exact d_quo | exact d_rem | exact d_cmpT | exact d_cmpF | exact d_cmp | exact d_len (und _ _ rfl) | exact d_lens (und _ _ rfl) | exact d_indexAddr1 (und _ _ rfl) (isz _ _ rfl)); clear hF; clear a; intro a hF) | ((first | apply stm hF | apply stu hF | apply q_stm hF | apply q_stu hF); clear hF; clear a; intro a hF) | (apply c_cond_t hF; exact rfl; first | exact rfl | assumption) | (apply c_cond_f hF; exact rfl; first | exact rfl | assumption) | refine s_nil ?_)
      refine stc hF (less_ok w4 H B2 v3 v2 (r + r + bt) y hN3 (h2.below hbel3) hrb hge) cal117 ⟨rfl, rfl, trivial⟩ (k := fun a v5 w5 hR hF => ?_)
      obtain ⟨hN5, hb5⟩ := hR
      have z5 := hb5.size
      have hbel5 : Below w.heap.size w w5 := hbel3.trans (hb5.mono hbel3.size)
      have hown5 := own_below hown3 hb5
      replace hN5 : NatV H w5 v5 (r + r + bt - y) := hN5.mono (by omega)
      obtain ⟨g, hg0, hgw⟩ := own_some hown5 (by omega)
      obtain ⟨o1, o2, o3, o4⟩ := own_u32 hown5
      obtain ⟨b3, p3, e3, c3⟩ := rd_u32 o3 (i := i / 32) (by omega)
      have hgH : g < H := hH g (by rw [hg0]; rfl)
      rw [hg0] at e3
      cases e3
      have htk := div_take hD (by omega) (by rw [hbe, ← hrw]; exact hge)
      rw [hbe, ← hrw] at htk
      obtain ⟨t1, t2⟩ := htk
      rw [hg0] at hF
      have c3D : (w5.drewN 1).cell? ⟨g, 0 + i / 32, none⟩ = some (.int .u32 ((dgt ql (i / 32) : Nat) : Int)) := c3
      have hq32 : dgt ql (i / 32) < 2 ^ IntKind.u32.bits := dgt_lt hD.dig _
      have hp32 : 2 ^ (i % 32) < 2 ^ IntKind.u32.bits := Nat.pow_lt_pow_right (by decide) (by show i % 32 < 32; omega)
      repeat (first | (refine c_region_tail 14 13 mixed (by kernel_rfl) ?_; simp only [List.take_succ_cons, List.take_zero, List.drop_succ_cons, List.drop_zero]) | refine c_seq ?_ | refine c_block ?_ | refine c_region _ ?_ | refine wpList_nil ?_ | refine c_then ?_ | refine c_then_exit ?_ | refine c_then_ret ?_ | refine c_in ?_ | refine c_in_ret ?_ | refine c_in_hit ?_ | refine wp_skip ?_ | refine wp_exit ?_ | refine wp_ret ?_ | refine c_in_miss rfl ?_ | (refine q_nil ?_; rintro _ ⟨ndr, rfl⟩) | refine c_region_draw _ mixed (by kernel_rfl) ?_ | ((first | apply st hF | apply stg hF | apply s_step hF | apply s_stg hF); (first | exact d_move | exact d_assign | exact d_add | exact d_sub | exact d_quo | exact d_rem | exact d_cmpT | exact d_cmpF | exact d_cmp | exact d_len (und _ _ rfl) | exact d_lens (und _ _ rfl) | exact d_indexAddr1 (und _ _ rfl) (isz _ _ rfl) | exact d_indexAddr1 (und _ _ rfl) (isz _ _ rfl) (j := i / 32) (hq := ed) | exact d_shl1 (b := i % 32) (hq := em) (hb := by show i % 32 < 32; omega) | exact d_bits (a := dgt ql (i / 32)) (b := 2 ^ (i % 32)) (ha := hq32) (hb := hp32) | exact d_load (und _ _ rfl) c3D); clear hF; clear a; intro a hF) | ((first | apply q_step hF | apply q_stg hF); intro wq hwq; (first | exact d_move | exact d_assign | exact d_add | exact d_sub | exact d_quo | exact d_rem | exact d_cmpT | exact d_cmpF | exact d_cmp | exact d_len (und _ _ rfl) | exact d_lens (und _ _ rfl) | exact d_indexAddr1 (und _ _ rfl) (isz _ _ rfl) | exact d_indexAddr1 (und _ _ rfl) (isz _ _ rfl) (j := i / 32) (hq := ed) | exact d_shl1 (b := i % 32) (hq := em) (hb := by show i % 32 < 32; omega) | exact d_bits (a := dgt ql (i / 32)) (b := 2 ^ (i % 32)) (ha := hq32) (hb := hp32) | exact q_load (und _ _ rfl) hwq (by exact c3D)); clear hF; clear a; intro a hF) | ((first | apply stm hF | apply stu hF | apply q_stm hF | apply q_stu hF); clear hF; clear a; intro a hF) | (apply c_cond_t hF; exact rfl; first | exact rfl | assumption) | (apply c_cond_f hF; exact rfl; first | exact rfl | assumption) | refine s_nil ?_)
      have hownD : (w5.drewN 1).ownsRow w.heap.size 24 1 (.slice (some ⟨g, 0, none⟩) xs.length cap) xs.length (ql.map u32v) := by rw [hg0] at hown5; exact hown5
      refine st_storeRow hF (j := i / 32) (v := .int .u32 ((dgt ql (i / 32) ||| 2 ^ (i % 32) : Nat) : Int)) (isz _ _ rfl) hownD hi rfl (k := fun a w6 hown6 hgr6 hsz6 hF => ?_)
      rw [← hg0] at hF hown6
      have hNd : NatV H (w5.drewN 1) v5 (r + r + bt - y) := hN5
      repeat (first | refine c_seq ?_ | refine c_block ?_ | refine c_region _ ?_ | refine wpList_nil ?_ | refine c_then ?_ | refine c_then_exit ?_ | refine c_then_ret ?_ | refine c_in ?_ | refine c_in_ret ?_ | refine c_in_hit ?_ | refine wp_skip ?_ | refine wp_exit ?_ | refine wp_ret ?_ | refine c_in_miss rfl ?_ | (refine q_nil ?_; rintro _ ⟨ndr, rfl⟩) | refine c_region_draw _ mixed (by kernel_rfl) ?_ | ((first | apply st hF | apply stg hF | apply s_step hF | apply s_stg hF); (first | exact d_move | exact d_assign | exact d_add | exact d_sub | exact d_quo | exact d_rem | exact d_cmpT | exact d_cmpF | exact d_cmp | exact d_len (und _ _ rfl) | exact d_lens (und _ _ rfl) | exact d_indexAddr1 (und _ _ rfl) (isz _ _ rfl)); clear hF; clear a; intro a hF) | ((first | apply q_step hF | apply q_stg hF); intro wq hwq; (first | exact d_move | exact d_assign | exact d_add | exact d_sub | exact d_quo | exact d_rem | exact d_cmpT | exact d_cmpF | exact d_cmp | exact d_len (und _ _ rfl) | exact d_lens (und _ _ rfl) | exact d_indexAddr1 (und _ _ rfl) (isz _ _ rfl)); clear hF; clear a; intro a hF) | ((first | apply stm hF | apply stu hF | apply q_stm hF | apply q_stu hF); clear hF; clear a; intro a hF) | (apply c_cond_t hF; exact rfl; first | exact rfl | assumption) | (apply c_cond_f hF; exact rfl; first | exact rfl | assumption) | refine s_nil ?_)
      have hz6 : w5.heap.size = w6.heap.size := hsz6.symm
      exact ⟨i, by omega, _, _, _, by omega, t2, hF.keep' ⟨rfl, rfl, rfl, rfl, rfl, trivial⟩, by rw [map_put]; exact hown6, hNd.kept hgr6 hgH, (below_more hbel5 1).grown hgr6 hbel5.size (fun q e => by cases e; exact hgw), by omega⟩
    · have hlt : r + r + bt < y := by omega
      rw [heldI_lt hlt] at hF
      have hkp := div_keep hD (by rw [hbe, ← hrw]; exact hlt)
      rw [hbe, ← hrw] at hkp
      repeat (first | refine c_seq ?_ | refine c_block ?_ | refine c_region _ ?_ | refine wpList_nil ?_ | refine c_then ?_ | refine c_then_exit ?_ | refine c_then_ret ?_ | refine c_in ?_ | refine c_in_ret ?_ | refine c_in_hit ?_ | refine wp_skip ?_ | refine wp_exit ?_ | refine wp_ret ?_ | refine c_in_miss rfl ?_ | (refine q_nil ?_; rintro _ ⟨ndr, rfl⟩) | refine c_region_draw _ mixed (by kernel_rfl) ?_ | ((first | apply st hF | apply stg hF | apply s_step hF | apply s_stg hF); (first | exact d_move | exact d_assign | exact d_add | exact d_sub | exact d_quo | exact d_rem | exact d_cmpT | exact d_cmpF | exact d_cmp | exact d_len (und _ _ rfl) | exact d_lens (und _ _ rfl) | exact d_indexAddr1 (und _ _ rfl) (isz _ _ rfl)); clear hF; clear a; intro a hF) | ((first | apply q_step hF | apply q_stg hF); intro wq hwq; (first | exact d_move | exact d_assign | exact d_add | exact d_sub | exact d_quo | exact d_rem | exact d_cmpT | exact d_cmpF | exact d_cmp | exact d_len (und _ _ rfl) | exact d_lens (und _ _ rfl) | exact d_indexAddr1 (und _ _ rfl) (isz _ _ rfl)); clear hF; clear a; intro a hF) | ((first | apply stm hF | apply stu hF | apply q_stm hF | apply q_stu hF); clear hF; clear a; intro a hF) | (apply c_cond_t hF; exact rfl; first | exact rfl | assumption) | (apply c_cond_f hF; exact rfl; first | exact rfl | assumption) | refine s_nil ?_)
      exact ⟨i, by omega, _, _, _, by omega, hkp, hF.keep' ⟨rfl, rfl, rfl, rfl, rfl, trivial⟩, hown3, hN3, hbel3, by omega⟩
theorem nat_pos {B0 : Nat} {w : World} {v : Value} {x : Nat} (h : NatV B0 w v x) : ∃ ao c n, v = .slice ao n c ∧ (n = 0 ↔ x = 0) ∧ ∀ k, x < B k → n ≤ k := by
  obtain ⟨ao, c, ds, rfl, _, hd, hn, rfl, _⟩ := h
  exact ⟨ao, c, _, rfl, norm_zero hn, fun k hk => norm_len hn hk⟩
set_option maxHeartbeats 4000000 in
theorem common_ok (w : World) (B1 B2 : Nat) (v1 v2 : Value) (x y : Nat) (h1 : NatV B1 w v1 x) (h2 : NatV B2 w v2 y) (hx : x < B 2) (hy : y < B 2) :
    Ret Tryd.prog 91 [v1, v2].toArray w (fun v w' => NatV 0 w' v (Nat.gcd x y) ∧ Below w.heap.size w w') := by
  have h128 : x * y < 2 ^ 128 := by
    rw [B_2] at hx hy
    calc x * y ≤ 18446744073709551615 * 18446744073709551615 := Nat.mul_le_mul (by omega) (by omega)
      _ < 2 ^ 128 := by decide
  refine enter2 Tryd.func91 rfl 31 rfl 33 rfl (fun a hF => ?_)
  repeat (first | refine c_seq ?_ | refine c_block ?_ | refine c_region _ ?_ | refine wpList_nil ?_ | refine c_then ?_ | refine c_then_exit ?_ | refine c_then_ret ?_ | refine c_in ?_ | refine c_in_ret ?_ | refine c_in_hit ?_ | refine wp_skip ?_ | refine wp_exit ?_ | refine wp_ret ?_ | refine c_in_miss rfl ?_ | ((first | apply st hF | apply stg hF | apply s_step hF | apply s_stg hF); (first | exact d_move | exact d_assign | exact d_pickT | exact d_pickF | exact d_add | exact d_cmpT | exact d_cmpF | exact d_cmp | exact d_len (und _ _ rfl) | exact d_lens (und _ _ rfl) | exact d_extract); clear hF; clear a; intro a hF) | ((first | apply stm hF | apply stu hF); clear hF; clear a; intro a hF) | (apply c_cond_t hF; exact rfl; first | exact rfl | assumption) | (apply c_cond_f hF; exact rfl; first | exact rfl | assumption) | refine s_nil ?_)
  refine c_loop (fun q a wr => ∃ (i : Nat) (u1 u2 : Value) (p : Nat), GcdAt x y 128 p q i ∧ p < B 2 ∧ q < B 2 ∧ i ≤ 1000 ∧ NatV 0 wr u1 p ∧ NatV 0 wr u2 q ∧ Fr 33 [(0, u1), (1, u2), (5, .int .i64 (i : Int))] a ∧ Below w.heap.size w wr) y
    ⟨0, v1, v2, x, gcd_zero h128, hx, hy, by decide, h1.mono (Nat.zero_le _), h2.mono (Nat.zero_le _), hF.keep' ⟨rfl, rfl, rfl, trivial⟩, Below.refl _ w⟩ ?_
  clear hF a
  rintro q a wr ⟨i, u1, u2, p, hG, hp, hq, hi, hN1, hN2, hF, hbel⟩
  obtain ⟨ao, c, n1, rfl, z1, l1⟩ := nat_pos hN1
  obtain ⟨bo, c', n2, rfl, z2, l2⟩ := nat_pos hN2
  have ln1 := l1 2 hp
  have ln2 := l2 2 hq
  have hB50 : ∀ z : Nat, z < B 2 → z < B 50 := fun z hz => Nat.lt_of_lt_of_le hz (B_le (by decide))
  rcases Nat.eq_zero_or_pos q with rfl | hpos
  · obtain rfl : n2 = 0 := z2.2 rfl
    have hg : p = Nat.gcd x y := by rw [← hG.gcd, Nat.gcd_zero_right]
    by_cases hlt : i < 64 * (n1 + 0) + 2
    · repeat (first | refine c_seq ?_ | refine c_block ?_ | refine c_region _ ?_ | refine wpList_nil ?_ | refine c_then ?_ | refine c_then_exit ?_ | refine c_then_ret ?_ | refine c_in ?_ | refine c_in_ret ?_ | refine c_in_hit ?_ | refine wp_skip ?_ | refine wp_exit ?_ | refine wp_ret ?_ | refine c_in_miss rfl ?_ | ((first | apply st hF | apply stg hF | apply s_step hF | apply s_stg hF); (first | exact d_move | exact d_assign | exact d_pickT | exact d_pickF | exact d_add | exact d_cmpT | exact d_cmpF | exact d_cmp | exact d_len (und _ _ rfl) | exact d_lens (und _ _ rfl) | exact d_extract | exact d_mul (h := by omega)); clear hF; clear a; intro a hF) | ((first | apply stm hF | apply stu hF); clear hF; clear a; intro a hF) | (apply c_cond_t hF; exact rfl; first | exact rfl | assumption) | (apply c_cond_f hF; exact rfl; first | exact rfl | assumption) | refine s_nil ?_)
      exact ret1 hF rfl rfl ⟨by rw [← hg]; exact hN1, hbel⟩
    · repeat (first | refine c_seq ?_ | refine c_block ?_ | refine c_region _ ?_ | refine wpList_nil ?_ | refine c_then ?_ | refine c_then_exit ?_ | refine c_then_ret ?_ | refine c_in ?_ | refine c_in_ret ?_ | refine c_in_hit ?_ | refine wp_skip ?_ | refine wp_exit ?_ | refine wp_ret ?_ | refine c_in_miss rfl ?_ | ((first | apply st hF | apply stg hF | apply s_step hF | apply s_stg hF); (first | exact d_move | exact d_assign | exact d_pickT | exact d_pickF | exact d_add | exact d_cmpT | exact d_cmpF | exact d_cmp | exact d_len (und _ _ rfl) | exact d_lens (und _ _ rfl) | exact d_extract | exact d_mul (h := by omega)); clear hF; clear a; intro a hF) | ((first | apply stm hF | apply stu hF); clear hF; clear a; intro a hF) | (apply c_cond_t hF; exact rfl; first | exact rfl | assumption) | (apply c_cond_f hF; exact rfl; first | exact rfl | assumption) | refine s_nil ?_)
      exact ret1 hF rfl rfl ⟨by rw [← hg]; exact hN1, hbel⟩
  · have hn2 : 0 < n2 := Nat.pos_of_ne_zero fun h => by have := z2.1 h; omega
    have hf : i < 64 * (n1 + n2) + 2 := by
      rcases Nat.eq_zero_or_pos i with rfl | hi0
      · omega
      · have h1 := gcd_fuel hG hpos (fun h => by omega)
        have hp0 : 0 < p := by
          rcases hG.ord with h | h
          · omega
          · omega
        have hn1 : 0 < n1 := Nat.pos_of_ne_zero fun h => by have := z1.1 h; omega
        omega
    repeat (first | refine c_seq ?_ | refine c_block ?_ | refine c_region _ ?_ | refine wpList_nil ?_ | refine c_then ?_ | refine c_then_exit ?_ | refine c_then_ret ?_ | refine c_in ?_ | refine c_in_ret ?_ | refine c_in_hit ?_ | refine wp_skip ?_ | refine wp_exit ?_ | refine wp_ret ?_ | refine c_in_miss rfl ?_ | ((first | apply st hF | apply stg hF | apply s_step hF | apply s_stg hF); (first | exact d_move | exact d_assign | exact d_pickT | exact d_pickF | exact d_add | exact d_cmpT | exact d_cmpF | exact d_cmp | exact d_len (und _ _ rfl) | exact d_lens (und _ _ rfl) | exact d_extract | exact d_mul (h := by omega)); clear hF; clear a; intro a hF) | ((first | apply stm hF | apply stu hF); clear hF; clear a; intro a hF) | (apply c_cond_t hF; exact rfl; first | exact rfl | assumption) | (apply c_cond_f hF; exact rfl; first | exact rfl | assumption) | refine s_nil ?_)
    refine stc hF (div_ok wr 0 0 _ _ p q hN1 hN2 (hB50 _ hp) (hB50 _ hq) hpos) cal109 ⟨rfl, rfl, trivial⟩ (k := fun a v w1 hR hF => ?_)
    obtain ⟨qv, rv, rfl, hNq, hNr, hb1⟩ := hR
    repeat (first | refine c_seq ?_ | refine c_block ?_ | refine c_region _ ?_ | refine wpList_nil ?_ | refine c_then ?_ | refine c_then_exit ?_ | refine c_then_ret ?_ | refine c_in ?_ | refine c_in_ret ?_ | refine c_in_hit ?_ | refine wp_skip ?_ | refine wp_exit ?_ | refine wp_ret ?_ | refine c_in_miss rfl ?_ | ((first | apply st hF | apply stg hF | apply s_step hF | apply s_stg hF); (first | exact d_move | exact d_assign | exact d_pickT | exact d_pickF | exact d_add | exact d_cmpT | exact d_cmpF | exact d_cmp | exact d_len (und _ _ rfl) | exact d_lens (und _ _ rfl) | exact d_extract); clear hF; clear a; intro a hF) | ((first | apply stm hF | apply stu hF); clear hF; clear a; intro a hF) | (apply c_cond_t hF; exact rfl; first | exact rfl | assumption) | (apply c_cond_f hF; exact rfl; first | exact rfl | assumption) | refine s_nil ?_)
    have hlt := Nat.mod_lt p hpos
    exact ⟨p % q, hlt, i + 1, _, _, _, gcd_step hG hpos, hq, by omega, by omega, hN2.below hb1, hNr.mono (Nat.zero_le _), hF.keep' ⟨rfl, rfl, rfl, trivial⟩, hbel.trans (hb1.mono hbel.size)⟩
end Go.Proofs.YtjomihhpglojpaaDoor
end
