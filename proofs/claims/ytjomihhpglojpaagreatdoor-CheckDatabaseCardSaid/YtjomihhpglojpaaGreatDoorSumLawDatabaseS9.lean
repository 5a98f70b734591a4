/- Laid together by a program of mine: NnT NnD Perm. -/
import Derived.Test.YtjomihhpglojpaaGreatDoorSumLawDatabaseS8
import Derived.Test.YtjomihhpglojpaaGreatDoorSumLawDatabaseS3
import Derived.OrdersHeld
set_option linter.unusedSimpArgs false
set_option linter.unusedVariables false
section
/- The reference's big numbers: times: walked. -/
namespace Go.Proofs.YtjomihhpglojpaaGreatDoor
open Go.RowKit
set_option linter.unusedSimpArgs false
set_option linter.unusedVariables false
attribute [local irreducible] wpList wpQuiet wpStill Code.wp Exit.then Exit.inBlock bodyPost Calls Does Does0
open Nn
theorem map_rep (k : Nat) : (List.replicate (k + 1) 0).map u32v = (List.replicate k 0).map u32v ++ [.int .u32 0] := by
  rw [List.replicate_succ', List.map_append]; rfl
theorem map_put (l : List Nat) (j d : Nat) : (l.set j d).map u32v = (l.map u32v).set j (.int .u32 (d : Int)) := by rw [List.map_set]; rfl
set_option maxHeartbeats 4000000 in
theorem times_ok (w : World) (B1 B2 : Nat) (v1 v2 : Value) (x y : Nat) (h1 : NatV B1 w v1 x) (h2 : NatV B2 w v2 y) (hx : x < B 50) (hy : y < B 50) :
    Ret Tryz.prog 119 [v1, v2].toArray w (fun v w' => NatV w.heap.size w' v (x * y) ∧ Below w.heap.size w w') := by
  obtain ⟨ao, c, xs, rfl, hRa, hda, hna, rfl, _⟩ := h1
  obtain ⟨bo, c', ys, rfl, hRb, hdb, hnb, rfl, _⟩ := h2
  have la := nat_len hna rfl hx
  have lb := nat_len hnb rfl hy
  refine enter2 Tryz.func119 rfl 73 rfl 75 rfl (fun a hF => ?_)
  repeat (first | refine c_seq ?_ | refine c_block ?_ | refine c_region _ ?_ | refine wpList_nil ?_ | refine c_then ?_ | ((apply st hF); (exact d_assign); clear hF; clear a; intro a hF))
  refine c_loop (fun q a wr => ∃ (k cap : Nat) (ro : Option Addr), k ≤ xs.length + ys.length ∧ q = xs.length + ys.length - k ∧ Fr 75 [(0, .slice ao xs.length c), (1, .slice bo ys.length c'), (5, .slice ro k cap), (6, .int .i64 (k : Int))] a ∧
      wr.ownsRow w.heap.size 24 1 (.slice ro k cap) k ((List.replicate k 0).map u32v) ∧ Below w.heap.size w wr) (xs.length + ys.length)
    ⟨0, 0, none, Nat.zero_le _, rfl, hF.keep' ⟨rfl, rfl, rfl, rfl, trivial⟩, World.ownsRow_nil _ _ _ _, Below.refl _ w⟩ ?_
  clear hF a
  rintro q a wr ⟨k, cap, ro, hk, rfl, hF, hown, hbel⟩
  have hsz := hbel.size
  by_cases hlt : k < xs.length + ys.length
  · repeat (first | refine c_seq ?_ | refine c_block ?_ | refine c_region _ ?_ | refine wpList_nil ?_ | refine c_then ?_ | refine wp_skip ?_ | ((apply st hF); (first | exact d_move | exact d_add | exact d_cmpT | exact d_len (und _ _ rfl)); clear hF; clear a; intro a hF) | (apply c_cond_t hF; exact rfl; first | exact rfl | assumption))
    refine st_push' hF (u := .int .u32 0) (und _ _ rfl) inf24 rfl hown (by omega) (by unfold maxLen; omega) hsz (k := fun a ro2 cap2 w3 hown3 hgr3 hat3 hF => ?_)
    repeat (first | refine c_region _ ?_ | refine wpList_nil ?_ | refine c_then ?_ | refine c_in ?_ | ((apply st hF); (first | exact d_move | exact d_assign | exact d_add); clear hF; clear a; intro a hF))
    exact ⟨xs.length + ys.length - (k + 1), by omega, k + 1, cap2, ro2, by omega, rfl, hF.keep' ⟨rfl, rfl, rfl, rfl, trivial⟩, by rw [map_rep]; exact hown3, below_own hbel hsz hown hgr3⟩
  obtain rfl : k = xs.length + ys.length := by omega
  repeat (first | refine c_seq ?_ | refine c_block ?_ | refine c_region _ ?_ | refine wpList_nil ?_ | refine c_then ?_ | refine c_then_exit ?_ | refine c_in_hit ?_ | refine wp_exit ?_ | ((apply st hF); (first | exact d_move | exact d_assign | exact d_add | exact d_cmpF | exact d_len (und _ _ rfl)); clear hF; clear a; intro a hF) | (apply c_cond_f hF; exact rfl; first | exact rfl | assumption))
  refine c_loop (fun q a wq => ∃ (i cap : Nat) (ro : Option Addr) (l : List Nat), i ≤ xs.length ∧ q = xs.length - i ∧ TimesAt xs ys l i 0 0 ∧ Fr 75 [(0, .slice ao xs.length c), (1, .slice bo ys.length c'), (5, .slice ro (xs.length + ys.length) cap), (7, .int .i64 (i : Int))] a ∧
      wq.ownsRow w.heap.size 24 1 (.slice ro (xs.length + ys.length) cap) (xs.length + ys.length) (l.map u32v) ∧ Below w.heap.size w wq) xs.length
    ⟨0, cap, ro, _, Nat.zero_le _, rfl, times_zero xs ys, hF.keep' ⟨rfl, rfl, rfl, rfl, trivial⟩, hown, hbel⟩ ?_
  clear hF a hown hbel hlt hsz wr
  rintro q a wr ⟨i, cap, ro, l, hi, rfl, hT, hF, hown, hbel⟩
  by_cases hlt : i < xs.length
  · repeat (first | refine c_seq ?_ | refine c_block ?_ | refine c_region _ ?_ | refine wpList_nil ?_ | refine c_then ?_ | refine wp_skip ?_ | ((apply st hF); (first | exact d_move | exact d_assign | exact d_cmpT | exact d_len (und _ _ rfl)); clear hF; clear a; intro a hF) | (apply c_cond_t hF; exact rfl; first | exact rfl | assumption))
    refine c_loop (fun q a wq => ∃ (k cc cap : Nat) (ro : Option Addr) (l : List Nat), k ≤ ys.length ∧ q = ys.length - k ∧ TimesAt xs ys l i k cc ∧ Fr 75 [(0, .slice ao xs.length c), (1, .slice bo ys.length c'), (5, .slice ro (xs.length + ys.length) cap), (7, .int .i64 (i : Int)), (8, .int .u64 (cc : Int)), (9, .int .i64 (k : Int))] a ∧
        wq.ownsRow w.heap.size 24 1 (.slice ro (xs.length + ys.length) cap) (xs.length + ys.length) (l.map u32v) ∧ Below w.heap.size w wq) ys.length
      ⟨0, 0, cap, ro, l, Nat.zero_le _, rfl, hT, hF.keep' ⟨rfl, rfl, rfl, rfl, rfl, rfl, trivial⟩, hown, hbel⟩ ?_
    clear hF a hown hbel hT wr l ro cap
    rintro q a wr ⟨k, cc, cap, ro, l, hk, rfl, hT, hF, hown, hbel⟩
    obtain ⟨g, rfl, hg⟩ := own_some hown (by omega)
    obtain ⟨o1, o2, o3, o4⟩ := own_u32 hown
    have hsz := hbel.size
    by_cases hlk : k < ys.length
    · obtain ⟨b1, p1, rfl, c1⟩ := rd_u32 (hRa.below hbel) hlt
      obtain ⟨b2, p2, rfl, c2⟩ := rd_u32 (hRb.below hbel) hlk
      obtain ⟨b3, p3, e3, c3⟩ := rd_u32 o3 (i := i + k) (by omega)
      cases e3
      have m1 : dgt xs i % 2 ^ IntKind.u64.bits = dgt xs i := Nat.mod_eq_of_lt (Nat.lt_trans (dgt_lt hda i) (by decide))
      have m2 : dgt ys k % 2 ^ IntKind.u64.bits = dgt ys k := Nat.mod_eq_of_lt (Nat.lt_trans (dgt_lt hdb k) (by decide))
      have m3 : dgt l (i + k) % 2 ^ IntKind.u64.bits = dgt l (i + k) := Nat.mod_eq_of_lt (Nat.lt_trans (dgt_lt hT.dig _) (by decide))
      obtain ⟨hn, hT2⟩ := times_step hda hdb hT hlt hlk rfl
      have hA3 : dgt xs i * dgt ys k + dgt l (i + k) + cc < 2 ^ IntKind.u64.bits := hn
      have hA2 : dgt xs i * dgt ys k + dgt l (i + k) < 2 ^ IntKind.u64.bits := Nat.lt_of_le_of_lt (Nat.le_add_right _ _) hA3
      have hA1 : dgt xs i * dgt ys k < 2 ^ IntKind.u64.bits := Nat.lt_of_le_of_lt (Nat.le_add_right _ _) hA2
      have ej : (i : Int) + (k : Int) = ((i + k : Nat) : Int) := by omega
      repeat (first | refine c_seq ?_ | refine c_block ?_ | refine c_region _ ?_ | refine wpList_nil ?_ | refine c_then ?_ | refine wp_skip ?_ | (refine q_nil ?_; rintro _ ⟨ndr, rfl⟩) | refine c_region_draw _ mixed (by kernel_rfl) ?_ | ((apply st hF); (first | exact d_move | exact d_add | exact d_cmpT | exact d_len (und _ _ rfl) | exact d_indexAddr1 (und _ _ rfl) (isz _ _ rfl) | exact d_convN (und _ _ rfl) (und _ _ rfl) (a := dgt xs i * dgt ys k + dgt l (i + k) + cc) (m := (dgt xs i * dgt ys k + dgt l (i + k) + cc) % 4294967296) (hm := rfl)); clear hF; clear a; intro a hF) | ((apply q_step hF); intro wq hwq; (first | exact d_move | exact d_assign | exact d_add | exact d_indexAddr1 (und _ _ rfl) (isz _ _ rfl) | exact d_convN (und _ _ rfl) (und _ _ rfl) (hm := m1) | exact d_convN (und _ _ rfl) (und _ _ rfl) (hm := m2) | exact d_convN (und _ _ rfl) (und _ _ rfl) (hm := m3) | exact d_mulN (h := hA1) | exact d_addN (h := hA2) | exact d_addN (h := hA3) | exact q_load (und _ _ rfl) hwq (by exact c1) | exact q_load (und _ _ rfl) hwq (by exact c2) | exact q_load (und _ _ rfl) hwq (by exact c3)); clear hF; clear a; intro a hF) | (apply c_cond_t hF; exact rfl; first | exact rfl | assumption))
      have hownD : (wr.drewN ndr).ownsRow w.heap.size 24 1 (.slice (some ⟨g, 0, none⟩) (xs.length + ys.length) cap) (xs.length + ys.length) (l.map u32v) := hown
      refine st_storeRow hF (j := i + k) (v := .int .u32 (((dgt xs i * dgt ys k + dgt l (i + k) + cc) % 4294967296 : Nat) : Int)) (isz _ _ rfl) hownD (by omega) rfl (k := fun a w3 hown3 hgr3 hsz3 hF => ?_)
      repeat (first | refine c_region _ ?_ | refine wpList_nil ?_ | refine c_then ?_ | refine c_in ?_ | ((apply st hF); (first | exact d_move | exact d_assign | exact d_add | exact d_shr (a := dgt xs i * dgt ys k + dgt l (i + k) + cc) (b := 32) (hb := by decide)); clear hF; clear a; intro a hF))
      exact ⟨ys.length - (k + 1), by omega, k + 1, _, cap, _, _, by omega, rfl, hT2, hF.keep' ⟨rfl, rfl, rfl, rfl, rfl, rfl, trivial⟩, by rw [map_put]; exact hown3, (below_more hbel ndr).grown hgr3 hsz (fun q e => by cases e; exact hg)⟩
    · obtain rfl : k = ys.length := by omega
      have ej : (i : Int) + (ys.length : Int) = ((i + ys.length : Nat) : Int) := by omega
      have mc : cc % 2 ^ IntKind.u32.bits = cc := Nat.mod_eq_of_lt hT.car
      repeat (first | refine c_seq ?_ | refine c_region _ ?_ | refine wpList_nil ?_ | refine c_then ?_ | refine c_then_exit ?_ | refine c_in_hit ?_ | refine wp_exit ?_ | ((apply st hF); (first | exact d_move | exact d_add | exact d_cmpF | exact d_len (und _ _ rfl) | exact d_indexAddr1 (und _ _ rfl) (isz _ _ rfl) | exact d_convN (und _ _ rfl) (und _ _ rfl) (hm := mc)); clear hF; clear a; intro a hF) | (apply c_cond_f hF; exact rfl; first | exact rfl | assumption))
      refine st_storeRow hF (j := i + ys.length) (v := .int .u32 (cc : Int)) (isz _ _ rfl) hown (by omega) rfl (k := fun a w3 hown3 hgr3 hsz3 hF => ?_)
      repeat (first | refine c_region _ ?_ | refine wpList_nil ?_ | refine c_then ?_ | refine c_in ?_ | ((apply st hF); (first | exact d_move | exact d_assign | exact d_add); clear hF; clear a; intro a hF))
      exact ⟨xs.length - (i + 1), by omega, i + 1, cap, _, _, by omega, rfl, times_next hT hlt, hF.keep' ⟨rfl, rfl, rfl, rfl, trivial⟩, by rw [map_put]; exact hown3, hbel.grown hgr3 hsz (fun q e => by cases e; exact hg)⟩
  · obtain rfl : i = xs.length := by omega
    obtain ⟨o1, o2, o3, o4⟩ := own_u32 hown
    repeat (first | refine c_seq ?_ | refine c_region _ ?_ | refine wpList_nil ?_ | refine c_then ?_ | refine c_then_exit ?_ | refine c_in_hit ?_ | refine wp_exit ?_ | ((apply st hF); (first | exact d_move | exact d_cmpF | exact d_len (und _ _ rfl)); clear hF; clear a; intro a hF) | (apply c_cond_f hF; exact rfl; first | exact rfl | assumption))
    refine stc hF (trim_ok wr w.heap.size l ro _ cap o1 o2 o3 hT.dig (by omega) o4) cal105 ⟨rfl, trivial⟩ (k := fun a v w1 hR hF => ?_)
    obtain ⟨hv, rfl⟩ := hR
    rw [times_end hT] at hv
    repeat (first | refine wpList_nil ?_ | refine c_then ?_ | refine wp_ret ?_ | ((apply st hF); (exact d_assign); clear hF; clear a; intro a hF))
    exact ret1 hF rfl rfl ⟨hv, hbel⟩
end Go.Proofs.YtjomihhpglojpaaGreatDoor
end
section
/- The reference's big numbers: divided, common: walked. -/
namespace Go.Proofs.YtjomihhpglojpaaGreatDoor
open Go.RowKit
set_option linter.unusedSimpArgs false
set_option linter.unusedVariables false
attribute [local irreducible] wpList wpQuiet wpStill Code.wp Exit.then Exit.inBlock bodyPost Calls Does Does0
open Nn
theorem bit_and (d k : Nat) : d / 2 ^ k &&& 1 = (d.testBit k).toNat := by
  rw [Nat.and_one_is_mod, Nat.testBit_eq_decide_div_mod_eq]
  have : d / 2 ^ k % 2 < 2 := Nat.mod_lt _ (by decide)
  by_cases h : d / 2 ^ k % 2 = 1
  · simp [h]
  · have h0 : d / 2 ^ k % 2 = 0 := by omega
    simp [h0]
theorem toNat_le (b : Bool) : b.toNat ≤ 1 := by cases b <;> decide
theorem heldI_ge {x y : Nat} (h : y ≤ x) : ∃ z : Int, heldI x y = z ∧ 0 ≤ z := by
  refine ⟨_, rfl, ?_⟩
  unfold heldI
  rw [if_neg (by omega)]
  split <;> omega
theorem heldI_lt {x y : Nat} (h : x < y) : heldI x y = -1 := if_pos h
set_option maxHeartbeats 8000000 in
theorem div_ok (w : World) (B1 B2 : Nat) (v1 v2 : Value) (x y : Nat) (h1 : NatV B1 w v1 x) (h2 : NatV B2 w v2 y) (hx : x < B 50) (hy : y < B 50) (hy0 : 0 < y) :
    Ret Tryz.prog 104 [v1, v2].toArray w (fun v w' => ∃ q r, v = .tuple #[q, r] ∧ NatV w.heap.size w' q (x / y) ∧ NatV w.heap.size w' r (x % y) ∧ Below w.heap.size w w') := by
  obtain ⟨ao, c, xs, rfl, hRa, hda, hna, rfl, _⟩ := h1
  have la := nat_len hna rfl hx
  have hB99 : ∀ z : Nat, z < 4 * B 50 → z < B 100 := fun z hz => by
    have e : B 51 = 4294967296 * B 50 := B_succ 50
    have h51 : 4 * B 50 ≤ B 51 := by rw [e]; exact Nat.mul_le_mul_right _ (by decide)
    exact Nat.lt_of_lt_of_le (Nat.lt_of_lt_of_le hz h51) (B_le (by decide))
  refine enter2 Tryz.func104 rfl 65 rfl 67 rfl (fun a hF => ?_)
  repeat (first | refine c_seq ?_ | refine c_block ?_ | refine c_region _ ?_ | refine wpList_nil ?_ | refine c_then ?_ | ((apply st hF); (exact d_assign); clear hF; clear a; intro a hF))
  refine c_loop (fun q a wr => ∃ (k cap : Nat) (ro : Option Addr), k ≤ xs.length ∧ q = xs.length - k ∧ Fr 67 [(0, .slice ao xs.length c), (1, v2), (6, .slice ro k cap), (7, .int .i64 (k : Int))] a ∧
      wr.ownsRow w.heap.size 24 1 (.slice ro k cap) k ((List.replicate k 0).map u32v) ∧ Below w.heap.size w wr) xs.length
    ⟨0, 0, none, Nat.zero_le _, rfl, hF.keep' ⟨rfl, rfl, rfl, rfl, trivial⟩, World.ownsRow_nil _ _ _ _, Below.refl _ w⟩ ?_
  clear hF a
  rintro q a wr ⟨k, cap, ro, hk, rfl, hF, hown, hbel⟩
  have hsz := hbel.size
  by_cases hlt : k < xs.length
  · repeat (first | refine c_seq ?_ | refine c_block ?_ | refine c_region _ ?_ | refine wpList_nil ?_ | refine c_then ?_ | refine wp_skip ?_ | ((apply st hF); (first | exact d_move | exact d_cmpT | exact d_len (und _ _ rfl)); clear hF; clear a; intro a hF) | (apply c_cond_t hF; exact rfl; first | exact rfl | assumption))
    refine st_push' hF (u := .int .u32 0) (und _ _ rfl) inf24 rfl hown (by omega) (by unfold maxLen; omega) hsz (k := fun a ro2 cap2 w3 hown3 hgr3 hat3 hF => ?_)
    repeat (first | refine c_region _ ?_ | refine wpList_nil ?_ | refine c_then ?_ | refine c_in ?_ | ((apply st hF); (first | exact d_move | exact d_assign | exact d_add); clear hF; clear a; intro a hF))
    exact ⟨xs.length - (k + 1), by omega, k + 1, cap2, ro2, by omega, rfl, hF.keep' ⟨rfl, rfl, rfl, rfl, trivial⟩, by rw [map_rep]; exact hown3, below_own hbel hsz hown hgr3⟩
  obtain rfl : k = xs.length := by omega
  have hH : ∀ g, (Value.slice ro xs.length cap).ownBlock = some g → g < wr.heap.size := fun g hg => (hown.lt g hg).2
  repeat (first | refine c_seq ?_ | refine c_block ?_ | refine c_region _ ?_ | refine wpList_nil ?_ | refine c_then ?_ | refine c_then_exit ?_ | refine c_in_hit ?_ | refine wp_exit ?_ | ((apply st hF); (first | exact d_move | exact d_assign | exact d_sub | exact d_cmpF | exact d_len (und _ _ rfl) | exact d_mul (h := by omega)); clear hF; clear a; intro a hF) | (apply c_cond_f hF; exact rfl; first | exact rfl | assumption))
  have e32 : 32 * ((xs.length : Nat) : Int) - 1 = ((32 * xs.length : Nat) : Int) - 1 := by omega
  rw [e32] at hF
  generalize hHe : wr.heap.size = H at *
  refine c_loop (fun q a wq => ∃ (ql : List Nat) (rv : Value) (r : Nat), q ≤ 32 * xs.length ∧ DivAt xs ql y r q ∧ Fr 67 [(0, .slice ao xs.length c), (1, v2), (6, .slice ro xs.length cap), (8, rv), (9, .int .i64 ((q : Int) - 1))] a ∧
      wq.ownsRow w.heap.size 24 1 (.slice ro xs.length cap) xs.length (ql.map u32v) ∧ NatV H wq rv r ∧ Below w.heap.size w wq ∧ H ≤ wq.heap.size) (32 * xs.length)
    ⟨_, _, _, Nat.le_refl _, div_zero hda hy0, hF.keep' ⟨rfl, rfl, rfl, rfl, rfl, trivial⟩, hown, NatV.nil _ _ _, hbel, Nat.le_of_eq hHe.symm⟩ ?_
  clear hF a hown hbel hlt hHe wr
  rintro q a wr ⟨ql, rv, r, hq, hD, hF, hown, hNr, hbel, hHw⟩
  have hsz' := hbel.size
  rcases Nat.eq_zero_or_pos q with rfl | hpos
  · obtain ⟨o1, o2, o3, o4⟩ := own_u32 hown
    obtain ⟨e1, e2⟩ := div_end hD
    repeat (first | refine c_seq ?_ | refine c_region _ ?_ | refine wpList_nil ?_ | refine c_then ?_ | refine c_then_exit ?_ | refine c_in_hit ?_ | refine wp_exit ?_ | ((apply st hF); (first | exact d_move | exact d_cmpF); clear hF; clear a; intro a hF) | (apply c_cond_f hF; exact rfl; first | exact rfl | assumption))
    refine stc hF (trim_ok wr w.heap.size ql ro _ cap o1 o2 o3 hD.dig (by omega) o4) cal105 ⟨rfl, trivial⟩ (k := fun a v w1 hR hF => ?_)
    obtain ⟨hv, rfl⟩ := hR
    rw [e1] at hv
    rw [e2] at hNr
    repeat (first | refine wpList_nil ?_ | refine c_then ?_ | refine wp_ret ?_ | ((apply st hF); (first | exact d_move | exact d_assign); clear hF; clear a; intro a hF))
    exact ret2 hF rfl rfl rfl ⟨_, _, rfl, hv, hNr.mono hsz, hbel⟩
  · obtain ⟨i, rfl⟩ : ∃ i, q = i + 1 := ⟨q - 1, by omega⟩
    have e1 : ((i + 1 : Nat) : Int) - 1 = (i : Int) := by omega
    rw [e1] at hF
    have hi : i / 32 < xs.length := by omega
    obtain ⟨b1, p1, hao, c1⟩ := rd_u32 (hRa.below hbel) hi
    rw [hao] at hF
    have hdx := dgt_lt hda (i / 32)
    have hdx2 : dgt xs (i / 32) / 2 ^ (i % 32) < 4294967296 := Nat.lt_of_le_of_lt (Nat.div_le_self _ _) hdx
    have m1 : dgt xs (i / 32) / 2 ^ (i % 32) % 2 ^ IntKind.u64.bits = dgt xs (i / 32) / 2 ^ (i % 32) := Nat.mod_eq_of_lt (Nat.lt_trans hdx2 (by decide))
    have hdx3 : dgt xs (i / 32) / 2 ^ (i % 32) < 2 ^ IntKind.u64.bits := Nat.lt_trans hdx2 (by decide)
    have hm32 : i % 32 ≤ IntKind.u32.bits := by show i % 32 ≤ 32; omega
    have hbit : dgt xs (i / 32) / 2 ^ (i % 32) &&& 1 = ((valN xs).testBit i).toNat := by rw [bit_and, bit_val xs i hda]
    have hbt := toNat_le ((valN xs).testBit i)
    have ed : (i : Int) / 32 = ((i / 32 : Nat) : Int) := by omega
    have em : (i : Int) % 32 = ((i % 32 : Nat) : Int) := by omega
    repeat (first | refine c_seq ?_ | refine c_block ?_ | refine c_region _ ?_ | refine wpList_nil ?_ | refine c_then ?_ | refine wp_skip ?_ | ((apply st hF); (first | exact d_move | exact d_assign | exact d_quo | exact d_rem | exact d_cmpT | exact d_indexAddr1 (und _ _ rfl) (isz _ _ rfl) | exact d_shr (a := dgt xs (i / 32)) (b := i % 32) (hq := em) (hb := hm32) | exact d_convN (und _ _ rfl) (und _ _ rfl) (hm := m1) | exact d_bits (a := dgt xs (i / 32) / 2 ^ (i % 32)) (b := 1) (ha := hdx3) (hb := by decide) | exact d_load (und _ _ rfl) c1); clear hF; clear a; intro a hF) | (apply c_cond_t hF; exact rfl; first | exact rfl | assumption))
    rw [hbit, ← hao] at hF
    generalize hbe : ((valN xs).testBit i).toNat = bt at *
    have hr := hD.lt
    have hr2 : r < B 100 := hB99 r (by omega)
    have hrr : r + r < B 100 := hB99 _ (by omega)
    have hbB : bt < B 100 := hB99 _ (by omega)
    have hrb : r + r + bt < B 100 := hB99 _ (by omega)
    have hyB : y < B 100 := hB99 _ (by omega)
    refine stc hF (plus_ok wr H H rv rv r r hNr hNr hr2 hr2) cal116 ⟨rfl, rfl, trivial⟩ (k := fun a v w1 hR hF => ?_)
    obtain ⟨hN1, hb1⟩ := hR
    repeat (((apply st hF); (exact d_move); clear hF; clear a; intro a hF))
    refine stc hF (from_ok w1 bt (by omega)) cal80 ⟨rfl, trivial⟩ (k := fun a v' w2 hR hF => ?_)
    obtain ⟨hN2, hb2⟩ := hR
    skip
    refine stc hF (plus_ok w2 _ _ v v' (r + r) bt (hN1.below hb2) hN2 hrr hbB) cal116 ⟨rfl, rfl, trivial⟩ (k := fun a v3 w3 hR hF => ?_)
    obtain ⟨hN3, hb3⟩ := hR
    have z1 := hb1.size
    have z2 := hb2.size
    have z3 := hb3.size
    have hB13 : Below wr.heap.size wr w3 := (hb1.trans (hb2.mono z1)).trans (hb3.mono (Nat.le_trans z1 z2))
    have hbel3 : Below w.heap.size w w3 := hbel.trans (hB13.mono hsz')
    have hown3 := own_below hown hB13
    replace hN3 : NatV H w3 v3 (r + r + bt) := hN3.mono (by omega)
    have hrw : r + r + bt = 2 * r + bt := by omega
    repeat (first | refine c_seq ?_ | refine c_region _ ?_ | refine wpList_nil ?_ | refine c_then ?_ | ((apply st hF); (first | exact d_move | exact d_assign); clear hF; clear a; intro a hF))
    refine stc hF (held_ok w3 H B2 v3 v2 (r + r + bt) y hN3 (h2.below hbel3) hrb hyB) cal117 ⟨rfl, rfl, trivial⟩ (k := fun a vh w4 hR hF => ?_)
    obtain ⟨rfl, rfl⟩ := hR
    by_cases hge : y ≤ r + r + bt
    · obtain ⟨z, hz, hz0⟩ := heldI_ge hge
      rw [hz] at hF
      repeat (first | refine c_seq ?_ | refine c_region _ ?_ | refine wpList_nil ?_ | refine c_then ?_ | ((apply st hF); (first | exact d_move | exact d_cmpT); clear hF; clear a; intro a hF) | (apply c_cond_t hF; exact rfl; first | exact rfl | assumption))
      refine stc hF (less_ok w4 H B2 v3 v2 (r + r + bt) y hN3 (h2.below hbel3) hrb hge) cal118 ⟨rfl, rfl, trivial⟩ (k := fun a v5 w5 hR hF => ?_)
      obtain ⟨hN5, hb5⟩ := hR
      have z5 := hb5.size
      have hbel5 : Below w.heap.size w w5 := hbel3.trans (hb5.mono hbel3.size)
      have hown5 := own_below hown3 hb5
      replace hN5 : NatV H w5 v5 (r + r + bt - y) := hN5.mono (by omega)
      obtain ⟨g, hg0, hgw⟩ := own_some hown5 (by omega)
      obtain ⟨o1, o2, o3, o4⟩ := own_u32 hown5
      obtain ⟨b3, p3, e3, c3⟩ := rd_u32 o3 (i := i / 32) (by omega)
      have hgH : g < H := hH g (by rw [hg0]; rfl)
      rw [hg0] at e3
      cases e3
      have htk := div_take hD (by omega) (by rw [hbe, ← hrw]; exact hge)
      rw [hbe, ← hrw] at htk
      obtain ⟨t1, t2⟩ := htk
      rw [hg0] at hF
      have c3D : (w5.drewN 1).cell? ⟨g, 0 + i / 32, none⟩ = some (.int .u32 ((dgt ql (i / 32) : Nat) : Int)) := c3
      have hq32 : dgt ql (i / 32) < 2 ^ IntKind.u32.bits := dgt_lt hD.dig _
      have hp32 : 2 ^ (i % 32) < 2 ^ IntKind.u32.bits := Nat.pow_lt_pow_right (by decide) (by show i % 32 < 32; omega)
      repeat (first | (refine c_region_tail 14 13 mixed (by kernel_rfl) ?_; simp only [List.take_succ_cons, List.take_zero, List.drop_succ_cons, List.drop_zero]) | refine wpList_nil ?_ | refine c_then ?_ | ((first | apply st hF | apply s_step hF); (first | exact d_move | exact d_assign | exact d_quo | exact d_rem | exact d_indexAddr1 (und _ _ rfl) (isz _ _ rfl) | exact d_shl1 (b := i % 32) (hq := em) (hb := by show i % 32 < 32; omega) | exact d_bits (a := dgt ql (i / 32)) (b := 2 ^ (i % 32)) (ha := hq32) (hb := hp32) | exact d_load (und _ _ rfl) c3D); clear hF; clear a; intro a hF) | refine s_nil ?_)
      have hownD : (w5.drewN 1).ownsRow w.heap.size 24 1 (.slice (some ⟨g, 0, none⟩) xs.length cap) xs.length (ql.map u32v) := by rw [hg0] at hown5; exact hown5
      refine st_storeRow hF (j := i / 32) (v := .int .u32 ((dgt ql (i / 32) ||| 2 ^ (i % 32) : Nat) : Int)) (isz _ _ rfl) hownD hi rfl (k := fun a w6 hown6 hgr6 hsz6 hF => ?_)
      rw [← hg0] at hF hown6
      have hNd : NatV H (w5.drewN 1) v5 (r + r + bt - y) := hN5
      repeat (first | refine c_region _ ?_ | refine wpList_nil ?_ | refine c_then ?_ | refine c_in ?_ | ((apply st hF); (first | exact d_move | exact d_assign | exact d_sub); clear hF; clear a; intro a hF))
      have hz6 : w5.heap.size = w6.heap.size := hsz6.symm
      exact ⟨i, by omega, _, _, _, by omega, t2, hF.keep' ⟨rfl, rfl, rfl, rfl, rfl, trivial⟩, by rw [map_put]; exact hown6, hNd.kept hgr6 hgH, (below_more hbel5 1).grown hgr6 hbel5.size (fun q e => by cases e; exact hgw), by omega⟩
    · have hlt : r + r + bt < y := by omega
      rw [heldI_lt hlt] at hF
      have hkp := div_keep hD (by rw [hbe, ← hrw]; exact hlt)
      rw [hbe, ← hrw] at hkp
      repeat (first | refine c_region _ ?_ | refine wpList_nil ?_ | refine c_then ?_ | refine c_in ?_ | refine wp_skip ?_ | ((apply st hF); (first | exact d_move | exact d_assign | exact d_sub | exact d_cmpF); clear hF; clear a; intro a hF) | (apply c_cond_f hF; exact rfl; first | exact rfl | assumption))
      exact ⟨i, by omega, _, _, _, by omega, hkp, hF.keep' ⟨rfl, rfl, rfl, rfl, rfl, trivial⟩, hown3, hN3, hbel3, by omega⟩
theorem nat_pos {B0 : Nat} {w : World} {v : Value} {x : Nat} (h : NatV B0 w v x) : ∃ ao c n, v = .slice ao n c ∧ (n = 0 ↔ x = 0) ∧ ∀ k, x < B k → n ≤ k := by
  obtain ⟨ao, c, ds, rfl, _, hd, hn, rfl, _⟩ := h
  exact ⟨ao, c, _, rfl, norm_zero hn, fun k hk => norm_len hn hk⟩
set_option maxHeartbeats 4000000 in
theorem common_ok (w : World) (B1 B2 : Nat) (v1 v2 : Value) (x y : Nat) (h1 : NatV B1 w v1 x) (h2 : NatV B2 w v2 y) (hx : x < B 2) (hy : y < B 2) :
    Ret Tryz.prog 79 [v1, v2].toArray w (fun v w' => NatV 0 w' v (Nat.gcd x y) ∧ Below w.heap.size w w') := by
  have h128 : x * y < 2 ^ 128 := by
    rw [B_2] at hx hy
    calc x * y ≤ 18446744073709551615 * 18446744073709551615 := Nat.mul_le_mul (by omega) (by omega)
      _ < 2 ^ 128 := by decide
  refine enter2 Tryz.func79 rfl 31 rfl 33 rfl (fun a hF => ?_)
  repeat (first | refine c_seq ?_ | refine c_block ?_ | refine c_region _ ?_ | refine wpList_nil ?_ | refine c_then ?_ | ((apply st hF); (exact d_assign); clear hF; clear a; intro a hF))
  refine c_loop (fun q a wr => ∃ (i : Nat) (u1 u2 : Value) (p : Nat), GcdAt x y 128 p q i ∧ p < B 2 ∧ q < B 2 ∧ i ≤ 1000 ∧ NatV 0 wr u1 p ∧ NatV 0 wr u2 q ∧ Fr 33 [(0, u1), (1, u2), (5, .int .i64 (i : Int))] a ∧ Below w.heap.size w wr) y
    ⟨0, v1, v2, x, gcd_zero h128, hx, hy, by decide, h1.mono (Nat.zero_le _), h2.mono (Nat.zero_le _), hF.keep' ⟨rfl, rfl, rfl, trivial⟩, Below.refl _ w⟩ ?_
  clear hF a
  rintro q a wr ⟨i, u1, u2, p, hG, hp, hq, hi, hN1, hN2, hF, hbel⟩
  obtain ⟨ao, c, n1, rfl, z1, l1⟩ := nat_pos hN1
  obtain ⟨bo, c', n2, rfl, z2, l2⟩ := nat_pos hN2
  have ln1 := l1 2 hp
  have ln2 := l2 2 hq
  have hB50 : ∀ z : Nat, z < B 2 → z < B 50 := fun z hz => Nat.lt_of_lt_of_le hz (B_le (by decide))
  rcases Nat.eq_zero_or_pos q with rfl | hpos
  · obtain rfl : n2 = 0 := z2.2 rfl
    have hg : p = Nat.gcd x y := by rw [← hG.gcd, Nat.gcd_zero_right]
    by_cases hlt : i < 64 * (n1 + 0) + 2
    · repeat (first | refine c_seq ?_ | refine c_region _ ?_ | refine wpList_nil ?_ | refine c_then ?_ | refine c_then_exit ?_ | refine c_in_hit ?_ | refine wp_exit ?_ | refine wp_ret ?_ | ((first | apply st hF | apply stg hF); (first | exact d_move | exact d_assign | exact d_pickT | exact d_add | exact d_cmpT | exact d_cmpF | exact d_len (und _ _ rfl) | exact d_mul (h := by omega)); clear hF; clear a; intro a hF) | (apply c_cond_f hF; exact rfl; first | exact rfl | assumption))
      exact ret1 hF rfl rfl ⟨by rw [← hg]; exact hN1, hbel⟩
    · repeat (first | refine c_seq ?_ | refine c_region _ ?_ | refine wpList_nil ?_ | refine c_then ?_ | refine c_then_exit ?_ | refine c_in_hit ?_ | refine wp_exit ?_ | refine wp_ret ?_ | ((apply st hF); (first | exact d_move | exact d_assign | exact d_pickF | exact d_add | exact d_cmpF | exact d_len (und _ _ rfl) | exact d_mul (h := by omega)); clear hF; clear a; intro a hF) | ((apply stm hF); clear hF; clear a; intro a hF) | (apply c_cond_f hF; exact rfl; first | exact rfl | assumption))
      exact ret1 hF rfl rfl ⟨by rw [← hg]; exact hN1, hbel⟩
  · have hn2 : 0 < n2 := Nat.pos_of_ne_zero fun h => by have := z2.1 h; omega
    have hf : i < 64 * (n1 + n2) + 2 := by
      rcases Nat.eq_zero_or_pos i with rfl | hi0
      · omega
      · have h1 := gcd_fuel hG hpos (fun h => by omega)
        have hp0 : 0 < p := by
          rcases hG.ord with h | h
          · omega
          · omega
        have hn1 : 0 < n1 := Nat.pos_of_ne_zero fun h => by have := z1.1 h; omega
        omega
    repeat (first | refine c_seq ?_ | refine c_block ?_ | refine c_region _ ?_ | refine wpList_nil ?_ | refine c_then ?_ | refine wp_skip ?_ | ((first | apply st hF | apply stg hF); (first | exact d_move | exact d_pickT | exact d_add | exact d_cmpT | exact d_len (und _ _ rfl) | exact d_mul (h := by omega)); clear hF; clear a; intro a hF) | (apply c_cond_t hF; exact rfl; first | exact rfl | assumption))
    refine stc hF (div_ok wr 0 0 _ _ p q hN1 hN2 (hB50 _ hp) (hB50 _ hq) hpos) cal104 ⟨rfl, rfl, trivial⟩ (k := fun a v w1 hR hF => ?_)
    obtain ⟨qv, rv, rfl, hNq, hNr, hb1⟩ := hR
    repeat (first | refine c_seq ?_ | refine c_region _ ?_ | refine wpList_nil ?_ | refine c_then ?_ | refine c_in ?_ | ((apply st hF); (first | exact d_move | exact d_assign | exact d_add | exact d_extract); clear hF; clear a; intro a hF))
    have hlt := Nat.mod_lt p hpos
    exact ⟨p % q, hlt, i + 1, _, _, _, gcd_step hG hpos, hq, by omega, by omega, hN2.below hb1, hNr.mono (Nat.zero_le _), hF.keep' ⟨rfl, rfl, rfl, trivial⟩, hbel.trans (hb1.mono hbel.size)⟩
end Go.Proofs.YtjomihhpglojpaaGreatDoor
end
section
/- A region that draws its order and holds reads, and besides a chain of operations that change memory (an alloc, a store, an append): the reads are taken first, in an order that is named, in every world that meets a condition; the chain behind them, each of its operations showing the condition anew. Plain lemmas over any program. -/
namespace Go.Proofs.YtjomihhpglojpaaGreatDoor
open Go.RowKit

section
variable {P : Program} {ops : Array Oper} {md : Region.Mode} {S : World → Prop} {Q Q' : Exit → Act → World → Prop}

theorem oper_wp_monoQ {o : Oper} {a : Act} {w : World} {K : Act → World → Prop} (hq : ∀ e a w, e ≠ .normal → Q' e a w → Q e a w) (hh : o.wp P a w K Q') : o.wp P a w K Q := by
  unfold Oper.wp at *
  generalize (execOp a.eval o).run P w = r at *
  cases r with
  | ok n w' =>
    cases n <;> simp only [Oper.upon] at hh ⊢ <;>
      first
        | exact hh
        | exact Calls.mono hh (fun e w'' he => by
            cases e with
            | returned v => exact he
            | panicked c => exact hq _ _ _ (by simp) he
            | outgrown => obtain ⟨x, y, h⟩ := he; exact ⟨x, y, hq _ _ _ (by simp) h⟩)
  | halt x w' =>
    cases x <;> simp only [Oper.upon] at hh ⊢ <;> first | exact hh | exact hq _ _ _ (by simp) hh
theorem letsOut_mono (hq : ∀ e a w, Q' e a w → Q e a w) (h : LetsOut Q') : LetsOut Q := by
  obtain ⟨x, y, h⟩ := h; exact ⟨x, y, hq _ _ _ h⟩
theorem wpOp_monoQ {i : Nat} {a : Act} {w : World} {K : Act → World → Prop} (hq : ∀ e a w, Q' e a w → Q e a w) (hh : wpOp P ops Q' i K a w) : wpOp P ops Q i K a w := by
  unfold wpOp at *
  split
  · simpa [*] using hh
  · rename_i o ho
    simp only [ho] at hh
    split
    · rename_i hw; simp only [hw, if_true] at hh; exact hh.imp (oper_wp_monoQ (fun e a w _ => hq e a w)) (fun ⟨h1, h2⟩ => ⟨h1, letsOut_mono hq h2⟩)
    · rename_i hw; simp only [hw] at hh; exact hh
theorem wpAny_monoQ (hq : ∀ e a w, Q' e a w → Q e a w) : ∀ (fuel : Nat) (listed : Array Bool) (a : Act) (w : World), wpAny P md ops Q' fuel listed a w → wpAny P md ops Q fuel listed a w
  | 0, _, _, _, h => ⟨h.1, hq _ _ _ h.2⟩
  | fuel + 1, _, _, _, h => ⟨fun h0 => hq _ _ _ (h.1 h0), fun i hi => wpOp_mono (fun a' w' h' => wpAny_monoQ hq fuel _ a' w' h') (wpOp_monoQ hq (h.2 i hi))⟩

/-- The chain: each operation shows the condition anew. -/
def wpTail (P : Program) (ops : Array Oper) (Q : Exit → Act → World → Prop) (S : World → Prop) : List Oper → Act → World → Prop
  | [], a, w => Q .normal a w
  | o :: rest, a, w => wpList P ops (fun e a' w' => e = .normal ∧ S w' ∧ wpTail P ops Q S rest a' w') [o] a w

/-- The reads: each yields its value in every world that meets the condition. -/
def wpIf (P : Program) (ops : Array Oper) (S : World → Prop) (K : Act → Prop) : List Oper → Act → Prop
  | [], a => K a
  | o :: rest, a => ∃ v, YieldsIf P ops S o v a ∧ wpIf P ops S K rest (a.put o.dst v)

def seqL (md : Region.Mode) (ops : Array Oper) : List Nat → Array Bool → Bool
  | [], listed => (Region.ready md ops listed).isEmpty
  | t :: ts, listed => decide (Region.ready md ops listed = [t]) && seqL md ops ts (listed.setIfInBounds t true)
def headL (md : Region.Mode) (ops : Array Oper) (ts : List Nat) : List Nat → Array Bool → Bool
  | [], listed => seqL md ops ts listed
  | i :: rs, listed => (Region.ready md ops listed).contains i && Region.free md ops listed i && headL md ops ts rs (listed.setIfInBounds i true)
def permB (md : Region.Mode) (ops : Array Oper) (rs ts : List Nat) : Bool :=
  Region.noSelect ops && decide (rs.length + ts.length = ops.size) && headL md ops ts rs (Array.replicate ops.size false)
def pickL (l : List Oper) (is : List Nat) : List Oper := is.filterMap (l[·]?)

theorem mem_ready_lt {j : Nat} {listed : Array Bool} (h : j ∈ Region.ready md ops listed) : ∃ o, ops[j]? = some o := by
  obtain ⟨_, o, ho, _⟩ := mem_ready.1 h; exact ⟨o, ho⟩
theorem pickL_cons {l : List Oper} {i : Nat} {is : List Nat} {o : Oper} (h : l[i]? = some o) : pickL l (i :: is) = o :: pickL l is := by simp [pickL, h]

theorem wpAnyH_seq {l : List Oper} (Q : Exit → Act → World → Prop) : ∀ (ts : List Nat) (listed : Array Bool) (a : Act) (w : World), seqL md l.toArray ts listed = true →
    wpTail P l.toArray Q S (pickL l ts) a w → wpAnyH P md l.toArray (fun e a w => e = .normal ∧ Q .normal a w) S ts.length listed a w
  | [], listed, a, w, hB, h => ⟨by simpa [seqL] using hB, rfl, by simpa [pickL, wpTail] using h⟩
  | t :: ts, listed, a, w, hB, h => by
    simp only [seqL, Bool.and_eq_true, decide_eq_true_eq] at hB
    refine ⟨fun h1 => (by rw [hB.1] at h1; cases h1), fun i hi => ?_⟩
    obtain ⟨o, ho⟩ := mem_ready_lt hi
    rw [hB.1] at hi
    have hik : i = t := by simpa using hi
    subst hik
    rw [pickL_cons (by simpa using ho)] at h
    simp only [wpTail, wpList] at h
    unfold wpOp
    simp only [ho]
    split
    · rename_i hw
      rw [if_pos hw] at h
      rcases h with h | ⟨_, x, y, h, _⟩
      · refine .inl (oper_wp_monoQ (Q' := fun e a' w' => e = .normal ∧ S w' ∧ wpTail P l.toArray Q S (pickL l ts) a' w') (fun e a' w' hn h' => absurd h'.1 hn) (Oper.wp_mono ?_ h))
        rintro a' w' ⟨_, h1, h2⟩
        exact ⟨h1, wpAnyH_seq Q ts _ a' w' hB.2 h2⟩
      · cases h
    · rename_i hw
      rw [if_neg hw] at h
      exact ⟨h.2.1, wpAnyH_seq Q ts _ _ _ hB.2 h.2.2⟩

theorem wpAnyH_head {l : List Oper} (Q : Exit → Act → World → Prop) (ts : List Nat) (hs : Region.noSelect l.toArray = true) : ∀ (rs : List Nat) (listed : Array Bool) (a : Act) (w : World), headL md l.toArray ts rs listed = true → S w →
    wpIf P l.toArray S (fun a' => ∀ w', S w' → wpTail P l.toArray Q S (pickL l ts) a' w') (pickL l rs) a → wpAnyH P md l.toArray (fun e a w => e = .normal ∧ Q .normal a w) S (rs.length + ts.length) listed a w
  | [], listed, a, w, hB, hS, h => by
    simp only [headL] at hB
    simp only [List.length_nil, Nat.zero_add]
    exact wpAnyH_seq Q ts listed a w hB (h w hS)
  | i :: rs, listed, a, w, hB, hS, h => by
    simp only [headL, Bool.and_eq_true] at hB
    obtain ⟨⟨hr, hf⟩, hB'⟩ := hB
    obtain ⟨o, ho⟩ := mem_ready_lt (by simpa using hr : i ∈ Region.ready md l.toArray listed)
    rw [pickL_cons (by simpa using ho)] at h
    obtain ⟨v, hy, hk⟩ := h
    rw [show (i :: rs).length + ts.length = (rs.length + ts.length) + 1 by simp; omega]
    exact wpAnyH_take ho hs hf hr (fun c a w h => by cases h.1) hy hS (wpAnyH_head Q ts hs rs _ _ w hB' hS hk)

/-- The region: reads rs first, in the order named, the chain ts behind. -/
theorem c_region_perm (S : World → Prop) (rs ts : List Nat) (id : Nat) {l' : List Oper} {a : Act} {w : World} (hm : P.follows .mixedOrders = true) (hB : permB .any l'.toArray rs ts = true) (hS : S (w.drewN 1))
    (h : wpIf P l'.toArray S (fun a' => ∀ w', S w' → wpTail P l'.toArray Q S (pickL l' ts) a' w') (pickL l' rs) a) : (Code.region id l'.toArray true).wp P Q a w := by
  simp only [permB, Bool.and_eq_true, decide_eq_true_eq] at hB
  obtain ⟨⟨h1, h2⟩, h3⟩ := hB
  have := wpAnyH_head (md := .any) (S := S) Q ts h1 rs _ a _ h3 hS h
  rw [h2] at this
  refine wp_region_any hm (wpAny_monoQ ?_ _ _ _ _ (wpAny_of_held _ _ _ _ this))
  rintro e a w ⟨rfl, h⟩
  exact h

/-! ### steps -/
variable {a : Act} {w w' : World} {rest : List Oper} {N : Nat} {l : List (Nat × Value)} {K : Act → Prop}
theorem p_nil (h : K a) : wpIf P ops S K [] a := h
theorem p_step (h : Fr N l a) {d : Nat} {op : Op} {ty : TypeId} {pos : String} {af : Array Edge} {v : Value} (hr : ∀ w, S w → Does P l w op ty v w) (hd : Nat.blt d N = true := by exact rfl)
    (k : ∀ a', Fr N ((d, v) :: l) a' → wpIf P ops S K rest a') : wpIf P ops S K (⟨some d, op, ty, pos, af, none⟩ :: rest) a :=
  ⟨v, .inl ⟨by simp [Region.wanted], fun w hw => hr w hw a.eval h.eval _ _ _ _⟩, k _ (h.put hd v)⟩
theorem t_nil (h : Q .normal a w) : wpTail P ops Q S [] a w := h
theorem t_one {o : Oper} (h : wpList P ops (fun e a' w' => e = .normal ∧ S w' ∧ wpTail P ops Q S rest a' w') [o] a w) : wpTail P ops Q S (o :: rest) a w := h

/-! ### reads and sole operations in one order -/
/-- Each is a read, that yields its value in every world that meets the condition, or the only one that may come up. -/
def wpMix (P : Program) (ops : Array Oper) (Q : Exit → Act → World → Prop) (S : World → Prop) : List (Oper × Bool) → Act → World → Prop
  | [], a, w => Q .normal a w
  | (o, true) :: rest, a, w => ∃ v, YieldsIf P ops S o v a ∧ wpMix P ops Q S rest (a.put o.dst v) w
  | (o, false) :: rest, a, w => wpList P ops (fun e a' w' => e = .normal ∧ S w' ∧ wpMix P ops Q S rest a' w') [o] a w
def mixL (md : Region.Mode) (ops : Array Oper) : List (Nat × Bool) → Array Bool → Bool
  | [], listed => (Region.ready md ops listed).isEmpty
  | (i, true) :: is, listed => (Region.ready md ops listed).contains i && Region.free md ops listed i && mixL md ops is (listed.setIfInBounds i true)
  | (t, false) :: is, listed => decide (Region.ready md ops listed = [t]) && mixL md ops is (listed.setIfInBounds t true)
def mixB (md : Region.Mode) (ops : Array Oper) (is : List (Nat × Bool)) : Bool :=
  Region.noSelect ops && decide (is.length = ops.size) && mixL md ops is (Array.replicate ops.size false)
def pickX (l : List Oper) (is : List (Nat × Bool)) : List (Oper × Bool) := is.filterMap fun i => (l[i.1]?).map (·, i.2)
theorem pickX_cons {l : List Oper} {i : Nat} {b : Bool} {is : List (Nat × Bool)} {o : Oper} (h : l[i]? = some o) : pickX l ((i, b) :: is) = (o, b) :: pickX l is := by simp [pickX, h]
theorem wpAnyH_mix {l : List Oper} (Q : Exit → Act → World → Prop) (hs : Region.noSelect l.toArray = true) : ∀ (is : List (Nat × Bool)) (listed : Array Bool) (a : Act) (w : World), mixL md l.toArray is listed = true → S w →
    wpMix P l.toArray Q S (pickX l is) a w → wpAnyH P md l.toArray (fun e a w => e = .normal ∧ Q .normal a w) S is.length listed a w
  | [], listed, a, w, hB, _, h => ⟨by simpa [mixL] using hB, rfl, by simpa [pickX, wpMix] using h⟩
  | (i, true) :: is, listed, a, w, hB, hS, h => by
    simp only [mixL, Bool.and_eq_true] at hB
    obtain ⟨⟨hr, hf⟩, hB'⟩ := hB
    obtain ⟨o, ho⟩ := mem_ready_lt (by simpa using hr : i ∈ Region.ready md l.toArray listed)
    rw [pickX_cons (by simpa using ho)] at h
    obtain ⟨v, hy, hk⟩ := h
    exact wpAnyH_take ho hs hf hr (fun c a w h => by cases h.1) hy hS (wpAnyH_mix Q hs is _ _ w hB' hS hk)
  | (t, false) :: is, listed, a, w, hB, hS, h => by
    simp only [mixL, Bool.and_eq_true, decide_eq_true_eq] at hB
    refine ⟨fun h1 => (by rw [hB.1] at h1; cases h1), fun i hi => ?_⟩
    obtain ⟨o, ho⟩ := mem_ready_lt hi
    rw [hB.1] at hi
    have hik : i = t := by simpa using hi
    subst hik
    rw [pickX_cons (by simpa using ho)] at h
    simp only [wpMix, wpList] at h
    unfold wpOp
    simp only [ho]
    split
    · rename_i hw
      rw [if_pos hw] at h
      rcases h with h | ⟨_, x, y, h, _⟩
      · refine .inl (oper_wp_monoQ (Q' := fun e a' w' => e = .normal ∧ S w' ∧ wpMix P l.toArray Q S (pickX l is) a' w') (fun e a' w' hn h' => absurd h'.1 hn) (Oper.wp_mono ?_ h))
        rintro a' w' ⟨_, h1, h2⟩
        exact ⟨h1, wpAnyH_mix Q hs is _ a' w' hB.2 h1 h2⟩
      · cases h
    · rename_i hw
      rw [if_neg hw] at h
      exact ⟨h.2.1, wpAnyH_mix Q hs is _ _ _ hB.2 h.2.1 h.2.2⟩
theorem c_region_mix (S : World → Prop) (is : List (Nat × Bool)) (id : Nat) {l' : List Oper} {a : Act} {w : World} (hm : P.follows .mixedOrders = true) (hB : mixB .any l'.toArray is = true) (hS : S (w.drewN 1))
    (h : wpMix P l'.toArray Q S (pickX l' is) a (w.drewN 1)) : (Code.region id l'.toArray true).wp P Q a w := by
  simp only [mixB, Bool.and_eq_true, decide_eq_true_eq] at hB
  obtain ⟨⟨h1, h2⟩, h3⟩ := hB
  have := wpAnyH_mix (md := .any) (S := S) Q h1 is _ a _ h3 hS h
  rw [h2] at this
  refine wp_region_any hm (wpAny_monoQ ?_ _ _ _ _ (wpAny_of_held _ _ _ _ this))
  rintro e a w ⟨rfl, h⟩
  exact h
section
variable {a : Act} {w : World} {restx : List (Oper × Bool)} {N : Nat} {l : List (Nat × Value)}
theorem x_nil (h : Q .normal a w) : wpMix P ops Q S [] a w := h
theorem x_step (h : Fr N l a) {d : Nat} {op : Op} {ty : TypeId} {pos : String} {af : Array Edge} {v : Value} (hr : ∀ w, S w → Does P l w op ty v w) (hd : Nat.blt d N = true := by exact rfl)
    (k : ∀ a', Fr N ((d, v) :: l) a' → wpMix P ops Q S restx a' w) : wpMix P ops Q S ((⟨some d, op, ty, pos, af, none⟩, true) :: restx) a w :=
  ⟨v, .inl ⟨by simp [Region.wanted], fun w hw => hr w hw a.eval h.eval _ _ _ _⟩, k _ (h.put hd v)⟩
theorem x_stg (h : Fr N l a) {d : Nat} {op : Op} {ty : TypeId} {pos : String} {af : Array Edge} {v : Value} {j e : Nat} {b : Bool} (hj : (ops[j]?).bind (·.dst) = some e := by exact rfl) (hb : look l e = some (.bool b) := by exact rfl)
    (hr : ∀ w, S w → Does P l w op ty v w) (hd : Nat.blt d N = true := by exact rfl)
    (k : ∀ a', Fr N ((d, v) :: l) a' → wpMix P ops Q S restx a' w) : wpMix P ops Q S ((⟨some d, op, ty, pos, af, some (j, b)⟩, true) :: restx) a w :=
  ⟨v, .inl ⟨by simp [Region.wanted, yielded_of (ops := ops) h hj hb], fun w hw => hr w hw a.eval h.eval _ _ _ _⟩, k _ (h.put hd v)⟩
theorem x_stm (h : Fr N l a) {d : Nat} {op : Op} {ty : TypeId} {pos : String} {af : Array Edge} {j e : Nat} {b c : Bool} (hj : (ops[j]?).bind (·.dst) = some e := by exact rfl) (hb : look l e = some (.bool c) := by exact rfl) (hne : c = !b := by exact rfl) (hd : Nat.blt d N = true := by exact rfl)
    (k : ∀ a', Fr N ((d, undef) :: l) a' → wpMix P ops Q S restx a' w) : wpMix P ops Q S ((⟨some d, op, ty, pos, af, some (j, b)⟩, true) :: restx) a w :=
  ⟨undef, .inr ⟨by subst hne; simp [Region.wanted, yielded_of (ops := ops) h hj hb], rfl⟩, k _ (h.put hd _)⟩
theorem x_stu (h : Fr N l a) {d : Nat} {op : Op} {ty : TypeId} {pos : String} {af : Array Edge} {j e : Nat} {b : Bool} (hj : (ops[j]?).bind (·.dst) = some e := by exact rfl) (hb : look l e = some undef := by exact rfl) (hd : Nat.blt d N = true := by exact rfl)
    (k : ∀ a', Fr N ((d, undef) :: l) a' → wpMix P ops Q S restx a' w) : wpMix P ops Q S ((⟨some d, op, ty, pos, af, some (j, b)⟩, true) :: restx) a w :=
  ⟨undef, .inr ⟨by simp [Region.wanted, yielded_undef (ops := ops) h hj hb], rfl⟩, k _ (h.put hd _)⟩
theorem x_one {o : Oper} (h : wpList P ops (fun e a' w' => e = .normal ∧ S w' ∧ wpMix P ops Q S restx a' w') [o] a w) : wpMix P ops Q S ((o, false) :: restx) a w := h
end
end
end Go.Proofs.YtjomihhpglojpaaGreatDoor
end
