/- Laid together by a program of mine: NnP. -/
import Derived.Test.YtjomihhpglojpaaDoorSumBOneW15
set_option linter.unusedSimpArgs false
set_option linter.unusedVariables false
section
/- The reference's big numbers: plus, less, word: walked. -/
namespace Go.Proofs.YtjomihhpglojpaaDoor
open Go.RowKit
set_option linter.unusedSimpArgs false
set_option linter.unusedVariables false
attribute [local irreducible] wpList wpQuiet wpStill Code.wp Exit.then Exit.inBlock bodyPost Calls Does Does0
open Nn
theorem own_u32 {w : World} {base : Nat} {ao : Option Addr} {n cap : Nat} {l : List Nat} (h : w.ownsRow base 24 1 (.slice ao n cap) n (l.map u32v)) : l.length = n ∧ n ≤ cap ∧ Rd w ao u32v l ∧ ∀ ad, ao = some ad → base ≤ ad.block := by
  obtain ⟨h1, h2⟩ := own_rd h
  refine ⟨h1, (own_cap h).1, h2, fun ad e => ?_⟩
  subst e
  rcases h.2 with ⟨h0, _⟩ | ⟨g, cap', cur, h0, hb, _⟩
  · cases h0
  · cases h0; exact hb
theorem map_snoc (l : List Nat) (d : Nat) : (l ++ [d]).map u32v = l.map u32v ++ [.int .u32 (d : Int)] := by simp [u32v]
set_option maxHeartbeats 2000000 in
theorem plus_ok (w : World) (B1 B2 : Nat) (v1 v2 : Value) (x y : Nat) (h1 : NatV B1 w v1 x) (h2 : NatV B2 w v2 y) (hx : x < B 100) (hy : y < B 100) :
    Ret Tryd.prog 115 [v1, v2].toArray w (fun v w' => NatV w.heap.size w' v (x + y) ∧ Below w.heap.size w w') := by
  obtain ⟨ao, c, xs, rfl, hRa, hda, hna, rfl, _⟩ := h1
  obtain ⟨bo, c', ys, rfl, hRb, hdb, hnb, rfl, _⟩ := h2
  have la := nat_len hna rfl hx
  have lb := nat_len hnb rfl hy
  obtain ⟨M, hM⟩ : ∃ M : Nat, (if (xs.length : Int) < (ys.length : Int) then (ys.length : Int) else (xs.length : Int)) = (M : Int) := by
    by_cases h : (xs.length : Int) < (ys.length : Int)
    · exact ⟨ys.length, if_pos h⟩
    · exact ⟨xs.length, if_neg h⟩
  have hMa : xs.length ≤ M ∧ ys.length ≤ M ∧ M ≤ 100 := by split at hM <;> omega
  refine enter2 Tryd.func115 rfl 34 rfl 36 rfl (fun a hF => ?_)
  repeat (first | refine c_seq ?_ | refine c_block ?_ | refine c_region _ ?_ | refine wpList_nil ?_ | refine c_then ?_ | refine c_then_exit ?_ | refine c_then_ret ?_ | refine c_in ?_ | refine c_in_ret ?_ | refine c_in_hit ?_ | refine wp_skip ?_ | refine wp_exit ?_ | refine wp_ret ?_ | refine c_in_miss rfl ?_ | ((first | apply st hF | apply stg hF | apply s_step hF | apply s_stg hF); (first | exact d_move | exact d_assign | exact d_add | exact d_cmpT | exact d_cmpF | exact d_cmp | exact d_len (und _ _ rfl) | exact d_lens (und _ _ rfl)); clear hF; clear a; intro a hF) | ((first | apply stm hF | apply stu hF); clear hF; clear a; intro a hF) | (apply c_cond_t hF; exact rfl; first | exact rfl | assumption) | (apply c_cond_f hF; exact rfl; first | exact rfl | assumption) | refine s_nil ?_)
  refine c_loop (fun q a wr => ∃ (k cc cap : Nat) (ro : Option Addr) (l : List Nat), k ≤ M + 1 ∧ q = M + 1 - k ∧ PlusAt xs ys l k cc ∧ Fr 36 [(0, .slice ao xs.length c), (1, .slice bo ys.length c'), (5, .slice ro k cap), (6, .int .u64 (cc : Int)), (7, .int .i64 (k : Int))] a ∧
      wr.ownsRow w.heap.size 24 1 (.slice ro k cap) k (l.map u32v) ∧ Below w.heap.size w wr) (M + 1)
    ⟨0, 0, 0, none, [], Nat.zero_le _, rfl, plus_zero xs ys, hF.keep' ⟨rfl, rfl, rfl, rfl, rfl, trivial⟩, World.ownsRow_nil _ _ _ _, Below.refl _ w⟩ ?_
  clear hF a
  rintro q a wr ⟨k, cc, cap, ro, l, hk, rfl, hP, hF, hown, hbel⟩
  have hsz := hbel.size
  by_cases hlt : k ≤ M
  · repeat (first | refine c_seq ?_ | refine c_block ?_ | refine c_region _ ?_ | refine wpList_nil ?_ | refine c_then ?_ | refine c_then_exit ?_ | refine c_then_ret ?_ | refine c_in ?_ | refine c_in_ret ?_ | refine c_in_hit ?_ | refine wp_skip ?_ | refine wp_exit ?_ | refine wp_ret ?_ | refine c_in_miss rfl ?_ | ((first | apply st hF | apply stg hF | apply s_step hF | apply s_stg hF); (first | exact d_move | exact d_assign | exact d_add | exact d_cmpT | exact d_cmpF | exact d_cmp | exact d_len (und _ _ rfl) | exact d_lens (und _ _ rfl) | exact d_maxV hM); clear hF; clear a; intro a hF) | ((first | apply stm hF | apply stu hF); clear hF; clear a; intro a hF) | (apply c_cond_t hF; exact rfl; first | exact rfl | assumption) | (apply c_cond_f hF; exact rfl; first | exact rfl | assumption) | refine s_nil ?_)
    refine stc hF (digit_ok wr xs ao c k (hRa.below hbel) hda) cal119 ⟨rfl, rfl, trivial⟩ (k := fun a v w1 hR hF => ?_)
    obtain ⟨rfl, rfl⟩ := hR
    repeat (first | refine c_seq ?_ | refine c_block ?_ | refine c_region _ ?_ | refine wpList_nil ?_ | refine c_then ?_ | refine c_then_exit ?_ | refine c_then_ret ?_ | refine c_in ?_ | refine c_in_ret ?_ | refine c_in_hit ?_ | refine wp_skip ?_ | refine wp_exit ?_ | refine wp_ret ?_ | refine c_in_miss rfl ?_ | ((first | apply st hF | apply stg hF | apply s_step hF | apply s_stg hF); (first | exact d_move | exact d_assign | exact d_add | exact d_cmpT | exact d_cmpF | exact d_cmp | exact d_len (und _ _ rfl) | exact d_lens (und _ _ rfl)); clear hF; clear a; intro a hF) | ((first | apply stm hF | apply stu hF); clear hF; clear a; intro a hF) | (apply c_cond_t hF; exact rfl; first | exact rfl | assumption) | (apply c_cond_f hF; exact rfl; first | exact rfl | assumption) | refine s_nil ?_)
    refine stc hF (digit_ok w1 ys bo c' k (hRb.below hbel) hdb) cal119 ⟨rfl, rfl, trivial⟩ (k := fun a v w2 hR hF => ?_)
    obtain ⟨rfl, rfl⟩ := hR
    obtain ⟨hn, hP2⟩ := plus_step hda hdb hP rfl
    have hA1 : dgt xs k + dgt ys k < 2 ^ IntKind.u64.bits := Nat.lt_of_le_of_lt (Nat.le_add_right _ _) (Nat.lt_trans hn (by decide))
    have hA2 : dgt xs k + dgt ys k + cc < 2 ^ IntKind.u64.bits := Nat.lt_trans hn (by decide)
    repeat (first | refine c_seq ?_ | refine c_block ?_ | refine c_region _ ?_ | refine wpList_nil ?_ | refine c_then ?_ | refine c_then_exit ?_ | refine c_then_ret ?_ | refine c_in ?_ | refine c_in_ret ?_ | refine c_in_hit ?_ | refine wp_skip ?_ | refine wp_exit ?_ | refine wp_ret ?_ | refine c_in_miss rfl ?_ | ((first | apply st hF | apply stg hF | apply s_step hF | apply s_stg hF); (first | exact d_move | exact d_assign | exact d_add | exact d_cmpT | exact d_cmpF | exact d_cmp | exact d_len (und _ _ rfl) | exact d_lens (und _ _ rfl) | exact d_addN (h := hA1) | exact d_addN (h := hA2) | exact d_convN (und _ _ rfl) (und _ _ rfl) (a := dgt xs k + dgt ys k + cc) (m := (dgt xs k + dgt ys k + cc) % 4294967296) (hm := rfl)); clear hF; clear a; intro a hF) | ((first | apply stm hF | apply stu hF); clear hF; clear a; intro a hF) | (apply c_cond_t hF; exact rfl; first | exact rfl | assumption) | (apply c_cond_f hF; exact rfl; first | exact rfl | assumption) | refine s_nil ?_)
    refine st_push' hF (u := .int .u32 (((dgt xs k + dgt ys k + cc) % 4294967296 : Nat) : Int)) (und _ _ rfl) inf24 rfl hown (by omega) (by unfold maxLen; omega) hsz (k := fun a ro2 cap2 w3 hown3 hgr3 hat3 hF => ?_)
    repeat (first | refine c_seq ?_ | refine c_block ?_ | refine c_region _ ?_ | refine wpList_nil ?_ | refine c_then ?_ | refine c_then_exit ?_ | refine c_then_ret ?_ | refine c_in ?_ | refine c_in_ret ?_ | refine c_in_hit ?_ | refine wp_skip ?_ | refine wp_exit ?_ | refine wp_ret ?_ | refine c_in_miss rfl ?_ | ((first | apply st hF | apply stg hF | apply s_step hF | apply s_stg hF); (first | exact d_move | exact d_assign | exact d_add | exact d_cmpT | exact d_cmpF | exact d_cmp | exact d_len (und _ _ rfl) | exact d_lens (und _ _ rfl) | exact d_shr (a := dgt xs k + dgt ys k + cc) (b := 32) (hb := by decide)); clear hF; clear a; intro a hF) | ((first | apply stm hF | apply stu hF); clear hF; clear a; intro a hF) | (apply c_cond_t hF; exact rfl; first | exact rfl | assumption) | (apply c_cond_f hF; exact rfl; first | exact rfl | assumption) | refine s_nil ?_)
    exact ⟨M + 1 - (k + 1), by omega, k + 1, _, cap2, ro2, _, by omega, rfl, hP2, hF.keep' ⟨rfl, rfl, rfl, rfl, rfl, trivial⟩, by rw [map_snoc]; exact hown3, below_own hbel hsz hown hgr3⟩
  · obtain rfl : k = M + 1 := by omega
    obtain ⟨o1, o2, o3, o4⟩ := own_u32 hown
    repeat (first | refine c_seq ?_ | refine c_block ?_ | refine c_region _ ?_ | refine wpList_nil ?_ | refine c_then ?_ | refine c_then_exit ?_ | refine c_then_ret ?_ | refine c_in ?_ | refine c_in_ret ?_ | refine c_in_hit ?_ | refine wp_skip ?_ | refine wp_exit ?_ | refine wp_ret ?_ | refine c_in_miss rfl ?_ | ((first | apply st hF | apply stg hF | apply s_step hF | apply s_stg hF); (first | exact d_move | exact d_assign | exact d_add | exact d_cmpT | exact d_cmpF | exact d_cmp | exact d_len (und _ _ rfl) | exact d_lens (und _ _ rfl) | exact d_maxV hM); clear hF; clear a; intro a hF) | ((first | apply stm hF | apply stu hF); clear hF; clear a; intro a hF) | (apply c_cond_t hF; exact rfl; first | exact rfl | assumption) | (apply c_cond_f hF; exact rfl; first | exact rfl | assumption) | refine s_nil ?_)
    refine stc hF (trim_ok wr w.heap.size l ro (M + 1) cap o1 o2 o3 hP.2.1 (by omega) o4) cal110 ⟨rfl, trivial⟩ (k := fun a v w1 hR hF => ?_)
    obtain ⟨hv, rfl⟩ := hR
    rw [plus_end hda hdb hP hMa.1 hMa.2.1] at hv
    repeat (first | refine c_seq ?_ | refine c_block ?_ | refine c_region _ ?_ | refine wpList_nil ?_ | refine c_then ?_ | refine c_then_exit ?_ | refine c_then_ret ?_ | refine c_in ?_ | refine c_in_ret ?_ | refine c_in_hit ?_ | refine wp_skip ?_ | refine wp_exit ?_ | refine wp_ret ?_ | refine c_in_miss rfl ?_ | ((first | apply st hF | apply stg hF | apply s_step hF | apply s_stg hF); (first | exact d_move | exact d_assign | exact d_add | exact d_cmpT | exact d_cmpF | exact d_cmp | exact d_len (und _ _ rfl) | exact d_lens (und _ _ rfl)); clear hF; clear a; intro a hF) | ((first | apply stm hF | apply stu hF); clear hF; clear a; intro a hF) | (apply c_cond_t hF; exact rfl; first | exact rfl | assumption) | (apply c_cond_f hF; exact rfl; first | exact rfl | assumption) | refine s_nil ?_)
    exact ret1 hF rfl rfl ⟨hv, hbel⟩
set_option maxHeartbeats 2000000 in
theorem less_ok (w : World) (B1 B2 : Nat) (v1 v2 : Value) (x y : Nat) (h1 : NatV B1 w v1 x) (h2 : NatV B2 w v2 y) (hx : x < B 100) (hle : y ≤ x) :
    Ret Tryd.prog 117 [v1, v2].toArray w (fun v w' => NatV w.heap.size w' v (x - y) ∧ Below w.heap.size w w') := by
  obtain ⟨ao, c, xs, rfl, hRa, hda, hna, rfl, _⟩ := h1
  obtain ⟨bo, c', ys, rfl, hRb, hdb, hnb, rfl, _⟩ := h2
  have la := nat_len hna rfl hx
  refine enter2 Tryd.func117 rfl 33 rfl 35 rfl (fun a hF => ?_)
  repeat (first | refine c_seq ?_ | refine c_block ?_ | refine c_region _ ?_ | refine wpList_nil ?_ | refine c_then ?_ | refine c_then_exit ?_ | refine c_then_ret ?_ | refine c_in ?_ | refine c_in_ret ?_ | refine c_in_hit ?_ | refine wp_skip ?_ | refine wp_exit ?_ | refine wp_ret ?_ | refine c_in_miss rfl ?_ | ((first | apply st hF | apply stg hF | apply s_step hF | apply s_stg hF); (first | exact d_move | exact d_assign | exact d_add | exact d_sub | exact d_cmpT | exact d_cmpF | exact d_cmp | exact d_len (und _ _ rfl) | exact d_lens (und _ _ rfl)); clear hF; clear a; intro a hF) | ((first | apply stm hF | apply stu hF); clear hF; clear a; intro a hF) | (apply c_cond_t hF; exact rfl; first | exact rfl | assumption) | (apply c_cond_f hF; exact rfl; first | exact rfl | assumption) | refine s_nil ?_)
  refine c_loop (fun q a wr => ∃ (k cc cap : Nat) (ro : Option Addr) (l : List Nat), k ≤ xs.length ∧ q = xs.length - k ∧ LessAt xs ys l k cc ∧ Fr 35 [(0, .slice ao xs.length c), (1, .slice bo ys.length c'), (5, .slice ro k cap), (6, .int .u64 (cc : Int)), (7, .int .i64 (k : Int))] a ∧
      wr.ownsRow w.heap.size 24 1 (.slice ro k cap) k (l.map u32v) ∧ Below w.heap.size w wr) xs.length
    ⟨0, 0, 0, none, [], Nat.zero_le _, rfl, less_zero xs ys, hF.keep' ⟨rfl, rfl, rfl, rfl, rfl, trivial⟩, World.ownsRow_nil _ _ _ _, Below.refl _ w⟩ ?_
  clear hF a
  rintro q a wr ⟨k, cc, cap, ro, l, hk, rfl, hP, hF, hown, hbel⟩
  have hsz := hbel.size
  have d1 := dgt_lt hda k
  have d2 := dgt_lt hdb k
  have d3 := hP.2.2.1
  by_cases hlt : k < xs.length
  · repeat (first | refine c_seq ?_ | refine c_block ?_ | refine c_region _ ?_ | refine wpList_nil ?_ | refine c_then ?_ | refine c_then_exit ?_ | refine c_then_ret ?_ | refine c_in ?_ | refine c_in_ret ?_ | refine c_in_hit ?_ | refine wp_skip ?_ | refine wp_exit ?_ | refine wp_ret ?_ | refine c_in_miss rfl ?_ | ((first | apply st hF | apply stg hF | apply s_step hF | apply s_stg hF); (first | exact d_move | exact d_assign | exact d_add | exact d_sub | exact d_cmpT | exact d_cmpF | exact d_cmp | exact d_len (und _ _ rfl) | exact d_lens (und _ _ rfl)); clear hF; clear a; intro a hF) | ((first | apply stm hF | apply stu hF); clear hF; clear a; intro a hF) | (apply c_cond_t hF; exact rfl; first | exact rfl | assumption) | (apply c_cond_f hF; exact rfl; first | exact rfl | assumption) | refine s_nil ?_)
    refine stc hF (digit_ok wr xs ao c k (hRa.below hbel) hda) cal119 ⟨rfl, rfl, trivial⟩ (k := fun a v w1 hR hF => ?_)
    obtain ⟨rfl, rfl⟩ := hR
    have hA1 : 4294967296 + dgt xs k < 2 ^ IntKind.u64.bits := Nat.lt_trans (show 4294967296 + dgt xs k < 8589934592 by omega) (by decide)
    repeat (first | refine c_seq ?_ | refine c_block ?_ | refine c_region _ ?_ | refine wpList_nil ?_ | refine c_then ?_ | refine c_then_exit ?_ | refine c_then_ret ?_ | refine c_in ?_ | refine c_in_ret ?_ | refine c_in_hit ?_ | refine wp_skip ?_ | refine wp_exit ?_ | refine wp_ret ?_ | refine c_in_miss rfl ?_ | ((first | apply st hF | apply stg hF | apply s_step hF | apply s_stg hF); (first | exact d_move | exact d_assign | exact d_add | exact d_sub | exact d_cmpT | exact d_cmpF | exact d_cmp | exact d_len (und _ _ rfl) | exact d_lens (und _ _ rfl) | exact d_addN (a := 4294967296) (h := hA1)); clear hF; clear a; intro a hF) | ((first | apply stm hF | apply stu hF); clear hF; clear a; intro a hF) | (apply c_cond_t hF; exact rfl; first | exact rfl | assumption) | (apply c_cond_f hF; exact rfl; first | exact rfl | assumption) | refine s_nil ?_)
    refine stc hF (digit_ok w1 ys bo c' k (hRb.below hbel) hdb) cal119 ⟨rfl, rfl, trivial⟩ (k := fun a v w2 hR hF => ?_)
    obtain ⟨rfl, rfl⟩ := hR
    obtain ⟨hn, hq, hP2⟩ := less_step (n := 4294967296 + dgt xs k - dgt ys k - cc) hda hdb hP (by omega)
    have hA2 : dgt ys k ≤ 4294967296 + dgt xs k := by omega
    have hA3 : cc ≤ 4294967296 + dgt xs k - dgt ys k := by omega
    have hA4 : 4294967296 + dgt xs k - dgt ys k < 2 ^ IntKind.u64.bits := Nat.lt_of_le_of_lt (Nat.sub_le _ _) hA1
    repeat (first | refine c_seq ?_ | refine c_block ?_ | refine c_region _ ?_ | refine wpList_nil ?_ | refine c_then ?_ | refine c_then_exit ?_ | refine c_then_ret ?_ | refine c_in ?_ | refine c_in_ret ?_ | refine c_in_hit ?_ | refine wp_skip ?_ | refine wp_exit ?_ | refine wp_ret ?_ | refine c_in_miss rfl ?_ | ((first | apply st hF | apply stg hF | apply s_step hF | apply s_stg hF); (first | exact d_move | exact d_assign | exact d_add | exact d_sub | exact d_cmpT | exact d_cmpF | exact d_cmp | exact d_len (und _ _ rfl) | exact d_lens (und _ _ rfl) | exact d_subN (h := hA2) (ha := hA1) | exact d_subN (h := hA3) (ha := hA4) | exact d_convN (und _ _ rfl) (und _ _ rfl) (a := 4294967296 + dgt xs k - dgt ys k - cc) (m := (4294967296 + dgt xs k - dgt ys k - cc) % 4294967296) (hm := rfl)); clear hF; clear a; intro a hF) | ((first | apply stm hF | apply stu hF); clear hF; clear a; intro a hF) | (apply c_cond_t hF; exact rfl; first | exact rfl | assumption) | (apply c_cond_f hF; exact rfl; first | exact rfl | assumption) | refine s_nil ?_)
    refine st_push' hF (u := .int .u32 (((4294967296 + dgt xs k - dgt ys k - cc) % 4294967296 : Nat) : Int)) (und _ _ rfl) inf24 rfl hown (by omega) (by unfold maxLen; omega) hsz (k := fun a ro2 cap2 w3 hown3 hgr3 hat3 hF => ?_)
    repeat (first | refine c_seq ?_ | refine c_block ?_ | refine c_region _ ?_ | refine wpList_nil ?_ | refine c_then ?_ | refine c_then_exit ?_ | refine c_then_ret ?_ | refine c_in ?_ | refine c_in_ret ?_ | refine c_in_hit ?_ | refine wp_skip ?_ | refine wp_exit ?_ | refine wp_ret ?_ | refine c_in_miss rfl ?_ | ((first | apply st hF | apply stg hF | apply s_step hF | apply s_stg hF); (first | exact d_move | exact d_assign | exact d_add | exact d_sub | exact d_cmpT | exact d_cmpF | exact d_cmp | exact d_len (und _ _ rfl) | exact d_lens (und _ _ rfl) | exact d_shr (a := 4294967296 + dgt xs k - dgt ys k - cc) (b := 32) (hb := by decide) | exact d_subN (a := 1) (b := (4294967296 + dgt xs k - dgt ys k - cc) / 2 ^ 32) (h := hq) (ha := by decide)); clear hF; clear a; intro a hF) | ((first | apply stm hF | apply stu hF); clear hF; clear a; intro a hF) | (apply c_cond_t hF; exact rfl; first | exact rfl | assumption) | (apply c_cond_f hF; exact rfl; first | exact rfl | assumption) | refine s_nil ?_)
    exact ⟨xs.length - (k + 1), by omega, k + 1, _, cap2, ro2, _, by omega, rfl, hP2, hF.keep' ⟨rfl, rfl, rfl, rfl, rfl, trivial⟩, by rw [map_snoc]; exact hown3, below_own hbel hsz hown hgr3⟩
  · obtain rfl : k = xs.length := by omega
    obtain ⟨o1, o2, o3, o4⟩ := own_u32 hown
    repeat (first | refine c_seq ?_ | refine c_block ?_ | refine c_region _ ?_ | refine wpList_nil ?_ | refine c_then ?_ | refine c_then_exit ?_ | refine c_then_ret ?_ | refine c_in ?_ | refine c_in_ret ?_ | refine c_in_hit ?_ | refine wp_skip ?_ | refine wp_exit ?_ | refine wp_ret ?_ | refine c_in_miss rfl ?_ | ((first | apply st hF | apply stg hF | apply s_step hF | apply s_stg hF); (first | exact d_move | exact d_assign | exact d_add | exact d_sub | exact d_cmpT | exact d_cmpF | exact d_cmp | exact d_len (und _ _ rfl) | exact d_lens (und _ _ rfl)); clear hF; clear a; intro a hF) | ((first | apply stm hF | apply stu hF); clear hF; clear a; intro a hF) | (apply c_cond_t hF; exact rfl; first | exact rfl | assumption) | (apply c_cond_f hF; exact rfl; first | exact rfl | assumption) | refine s_nil ?_)
    refine stc hF (trim_ok wr w.heap.size l ro xs.length cap o1 o2 o3 hP.2.1 (by omega) o4) cal110 ⟨rfl, trivial⟩ (k := fun a v w1 hR hF => ?_)
    obtain ⟨hv, rfl⟩ := hR
    have he : valN l = valN xs - valN ys := by have := less_end hda hle hP; omega
    rw [he] at hv
    repeat (first | refine c_seq ?_ | refine c_block ?_ | refine c_region _ ?_ | refine wpList_nil ?_ | refine c_then ?_ | refine c_then_exit ?_ | refine c_then_ret ?_ | refine c_in ?_ | refine c_in_ret ?_ | refine c_in_hit ?_ | refine wp_skip ?_ | refine wp_exit ?_ | refine wp_ret ?_ | refine c_in_miss rfl ?_ | ((first | apply st hF | apply stg hF | apply s_step hF | apply s_stg hF); (first | exact d_move | exact d_assign | exact d_add | exact d_sub | exact d_cmpT | exact d_cmpF | exact d_cmp | exact d_len (und _ _ rfl) | exact d_lens (und _ _ rfl)); clear hF; clear a; intro a hF) | ((first | apply stm hF | apply stu hF); clear hF; clear a; intro a hF) | (apply c_cond_t hF; exact rfl; first | exact rfl | assumption) | (apply c_cond_f hF; exact rfl; first | exact rfl | assumption) | refine s_nil ?_)
    exact ret1 hF rfl rfl ⟨hv, hbel⟩
theorem or_high {d k n : Nat} (h : d < 2 ^ k) : d ||| n * 2 ^ k = d + n * 2 ^ k := by
  rw [Nat.or_comm, Nat.mul_comm, ← Nat.two_pow_add_eq_or_of_lt h, Nat.add_comm]
theorem word_ok (w : World) (B1 : Nat) (v1 : Value) (x : Nat) (h1 : NatV B1 w v1 x) (hx : x < B 100) :
    Ret Tryd.prog 94 [v1].toArray w (fun v w' => (∃ (m : Nat) (b : Bool), v = .tuple #[.int .u64 (m : Int), .bool b] ∧ (b = true ↔ x < 18446744073709551616) ∧ (b = true → m = x)) ∧ w' = w) := by
  obtain ⟨ao, c, xs, rfl, hRa, hda, hna, rfl, _⟩ := h1
  have la := nat_len hna rfl hx
  have hb : (xs.length ≤ 2 ↔ valN xs < 18446744073709551616) := by
    rw [← B_2]
    exact ⟨fun h => Nat.lt_of_lt_of_le (valN_lt hda) (B_le h), fun h => norm_len hna h⟩
  refine enter1 Tryd.func94 rfl 29 rfl 30 rfl (fun a hF => ?_)
  repeat (first | refine c_seq ?_ | refine c_block ?_ | refine c_region _ ?_ | refine wpList_nil ?_ | refine c_then ?_ | refine c_then_exit ?_ | refine c_then_ret ?_ | refine c_in ?_ | refine c_in_ret ?_ | refine c_in_hit ?_ | refine wp_skip ?_ | refine wp_exit ?_ | refine wp_ret ?_ | refine c_in_miss rfl ?_ | ((first | apply st hF | apply stg hF | apply s_step hF | apply s_stg hF); (first | exact d_move | exact d_assign | exact d_pickT | exact d_pickF | exact d_add | exact d_cmpT | exact d_cmpF | exact d_cmp | exact d_len (und _ _ rfl) | exact d_lens (und _ _ rfl) | exact d_indexAddr1 (und _ _ rfl) (isz _ _ rfl)); clear hF; clear a; intro a hF) | ((first | apply stm hF | apply stu hF); clear hF; clear a; intro a hF) | (apply c_cond_t hF; exact rfl; first | exact rfl | assumption) | (apply c_cond_f hF; exact rfl; first | exact rfl | assumption) | refine s_nil ?_)
  refine c_loop (fun q a wr => ∃ k : Nat, k ≤ 2 ∧ k ≤ xs.length ∧ q = 2 - k ∧ Fr 30 [(0, .slice ao xs.length c), (4, .int .u64 ((valN (xs.take k) : Nat) : Int)), (5, .int .i64 (k : Int))] a ∧ wr = w) 2
    ⟨0, by decide, Nat.zero_le _, rfl, hF.keep' ⟨rfl, rfl, rfl, trivial⟩, rfl⟩ ?_
  clear hF a
  rintro q a wr ⟨k, hk, hkl, rfl, hF, rfl⟩
  by_cases hlt : k < xs.length
  · by_cases h2 : k < 2
    · obtain ⟨b, o, rfl, hcell⟩ := rd_u32 hRa hlt
      have hd := dgt_lt hda k
      have hmod : dgt xs k % 2 ^ IntKind.u64.bits = dgt xs k := Nat.mod_eq_of_lt (Nat.lt_trans hd (by decide))
      have ht := take_succ_val xs k
      have hk1 : k = 0 ∨ k = 1 := by omega
      rcases hk1 with rfl | rfl
      · have hs : dgt xs 0 * 2 ^ 0 < 2 ^ IntKind.u64.bits := by rw [Nat.pow_zero, Nat.mul_one]; exact Nat.lt_trans hd (by decide)
        have e1 : 0 ||| dgt xs 0 * 2 ^ 0 = valN (xs.take (0 + 1)) := by rw [ht, Nat.zero_or, B_zero]; simp [valN]
        have e0 : ((valN (xs.take 0) : Nat) : Int) = ((0 : Nat) : Int) := rfl
        repeat (first | refine c_seq ?_ | refine c_block ?_ | refine c_region _ ?_ | refine wpList_nil ?_ | refine c_then ?_ | refine c_then_exit ?_ | refine c_then_ret ?_ | refine c_in ?_ | refine c_in_ret ?_ | refine c_in_hit ?_ | refine wp_skip ?_ | refine wp_exit ?_ | refine wp_ret ?_ | refine c_in_miss rfl ?_ | ((first | apply st hF | apply stg hF | apply s_step hF | apply s_stg hF); (first | exact d_move | exact d_assign | exact d_pickT | exact d_pickF | exact d_add | exact d_cmpT | exact d_cmpF | exact d_cmp | exact d_len (und _ _ rfl) | exact d_lens (und _ _ rfl) | exact d_indexAddr1 (und _ _ rfl) (isz _ _ rfl) | exact d_indexAddr1 (und _ _ rfl) (isz _ _ rfl) (j := 0) | exact d_convN (und _ _ rfl) (und _ _ rfl) (hm := hmod) | exact d_mul (h := ⟨by decide, by decide⟩) | exact d_shlN (a := dgt xs 0) (b := 0) (hb := by decide) (h := hs) | exact d_bits (a := 0) (b := dgt xs 0 * 2 ^ 0) (ha := by decide) (hb := hs) | exact d_load (und _ _ rfl) hcell); clear hF; clear a; intro a hF) | ((first | apply stm hF | apply stu hF); clear hF; clear a; intro a hF) | (apply c_cond_t hF; exact rfl; first | exact rfl | assumption) | (apply c_cond_f hF; exact rfl; first | exact rfl | assumption) | refine s_nil ?_)
        rw [e1] at hF
        exact ⟨1, by decide, 1, by decide, hlt, rfl, hF.keep' ⟨rfl, rfl, rfl, trivial⟩, rfl⟩
      · have hs : dgt xs 1 * 2 ^ 32 < 2 ^ IntKind.u64.bits := by
          have : dgt xs 1 * 2 ^ 32 ≤ 4294967295 * 2 ^ 32 := Nat.mul_le_mul_right _ (by omega)
          exact Nat.lt_of_le_of_lt this (by decide)
        have hlow : valN (xs.take 1) < 2 ^ 32 := by have := take_val_lt hda 1; rw [B_two] at this; exact this
        have e1 : valN (xs.take 1) ||| dgt xs 1 * 2 ^ 32 = valN (xs.take (1 + 1)) := by rw [ht, or_high hlow, B_two, Nat.mul_comm]
        have hlow2 : valN (xs.take 1) < 2 ^ IntKind.u64.bits := Nat.lt_trans hlow (by decide)
        repeat (first | refine c_seq ?_ | refine c_block ?_ | refine c_region _ ?_ | refine wpList_nil ?_ | refine c_then ?_ | refine c_then_exit ?_ | refine c_then_ret ?_ | refine c_in ?_ | refine c_in_ret ?_ | refine c_in_hit ?_ | refine wp_skip ?_ | refine wp_exit ?_ | refine wp_ret ?_ | refine c_in_miss rfl ?_ | ((first | apply st hF | apply stg hF | apply s_step hF | apply s_stg hF); (first | exact d_move | exact d_assign | exact d_pickT | exact d_pickF | exact d_add | exact d_cmpT | exact d_cmpF | exact d_cmp | exact d_len (und _ _ rfl) | exact d_lens (und _ _ rfl) | exact d_indexAddr1 (und _ _ rfl) (isz _ _ rfl) | exact d_indexAddr1 (und _ _ rfl) (isz _ _ rfl) (j := 1) | exact d_convN (und _ _ rfl) (und _ _ rfl) (hm := hmod) | exact d_mul (h := ⟨by decide, by decide⟩) | exact d_shlN (a := dgt xs 1) (b := 32) (hb := by decide) (h := hs) | exact d_bits (a := valN (xs.take 1)) (b := dgt xs 1 * 2 ^ 32) (ha := hlow2) (hb := hs) | exact d_load (und _ _ rfl) hcell); clear hF; clear a; intro a hF) | ((first | apply stm hF | apply stu hF); clear hF; clear a; intro a hF) | (apply c_cond_t hF; exact rfl; first | exact rfl | assumption) | (apply c_cond_f hF; exact rfl; first | exact rfl | assumption) | refine s_nil ?_)
        rw [e1] at hF
        exact ⟨0, by decide, 2, by decide, hlt, rfl, hF.keep' ⟨rfl, rfl, rfl, trivial⟩, rfl⟩
    · repeat (first | refine c_seq ?_ | refine c_block ?_ | refine c_region _ ?_ | refine wpList_nil ?_ | refine c_then ?_ | refine c_then_exit ?_ | refine c_then_ret ?_ | refine c_in ?_ | refine c_in_ret ?_ | refine c_in_hit ?_ | refine wp_skip ?_ | refine wp_exit ?_ | refine wp_ret ?_ | refine c_in_miss rfl ?_ | ((first | apply st hF | apply stg hF | apply s_step hF | apply s_stg hF); (first | exact d_move | exact d_assign | exact d_pickT | exact d_pickF | exact d_add | exact d_cmpT | exact d_cmpF | exact d_cmp | exact d_len (und _ _ rfl) | exact d_lens (und _ _ rfl) | exact d_indexAddr1 (und _ _ rfl) (isz _ _ rfl)); clear hF; clear a; intro a hF) | ((first | apply stm hF | apply stu hF); clear hF; clear a; intro a hF) | (apply c_cond_t hF; exact rfl; first | exact rfl | assumption) | (apply c_cond_f hF; exact rfl; first | exact rfl | assumption) | refine s_nil ?_)
      exact ret2 hF rfl rfl rfl ⟨⟨_, _, rfl, ⟨fun h => (by cases h), fun h => (by have := hb.2 h; omega)⟩, fun h => by cases h⟩, rfl⟩
  · repeat (first | refine c_seq ?_ | refine c_block ?_ | refine c_region _ ?_ | refine wpList_nil ?_ | refine c_then ?_ | refine c_then_exit ?_ | refine c_then_ret ?_ | refine c_in ?_ | refine c_in_ret ?_ | refine c_in_hit ?_ | refine wp_skip ?_ | refine wp_exit ?_ | refine wp_ret ?_ | refine c_in_miss rfl ?_ | ((first | apply st hF | apply stg hF | apply s_step hF | apply s_stg hF); (first | exact d_move | exact d_assign | exact d_pickT | exact d_pickF | exact d_add | exact d_cmpT | exact d_cmpF | exact d_cmp | exact d_len (und _ _ rfl) | exact d_lens (und _ _ rfl) | exact d_indexAddr1 (und _ _ rfl) (isz _ _ rfl)); clear hF; clear a; intro a hF) | ((first | apply stm hF | apply stu hF); clear hF; clear a; intro a hF) | (apply c_cond_t hF; exact rfl; first | exact rfl | assumption) | (apply c_cond_f hF; exact rfl; first | exact rfl | assumption) | refine s_nil ?_)
    refine ret2 hF rfl rfl rfl ⟨⟨_, _, rfl, ⟨fun _ => hb.1 (by omega), fun _ => rfl⟩, fun _ => by rw [take_all (by omega)]⟩, rfl⟩
end Go.Proofs.YtjomihhpglojpaaDoor
end
