/- Laid together by a program of mine: NnW. -/
import Derived.Test.YtjomihhpglojpaaDoorSumBOneW4
import Derived.Test.YtjomihhpglojpaaDoorSumBOneW14
import Derived.Test.YtjomihhpglojpaaDoorSumBOneW7
import Derived.Test.YtjomihhpglojpaaDoorSumBOneW9
set_option linter.unusedSimpArgs false
set_option linter.unusedVariables false
section
/- The reference's big numbers: trim, from, word, digit, held, plus, less: walked. -/
namespace Go.Proofs.YtjomihhpglojpaaDoor
open Go.RowKit
section
variable {P : Program} {w : World} {l : List (Nat × Value)}
theorem d_maxV {x y : Operand} {k k' : IntKind} {m p v : Int} {t t' ty : TypeId} (hv : (if m < p then p else m) = v) (hx : Ev l x (.int k m) := by exact rfl) (hy : Ev l y (.int k' p) := by exact rfl) : Does P l w (.call { callee := .builtin .max, args := [x, y].toArray, argTypes := [t, t'].toArray }) ty (.int k v) w := by subst hv; exact d_max hx hy
end
open Go.RowKit
set_option linter.unusedSimpArgs false
set_option linter.unusedVariables false
attribute [local irreducible] wpList wpQuiet wpStill Code.wp Exit.then Exit.inBlock bodyPost Calls Does Does0
open Nn
def u32v (d : Nat) : Value := .int .u32 (d : Int)
/-- A value that reads as a number; its row, if it has one, lies behind B. -/
def NatV (B : Nat) (w : World) (v : Value) (x : Nat) : Prop := ∃ ao c ds, v = .slice ao ds.length c ∧ Rd w ao u32v ds ∧ Dig ds ∧ Norm ds ∧ valN ds = x ∧ ∀ ad, ao = some ad → B ≤ ad.block
theorem NatV.below {B : Nat} {w w' : World} {v : Value} {x : Nat} (h : NatV B w v x) (hb : Below w.heap.size w w') : NatV B w' v x := by
  obtain ⟨ao, c, ds, h1, h2, h3, h4, h5, h6⟩ := h
  exact ⟨ao, c, ds, h1, h2.below hb, h3, h4, h5, h6⟩
theorem NatV.mono {B B' : Nat} {w : World} {v : Value} {x : Nat} (h : NatV B w v x) (hb : B' ≤ B) : NatV B' w v x := by
  obtain ⟨ao, c, ds, h1, h2, h3, h4, h5, h6⟩ := h
  exact ⟨ao, c, ds, h1, h2, h3, h4, h5, fun ad e => Nat.le_trans hb (h6 ad e)⟩
theorem NatV.kept {B g : Nat} {w w' : World} {v : Value} {x : Nat} (h : NatV B w v x) (hgr : w.grownBy w' (some g)) (hg : g < B) : NatV B w' v x := by
  obtain ⟨ao, c, ds, h1, h2, h3, h4, h5, h6⟩ := h
  refine ⟨ao, c, ds, h1, fun i hi => ?_, h3, h4, h5, h6⟩
  obtain ⟨b, o, e, hc⟩ := h2 i hi
  refine ⟨b, o, e, ?_⟩
  have hB := h6 _ e
  have e2 := hgr.block b (World.block_lt_of_cell? w _ hc) (fun e => by have := Option.some.inj e; simp only at hB; omega)
  simp only [World.cell?, e2] at hc ⊢
  exact hc
theorem NatV.nil (B : Nat) (w : World) (c : Nat) : NatV B w (.slice none 0 c) 0 := ⟨none, c, [], rfl, fun i hi => absurd hi (Nat.not_lt_zero _), fun _ h => (by cases h), fun _ h => (by cases h), rfl, fun _ h => by cases h⟩
theorem B_2 : B 2 = 18446744073709551616 := by rw [B_two]
theorem nat_len {ds : List Nat} {x k : Nat} (hn : Norm ds) (hv : valN ds = x) (h : x < B k) : ds.length ≤ k := norm_len hn (by rw [hv]; exact h)
theorem rd_u32 {w : World} {ao : Option Addr} {ds : List Nat} (h : Rd w ao u32v ds) {i : Nat} (hi : i < ds.length) : ∃ b o, ao = some ⟨b, o, none⟩ ∧ w.cell? ⟨b, o + i, none⟩ = some (.int .u32 ((dgt ds i : Nat) : Int)) := by
  obtain ⟨b, o, h1, h2⟩ := h i hi
  exact ⟨b, o, h1, by rw [dgt_of hi]; exact h2⟩
theorem trim_ok (w : World) (B : Nat) (ds : List Nat) (ao : Option Addr) (n c : Nat) (hn : ds.length = n) (hc : n ≤ c) (hR : Rd w ao u32v ds) (hd : Dig ds) (hz : n ≤ 1000000) (hB : ∀ ad, ao = some ad → B ≤ ad.block) :
    Ret Tryd.prog 110 [.slice ao n c].toArray w (fun v w' => NatV B w' v (valN ds) ∧ w' = w) := by
  subst hn
  refine enter1 Tryd.func110 rfl 20 rfl 21 rfl (fun a hF => ?_)
  repeat (first | refine c_seq ?_ | refine c_block ?_ | refine c_region _ ?_ | refine wpList_nil ?_ | refine c_then ?_ | refine c_then_exit ?_ | refine c_then_ret ?_ | refine c_in ?_ | refine c_in_ret ?_ | refine c_in_hit ?_ | refine wp_skip ?_ | refine wp_exit ?_ | refine wp_ret ?_ | refine c_in_miss rfl ?_ | ((first | apply st hF | apply stg hF | apply s_step hF | apply s_stg hF); (first | exact d_move | exact d_assign | exact d_pickT | exact d_pickF | exact d_sub | exact d_cmpT | exact d_cmpF | exact d_cmp | exact d_eqbT (und _ _ rfl) | exact d_eqbF (und _ _ rfl) | exact d_eqb (und _ _ rfl) | exact d_eqST | exact d_eqSF | exact d_eqS | exact d_len (und _ _ rfl) | exact d_lens (und _ _ rfl) | exact d_indexAddr1 (und _ _ rfl) (isz _ _ rfl) | exact d_slice (und _ _ rfl) (isz _ _ rfl) | exact d_slice3 (und _ _ rfl) (isz _ _ rfl) | exact d_slice3l (und _ _ rfl) (isz _ _ rfl) | exact d_sliceL (und _ _ rfl) (isz _ _ rfl) | exact d_eqN (ifc _ rfl) | exact d_neN (ifc _ rfl)); clear hF; clear a; intro a hF) | ((first | apply stm hF | apply stu hF); clear hF; clear a; intro a hF) | (apply c_cond_t hF; exact rfl; first | exact rfl | assumption) | (apply c_cond_f hF; exact rfl; first | exact rfl | assumption) | refine s_nil ?_)
  refine c_loop (fun q a wr => ∃ k : Nat, k ≤ ds.length ∧ q = k ∧ valN (ds.take k) = valN ds ∧ Fr 21 [(0, .slice ao ds.length c), (3, .int .i64 (k : Int))] a ∧ wr = w) ds.length
    ⟨ds.length, Nat.le_refl _, rfl, by rw [List.take_length], hF.keep' ⟨rfl, rfl, trivial⟩, rfl⟩ ?_
  clear hF a
  rintro q a wr ⟨k, hk, rfl, hv, hF, rfl⟩
  rcases Nat.eq_zero_or_pos q with rfl | hpos
  · repeat (first | refine c_seq ?_ | refine c_block ?_ | refine c_region _ ?_ | refine wpList_nil ?_ | refine c_then ?_ | refine c_then_exit ?_ | refine c_then_ret ?_ | refine c_in ?_ | refine c_in_ret ?_ | refine c_in_hit ?_ | refine wp_skip ?_ | refine wp_exit ?_ | refine wp_ret ?_ | refine c_in_miss rfl ?_ | ((first | apply st hF | apply stg hF | apply s_step hF | apply s_stg hF); (first | exact d_move | exact d_assign | exact d_pickT | exact d_pickF | exact d_sub | exact d_cmpT | exact d_cmpF | exact d_cmp | exact d_eqbT (und _ _ rfl) | exact d_eqbF (und _ _ rfl) | exact d_eqb (und _ _ rfl) | exact d_eqST | exact d_eqSF | exact d_eqS | exact d_len (und _ _ rfl) | exact d_lens (und _ _ rfl) | exact d_indexAddr1 (und _ _ rfl) (isz _ _ rfl) | exact d_slice (und _ _ rfl) (isz _ _ rfl) | exact d_slice3 (und _ _ rfl) (isz _ _ rfl) | exact d_slice3l (und _ _ rfl) (isz _ _ rfl) | exact d_sliceL (und _ _ rfl) (isz _ _ rfl) | exact d_eqN (ifc _ rfl) | exact d_neN (ifc _ rfl)); clear hF; clear a; intro a hF) | ((first | apply stm hF | apply stu hF); clear hF; clear a; intro a hF) | (apply c_cond_t hF; exact rfl; first | exact rfl | assumption) | (apply c_cond_f hF; exact rfl; first | exact rfl | assumption) | refine s_nil ?_)
    exact ret1 hF rfl rfl ⟨⟨ao, c, [], rfl, fun i hi => absurd hi (Nat.not_lt_zero _), fun _ h => (by cases h), fun _ h => (by cases h), hv, hB⟩, rfl⟩
  · obtain ⟨j, rfl⟩ : ∃ j, q = j + 1 := ⟨q - 1, by omega⟩
    obtain ⟨b, o, rfl, hcell⟩ := rd_u32 hR (i := j) (by omega)
    have e1 : ((j + 1 : Nat) : Int) - 1 = (j : Int) := by omega
    by_cases h0 : dgt ds j = 0
    · repeat (first | refine c_seq ?_ | refine c_block ?_ | refine c_region _ ?_ | refine wpList_nil ?_ | refine c_then ?_ | refine c_then_exit ?_ | refine c_then_ret ?_ | refine c_in ?_ | refine c_in_ret ?_ | refine c_in_hit ?_ | refine wp_skip ?_ | refine wp_exit ?_ | refine wp_ret ?_ | refine c_in_miss rfl ?_ | ((first | apply st hF | apply stg hF | apply s_step hF | apply s_stg hF); (first | exact d_move | exact d_assign | exact d_pickT | exact d_pickF | exact d_sub | exact d_cmpT | exact d_cmpF | exact d_cmp | exact d_eqbT (und _ _ rfl) | exact d_eqbF (und _ _ rfl) | exact d_eqb (und _ _ rfl) | exact d_eqST | exact d_eqSF | exact d_eqS | exact d_len (und _ _ rfl) | exact d_lens (und _ _ rfl) | exact d_indexAddr1 (und _ _ rfl) (isz _ _ rfl) | exact d_slice (und _ _ rfl) (isz _ _ rfl) | exact d_slice3 (und _ _ rfl) (isz _ _ rfl) | exact d_slice3l (und _ _ rfl) (isz _ _ rfl) | exact d_sliceL (und _ _ rfl) (isz _ _ rfl) | exact d_eqN (ifc _ rfl) | exact d_neN (ifc _ rfl) | exact d_indexAddr1 (und _ _ rfl) (isz _ _ rfl) (j := j) (hq := e1) | exact d_load (und _ _ rfl) hcell); clear hF; clear a; intro a hF) | ((first | apply stm hF | apply stu hF); clear hF; clear a; intro a hF) | (apply c_cond_t hF; exact rfl; first | exact rfl | assumption) | (apply c_cond_f hF; exact rfl; first | exact rfl | assumption) | refine s_nil ?_)
      rw [e1] at hF
      exact ⟨j, by omega, j, by omega, rfl, trim_step (by omega) h0 hv, hF.keep' ⟨rfl, rfl, trivial⟩, rfl⟩
    · repeat (first | refine c_seq ?_ | refine c_block ?_ | refine c_region _ ?_ | refine wpList_nil ?_ | refine c_then ?_ | refine c_then_exit ?_ | refine c_then_ret ?_ | refine c_in ?_ | refine c_in_ret ?_ | refine c_in_hit ?_ | refine wp_skip ?_ | refine wp_exit ?_ | refine wp_ret ?_ | refine c_in_miss rfl ?_ | ((first | apply st hF | apply stg hF | apply s_step hF | apply s_stg hF); (first | exact d_move | exact d_assign | exact d_pickT | exact d_pickF | exact d_sub | exact d_cmpT | exact d_cmpF | exact d_cmp | exact d_eqbT (und _ _ rfl) | exact d_eqbF (und _ _ rfl) | exact d_eqb (und _ _ rfl) | exact d_eqST | exact d_eqSF | exact d_eqS | exact d_len (und _ _ rfl) | exact d_lens (und _ _ rfl) | exact d_indexAddr1 (und _ _ rfl) (isz _ _ rfl) | exact d_slice (und _ _ rfl) (isz _ _ rfl) | exact d_slice3 (und _ _ rfl) (isz _ _ rfl) | exact d_slice3l (und _ _ rfl) (isz _ _ rfl) | exact d_sliceL (und _ _ rfl) (isz _ _ rfl) | exact d_eqN (ifc _ rfl) | exact d_neN (ifc _ rfl) | exact d_indexAddr1 (und _ _ rfl) (isz _ _ rfl) (j := j) (hq := e1) | exact d_load (und _ _ rfl) hcell); clear hF; clear a; intro a hF) | ((first | apply stm hF | apply stu hF); clear hF; clear a; intro a hF) | (apply c_cond_t hF; exact rfl; first | exact rfl | assumption) | (apply c_cond_f hF; exact rfl; first | exact rfl | assumption) | refine s_nil ?_)
      exact ret1 hF rfl rfl ⟨⟨_, c, ds.take (j + 1), by rw [List.length_take, Nat.min_eq_left hk], hR.take _, hd.take _, norm_take hk (.inr h0), hv, hB⟩, rfl⟩
theorem from_ok (w : World) (x : Nat) (hx : x < 18446744073709551616) : Ret Tryd.prog 92 [.int .u64 (x : Int)].toArray w (fun v w' => NatV w.heap.size w' v x ∧ Below w.heap.size w w') := by
  refine enter1 Tryd.func92 rfl 9 rfl 10 rfl (fun a hF => ?_)
  repeat (first | refine c_seq ?_ | refine c_block ?_ | refine c_region _ ?_ | refine wpList_nil ?_ | refine c_then ?_ | refine c_then_exit ?_ | refine c_then_ret ?_ | refine c_in ?_ | refine c_in_ret ?_ | refine c_in_hit ?_ | refine wp_skip ?_ | refine wp_exit ?_ | refine wp_ret ?_ | refine c_in_miss rfl ?_ | ((first | apply st hF | apply stg hF | apply s_step hF | apply s_stg hF); (first | exact d_move | exact d_assign | exact d_convN (und _ _ rfl) (und _ _ rfl) (a := x) (m := x % 4294967296) (hm := rfl) | exact d_shr (a := x) (b := 32) (hb := by decide) | exact d_convN (und _ _ rfl) (und _ _ rfl) (a := x / 2 ^ 32) (m := x / 2 ^ 32 % 4294967296) (hm := rfl)); clear hF; clear a; intro a hF) | ((first | apply stm hF | apply stu hF); clear hF; clear a; intro a hF) | (apply c_cond_t hF; exact rfl; first | exact rfl | assumption) | (apply c_cond_f hF; exact rfl; first | exact rfl | assumption) | refine s_nil ?_)
  refine st_buildR hF u32v [x % 4294967296, x / 2 ^ 32 % 4294967296] [(0, .int .u32 ((x % 4294967296 : Nat) : Int)), (1, .int .u32 ((x / 2 ^ 32 % 4294967296 : Nat) : Int))] (und _ _ rfl) inf24 rfl rfl ⟨rfl, rfl, rfl, rfl, trivial⟩ (k := fun a w1 hgr hb1 hR hF => ?_)
  have hv : valN [x % 4294967296, x / 2 ^ 32 % 4294967296] = x := by simp only [valN]; omega
  have hd : Dig [x % 4294967296, x / 2 ^ 32 % 4294967296] := by
    intro d hd
    simp only [List.mem_cons, List.mem_nil_iff, or_false] at hd
    rcases hd with rfl | rfl <;> exact Nat.mod_lt _ (by decide)
  repeat (first | refine c_seq ?_ | refine c_block ?_ | refine c_region _ ?_ | refine wpList_nil ?_ | refine c_then ?_ | refine c_then_exit ?_ | refine c_then_ret ?_ | refine c_in ?_ | refine c_in_ret ?_ | refine c_in_hit ?_ | refine wp_skip ?_ | refine wp_exit ?_ | refine wp_ret ?_ | refine c_in_miss rfl ?_ | ((first | apply st hF | apply stg hF | apply s_step hF | apply s_stg hF); (first | exact d_move | exact d_assign); clear hF; clear a; intro a hF) | ((first | apply stm hF | apply stu hF); clear hF; clear a; intro a hF) | (apply c_cond_t hF; exact rfl; first | exact rfl | assumption) | (apply c_cond_f hF; exact rfl; first | exact rfl | assumption) | refine s_nil ?_)
  refine stc hF (trim_ok w1 w.heap.size _ _ 2 2 rfl (Nat.le_refl _) hR hd (by decide) (fun ad e => by cases e; exact Nat.le_refl _)) cal110 ⟨rfl, trivial⟩ (k := fun a v w2 hR2 hF => ?_)
  obtain ⟨hv2, rfl⟩ := hR2
  rw [hv] at hv2
  repeat (first | refine c_seq ?_ | refine c_block ?_ | refine c_region _ ?_ | refine wpList_nil ?_ | refine c_then ?_ | refine c_then_exit ?_ | refine c_then_ret ?_ | refine c_in ?_ | refine c_in_ret ?_ | refine c_in_hit ?_ | refine wp_skip ?_ | refine wp_exit ?_ | refine wp_ret ?_ | refine c_in_miss rfl ?_ | ((first | apply st hF | apply stg hF | apply s_step hF | apply s_stg hF); (first | exact d_move | exact d_assign); clear hF; clear a; intro a hF) | ((first | apply stm hF | apply stu hF); clear hF; clear a; intro a hF) | (apply c_cond_t hF; exact rfl; first | exact rfl | assumption) | (apply c_cond_f hF; exact rfl; first | exact rfl | assumption) | refine s_nil ?_)
  exact ret1 hF rfl rfl ⟨hv2, hb1⟩
theorem digit_ok (w : World) (ds : List Nat) (ao : Option Addr) (c i : Nat) (hR : Rd w ao u32v ds) (hd : Dig ds) :
    Ret Tryd.prog 119 [.slice ao ds.length c, .int .i64 (i : Int)].toArray w (fun v w' => v = .int .u64 ((dgt ds i : Nat) : Int) ∧ w' = w) := by
  refine enter2 Tryd.func119 rfl 12 rfl 14 rfl (fun a hF => ?_)
  by_cases hi : i < ds.length
  · obtain ⟨b, o, rfl, hcell⟩ := rd_u32 hR hi
    have hlt : dgt ds i % 2 ^ IntKind.u64.bits = dgt ds i := Nat.mod_eq_of_lt (Nat.lt_trans (dgt_lt hd i) (by decide))
    repeat (first | refine c_seq ?_ | refine c_block ?_ | refine c_region _ ?_ | refine wpList_nil ?_ | refine c_then ?_ | refine c_then_exit ?_ | refine c_then_ret ?_ | refine c_in ?_ | refine c_in_ret ?_ | refine c_in_hit ?_ | refine wp_skip ?_ | refine wp_exit ?_ | refine wp_ret ?_ | refine c_in_miss rfl ?_ | ((first | apply st hF | apply stg hF | apply s_step hF | apply s_stg hF); (first | exact d_move | exact d_assign | exact d_cmpT | exact d_cmpF | exact d_cmp | exact d_len (und _ _ rfl) | exact d_lens (und _ _ rfl) | exact d_indexAddr1 (und _ _ rfl) (isz _ _ rfl) | exact d_indexAddr1 (und _ _ rfl) (isz _ _ rfl) (j := i) | exact d_convN (und _ _ rfl) (und _ _ rfl) (hm := hlt) | exact d_load (und _ _ rfl) hcell); clear hF; clear a; intro a hF) | ((first | apply stm hF | apply stu hF); clear hF; clear a; intro a hF) | (apply c_cond_t hF; exact rfl; first | exact rfl | assumption) | (apply c_cond_f hF; exact rfl; first | exact rfl | assumption) | refine s_nil ?_)
    exact ret1 hF rfl rfl ⟨rfl, rfl⟩
  · repeat (first | refine c_seq ?_ | refine c_block ?_ | refine c_region _ ?_ | refine wpList_nil ?_ | refine c_then ?_ | refine c_then_exit ?_ | refine c_then_ret ?_ | refine c_in ?_ | refine c_in_ret ?_ | refine c_in_hit ?_ | refine wp_skip ?_ | refine wp_exit ?_ | refine wp_ret ?_ | refine c_in_miss rfl ?_ | ((first | apply st hF | apply stg hF | apply s_step hF | apply s_stg hF); (first | exact d_move | exact d_assign | exact d_cmpT | exact d_cmpF | exact d_cmp | exact d_len (und _ _ rfl) | exact d_lens (und _ _ rfl) | exact d_indexAddr1 (und _ _ rfl) (isz _ _ rfl)); clear hF; clear a; intro a hF) | ((first | apply stm hF | apply stu hF); clear hF; clear a; intro a hF) | (apply c_cond_t hF; exact rfl; first | exact rfl | assumption) | (apply c_cond_f hF; exact rfl; first | exact rfl | assumption) | refine s_nil ?_)
    exact ret1 hF rfl rfl ⟨by rw [dgt_out (by omega)]; rfl, rfl⟩
/-- -1, 0, 1. -/
def heldI (x y : Nat) : Int := if x < y then -1 else if y < x then 1 else 0
theorem held_ok (w : World) (B1 B2 : Nat) (v1 v2 : Value) (x y : Nat) (h1 : NatV B1 w v1 x) (h2 : NatV B2 w v2 y) (hx : x < B 100) (hy : y < B 100) :
    Ret Tryd.prog 116 [v1, v2].toArray w (fun v w' => v = .int .i64 (heldI x y) ∧ w' = w) := by
  obtain ⟨ao, c, xs, rfl, hRa, hda, hna, rfl, _⟩ := h1
  obtain ⟨bo, c', ys, rfl, hRb, hdb, hnb, rfl, _⟩ := h2
  have la := nat_len hna rfl hx
  have lb := nat_len hnb rfl hy
  obtain ⟨M, hM⟩ : ∃ M : Nat, (if (xs.length : Int) < (ys.length : Int) then (ys.length : Int) else (xs.length : Int)) = (M : Int) := by
    by_cases h : (xs.length : Int) < (ys.length : Int)
    · exact ⟨ys.length, if_pos h⟩
    · exact ⟨xs.length, if_neg h⟩
  have hMa : xs.length ≤ M ∧ ys.length ≤ M ∧ M ≤ 100 := by split at hM <;> omega
  refine enter2 Tryd.func116 rfl 28 rfl 30 rfl (fun a hF => ?_)
  repeat (first | refine c_seq ?_ | refine c_block ?_ | refine c_region _ ?_ | refine wpList_nil ?_ | refine c_then ?_ | refine c_then_exit ?_ | refine c_then_ret ?_ | refine c_in ?_ | refine c_in_ret ?_ | refine c_in_hit ?_ | refine wp_skip ?_ | refine wp_exit ?_ | refine wp_ret ?_ | refine c_in_miss rfl ?_ | ((first | apply st hF | apply stg hF | apply s_step hF | apply s_stg hF); (first | exact d_move | exact d_assign | exact d_sub | exact d_cmpT | exact d_cmpF | exact d_cmp | exact d_len (und _ _ rfl) | exact d_lens (und _ _ rfl) | exact d_maxV hM); clear hF; clear a; intro a hF) | ((first | apply stm hF | apply stu hF); clear hF; clear a; intro a hF) | (apply c_cond_t hF; exact rfl; first | exact rfl | assumption) | (apply c_cond_f hF; exact rfl; first | exact rfl | assumption) | refine s_nil ?_)
  refine c_loop (fun q a wr => ∃ j : Nat, j ≤ M ∧ q = j ∧ valN (xs.drop j) = valN (ys.drop j) ∧ Fr 30 [(0, .slice ao xs.length c), (1, .slice bo ys.length c'), (5, .int .i64 ((j : Int) - 1))] a ∧ wr = w) M
    ⟨M, Nat.le_refl _, rfl, by rw [drop_end hMa.1, drop_end hMa.2.1], hF.keep' ⟨rfl, rfl, rfl, trivial⟩, rfl⟩ ?_
  clear hF a
  rintro q a wr ⟨k, hk, rfl, hv, hF, rfl⟩
  rcases Nat.eq_zero_or_pos q with rfl | hpos
  · repeat (first | refine c_seq ?_ | refine c_block ?_ | refine c_region _ ?_ | refine wpList_nil ?_ | refine c_then ?_ | refine c_then_exit ?_ | refine c_then_ret ?_ | refine c_in ?_ | refine c_in_ret ?_ | refine c_in_hit ?_ | refine wp_skip ?_ | refine wp_exit ?_ | refine wp_ret ?_ | refine c_in_miss rfl ?_ | ((first | apply st hF | apply stg hF | apply s_step hF | apply s_stg hF); (first | exact d_move | exact d_assign | exact d_sub | exact d_cmpT | exact d_cmpF | exact d_cmp | exact d_len (und _ _ rfl) | exact d_lens (und _ _ rfl)); clear hF; clear a; intro a hF) | ((first | apply stm hF | apply stu hF); clear hF; clear a; intro a hF) | (apply c_cond_t hF; exact rfl; first | exact rfl | assumption) | (apply c_cond_f hF; exact rfl; first | exact rfl | assumption) | refine s_nil ?_)
    have he : valN xs = valN ys := by simpa using hv
    exact ret1 hF rfl rfl ⟨by rw [heldI, he, if_neg (Nat.lt_irrefl _), if_neg (Nat.lt_irrefl _)], rfl⟩
  · obtain ⟨j, rfl⟩ : ∃ j, q = j + 1 := ⟨q - 1, by omega⟩
    have e1 : ((j + 1 : Nat) : Int) - 1 = (j : Int) := by omega
    rw [e1] at hF
    repeat (first | refine c_seq ?_ | refine c_block ?_ | refine c_region _ ?_ | refine wpList_nil ?_ | refine c_then ?_ | refine c_then_exit ?_ | refine c_then_ret ?_ | refine c_in ?_ | refine c_in_ret ?_ | refine c_in_hit ?_ | refine wp_skip ?_ | refine wp_exit ?_ | refine wp_ret ?_ | refine c_in_miss rfl ?_ | ((first | apply st hF | apply stg hF | apply s_step hF | apply s_stg hF); (first | exact d_move | exact d_assign | exact d_sub | exact d_cmpT | exact d_cmpF | exact d_cmp | exact d_len (und _ _ rfl) | exact d_lens (und _ _ rfl)); clear hF; clear a; intro a hF) | ((first | apply stm hF | apply stu hF); clear hF; clear a; intro a hF) | (apply c_cond_t hF; exact rfl; first | exact rfl | assumption) | (apply c_cond_f hF; exact rfl; first | exact rfl | assumption) | refine s_nil ?_)
    refine stc hF (digit_ok wr xs ao c j hRa hda) cal119 ⟨rfl, rfl, trivial⟩ (k := fun a v w1 hR hF => ?_)
    obtain ⟨rfl, rfl⟩ := hR
    repeat (first | refine c_seq ?_ | refine c_block ?_ | refine c_region _ ?_ | refine wpList_nil ?_ | refine c_then ?_ | refine c_then_exit ?_ | refine c_then_ret ?_ | refine c_in ?_ | refine c_in_ret ?_ | refine c_in_hit ?_ | refine wp_skip ?_ | refine wp_exit ?_ | refine wp_ret ?_ | refine c_in_miss rfl ?_ | ((first | apply st hF | apply stg hF | apply s_step hF | apply s_stg hF); (first | exact d_move | exact d_assign | exact d_sub | exact d_cmpT | exact d_cmpF | exact d_cmp | exact d_len (und _ _ rfl) | exact d_lens (und _ _ rfl)); clear hF; clear a; intro a hF) | ((first | apply stm hF | apply stu hF); clear hF; clear a; intro a hF) | (apply c_cond_t hF; exact rfl; first | exact rfl | assumption) | (apply c_cond_f hF; exact rfl; first | exact rfl | assumption) | refine s_nil ?_)
    refine stc hF (digit_ok w1 ys bo c' j hRb hdb) cal119 ⟨rfl, rfl, trivial⟩ (k := fun a v w2 hR hF => ?_)
    obtain ⟨rfl, rfl⟩ := hR
    rcases Nat.lt_trichotomy (dgt xs j) (dgt ys j) with h | h | h
    · repeat (first | refine c_seq ?_ | refine c_block ?_ | refine c_region _ ?_ | refine wpList_nil ?_ | refine c_then ?_ | refine c_then_exit ?_ | refine c_then_ret ?_ | refine c_in ?_ | refine c_in_ret ?_ | refine c_in_hit ?_ | refine wp_skip ?_ | refine wp_exit ?_ | refine wp_ret ?_ | refine c_in_miss rfl ?_ | ((first | apply st hF | apply stg hF | apply s_step hF | apply s_stg hF); (first | exact d_move | exact d_assign | exact d_sub | exact d_cmpT | exact d_cmpF | exact d_cmp | exact d_len (und _ _ rfl) | exact d_lens (und _ _ rfl)); clear hF; clear a; intro a hF) | ((first | apply stm hF | apply stu hF); clear hF; clear a; intro a hF) | (apply c_cond_t hF; exact rfl; first | exact rfl | assumption) | (apply c_cond_f hF; exact rfl; first | exact rfl | assumption) | refine s_nil ?_)
      have hlt := lt_of_drop hda (drop_lt hv h)
      exact ret1 hF rfl rfl ⟨by rw [heldI, if_pos hlt], rfl⟩
    · repeat (first | refine c_seq ?_ | refine c_block ?_ | refine c_region _ ?_ | refine wpList_nil ?_ | refine c_then ?_ | refine c_then_exit ?_ | refine c_then_ret ?_ | refine c_in ?_ | refine c_in_ret ?_ | refine c_in_hit ?_ | refine wp_skip ?_ | refine wp_exit ?_ | refine wp_ret ?_ | refine c_in_miss rfl ?_ | ((first | apply st hF | apply stg hF | apply s_step hF | apply s_stg hF); (first | exact d_move | exact d_assign | exact d_sub | exact d_cmpT | exact d_cmpF | exact d_cmp | exact d_len (und _ _ rfl) | exact d_lens (und _ _ rfl)); clear hF; clear a; intro a hF) | ((first | apply stm hF | apply stu hF); clear hF; clear a; intro a hF) | (apply c_cond_t hF; exact rfl; first | exact rfl | assumption) | (apply c_cond_f hF; exact rfl; first | exact rfl | assumption) | refine s_nil ?_)
      exact ⟨j, by omega, j, by omega, rfl, drop_eq hv h, hF.keep' ⟨rfl, rfl, rfl, trivial⟩, rfl⟩
    · repeat (first | refine c_seq ?_ | refine c_block ?_ | refine c_region _ ?_ | refine wpList_nil ?_ | refine c_then ?_ | refine c_then_exit ?_ | refine c_then_ret ?_ | refine c_in ?_ | refine c_in_ret ?_ | refine c_in_hit ?_ | refine wp_skip ?_ | refine wp_exit ?_ | refine wp_ret ?_ | refine c_in_miss rfl ?_ | ((first | apply st hF | apply stg hF | apply s_step hF | apply s_stg hF); (first | exact d_move | exact d_assign | exact d_sub | exact d_cmpT | exact d_cmpF | exact d_cmp | exact d_len (und _ _ rfl) | exact d_lens (und _ _ rfl)); clear hF; clear a; intro a hF) | ((first | apply stm hF | apply stu hF); clear hF; clear a; intro a hF) | (apply c_cond_t hF; exact rfl; first | exact rfl | assumption) | (apply c_cond_f hF; exact rfl; first | exact rfl | assumption) | refine s_nil ?_)
      have hlt := lt_of_drop hdb (drop_lt hv.symm h)
      exact ret1 hF rfl rfl ⟨by rw [heldI, if_neg (by omega), if_pos hlt], rfl⟩
end Go.Proofs.YtjomihhpglojpaaDoor
end
