/- Laid together by a program of mine: RefB Arr Byt. -/
import Derived.Test.YtjomihhpglojpaaDoorSumBOneW5
import Derived.Test.YtjomihhpglojpaaDoorSumBOneW3
import Derived.ChangeKeysEq
import Derived.Laws.StructEq
import Derived.Laws.ResultCell
import Derived.Laws.BitsLemmas
set_option linter.unusedSimpArgs false
set_option linter.unusedVariables false
section
/- The reference's Bits and Within: what they compute. -/
namespace Go.Proofs.YtjomihhpglojpaaDoor
open Go.RowKit
set_option linter.unusedSimpArgs false
set_option linter.unusedVariables false
attribute [local irreducible] wpList wpQuiet wpStill Code.wp Exit.then Exit.inBlock bodyPost Calls Does Does0

theorem nextR_ok (w : World) (b : Int) (h0 : 0 ≤ b) (h1 : b ≤ 100) : Ret Tryd.prog 108 #[.int .i64 b] w (fun v w' => v = .int .i64 (Pl.nextB true b) ∧ w' = w) := by
  refine enter1 Tryd.func108 rfl 9 rfl 10 rfl (fun a hF => ?_)
  by_cases h8 : b % 8 = 0
  · have hx : Pl.nextB true b = b + 15 := by simp [Pl.nextB, h8]
    rw [hx]
    repeat (first | refine c_seq ?_ | refine c_block ?_ | refine c_region _ ?_ | refine wpList_nil ?_ | refine c_then ?_ | refine c_then_exit ?_ | refine c_then_ret ?_ | refine c_in ?_ | refine c_in_ret ?_ | refine c_in_hit ?_ | refine wp_skip ?_ | refine wp_exit ?_ | refine wp_ret ?_ | refine c_in_miss rfl ?_ | ((first | apply st hF | apply stg hF | apply s_step hF | apply s_stg hF); (first | exact d_move | exact d_assign | exact d_add | exact d_sub | exact d_rem | exact d_cmpT | exact d_cmpF | exact d_cmp | exact d_eqbT (und _ _ rfl) | exact d_eqbF (und _ _ rfl) | exact d_eqb (und _ _ rfl) | exact d_eqST | exact d_eqSF | exact d_eqS | exact d_eqN (ifc _ rfl) | exact d_neN (ifc _ rfl)); clear hF; clear a; intro a hF) | ((first | apply stm hF | apply stu hF); clear hF; clear a; intro a hF) | (apply c_cond_t hF; exact rfl; first | exact rfl | assumption) | (apply c_cond_f hF; exact rfl; first | exact rfl | assumption) | refine s_nil ?_)
    exact ret1 hF rfl rfl ⟨rfl, rfl⟩
  · have hx : Pl.nextB true b = b - 1 := by simp [Pl.nextB, h8]
    rw [hx]
    repeat (first | refine c_seq ?_ | refine c_block ?_ | refine c_region _ ?_ | refine wpList_nil ?_ | refine c_then ?_ | refine c_then_exit ?_ | refine c_then_ret ?_ | refine c_in ?_ | refine c_in_ret ?_ | refine c_in_hit ?_ | refine wp_skip ?_ | refine wp_exit ?_ | refine wp_ret ?_ | refine c_in_miss rfl ?_ | ((first | apply st hF | apply stg hF | apply s_step hF | apply s_stg hF); (first | exact d_move | exact d_assign | exact d_add | exact d_sub | exact d_rem | exact d_cmpT | exact d_cmpF | exact d_cmp | exact d_eqbT (und _ _ rfl) | exact d_eqbF (und _ _ rfl) | exact d_eqb (und _ _ rfl) | exact d_eqST | exact d_eqSF | exact d_eqS | exact d_eqN (ifc _ rfl) | exact d_neN (ifc _ rfl)); clear hF; clear a; intro a hF) | ((first | apply stm hF | apply stu hF); clear hF; clear a; intro a hF) | (apply c_cond_t hF; exact rfl; first | exact rfl | assumption) | (apply c_cond_f hF; exact rfl; first | exact rfl | assumption) | refine s_nil ?_)
    exact ret1 hF rfl rfl ⟨rfl, rfl⟩

/-- The row, as far as it has come. -/
def rowR (mot : Bool) (start : Int) (k : Nat) : List Int := if mot then (Pl.seqB mot start k).reverse else Pl.seqB mot start k
theorem rowR_len (mot : Bool) (start : Int) (k : Nat) : (rowR mot start k).length = k := by unfold rowR; split <;> simp [Pl.seqB_len]
/-- The two results of the reference's Bits. -/
def RefBRes (base : Nat) (w : World) (v : Value) : Except Int (List Int) → Prop
  | .ok l => ∃ ao cap, v = .tuple #[.slice ao l.length cap, .int .i64 0] ∧ w.ownsRow base 3 1 (.slice ao l.length cap) l.length (l.map (.int .i64))
  | .error e => v = .tuple #[.slice none 0 0, .int .i64 e]

set_option maxHeartbeats 4000000 in
theorem refbits_of (w : World) (cs : Array Value) (start size : Int) (mot : Bool) (hs : SigAt cs start size mot) :
    Ret Tryd.prog 90 #[.agg cs] w (fun v w' => RefBRes w.heap.size w' v (Pl.bitsOfSig start size mot) ∧ Below w.heap.size w w') := by
  refine enter1 Tryd.func90 rfl 47 rfl 48 rfl (fun a hF => ?_)
  repeat (first | refine c_seq ?_ | refine c_block ?_ | refine c_region _ ?_ | refine wpList_nil ?_ | refine c_then ?_ | refine c_then_exit ?_ | refine c_then_ret ?_ | refine c_in ?_ | refine c_in_ret ?_ | refine c_in_hit ?_ | refine wp_skip ?_ | refine wp_exit ?_ | refine wp_ret ?_ | refine c_in_miss rfl ?_ | ((first | apply st hF | apply stg hF | apply s_step hF | apply s_stg hF); (first | exact d_move | exact d_assign | exact d_pickT | exact d_pickF | exact d_add | exact d_cmpT | exact d_cmpF | exact d_cmp | exact d_fieldAddr (fld _ _ _ _ rfl) (isz _ _ rfl)); clear hF; clear a; intro a hF) | ((first | apply stm hF | apply stu hF); clear hF; clear a; intro a hF) | (apply c_cond_t hF; exact rfl; first | exact rfl | assumption) | (apply c_cond_f hF; exact rfl; first | exact rfl | assumption) | refine s_nil ?_)
  refine st_box hF (cs := cs) rfl (k := fun a w1 hsb hgr hsz1 hF => ?_)
  have c5 : w1.cell? ⟨w.heap.size, 5, none⟩ = some (.int .i64 start) := cell_at hsb hs.st
  have c6 : w1.cell? ⟨w.heap.size, 6, none⟩ = some (.int .i64 size) := cell_at hsb hs.sz
  have hb1 : Below w.heap.size w w1 := (Below.refl _ w).grown hgr (Nat.le_refl _) (fun k hk => by cases hk)
  by_cases h1 : size < 1 ∨ 64 < size
  · have hE : Pl.bitsOfSig start size mot = .error 15 := by unfold Pl.bitsOfSig; rw [if_pos h1]
    by_cases h2 : size < 1
    all_goals
      repeat (first | refine c_seq ?_ | refine c_block ?_ | refine c_region _ ?_ | refine wpList_nil ?_ | refine c_then ?_ | refine c_then_exit ?_ | refine c_then_ret ?_ | refine c_in ?_ | refine c_in_ret ?_ | refine c_in_hit ?_ | refine wp_skip ?_ | refine wp_exit ?_ | refine wp_ret ?_ | refine c_in_miss rfl ?_ | ((first | apply st hF | apply stg hF | apply s_step hF | apply s_stg hF); (first | exact d_move | exact d_assign | exact d_pickT | exact d_pickF | exact d_add | exact d_cmpT | exact d_cmpF | exact d_cmp | exact d_fieldAddr (fld _ _ _ _ rfl) (isz _ _ rfl) | exact d_load (und _ _ rfl) c5 | exact d_load (und _ _ rfl) c6); clear hF; clear a; intro a hF) | ((first | apply stm hF | apply stu hF); clear hF; clear a; intro a hF) | (apply c_cond_t hF; exact rfl; first | exact rfl | assumption) | (apply c_cond_f hF; exact rfl; first | exact rfl | assumption) | refine s_nil ?_)
      refine ret2 hF rfl rfl rfl ⟨?_, hb1⟩
      rw [hE]
      rfl
  by_cases h3 : start < 0 ∨ 63 < start
  · have hE : Pl.bitsOfSig start size mot = .error 16 := by unfold Pl.bitsOfSig; rw [if_neg h1, if_pos h3]
    by_cases h2 : start < 0
    all_goals
      repeat (first | refine c_seq ?_ | refine c_block ?_ | refine c_region _ ?_ | refine wpList_nil ?_ | refine c_then ?_ | refine c_then_exit ?_ | refine c_then_ret ?_ | refine c_in ?_ | refine c_in_ret ?_ | refine c_in_hit ?_ | refine wp_skip ?_ | refine wp_exit ?_ | refine wp_ret ?_ | refine c_in_miss rfl ?_ | ((first | apply st hF | apply stg hF | apply s_step hF | apply s_stg hF); (first | exact d_move | exact d_assign | exact d_pickT | exact d_pickF | exact d_add | exact d_cmpT | exact d_cmpF | exact d_cmp | exact d_fieldAddr (fld _ _ _ _ rfl) (isz _ _ rfl) | exact d_load (und _ _ rfl) c5 | exact d_load (und _ _ rfl) c6); clear hF; clear a; intro a hF) | ((first | apply stm hF | apply stu hF); clear hF; clear a; intro a hF) | (apply c_cond_t hF; exact rfl; first | exact rfl | assumption) | (apply c_cond_f hF; exact rfl; first | exact rfl | assumption) | refine s_nil ?_)
      refine ret2 hF rfl rfl rfl ⟨?_, hb1⟩
      rw [hE]
      rfl
  have hE : Pl.bitsOfSig start size mot = if (Pl.seqB mot start size.toNat).all (· ≤ 63) then .ok (if mot then (Pl.seqB mot start size.toNat).reverse else Pl.seqB mot start size.toNat) else .error 16 := by unfold Pl.bitsOfSig; rw [if_neg h1, if_neg h3]
  obtain ⟨S, hS⟩ : ∃ S : Nat, size = (S : Int) := ⟨size.toNat, by omega⟩
  subst hS
  rw [Int.toNat_natCast] at hE
  repeat (first | refine c_seq ?_ | refine c_block ?_ | refine c_region _ ?_ | refine wpList_nil ?_ | refine c_then ?_ | refine c_then_exit ?_ | refine c_then_ret ?_ | refine c_in ?_ | refine c_in_ret ?_ | refine c_in_hit ?_ | refine wp_skip ?_ | refine wp_exit ?_ | refine wp_ret ?_ | refine c_in_miss rfl ?_ | ((first | apply st hF | apply stg hF | apply s_step hF | apply s_stg hF); (first | exact d_move | exact d_assign | exact d_pickT | exact d_pickF | exact d_add | exact d_cmpT | exact d_cmpF | exact d_cmp | exact d_fieldAddr (fld _ _ _ _ rfl) (isz _ _ rfl) | exact d_load (und _ _ rfl) c5 | exact d_load (und _ _ rfl) c6); clear hF; clear a; intro a hF) | ((first | apply stm hF | apply stu hF); clear hF; clear a; intro a hF) | (apply c_cond_t hF; exact rfl; first | exact rfl | assumption) | (apply c_cond_f hF; exact rfl; first | exact rfl | assumption) | refine s_nil ?_)
  refine c_loop (fun n a wr => ∃ k ao' cap', k ≤ S ∧ n = S - k ∧ Fr 48 [(1, .pointer (some ⟨w.heap.size, 0, none⟩)), (4, .slice ao' k cap'), (5, .int .i64 (Pl.nth mot start k)), (6, .int .i64 (k : Nat))] a ∧
    (Pl.seqB mot start k).all (· ≤ 63) = true ∧ 0 ≤ Pl.nth mot start k ∧ Pl.nth mot start k ≤ 78 ∧
    wr.ownsRow w.heap.size 3 1 (.slice ao' k cap') k ((rowR mot start k).map (.int .i64)) ∧ wr.heap[w.heap.size]? = some (.cells cs 38 (0, 0)) ∧ Below w.heap.size w wr) S
    ⟨0, none, 0, by omega, rfl, hF.keep' ⟨rfl, rfl, rfl, rfl, trivial⟩, rfl, by simp only [Pl.nth]; omega, by simp only [Pl.nth]; omega, (by have : rowR mot start 0 = [] := by unfold rowR; cases mot <;> rfl
                                                                                                                                             rw [this]; exact World.ownsRow_nil _ _ _ _), hsb, hb1⟩ ?_
  clear hF a c5 c6 hb1 hsb
  rintro n a wr ⟨k, ao', cap', hk, rfl, hF, hall, hn0, hn1, hown, hsb0, hbel⟩
  have hz := hbel.size
  have c6 : wr.cell? ⟨w.heap.size, 6, none⟩ = some (.int .i64 (S : Int)) := cell_at hsb0 hs.sz
  have c7 : wr.cell? ⟨w.heap.size, 7, none⟩ = some (.bool mot) := cell_at hsb0 hs.mo
  by_cases hlt : k < S
  · by_cases hbig : 63 < Pl.nth mot start k
    · repeat (first | refine c_seq ?_ | refine c_block ?_ | refine c_region _ ?_ | refine wpList_nil ?_ | refine c_then ?_ | refine c_then_exit ?_ | refine c_then_ret ?_ | refine c_in ?_ | refine c_in_ret ?_ | refine c_in_hit ?_ | refine wp_skip ?_ | refine wp_exit ?_ | refine wp_ret ?_ | refine c_in_miss rfl ?_ | ((first | apply st hF | apply stg hF | apply s_step hF | apply s_stg hF); (first | exact d_move | exact d_assign | exact d_pickT | exact d_pickF | exact d_add | exact d_cmpT | exact d_cmpF | exact d_cmp | exact d_fieldAddr (fld _ _ _ _ rfl) (isz _ _ rfl) | exact d_load (und _ _ rfl) c6 | exact d_load (und _ _ rfl) c7); clear hF; clear a; intro a hF) | ((first | apply stm hF | apply stu hF); clear hF; clear a; intro a hF) | (apply c_cond_t hF; exact rfl; first | exact rfl | assumption) | (apply c_cond_f hF; exact rfl; first | exact rfl | assumption) | refine s_nil ?_)
      refine ret2 hF rfl rfl rfl ⟨?_, hbel⟩
      rw [hE, Pl.all_take hlt hbig]
      rfl
    · have hbb := Pl.nextB_bounds (mot := mot) hn0 (by omega)
      have hall2 : (Pl.seqB mot start (k + 1)).all (· ≤ 63) = true := by
        rw [Pl.seqB_snoc', List.all_append, hall]
        simp; omega
      cases mot with
      | true =>
        repeat (first | refine c_seq ?_ | refine c_block ?_ | refine c_region _ ?_ | refine wpList_nil ?_ | refine c_then ?_ | refine c_then_exit ?_ | refine c_then_ret ?_ | refine c_in ?_ | refine c_in_ret ?_ | refine c_in_hit ?_ | refine wp_skip ?_ | refine wp_exit ?_ | refine wp_ret ?_ | refine c_in_miss rfl ?_ | ((first | apply st hF | apply stg hF | apply s_step hF | apply s_stg hF); (first | exact d_move | exact d_assign | exact d_pickT | exact d_pickF | exact d_add | exact d_cmpT | exact d_cmpF | exact d_cmp | exact d_fieldAddr (fld _ _ _ _ rfl) (isz _ _ rfl) | exact d_load (und _ _ rfl) c6 | exact d_load (und _ _ rfl) c7); clear hF; clear a; intro a hF) | ((first | apply stm hF | apply stu hF); clear hF; clear a; intro a hF) | (apply c_cond_t hF; exact rfl; first | exact rfl | assumption) | (apply c_cond_f hF; exact rfl; first | exact rfl | assumption) | refine s_nil ?_)
        refine st hF (d_build1 (by_ := 8) (und _ _ rfl) inf3 rfl) (k := fun a hF => ?_)
        have hg1 : (wr.alloc (.cells #[.int .i64 (Pl.nth true start k)] 3)).heap[wr.heap.size]? = some (.cells #[.int .i64 (Pl.nth true start k)] 3 (0, 0)) := heap_alloc_new wr _
        have hgr1 : wr.grownBy (wr.alloc (.cells #[.int .i64 (Pl.nth true start k)] 3)) none := World.grownBy_alloc _ _ _
        generalize wr.alloc (.cells #[.int .i64 (Pl.nth true start k)] 3) = w2 at *
        have hz2 := hgr1.size
        have hown1 : w2.ownsRow w.heap.size 3 1 (.slice (some ⟨wr.heap.size, 0, none⟩) 1 1) 1 [.int .i64 (Pl.nth true start k)] := ⟨rfl, .inr ⟨_, _, _, rfl, hz, hg1, Nat.le_refl _, by decide, rfl, rfl⟩⟩
        have hownl := own_grown hown hgr1
        obtain ⟨_, hR⟩ := own_rd hownl
        repeat (first | refine c_seq ?_ | refine c_block ?_ | refine c_region _ ?_ | refine wpList_nil ?_ | refine c_then ?_ | refine c_then_exit ?_ | refine c_then_ret ?_ | refine c_in ?_ | refine c_in_ret ?_ | refine c_in_hit ?_ | refine wp_skip ?_ | refine wp_exit ?_ | refine wp_ret ?_ | refine c_in_miss rfl ?_ | ((first | apply st hF | apply stg hF | apply s_step hF | apply s_stg hF); (first | exact d_move | exact d_assign | exact d_pickT | exact d_pickF | exact d_add | exact d_cmpT | exact d_cmpF | exact d_cmp | exact d_fieldAddr (fld _ _ _ _ rfl) (isz _ _ rfl)); clear hF; clear a; intro a hF) | ((first | apply stm hF | apply stu hF); clear hF; clear a; intro a hF) | (apply c_cond_t hF; exact rfl; first | exact rfl | assumption) | (apply c_cond_f hF; exact rfl; first | exact rfl | assumption) | refine s_nil ?_)
        refine st_append hF (und _ _ rfl) inf3 rfl hown1 (rowR_len true start k) hR (fun _ => rfl) (by omega) (by unfold maxLen; omega) (by omega) (k := fun a ao2 cap2 w3 hown2 hgr2 hF => ?_)
        have hb2 : Below w.heap.size w w2 := hbel.grown hgr1 hz (fun k hk => by cases hk)
        have hb3 : Below w.heap.size w w3 := hb2.grown hgr2 (by omega) (fun k hk => by simp only [Value.ownBlock, Option.some.injEq] at hk; omega)
        have hsb3 := blk_kept (blk_kept hsb0 hgr1 (by simp)) hgr2 (by have := lt_at hsb0; simp only [Value.ownBlock, ne_eq, Option.some.injEq]; omega)
        have hrow : [Value.int .i64 (Pl.nth true start k)] ++ (rowR true start k).map (.int .i64) = (rowR true start (k + 1)).map (.int .i64) := by
          simp [rowR, Pl.seqB_snoc']
        rw [hrow, Nat.add_comm 1 k] at hown2
        rw [Nat.add_comm 1 k] at hF
        repeat (first | refine c_seq ?_ | refine c_block ?_ | refine c_region _ ?_ | refine wpList_nil ?_ | refine c_then ?_ | refine c_then_exit ?_ | refine c_then_ret ?_ | refine c_in ?_ | refine c_in_ret ?_ | refine c_in_hit ?_ | refine wp_skip ?_ | refine wp_exit ?_ | refine wp_ret ?_ | refine c_in_miss rfl ?_ | ((first | apply st hF | apply stg hF | apply s_step hF | apply s_stg hF); (first | exact d_move | exact d_assign | exact d_pickT | exact d_pickF | exact d_add | exact d_cmpT | exact d_cmpF | exact d_cmp | exact d_fieldAddr (fld _ _ _ _ rfl) (isz _ _ rfl)); clear hF; clear a; intro a hF) | ((first | apply stm hF | apply stu hF); clear hF; clear a; intro a hF) | (apply c_cond_t hF; exact rfl; first | exact rfl | assumption) | (apply c_cond_f hF; exact rfl; first | exact rfl | assumption) | refine s_nil ?_)
        refine stc hF (nextR_ok w3 _ hn0 (by omega)) cal108 ⟨rfl, trivial⟩ (k := fun a v w4 hR hF => ?_)
        obtain ⟨rfl, rfl⟩ := hR
        repeat (first | refine c_seq ?_ | refine c_block ?_ | refine c_region _ ?_ | refine wpList_nil ?_ | refine c_then ?_ | refine c_then_exit ?_ | refine c_then_ret ?_ | refine c_in ?_ | refine c_in_ret ?_ | refine c_in_hit ?_ | refine wp_skip ?_ | refine wp_exit ?_ | refine wp_ret ?_ | refine c_in_miss rfl ?_ | ((first | apply st hF | apply stg hF | apply s_step hF | apply s_stg hF); (first | exact d_move | exact d_assign | exact d_pickT | exact d_pickF | exact d_add | exact d_cmpT | exact d_cmpF | exact d_cmp | exact d_fieldAddr (fld _ _ _ _ rfl) (isz _ _ rfl)); clear hF; clear a; intro a hF) | ((first | apply stm hF | apply stu hF); clear hF; clear a; intro a hF) | (apply c_cond_t hF; exact rfl; first | exact rfl | assumption) | (apply c_cond_f hF; exact rfl; first | exact rfl | assumption) | refine s_nil ?_)
        exact ⟨S - (k + 1), by omega, k + 1, ao2, cap2, by omega, rfl, hF.keep' ⟨rfl, rfl, rfl, rfl, trivial⟩, hall2, hbb.1, hbb.2, hown2, hsb3, hb3⟩
      | false =>
        repeat (first | refine c_seq ?_ | refine c_block ?_ | refine c_region _ ?_ | refine wpList_nil ?_ | refine c_then ?_ | refine c_then_exit ?_ | refine c_then_ret ?_ | refine c_in ?_ | refine c_in_ret ?_ | refine c_in_hit ?_ | refine wp_skip ?_ | refine wp_exit ?_ | refine wp_ret ?_ | refine c_in_miss rfl ?_ | ((first | apply st hF | apply stg hF | apply s_step hF | apply s_stg hF); (first | exact d_move | exact d_assign | exact d_pickT | exact d_pickF | exact d_add | exact d_cmpT | exact d_cmpF | exact d_cmp | exact d_fieldAddr (fld _ _ _ _ rfl) (isz _ _ rfl) | exact d_load (und _ _ rfl) c6 | exact d_load (und _ _ rfl) c7); clear hF; clear a; intro a hF) | ((first | apply stm hF | apply stu hF); clear hF; clear a; intro a hF) | (apply c_cond_t hF; exact rfl; first | exact rfl | assumption) | (apply c_cond_f hF; exact rfl; first | exact rfl | assumption) | refine s_nil ?_)
        refine st_push hF (und _ _ rfl) inf3 rfl hown (by omega) (by unfold maxLen; omega) hz (k := fun a ao2 cap2 w3 hown2 hgr2 hF => ?_)
        have hrow : (rowR false start k).map (.int .i64) ++ [Value.int .i64 (Pl.nth false start k)] = (rowR false start (k + 1)).map (.int .i64) := by
          simp [rowR, Pl.seqB_snoc']
        rw [hrow] at hown2
        have hb3 := below_own hbel hz hown hgr2
        have hne : some w.heap.size ≠ (Value.slice ao' k cap').ownBlock := own_ne hown hsb0 (by decide)
        have hsb3 := blk_kept hsb0 hgr2 hne
        have hnx : Pl.nth false start (k + 1) = Pl.nth false start k + 1 := rfl
        repeat (first | refine c_seq ?_ | refine c_block ?_ | refine c_region _ ?_ | refine wpList_nil ?_ | refine c_then ?_ | refine c_then_exit ?_ | refine c_then_ret ?_ | refine c_in ?_ | refine c_in_ret ?_ | refine c_in_hit ?_ | refine wp_skip ?_ | refine wp_exit ?_ | refine wp_ret ?_ | refine c_in_miss rfl ?_ | ((first | apply st hF | apply stg hF | apply s_step hF | apply s_stg hF); (first | exact d_move | exact d_assign | exact d_pickT | exact d_pickF | exact d_add | exact d_cmpT | exact d_cmpF | exact d_cmp | exact d_fieldAddr (fld _ _ _ _ rfl) (isz _ _ rfl)); clear hF; clear a; intro a hF) | ((first | apply stm hF | apply stu hF); clear hF; clear a; intro a hF) | (apply c_cond_t hF; exact rfl; first | exact rfl | assumption) | (apply c_cond_f hF; exact rfl; first | exact rfl | assumption) | refine s_nil ?_)
        refine ⟨S - (k + 1), by omega, k + 1, ao2, cap2, by omega, rfl, ?_, hall2, hbb.1, hbb.2, hown2, hsb3, hb3⟩
        rw [hnx]
        exact hF.keep' ⟨rfl, rfl, rfl, rfl, trivial⟩
  · obtain rfl : k = S := by omega
    repeat (first | refine c_seq ?_ | refine c_block ?_ | refine c_region _ ?_ | refine wpList_nil ?_ | refine c_then ?_ | refine c_then_exit ?_ | refine c_then_ret ?_ | refine c_in ?_ | refine c_in_ret ?_ | refine c_in_hit ?_ | refine wp_skip ?_ | refine wp_exit ?_ | refine wp_ret ?_ | refine c_in_miss rfl ?_ | ((first | apply st hF | apply stg hF | apply s_step hF | apply s_stg hF); (first | exact d_move | exact d_assign | exact d_pickT | exact d_pickF | exact d_add | exact d_cmpT | exact d_cmpF | exact d_cmp | exact d_fieldAddr (fld _ _ _ _ rfl) (isz _ _ rfl) | exact d_load (und _ _ rfl) c6); clear hF; clear a; intro a hF) | ((first | apply stm hF | apply stu hF); clear hF; clear a; intro a hF) | (apply c_cond_t hF; exact rfl; first | exact rfl | assumption) | (apply c_cond_f hF; exact rfl; first | exact rfl | assumption) | refine s_nil ?_)
    refine ret2 hF rfl rfl rfl ⟨?_, hbel⟩
    rw [hE, hall, if_pos rfl]
    refine ⟨ao', cap', ?_, ?_⟩
    · rw [show (if mot = true then (Pl.seqB mot start k).reverse else Pl.seqB mot start k) = rowR mot start k from rfl, rowR_len]
    · rw [show (if mot = true then (Pl.seqB mot start k).reverse else Pl.seqB mot start k) = rowR mot start k from rfl, rowR_len]
      exact hown

theorem bits_le {start size : Int} {mot : Bool} {l : List Int} (h : Pl.bitsOfSig start size mot = .ok l) : l.length ≤ 64 ∧ ∀ x ∈ l, 0 ≤ x ∧ x ≤ 63 := by
  unfold Pl.bitsOfSig at h
  split at h
  · cases h
  · split at h
    · cases h
    · split at h
      · rename_i h1 h2 h3
        simp only [Except.ok.injEq] at h
        have hm : ∀ x ∈ Pl.seqB mot start size.toNat, 0 ≤ x ∧ x ≤ 63 := by
          intro x hx
          have hx2 : x ≤ 63 := by simpa using List.all_eq_true.1 h3 x hx
          obtain ⟨i, hi, rfl⟩ := Pl.seqB_mem hx
          refine ⟨?_, hx2⟩
          have := (Pl.pos_ge mot start).2 (by omega)
          exact (Pl.pos_ge mot _).2 (by omega)
        subst h
        refine ⟨by split <;> simp [Pl.seqB_len] <;> omega, fun x hx => hm x ?_⟩
        split at hx
        · exact List.mem_reverse.1 hx
        · exact hx
      · cases h

end Go.Proofs.YtjomihhpglojpaaDoor
end
section
/- Arrays of bools: sets of bits. Plain lemmas over any program. -/
namespace Go.Proofs.YtjomihhpglojpaaDoor
open Go.RowKit

/-- The cells of a set. -/
def setC (xs : List Bool) : Array Value := (xs.map Value.bool).toArray
theorem setC_size (xs : List Bool) : (setC xs).size = xs.length := by simp [setC]
theorem setC_get {xs : List Bool} {j : Nat} (h : j < xs.length) : (setC xs)[j]? = some (.bool xs[j]) := by simp [setC, h]
theorem setC_set (xs : List Bool) (j : Nat) (b : Bool) : (setC xs).setIfInBounds (0 + j) (.bool b) = setC (xs.set j b) := by
  rw [Nat.zero_add]
  apply Array.toList_inj.1
  simp [setC, List.map_set]
theorem setC_cells (xs : List Bool) : ∀ v ∈ setC xs, v.oneCell' = true := by
  intro v hv
  simp [setC] at hv
  rcases hv with ⟨_, rfl⟩ | ⟨_, rfl⟩ <;> rfl

section
variable {P : Program} {ops : Array Oper} {Q : Exit → Act → World → Prop} {a : Act} {w w' : World} {rest : List Oper} {N : Nat} {l : List (Nat × Value)}

theorem run_eqItems_bools (d : Nat) {e : TypeId} (he : P.underlying e = some .bool) (xs ys : List Bool) (hl : xs.length = ys.length) : ∀ is : List Nat, (∀ i ∈ is, i < xs.length) →
    (Op.eqItems (d + 1) e 1 (setC xs) (setC ys) is).run P w = .ok (is.all fun i => xs.getD i false == ys.getD i false) w
  | [], _ => by simp [Op.eqItems]
  | i :: is, h => by
    have hi := h i (by simp)
    have px : (part e (setC xs) (i * 1)).run P w = .ok (.bool (xs.getD i false)) w := by
      simp [part, isAgg, run_underlying he, setC, List.getD, hi]
    have py : (part e (setC ys) (i * 1)).run P w = .ok (.bool (ys.getD i false)) w := by
      simp [part, isAgg, run_underlying he, setC, List.getD, show i < ys.length by omega]
    have pe : (Op.equalIn (d + 1) e (.bool (xs.getD i false)) (.bool (ys.getD i false))).run P w = .ok (xs.getD i false == ys.getD i false) w := run_equalIn_bool d he _ _
    simp only [Op.eqItems, Sem.run_bind, px, py, pe, Result.andThen_ok, List.all_cons]
    cases hq : (xs.getD i false == ys.getD i false) with
    | false => simp
    | true => simpa using run_eqItems_bools d he xs ys hl is (fun j hj => h j (by simp [hj]))
theorem all_range (xs ys : List Bool) (h : xs.length = ys.length) : ((List.range xs.length).all fun i => xs.getD i false == ys.getD i false) = decide (xs = ys) := by
  rw [Bool.eq_iff_iff]
  simp only [List.all_eq_true, List.mem_range, beq_iff_eq, decide_eq_true_eq]
  constructor
  · intro hh
    apply List.ext_getElem h
    intro i h1 h2
    have := hh i h1
    simpa [List.getD, h1, h2] using this
  · rintro rfl i _; rfl
theorem run_equalIn_set (d : Nat) {t e : TypeId} {n : Nat} {i : TypeInfo} (hu : P.underlying t = some (.array n e)) (he : P.underlying e = some .bool) (hi : P.info? e = some i) (hc : P.cellsOf e = 1) (xs ys : List Bool) (hx : xs.length = n) (hy : ys.length = n) :
    (Op.equalIn (d + 2) t (.agg (setC xs)) (.agg (setC ys))).run P w = .ok (decide (xs = ys)) w := by
  rw [run_equalIn_array (P := P) w (d + 1) (setC xs) (setC ys) hu hi, hc, run_eqItems_bools d he xs ys (by omega) _ (by intro j hj; simp at hj; omega), ← hx, all_range xs ys (by omega)]
/-- Sets held against each other. -/
theorem d_eqSet {op : BinOp} {x y : Operand} {xs ys : List Bool} {r : Bool} {t t' ty e : TypeId} {n : Nat} (hu : P.underlying t = some (.array n e)) (he : P.underlying e = some .bool) (hi : (P.info? e).map (·.size) = some 1) (hc : P.cellsOf e = 1) (hm : P.eqGuardType P.depth t = false) (hxl : xs.length = n) (hyl : ys.length = n)
    (hx : Ev l x (.agg (setC xs)) := by exact rfl) (hy : Ev l y (.agg (setC ys)) := by exact rfl) (hr : (match op with | .eql => some (decide (xs = ys)) | .neq => some (!decide (xs = ys)) | _ => none) = some r := by exact rfl) : Does P l w (.binOp op t x y t') ty (.bool r) w := by
  obtain ⟨i, h1, h2⟩ := Option.map_eq_some_iff.1 hi
  intro ρ hρ d pos af g
  have key := run_equalIn_set (P := P) (w := w) 9998 hu he h1 hc xs ys hxl hyl
  cases op <;> simp only [Option.some.injEq, reduceCtorEq] at hr <;> subst hr
  · simp only [execOp, hρ _ _ hx, hρ _ _ hy, Sem.run_bind, run_eqGuard_agg w _ t x y _ _ hm, Result.andThen_ok, run_eql_struct, key]
    rfl
  · simp only [execOp, hρ _ _ hx, hρ _ _ hy, Sem.run_bind, run_eqGuard_agg w _ t x y _ _ hm, Result.andThen_ok, run_neq_struct, key]
    rfl

/-- An element's address in an array. -/
theorem d_indexAddrA {x i : Operand} {b o n : Nat} {k : IntKind} {j : Nat} {q : Int} {t e ty : TypeId} (hU : P.underlying t = some (.array n e)) (hs : (P.info? e).map (·.size) = some 1)
    (hx : Ev l x (.pointer (some ⟨b, o, none⟩)) := by exact rfl) (hi : Ev l i (.int k q) := by exact rfl) (hq : q = (j : Int) := by exact rfl) (hj : j < n := by omega) :
    Does P l w (.indexAddr t x i) ty (.pointer (some ⟨b, o + j, none⟩)) w := by
  intro ρ hρ d pos af g
  subst hq
  obtain ⟨ti, h1, h2⟩ := Option.map_eq_some_iff.1 hs
  have h3 : (0 : Int) ≤ (j : Int) ∧ (j : Int) < (n : Int) := by omega
  simp [execOp, Instr.indexAt, Instr.sureAddr, asIntOf, hρ _ _ hx, hρ _ _ hi, run_underlying hU, sizeOf, typeInfo, h1, h2, hj, addr_add]
/-- An element of an array that is no variable. -/
theorem d_indexA {x i : Operand} {cs : Array Value} {n : Nat} {v : Value} {k : IntKind} {j : Nat} {q : Int} {t e ty : TypeId} {dd : TypeDesc} (hU : P.underlying t = some (.array n e)) (hE : P.underlying e = some dd) (h1' : oneCellType dd = true) (hs : (P.info? e).map (·.size) = some 1) (hv : cs[j]? = some v)
    (hx : Ev l x (.agg cs) := by exact rfl) (hi : Ev l i (.int k q) := by exact rfl) (hq : q = (j : Int) := by exact rfl) (hj : j < n := by omega) :
    Does P l w (.index t x i) ty v w := by
  intro ρ hρ d pos af g
  subst hq
  obtain ⟨ti, h1, h2⟩ := Option.map_eq_some_iff.1 hs
  have h3 : (0 : Int) ≤ (j : Int) ∧ (j : Int) < (n : Int) := by omega
  cases dd <;> simp [oneCellType] at h1' <;> simp [execOp, Instr.index, asIntOf, hρ _ _ hx, hρ _ _ hi, run_underlying hU, sizeOf, typeInfo, h1, h2, hj, part, isAgg, run_underlying hE, hv]

/-! ### results in boxes -/
theorem run_loadVar_agg {t : TypeId} {g : Nat} {cs : Array Value} {e : TypeId} {fr : Nat × Nat} (hU : (P.underlying t).map aggB = some true) (hs : (P.info? t).map (·.size) = some cs.size) (hg : w.heap[g]? = some (.cells cs e fr)) : (loadVar t ⟨g, 0, none⟩).run P w = .ok (.agg cs) w := by
  obtain ⟨ti, h1, h2⟩ := Option.map_eq_some_iff.1 hs
  obtain ⟨dd, h3, h4⟩ := Option.map_eq_some_iff.1 hU
  have hr : (loadCells ⟨g, 0, none⟩ cs.size).run P w = .ok cs w := by
    have := run_loadCells_list (P := P) (w := w) ⟨g, 0, none⟩ cs.toList (fun j v hj => by rw [addr_add]; exact cells_at hg j v (by simpa using hj))
    simpa using this
  cases dd <;> simp [aggB] at h4 <;> simp [loadVar, isAgg, run_underlying h3, sizeOf, typeInfo, h1, h2, hr]
theorem ret_ct {fn : Func} {R : Value → World → Prop} (h : Fr N l a) {p u : Nat} {ty : TypeId} (hres : fn.results = #[.cell p ty, .tmp u]) {g : Nat} {cs : Array Value} {e : TypeId} {fr : Nat × Nat} {y : Value} (hU : (P.underlying ty).map aggB = some true) (hs : (P.info? ty).map (·.size) = some cs.size) (hg : w.heap[g]? = some (.cells cs e fr))
    (hv : look l p = some (.pointer (some ⟨g, 0, none⟩))) (hx : look l u = some y) (hR : R (.tuple #[.agg cs, y]) w) :
    bodyPost P fn (fun e w' => ∃ v, e = .returned v ∧ R v w') .ret a w := by
  refine bodyPost_ret (v := .tuple #[.agg cs, y]) ?_ h.defers ⟨_, rfl, hR⟩
  rw [results_cell_tmp hres, getD_at h hv, getD_at h hx]
  simp [asAddr, run_loadVar_agg hU hs hg]
theorem ret_c {fn : Func} {R : Value → World → Prop} (h : Fr N l a) {p : Nat} {ty : TypeId} (hres : fn.results = #[.cell p ty]) {g : Nat} {cs : Array Value} {e : TypeId} {fr : Nat × Nat} (hU : (P.underlying ty).map aggB = some true) (hs : (P.info? ty).map (·.size) = some cs.size) (hg : w.heap[g]? = some (.cells cs e fr))
    (hv : look l p = some (.pointer (some ⟨g, 0, none⟩))) (hR : R (.agg cs) w) :
    bodyPost P fn (fun e w' => ∃ v, e = .returned v ∧ R v w') .ret a w := by
  refine bodyPost_ret (v := .agg cs) ?_ h.defers ⟨_, rfl, hR⟩
  have e1 : a.tmps[p]? = some (.pointer (some ⟨g, 0, none⟩)) := h.at_ _ _ hv
  simp [results, hres, e1, asAddr, run_loadVar_agg hU hs hg]
end
end Go.Proofs.YtjomihhpglojpaaDoor
end
section
/- Shifts and bits of unsigned numbers. Plain lemmas over any program. -/
namespace Go.Proofs.YtjomihhpglojpaaDoor
open Go.RowKit

/-- A number without some bits of another. -/
def andNotN (a b : Nat) : Nat := Nat.bitwise (fun x y => x && !y) a b
theorem andNotN_bit (a b i : Nat) : (andNotN a b).testBit i = (a.testBit i && !b.testBit i) := Nat.testBit_bitwise rfl _ _ _
theorem andNotN_lt {a b n : Nat} (ha : a < 2 ^ n) : andNotN a b < 2 ^ n := by
  refine Nat.lt_pow_two_of_testBit _ fun i hi => ?_
  rw [andNotN_bit, Nat.testBit_lt_two_pow (Nat.lt_of_lt_of_le ha (Nat.pow_le_pow_right (by decide) hi))]
  rfl
theorem wrap_un {k : IntKind} (hs : k.signed = false) {n : Nat} (h : n < 2 ^ k.bits) : k.wrap (n : Int) = (n : Int) := by
  unfold IntKind.wrap
  have h' : (n : Int) % (2 : Int) ^ k.bits = n := by
    rw [Int.emod_eq_of_lt (by omega)]
    exact_mod_cast h
  simp [hs, h']

section
variable {P : Program} {w : World} {l : List (Nat × Value)}
theorem run_shr {k : IntKind} {a b : Nat} {ky : IntKind} (hb : b ≤ k.bits) : (Op.shift .shr k (a : Int) ky (b : Int)).run P w = .ok (.int k ((a / 2 ^ b : Nat) : Int)) w := by
  have h1 : ¬ ((b : Int) < 0) := by omega
  simp only [Op.shift, h1, if_false, Int.toNat_natCast, Nat.min_eq_left hb]
  have : Int.fdiv (a : Int) (2 ^ b) = ((a / 2 ^ b : Nat) : Int) := by
    rw [Int.fdiv_eq_ediv_of_nonneg _ (Int.le_of_lt (Int.pow_pos (by decide)))]
    push_cast
    rfl
  rw [this]; rfl
theorem run_shl1 {k : IntKind} {b : Nat} {ky : IntKind} (hs : k.signed = false) (hb : b < k.bits) : (Op.shift .shl k 1 ky (b : Int)).run P w = .ok (.int k ((2 ^ b : Nat) : Int)) w := by
  have h1 : ¬ ((b : Int) < 0) := by omega
  simp only [Op.shift, h1, if_false, Int.toNat_natCast, Nat.min_eq_left (Nat.le_of_lt hb)]
  have : k.wrap (1 * 2 ^ b) = ((2 ^ b : Nat) : Int) := by
    rw [← wrap_un hs (Nat.pow_lt_pow_right (by decide) hb)]
    congr 1
    push_cast
    omega
  rw [this]; rfl
theorem run_bits {op : BinOp} {k : IntKind} {a b r : Nat} (hs : k.signed = false) (ha : a < 2 ^ k.bits) (hb : b < 2 ^ k.bits) (hr : (match op with | .and => some (a &&& b) | .or => some (a ||| b) | .andNot => some (andNotN a b) | _ => none) = some r) : (Op.intBits op k (a : Int) (b : Int)).run P w = .ok (.int k (r : Int)) w := by
  have ha' : a % 2 ^ k.bits = a := Nat.mod_eq_of_lt ha
  have hb' : b % 2 ^ k.bits = b := Nat.mod_eq_of_lt hb
  cases op <;> simp only [Option.some.injEq, reduceCtorEq] at hr <;> subst hr
  · simp only [Op.intBits, BitVec.ofInt_natCast, BitVec.toNat_and, BitVec.toNat_ofNat, ha', hb']
    rw [wrap_un hs (Nat.and_lt_two_pow _ hb)]; rfl
  · simp only [Op.intBits, BitVec.ofInt_natCast, BitVec.toNat_or, BitVec.toNat_ofNat, ha', hb']
    rw [wrap_un hs (Nat.or_lt_two_pow ha hb)]; rfl
  · have e : (BitVec.ofNat k.bits a &&& ~~~BitVec.ofNat k.bits b).toNat = andNotN a b := by
      apply Nat.eq_of_testBit_eq
      intro i
      rw [andNotN_bit, BitVec.testBit_toNat]
      simp only [BitVec.getLsbD_and, BitVec.getLsbD_not, BitVec.getLsbD_ofNat]
      by_cases hi : i < k.bits
      · simp [hi]
      · have : a.testBit i = false := Nat.testBit_lt_two_pow (Nat.lt_of_lt_of_le ha (Nat.pow_le_pow_right (by decide) (by omega)))
        simp [hi, this]
    simp only [Op.intBits, BitVec.ofInt_natCast]
    rw [e, wrap_un hs (andNotN_lt ha)]; rfl

theorem d_shr {x y : Operand} {k ky : IntKind} {a b : Nat} {p q : Int} {t t' ty : TypeId} (hx : Ev l x (.int k p) := by exact rfl) (hy : Ev l y (.int ky q) := by exact rfl) (hp : p = (a : Int) := by exact rfl) (hq : q = (b : Int) := by exact rfl) (hb : b ≤ k.bits) :
    Does P l w (.binOp .shr t x y t') ty (.int k ((a / 2 ^ b : Nat) : Int)) w := by
  intro ρ hρ d pos af g
  subst hp; subst hq
  have e : (eqGuard .shr t x y (.int k a) (.int ky b)).run P w = .ok () w := rfl
  have e2 : (binOp .shr t (.int k a) (.int ky b)).run P w = .ok (.int k ((a / 2 ^ b : Nat) : Int)) w := run_shr (ky := ky) hb
  simp only [execOp, hρ _ _ hx, hρ _ _ hy, Sem.run_bind, e, Result.andThen_ok, e2]
  rfl
theorem d_shl1 {x y : Operand} {k ky : IntKind} {b : Nat} {q : Int} {t t' ty : TypeId} (hx : Ev l x (.int k 1) := by exact rfl) (hy : Ev l y (.int ky q) := by exact rfl) (hs : k.signed = false := by exact rfl) (hq : q = (b : Int) := by exact rfl) (hb : b < k.bits) :
    Does P l w (.binOp .shl t x y t') ty (.int k ((2 ^ b : Nat) : Int)) w := by
  intro ρ hρ d pos af g
  subst hq
  have e : (eqGuard .shl t x y (.int k 1) (.int ky b)).run P w = .ok () w := rfl
  have e2 : (binOp .shl t (.int k 1) (.int ky b)).run P w = .ok (.int k ((2 ^ b : Nat) : Int)) w := run_shl1 (ky := ky) hs hb
  simp only [execOp, hρ _ _ hx, hρ _ _ hy, Sem.run_bind, e, Result.andThen_ok, e2]
  rfl
theorem d_bits {op : BinOp} {x y : Operand} {k : IntKind} {a b r : Nat} {p q : Int} {t t' ty : TypeId} (hx : Ev l x (.int k p) := by exact rfl) (hy : Ev l y (.int k q) := by exact rfl) (hs : k.signed = false := by exact rfl) (hp : p = (a : Int) := by exact rfl) (hq : q = (b : Int) := by exact rfl) (ha : a < 2 ^ k.bits) (hb : b < 2 ^ k.bits)
    (hr : (match op with | .and => some (a &&& b) | .or => some (a ||| b) | .andNot => some (andNotN a b) | _ => none) = some r := by exact rfl) :
    Does P l w (.binOp op t x y t') ty (.int k (r : Int)) w := by
  intro ρ hρ d pos af g
  subst hp; subst hq
  have e : (eqGuard op t x y (.int k a) (.int k b)).run P w = .ok () w := by cases op <;> rfl
  have e2 : (binOp op t (.int k a) (.int k b)).run P w = .ok (.int k (r : Int)) w := by
    have := run_bits (P := P) (w := w) (op := op) hs ha hb hr
    cases op <;> simp only [reduceCtorEq] at hr <;> simpa [binOp] using this
  simp only [execOp, hρ _ _ hx, hρ _ _ hy, Sem.run_bind, e, Result.andThen_ok, e2]
  rfl
end
end Go.Proofs.YtjomihhpglojpaaDoor
end
