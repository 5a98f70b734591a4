/- Laid together by a program of mine: UnionW Num IsF. -/
import Derived.Test.YtjomihhpglojpaaDoorSumLawPlacesS19
set_option linter.unusedSimpArgs false
set_option linter.unusedVariables false
section
/- bits.Union and bits.Meet, walked. -/
namespace Go.Proofs.YtjomihhpglojpaaDoor
open Go.RowKit
set_option linter.unusedSimpArgs false
set_option linter.unusedVariables false
attribute [local irreducible] wpList wpQuiet wpStill Code.wp Exit.then Exit.inBlock bodyPost Calls Does Does0

set_option maxHeartbeats 4000000 in
theorem union_of (w : World) (s t : List Bool) (hs : s.length = 64) (ht : t.length = 64) :
    Ret Tryd.prog 42 #[.agg (setC s), .agg (setC t)] w (fun v w' => v = .agg (setC (Pl.zipS (· || ·) s t)) ∧ Below w.heap.size w w') := by
  refine enter2 Tryd.func42 rfl 20 rfl 22 rfl (fun a hF => ?_)
  repeat (first | refine c_seq ?_ | refine c_block ?_ | refine c_region _ ?_ | refine wpList_nil ?_ | refine c_then ?_ | refine c_then_exit ?_ | refine c_then_ret ?_ | refine c_in ?_ | refine c_in_ret ?_ | refine c_in_hit ?_ | refine wp_skip ?_ | refine wp_exit ?_ | refine wp_ret ?_ | refine c_in_miss rfl ?_ | ((first | apply st hF | apply stg hF | apply s_step hF | apply s_stg hF); (first | exact d_move | exact d_assign | exact d_pickT | exact d_pickF | exact d_add | exact d_cmpT | exact d_cmpF | exact d_cmp | exact d_indexAddr1 (und _ _ rfl) (isz _ _ rfl)); clear hF; clear a; intro a hF) | ((first | apply stm hF | apply stu hF); clear hF; clear a; intro a hF) | (apply c_cond_t hF; exact rfl; first | exact rfl | assumption) | (apply c_cond_f hF; exact rfl; first | exact rfl | assumption) | refine s_nil ?_)
  refine st_box hF (cs := setC s) rfl (k := fun a w1 hg2 hgr1 hsz1 hF => ?_)
  have hb1 : Below w.heap.size w w1 := (Below.refl _ w).grown hgr1 (Nat.le_refl _) (fun k hk => by cases hk)
  repeat (first | refine c_seq ?_ | refine c_block ?_ | refine c_region _ ?_ | refine wpList_nil ?_ | refine c_then ?_ | refine c_then_exit ?_ | refine c_then_ret ?_ | refine c_in ?_ | refine c_in_ret ?_ | refine c_in_hit ?_ | refine wp_skip ?_ | refine wp_exit ?_ | refine wp_ret ?_ | refine c_in_miss rfl ?_ | ((first | apply st hF | apply stg hF | apply s_step hF | apply s_stg hF); (first | exact d_move | exact d_assign | exact d_pickT | exact d_pickF | exact d_add | exact d_cmpT | exact d_cmpF | exact d_cmp | exact d_indexAddr1 (und _ _ rfl) (isz _ _ rfl)); clear hF; clear a; intro a hF) | ((first | apply stm hF | apply stu hF); clear hF; clear a; intro a hF) | (apply c_cond_t hF; exact rfl; first | exact rfl | assumption) | (apply c_cond_f hF; exact rfl; first | exact rfl | assumption) | refine s_nil ?_)
  refine st_box hF (cs := setC t) rfl (k := fun a w2 hg3 hgr2 hsz2 hF => ?_)
  have hb2 : Below w.heap.size w w2 := hb1.grown hgr2 hb1.size (fun k hk => by cases hk)
  replace hg2 := blk_kept hg2 hgr2 (by simp)
  repeat (first | refine c_seq ?_ | refine c_block ?_ | refine c_region _ ?_ | refine wpList_nil ?_ | refine c_then ?_ | refine c_then_exit ?_ | refine c_then_ret ?_ | refine c_in ?_ | refine c_in_ret ?_ | refine c_in_hit ?_ | refine wp_skip ?_ | refine wp_exit ?_ | refine wp_ret ?_ | refine c_in_miss rfl ?_ | ((first | apply st hF | apply stg hF | apply s_step hF | apply s_stg hF); (first | exact d_move | exact d_assign | exact d_pickT | exact d_pickF | exact d_add | exact d_cmpT | exact d_cmpF | exact d_cmp | exact d_indexAddr1 (und _ _ rfl) (isz _ _ rfl)); clear hF; clear a; intro a hF) | ((first | apply stm hF | apply stu hF); clear hF; clear a; intro a hF) | (apply c_cond_t hF; exact rfl; first | exact rfl | assumption) | (apply c_cond_f hF; exact rfl; first | exact rfl | assumption) | refine s_nil ?_)
  refine st_alloc hF inf85 (k := fun a w3 hg4 hgr3 hsz3 hF => ?_)
  replace hg4 : SetIn w3 w2.heap.size Pl.emptyS := hg4
  have hb3 : Below w.heap.size w w3 := hb2.grown hgr3 hb2.size (fun k hk => by cases hk)
  replace hg2 := blk_kept hg2 hgr3 (by simp)
  replace hg3 := blk_kept hg3 hgr3 (by simp)
  repeat (first | refine c_seq ?_ | refine c_block ?_ | refine c_region _ ?_ | refine wpList_nil ?_ | refine c_then ?_ | refine c_then_exit ?_ | refine c_then_ret ?_ | refine c_in ?_ | refine c_in_ret ?_ | refine c_in_hit ?_ | refine wp_skip ?_ | refine wp_exit ?_ | refine wp_ret ?_ | refine c_in_miss rfl ?_ | ((first | apply st hF | apply stg hF | apply s_step hF | apply s_stg hF); (first | exact d_move | exact d_assign | exact d_pickT | exact d_pickF | exact d_add | exact d_cmpT | exact d_cmpF | exact d_cmp | exact d_indexAddr1 (und _ _ rfl) (isz _ _ rfl) | exact d_loadAgg (agg _ rfl) (isz _ _ rfl) ((setC_size t).trans ht) (cells_at hg3)); clear hF; clear a; intro a hF) | ((first | apply stm hF | apply stu hF); clear hF; clear a; intro a hF) | (apply c_cond_t hF; exact rfl; first | exact rfl | assumption) | (apply c_cond_f hF; exact rfl; first | exact rfl | assumption) | refine s_nil ?_)
  refine c_loop (fun n a wr => ∃ k, k ≤ 64 ∧ n = 64 - k ∧ Fr 22 [(2, .pointer (some ⟨w.heap.size, 0, none⟩)), (4, .pointer (some ⟨w2.heap.size, 0, none⟩)), (7, .agg (setC t)), (8, .int .i64 (k : Nat))] a ∧
    SetIn wr w.heap.size (Pl.zipTo (· || ·) s t k) ∧ SetIn wr w2.heap.size Pl.emptyS ∧ Below w.heap.size w wr) 64
    ⟨0, by omega, rfl, hF.keep' ⟨rfl, rfl, rfl, rfl, trivial⟩, by rw [Pl.zipTo_zero _ _ hs]; exact hg2, hg4, hb3⟩ ?_
  clear hF a hg2 hg4 hb3 hg3 hgr3 hsz3 w3
  rintro n a wr ⟨k, hk, rfl, hF, hg2, hg4, hbel⟩
  have hz := hbel.size
  have hzl := Pl.zipTo_len (· || ·) s t k
  by_cases hlt : k < 64
  · have hk' : k < t.length := by omega
    have hks : k < s.length := by omega
    have hget := setC_get hk'
    have htk : t.getD k false = t[k] := by simp [List.getD, hk']
    have c2 : wr.cell? ⟨w.heap.size, 0 + k, none⟩ = some (.bool (s.getD k false)) := by
      have := cells_at hg2 k _ (setC_get (by omega))
      rw [Pl.zipTo_get _ _ _ _ _ hlt, if_neg (by omega)] at this
      exact this
    have hsucc := Pl.zipTo_succ (· || ·) s t k hlt
    rw [htk] at hsucc
    cases hb : s.getD k false with
    | true =>
      rw [hb] at c2 hsucc
      repeat (first | refine c_seq ?_ | refine c_block ?_ | refine c_region _ ?_ | refine wpList_nil ?_ | refine c_then ?_ | refine c_then_exit ?_ | refine c_then_ret ?_ | refine c_in ?_ | refine c_in_ret ?_ | refine c_in_hit ?_ | refine wp_skip ?_ | refine wp_exit ?_ | refine wp_ret ?_ | refine c_in_miss rfl ?_ | ((first | apply st hF | apply stg hF | apply s_step hF | apply s_stg hF); (first | exact d_move | exact d_assign | exact d_pickT | exact d_pickF | exact d_add | exact d_cmpT | exact d_cmpF | exact d_cmp | exact d_indexAddr1 (und _ _ rfl) (isz _ _ rfl) | exact d_indexA (und _ _ rfl) (und _ _ rfl) rfl (isz _ _ rfl) hget | exact d_indexAddrA (und _ _ rfl) (isz _ _ rfl) | exact d_load (und _ _ rfl) c2); clear hF; clear a; intro a hF) | ((first | apply stm hF | apply stu hF); clear hF; clear a; intro a hF) | (apply c_cond_t hF; exact rfl; first | exact rfl | assumption) | (apply c_cond_f hF; exact rfl; first | exact rfl | assumption) | refine s_nil ?_)
      refine st_store hF (isz _ _ rfl) hg2 (i := 0 + k) (by rw [setC_size]; omega) rfl rfl rfl fun a w5 hg5 hgr5 hsz5 hF => ?_
      rw [setC_set] at hg5
      repeat (first | refine c_seq ?_ | refine c_block ?_ | refine c_region _ ?_ | refine wpList_nil ?_ | refine c_then ?_ | refine c_then_exit ?_ | refine c_then_ret ?_ | refine c_in ?_ | refine c_in_ret ?_ | refine c_in_hit ?_ | refine wp_skip ?_ | refine wp_exit ?_ | refine wp_ret ?_ | refine c_in_miss rfl ?_ | ((first | apply st hF | apply stg hF | apply s_step hF | apply s_stg hF); (first | exact d_move | exact d_assign | exact d_pickT | exact d_pickF | exact d_add | exact d_cmpT | exact d_cmpF | exact d_cmp | exact d_indexAddr1 (und _ _ rfl) (isz _ _ rfl)); clear hF; clear a; intro a hF) | ((first | apply stm hF | apply stu hF); clear hF; clear a; intro a hF) | (apply c_cond_t hF; exact rfl; first | exact rfl | assumption) | (apply c_cond_f hF; exact rfl; first | exact rfl | assumption) | refine s_nil ?_)
      refine ⟨64 - (k + 1), by omega, k + 1, by omega, rfl, hF.keep' ⟨rfl, rfl, rfl, rfl, trivial⟩, ?_, blk_kept hg4 hgr5 (by simp; omega), hbel.grown hgr5 hz (fun k hk => by cases hk; omega)⟩
      rw [← hsucc]; exact hg5
    | false =>
      rw [hb] at c2 hsucc
      repeat (first | refine c_seq ?_ | refine c_block ?_ | refine c_region _ ?_ | refine wpList_nil ?_ | refine c_then ?_ | refine c_then_exit ?_ | refine c_then_ret ?_ | refine c_in ?_ | refine c_in_ret ?_ | refine c_in_hit ?_ | refine wp_skip ?_ | refine wp_exit ?_ | refine wp_ret ?_ | refine c_in_miss rfl ?_ | ((first | apply st hF | apply stg hF | apply s_step hF | apply s_stg hF); (first | exact d_move | exact d_assign | exact d_pickT | exact d_pickF | exact d_add | exact d_cmpT | exact d_cmpF | exact d_cmp | exact d_indexAddr1 (und _ _ rfl) (isz _ _ rfl) | exact d_indexA (und _ _ rfl) (und _ _ rfl) rfl (isz _ _ rfl) hget | exact d_indexAddrA (und _ _ rfl) (isz _ _ rfl) | exact d_load (und _ _ rfl) c2); clear hF; clear a; intro a hF) | ((first | apply stm hF | apply stu hF); clear hF; clear a; intro a hF) | (apply c_cond_t hF; exact rfl; first | exact rfl | assumption) | (apply c_cond_f hF; exact rfl; first | exact rfl | assumption) | refine s_nil ?_)
      refine st_store hF (isz _ _ rfl) hg2 (i := 0 + k) (by rw [setC_size]; omega) rfl rfl rfl fun a w5 hg5 hgr5 hsz5 hF => ?_
      rw [setC_set] at hg5
      repeat (first | refine c_seq ?_ | refine c_block ?_ | refine c_region _ ?_ | refine wpList_nil ?_ | refine c_then ?_ | refine c_then_exit ?_ | refine c_then_ret ?_ | refine c_in ?_ | refine c_in_ret ?_ | refine c_in_hit ?_ | refine wp_skip ?_ | refine wp_exit ?_ | refine wp_ret ?_ | refine c_in_miss rfl ?_ | ((first | apply st hF | apply stg hF | apply s_step hF | apply s_stg hF); (first | exact d_move | exact d_assign | exact d_pickT | exact d_pickF | exact d_add | exact d_cmpT | exact d_cmpF | exact d_cmp | exact d_indexAddr1 (und _ _ rfl) (isz _ _ rfl)); clear hF; clear a; intro a hF) | ((first | apply stm hF | apply stu hF); clear hF; clear a; intro a hF) | (apply c_cond_t hF; exact rfl; first | exact rfl | assumption) | (apply c_cond_f hF; exact rfl; first | exact rfl | assumption) | refine s_nil ?_)
      refine ⟨64 - (k + 1), by omega, k + 1, by omega, rfl, hF.keep' ⟨rfl, rfl, rfl, rfl, trivial⟩, ?_, blk_kept hg4 hgr5 (by simp; omega), hbel.grown hgr5 hz (fun k hk => by cases hk; omega)⟩
      rw [← hsucc]; unfold SetIn; simpa using hg5
  · obtain rfl : k = 64 := by omega
    rw [Pl.zipTo_end] at hg2
    have hzl := Pl.zipS_len (· || ·) s t
    repeat (first | refine c_seq ?_ | refine c_block ?_ | refine c_region _ ?_ | refine wpList_nil ?_ | refine c_then ?_ | refine c_then_exit ?_ | refine c_then_ret ?_ | refine c_in ?_ | refine c_in_ret ?_ | refine c_in_hit ?_ | refine wp_skip ?_ | refine wp_exit ?_ | refine wp_ret ?_ | refine c_in_miss rfl ?_ | ((first | apply st hF | apply stg hF | apply s_step hF | apply s_stg hF); (first | exact d_move | exact d_assign | exact d_pickT | exact d_pickF | exact d_add | exact d_cmpT | exact d_cmpF | exact d_cmp | exact d_indexAddr1 (und _ _ rfl) (isz _ _ rfl) | exact d_loadAgg (agg _ rfl) (isz _ _ rfl) ((setC_size _).trans hzl) (cells_at hg2)); clear hF; clear a; intro a hF) | ((first | apply stm hF | apply stu hF); clear hF; clear a; intro a hF) | (apply c_cond_t hF; exact rfl; first | exact rfl | assumption) | (apply c_cond_f hF; exact rfl; first | exact rfl | assumption) | refine s_nil ?_)
    refine st_storeAgg hF (cs := setC (Pl.zipS (· || ·) s t)) (isz _ _ rfl) ((setC_size _).trans hzl) rfl hg4 (setC_cells _) (k := fun a w5 hg5 hgr5 hsz5 hF => ?_)
    repeat (first | refine c_seq ?_ | refine c_block ?_ | refine c_region _ ?_ | refine wpList_nil ?_ | refine c_then ?_ | refine c_then_exit ?_ | refine c_then_ret ?_ | refine c_in ?_ | refine c_in_ret ?_ | refine c_in_hit ?_ | refine wp_skip ?_ | refine wp_exit ?_ | refine wp_ret ?_ | refine c_in_miss rfl ?_ | ((first | apply st hF | apply stg hF | apply s_step hF | apply s_stg hF); (first | exact d_move | exact d_assign | exact d_pickT | exact d_pickF | exact d_add | exact d_cmpT | exact d_cmpF | exact d_cmp | exact d_indexAddr1 (und _ _ rfl) (isz _ _ rfl)); clear hF; clear a; intro a hF) | ((first | apply stm hF | apply stu hF); clear hF; clear a; intro a hF) | (apply c_cond_t hF; exact rfl; first | exact rfl | assumption) | (apply c_cond_f hF; exact rfl; first | exact rfl | assumption) | refine s_nil ?_)
    exact ret_c hF rfl (agg _ rfl) (by rw [setC_size, hzl]; exact isz _ _ rfl) hg5 rfl ⟨rfl, hbel.grown hgr5 hz (fun k hk => by cases hk; omega)⟩

set_option maxHeartbeats 4000000 in
theorem meet_of (w : World) (s t : List Bool) (hs : s.length = 64) (ht : t.length = 64) :
    Ret Tryd.prog 41 #[.agg (setC s), .agg (setC t)] w (fun v w' => v = .agg (setC (Pl.zipS (· && ·) s t)) ∧ Below w.heap.size w w') := by
  refine enter2 Tryd.func41 rfl 20 rfl 22 rfl (fun a hF => ?_)
  repeat (first | refine c_seq ?_ | refine c_block ?_ | refine c_region _ ?_ | refine wpList_nil ?_ | refine c_then ?_ | refine c_then_exit ?_ | refine c_then_ret ?_ | refine c_in ?_ | refine c_in_ret ?_ | refine c_in_hit ?_ | refine wp_skip ?_ | refine wp_exit ?_ | refine wp_ret ?_ | refine c_in_miss rfl ?_ | ((first | apply st hF | apply stg hF | apply s_step hF | apply s_stg hF); (first | exact d_move | exact d_assign | exact d_pickT | exact d_pickF | exact d_add | exact d_cmpT | exact d_cmpF | exact d_cmp | exact d_indexAddr1 (und _ _ rfl) (isz _ _ rfl)); clear hF; clear a; intro a hF) | ((first | apply stm hF | apply stu hF); clear hF; clear a; intro a hF) | (apply c_cond_t hF; exact rfl; first | exact rfl | assumption) | (apply c_cond_f hF; exact rfl; first | exact rfl | assumption) | refine s_nil ?_)
  refine st_box hF (cs := setC s) rfl (k := fun a w1 hg2 hgr1 hsz1 hF => ?_)
  have hb1 : Below w.heap.size w w1 := (Below.refl _ w).grown hgr1 (Nat.le_refl _) (fun k hk => by cases hk)
  repeat (first | refine c_seq ?_ | refine c_block ?_ | refine c_region _ ?_ | refine wpList_nil ?_ | refine c_then ?_ | refine c_then_exit ?_ | refine c_then_ret ?_ | refine c_in ?_ | refine c_in_ret ?_ | refine c_in_hit ?_ | refine wp_skip ?_ | refine wp_exit ?_ | refine wp_ret ?_ | refine c_in_miss rfl ?_ | ((first | apply st hF | apply stg hF | apply s_step hF | apply s_stg hF); (first | exact d_move | exact d_assign | exact d_pickT | exact d_pickF | exact d_add | exact d_cmpT | exact d_cmpF | exact d_cmp | exact d_indexAddr1 (und _ _ rfl) (isz _ _ rfl)); clear hF; clear a; intro a hF) | ((first | apply stm hF | apply stu hF); clear hF; clear a; intro a hF) | (apply c_cond_t hF; exact rfl; first | exact rfl | assumption) | (apply c_cond_f hF; exact rfl; first | exact rfl | assumption) | refine s_nil ?_)
  refine st_box hF (cs := setC t) rfl (k := fun a w2 hg3 hgr2 hsz2 hF => ?_)
  have hb2 : Below w.heap.size w w2 := hb1.grown hgr2 hb1.size (fun k hk => by cases hk)
  replace hg2 := blk_kept hg2 hgr2 (by simp)
  repeat (first | refine c_seq ?_ | refine c_block ?_ | refine c_region _ ?_ | refine wpList_nil ?_ | refine c_then ?_ | refine c_then_exit ?_ | refine c_then_ret ?_ | refine c_in ?_ | refine c_in_ret ?_ | refine c_in_hit ?_ | refine wp_skip ?_ | refine wp_exit ?_ | refine wp_ret ?_ | refine c_in_miss rfl ?_ | ((first | apply st hF | apply stg hF | apply s_step hF | apply s_stg hF); (first | exact d_move | exact d_assign | exact d_pickT | exact d_pickF | exact d_add | exact d_cmpT | exact d_cmpF | exact d_cmp | exact d_indexAddr1 (und _ _ rfl) (isz _ _ rfl)); clear hF; clear a; intro a hF) | ((first | apply stm hF | apply stu hF); clear hF; clear a; intro a hF) | (apply c_cond_t hF; exact rfl; first | exact rfl | assumption) | (apply c_cond_f hF; exact rfl; first | exact rfl | assumption) | refine s_nil ?_)
  refine st_alloc hF inf85 (k := fun a w3 hg4 hgr3 hsz3 hF => ?_)
  replace hg4 : SetIn w3 w2.heap.size Pl.emptyS := hg4
  have hb3 : Below w.heap.size w w3 := hb2.grown hgr3 hb2.size (fun k hk => by cases hk)
  replace hg2 := blk_kept hg2 hgr3 (by simp)
  replace hg3 := blk_kept hg3 hgr3 (by simp)
  repeat (first | refine c_seq ?_ | refine c_block ?_ | refine c_region _ ?_ | refine wpList_nil ?_ | refine c_then ?_ | refine c_then_exit ?_ | refine c_then_ret ?_ | refine c_in ?_ | refine c_in_ret ?_ | refine c_in_hit ?_ | refine wp_skip ?_ | refine wp_exit ?_ | refine wp_ret ?_ | refine c_in_miss rfl ?_ | ((first | apply st hF | apply stg hF | apply s_step hF | apply s_stg hF); (first | exact d_move | exact d_assign | exact d_pickT | exact d_pickF | exact d_add | exact d_cmpT | exact d_cmpF | exact d_cmp | exact d_indexAddr1 (und _ _ rfl) (isz _ _ rfl) | exact d_loadAgg (agg _ rfl) (isz _ _ rfl) ((setC_size t).trans ht) (cells_at hg3)); clear hF; clear a; intro a hF) | ((first | apply stm hF | apply stu hF); clear hF; clear a; intro a hF) | (apply c_cond_t hF; exact rfl; first | exact rfl | assumption) | (apply c_cond_f hF; exact rfl; first | exact rfl | assumption) | refine s_nil ?_)
  refine c_loop (fun n a wr => ∃ k, k ≤ 64 ∧ n = 64 - k ∧ Fr 22 [(2, .pointer (some ⟨w.heap.size, 0, none⟩)), (4, .pointer (some ⟨w2.heap.size, 0, none⟩)), (7, .agg (setC t)), (8, .int .i64 (k : Nat))] a ∧
    SetIn wr w.heap.size (Pl.zipTo (· && ·) s t k) ∧ SetIn wr w2.heap.size Pl.emptyS ∧ Below w.heap.size w wr) 64
    ⟨0, by omega, rfl, hF.keep' ⟨rfl, rfl, rfl, rfl, trivial⟩, by rw [Pl.zipTo_zero _ _ hs]; exact hg2, hg4, hb3⟩ ?_
  clear hF a hg2 hg4 hb3 hg3 hgr3 hsz3 w3
  rintro n a wr ⟨k, hk, rfl, hF, hg2, hg4, hbel⟩
  have hz := hbel.size
  have hzl := Pl.zipTo_len (· && ·) s t k
  by_cases hlt : k < 64
  · have hk' : k < t.length := by omega
    have hks : k < s.length := by omega
    have hget := setC_get hk'
    have htk : t.getD k false = t[k] := by simp [List.getD, hk']
    have c2 : wr.cell? ⟨w.heap.size, 0 + k, none⟩ = some (.bool (s.getD k false)) := by
      have := cells_at hg2 k _ (setC_get (by omega))
      rw [Pl.zipTo_get _ _ _ _ _ hlt, if_neg (by omega)] at this
      exact this
    have hsucc := Pl.zipTo_succ (· && ·) s t k hlt
    rw [htk] at hsucc
    cases hb : s.getD k false with
    | true =>
      rw [hb] at c2 hsucc
      repeat (first | refine c_seq ?_ | refine c_block ?_ | refine c_region _ ?_ | refine wpList_nil ?_ | refine c_then ?_ | refine c_then_exit ?_ | refine c_then_ret ?_ | refine c_in ?_ | refine c_in_ret ?_ | refine c_in_hit ?_ | refine wp_skip ?_ | refine wp_exit ?_ | refine wp_ret ?_ | refine c_in_miss rfl ?_ | ((first | apply st hF | apply stg hF | apply s_step hF | apply s_stg hF); (first | exact d_move | exact d_assign | exact d_pickT | exact d_pickF | exact d_add | exact d_cmpT | exact d_cmpF | exact d_cmp | exact d_indexAddr1 (und _ _ rfl) (isz _ _ rfl) | exact d_indexA (und _ _ rfl) (und _ _ rfl) rfl (isz _ _ rfl) hget | exact d_indexAddrA (und _ _ rfl) (isz _ _ rfl) | exact d_load (und _ _ rfl) c2); clear hF; clear a; intro a hF) | ((first | apply stm hF | apply stu hF); clear hF; clear a; intro a hF) | (apply c_cond_t hF; exact rfl; first | exact rfl | assumption) | (apply c_cond_f hF; exact rfl; first | exact rfl | assumption) | refine s_nil ?_)
      refine st_store hF (isz _ _ rfl) hg2 (i := 0 + k) (by rw [setC_size]; omega) rfl rfl rfl fun a w5 hg5 hgr5 hsz5 hF => ?_
      rw [setC_set] at hg5
      repeat (first | refine c_seq ?_ | refine c_block ?_ | refine c_region _ ?_ | refine wpList_nil ?_ | refine c_then ?_ | refine c_then_exit ?_ | refine c_then_ret ?_ | refine c_in ?_ | refine c_in_ret ?_ | refine c_in_hit ?_ | refine wp_skip ?_ | refine wp_exit ?_ | refine wp_ret ?_ | refine c_in_miss rfl ?_ | ((first | apply st hF | apply stg hF | apply s_step hF | apply s_stg hF); (first | exact d_move | exact d_assign | exact d_pickT | exact d_pickF | exact d_add | exact d_cmpT | exact d_cmpF | exact d_cmp | exact d_indexAddr1 (und _ _ rfl) (isz _ _ rfl)); clear hF; clear a; intro a hF) | ((first | apply stm hF | apply stu hF); clear hF; clear a; intro a hF) | (apply c_cond_t hF; exact rfl; first | exact rfl | assumption) | (apply c_cond_f hF; exact rfl; first | exact rfl | assumption) | refine s_nil ?_)
      refine ⟨64 - (k + 1), by omega, k + 1, by omega, rfl, hF.keep' ⟨rfl, rfl, rfl, rfl, trivial⟩, ?_, blk_kept hg4 hgr5 (by simp; omega), hbel.grown hgr5 hz (fun k hk => by cases hk; omega)⟩
      rw [← hsucc]; unfold SetIn; simpa using hg5
    | false =>
      rw [hb] at c2 hsucc
      repeat (first | refine c_seq ?_ | refine c_block ?_ | refine c_region _ ?_ | refine wpList_nil ?_ | refine c_then ?_ | refine c_then_exit ?_ | refine c_then_ret ?_ | refine c_in ?_ | refine c_in_ret ?_ | refine c_in_hit ?_ | refine wp_skip ?_ | refine wp_exit ?_ | refine wp_ret ?_ | refine c_in_miss rfl ?_ | ((first | apply st hF | apply stg hF | apply s_step hF | apply s_stg hF); (first | exact d_move | exact d_assign | exact d_pickT | exact d_pickF | exact d_add | exact d_cmpT | exact d_cmpF | exact d_cmp | exact d_indexAddr1 (und _ _ rfl) (isz _ _ rfl) | exact d_indexA (und _ _ rfl) (und _ _ rfl) rfl (isz _ _ rfl) hget | exact d_indexAddrA (und _ _ rfl) (isz _ _ rfl) | exact d_load (und _ _ rfl) c2); clear hF; clear a; intro a hF) | ((first | apply stm hF | apply stu hF); clear hF; clear a; intro a hF) | (apply c_cond_t hF; exact rfl; first | exact rfl | assumption) | (apply c_cond_f hF; exact rfl; first | exact rfl | assumption) | refine s_nil ?_)
      refine st_store hF (isz _ _ rfl) hg2 (i := 0 + k) (by rw [setC_size]; omega) rfl rfl rfl fun a w5 hg5 hgr5 hsz5 hF => ?_
      rw [setC_set] at hg5
      repeat (first | refine c_seq ?_ | refine c_block ?_ | refine c_region _ ?_ | refine wpList_nil ?_ | refine c_then ?_ | refine c_then_exit ?_ | refine c_then_ret ?_ | refine c_in ?_ | refine c_in_ret ?_ | refine c_in_hit ?_ | refine wp_skip ?_ | refine wp_exit ?_ | refine wp_ret ?_ | refine c_in_miss rfl ?_ | ((first | apply st hF | apply stg hF | apply s_step hF | apply s_stg hF); (first | exact d_move | exact d_assign | exact d_pickT | exact d_pickF | exact d_add | exact d_cmpT | exact d_cmpF | exact d_cmp | exact d_indexAddr1 (und _ _ rfl) (isz _ _ rfl)); clear hF; clear a; intro a hF) | ((first | apply stm hF | apply stu hF); clear hF; clear a; intro a hF) | (apply c_cond_t hF; exact rfl; first | exact rfl | assumption) | (apply c_cond_f hF; exact rfl; first | exact rfl | assumption) | refine s_nil ?_)
      refine ⟨64 - (k + 1), by omega, k + 1, by omega, rfl, hF.keep' ⟨rfl, rfl, rfl, rfl, trivial⟩, ?_, blk_kept hg4 hgr5 (by simp; omega), hbel.grown hgr5 hz (fun k hk => by cases hk; omega)⟩
      rw [← hsucc]; exact hg5
  · obtain rfl : k = 64 := by omega
    rw [Pl.zipTo_end] at hg2
    have hzl := Pl.zipS_len (· && ·) s t
    repeat (first | refine c_seq ?_ | refine c_block ?_ | refine c_region _ ?_ | refine wpList_nil ?_ | refine c_then ?_ | refine c_then_exit ?_ | refine c_then_ret ?_ | refine c_in ?_ | refine c_in_ret ?_ | refine c_in_hit ?_ | refine wp_skip ?_ | refine wp_exit ?_ | refine wp_ret ?_ | refine c_in_miss rfl ?_ | ((first | apply st hF | apply stg hF | apply s_step hF | apply s_stg hF); (first | exact d_move | exact d_assign | exact d_pickT | exact d_pickF | exact d_add | exact d_cmpT | exact d_cmpF | exact d_cmp | exact d_indexAddr1 (und _ _ rfl) (isz _ _ rfl) | exact d_loadAgg (agg _ rfl) (isz _ _ rfl) ((setC_size _).trans hzl) (cells_at hg2)); clear hF; clear a; intro a hF) | ((first | apply stm hF | apply stu hF); clear hF; clear a; intro a hF) | (apply c_cond_t hF; exact rfl; first | exact rfl | assumption) | (apply c_cond_f hF; exact rfl; first | exact rfl | assumption) | refine s_nil ?_)
    refine st_storeAgg hF (cs := setC (Pl.zipS (· && ·) s t)) (isz _ _ rfl) ((setC_size _).trans hzl) rfl hg4 (setC_cells _) (k := fun a w5 hg5 hgr5 hsz5 hF => ?_)
    repeat (first | refine c_seq ?_ | refine c_block ?_ | refine c_region _ ?_ | refine wpList_nil ?_ | refine c_then ?_ | refine c_then_exit ?_ | refine c_then_ret ?_ | refine c_in ?_ | refine c_in_ret ?_ | refine c_in_hit ?_ | refine wp_skip ?_ | refine wp_exit ?_ | refine wp_ret ?_ | refine c_in_miss rfl ?_ | ((first | apply st hF | apply stg hF | apply s_step hF | apply s_stg hF); (first | exact d_move | exact d_assign | exact d_pickT | exact d_pickF | exact d_add | exact d_cmpT | exact d_cmpF | exact d_cmp | exact d_indexAddr1 (und _ _ rfl) (isz _ _ rfl)); clear hF; clear a; intro a hF) | ((first | apply stm hF | apply stu hF); clear hF; clear a; intro a hF) | (apply c_cond_t hF; exact rfl; first | exact rfl | assumption) | (apply c_cond_f hF; exact rfl; first | exact rfl | assumption) | refine s_nil ?_)
    exact ret_c hF rfl (agg _ rfl) (by rw [setC_size, hzl]; exact isz _ _ rfl) hg5 rfl ⟨rfl, hbel.grown hgr5 hz (fun k hk => by cases hk; omega)⟩
end Go.Proofs.YtjomihhpglojpaaDoor
end
section
/- busbarkit.Num: an error's number. -/
namespace Go.Proofs.YtjomihhpglojpaaDoor
open Go.RowKit
set_option linter.unusedSimpArgs false
set_option linter.unusedVariables false
attribute [local irreducible] wpList wpQuiet wpStill Code.wp Exit.then Exit.inBlock bodyPost Calls Does Does0

theorem num_nil (w : World) : Ret Tryd.prog 13 #[.nilIface] w (fun v w' => v = .int .i64 0 ∧ w' = w) := by
  refine enter1 Tryd.func13 rfl 25 rfl 26 rfl (fun a hF => ?_)
  repeat (first | refine c_seq ?_ | refine c_block ?_ | refine c_region _ ?_ | refine wpList_nil ?_ | refine c_then ?_ | refine c_then_exit ?_ | refine c_then_ret ?_ | refine c_in ?_ | refine c_in_ret ?_ | refine c_in_hit ?_ | refine wp_skip ?_ | refine wp_exit ?_ | refine wp_ret ?_ | refine c_in_miss rfl ?_ | ((first | apply st hF | apply stg hF | apply s_step hF | apply s_stg hF); (first | exact d_move | exact d_assign | exact d_pickT | exact d_pickF | exact d_add | exact d_cmpT | exact d_cmpF | exact d_cmp | exact d_eqbT (und _ _ rfl) | exact d_eqbF (und _ _ rfl) | exact d_eqb (und _ _ rfl) | exact d_eqST | exact d_eqSF | exact d_eqS | exact d_eqN (ifc _ rfl) | exact d_neN (ifc _ rfl) | exact d_makeI (con _ rfl)); clear hF; clear a; intro a hF) | ((first | apply stm hF | apply stu hF); clear hF; clear a; intro a hF) | (apply c_cond_t hF; exact rfl; first | exact rfl | assumption) | (apply c_cond_f hF; exact rfl; first | exact rfl | assumption) | refine s_nil ?_)
  exact ret1 hF rfl rfl ⟨rfl, rfl⟩

theorem num_ok (w : World) (k : Int) (h1 : 1 ≤ k) (h2 : k ≤ 26) : Ret Tryd.prog 13 #[.iface 73 (.int .i64 k)] w (fun v w' => v = .int .i64 k ∧ w' = w) := by
  refine enter1 Tryd.func13 rfl 25 rfl 26 rfl (fun a hF => ?_)
  repeat (first | refine c_seq ?_ | refine c_block ?_ | refine c_region _ ?_ | refine wpList_nil ?_ | refine c_then ?_ | refine c_then_exit ?_ | refine c_then_ret ?_ | refine c_in ?_ | refine c_in_ret ?_ | refine c_in_hit ?_ | refine wp_skip ?_ | refine wp_exit ?_ | refine wp_ret ?_ | refine c_in_miss rfl ?_ | ((first | apply st hF | apply stg hF | apply s_step hF | apply s_stg hF); (first | exact d_move | exact d_assign | exact d_pickT | exact d_pickF | exact d_add | exact d_cmpT | exact d_cmpF | exact d_cmp | exact d_eqbT (und _ _ rfl) | exact d_eqbF (und _ _ rfl) | exact d_eqb (und _ _ rfl) | exact d_eqST | exact d_eqSF | exact d_eqS | exact d_eqN (ifc _ rfl) | exact d_neN (ifc _ rfl) | exact d_makeI (con _ rfl)); clear hF; clear a; intro a hF) | ((first | apply stm hF | apply stu hF); clear hF; clear a; intro a hF) | (apply c_cond_t hF; exact rfl; first | exact rfl | assumption) | (apply c_cond_f hF; exact rfl; first | exact rfl | assumption) | refine s_nil ?_)
  refine c_loop (fun q a w' => ∃ n : Nat, 1 ≤ n ∧ n ≤ 27 ∧ q = 27 - n ∧ Fr 26 [(0, .iface 73 (.int .i64 k)), (3, .int .i64 (if k < n then k else 0)), (4, .int .i64 (n : Nat))] a ∧ w' = w) 26
    ⟨1, by omega, by omega, rfl, (by rw [if_neg (by omega)]; exact hF.keep' ⟨rfl, rfl, rfl, trivial⟩), rfl⟩ ?_
  clear hF a
  rintro q a w' ⟨n, hn1, hn, rfl, hF, rfl⟩
  by_cases hlt : n ≤ 26
  · repeat (first | refine c_seq ?_ | refine c_block ?_ | refine c_region _ ?_ | refine wpList_nil ?_ | refine c_then ?_ | refine c_then_exit ?_ | refine c_then_ret ?_ | refine c_in ?_ | refine c_in_ret ?_ | refine c_in_hit ?_ | refine wp_skip ?_ | refine wp_exit ?_ | refine wp_ret ?_ | refine c_in_miss rfl ?_ | ((first | apply st hF | apply stg hF | apply s_step hF | apply s_stg hF); (first | exact d_move | exact d_assign | exact d_pickT | exact d_pickF | exact d_add | exact d_cmpT | exact d_cmpF | exact d_cmp | exact d_eqbT (und _ _ rfl) | exact d_eqbF (und _ _ rfl) | exact d_eqb (und _ _ rfl) | exact d_eqST | exact d_eqSF | exact d_eqS | exact d_eqN (ifc _ rfl) | exact d_neN (ifc _ rfl) | exact d_makeI (con _ rfl)); clear hF; clear a; intro a hF) | ((first | apply stm hF | apply stu hF); clear hF; clear a; intro a hF) | (apply c_cond_t hF; exact rfl; first | exact rfl | assumption) | (apply c_cond_f hF; exact rfl; first | exact rfl | assumption) | refine s_nil ?_)
    refine stc hF (is_ok w' k n) cal37 ⟨rfl, rfl, trivial⟩ (k := fun a v w2 hR hF => ?_)
    obtain ⟨rfl, rfl⟩ := hR
    by_cases hk : k = (n : Int)
    · rw [if_neg (by omega)] at hF
      rw [show (k == (n : Int)) = true from beq_iff_eq.2 hk] at hF
      repeat (first | refine c_seq ?_ | refine c_block ?_ | refine c_region _ ?_ | refine wpList_nil ?_ | refine c_then ?_ | refine c_then_exit ?_ | refine c_then_ret ?_ | refine c_in ?_ | refine c_in_ret ?_ | refine c_in_hit ?_ | refine wp_skip ?_ | refine wp_exit ?_ | refine wp_ret ?_ | refine c_in_miss rfl ?_ | ((first | apply st hF | apply stg hF | apply s_step hF | apply s_stg hF); (first | exact d_move | exact d_assign | exact d_pickT | exact d_pickF | exact d_add | exact d_cmpT | exact d_cmpF | exact d_cmp | exact d_eqbT (und _ _ rfl) | exact d_eqbF (und _ _ rfl) | exact d_eqb (und _ _ rfl) | exact d_eqST | exact d_eqSF | exact d_eqS | exact d_eqN (ifc _ rfl) | exact d_neN (ifc _ rfl) | exact d_makeI (con _ rfl)); clear hF; clear a; intro a hF) | ((first | apply stm hF | apply stu hF); clear hF; clear a; intro a hF) | (apply c_cond_t hF; exact rfl; first | exact rfl | assumption) | (apply c_cond_f hF; exact rfl; first | exact rfl | assumption) | refine s_nil ?_)
      refine ⟨27 - (n + 1), by omega, n + 1, by omega, by omega, rfl, ?_, rfl⟩
      rw [if_pos (by omega), hk]
      rw [hk] at hF
      exact hF.keep' ⟨rfl, rfl, rfl, trivial⟩
    · rw [show (k == (n : Int)) = false from beq_eq_false_iff_ne.2 hk] at hF
      repeat (first | refine c_seq ?_ | refine c_block ?_ | refine c_region _ ?_ | refine wpList_nil ?_ | refine c_then ?_ | refine c_then_exit ?_ | refine c_then_ret ?_ | refine c_in ?_ | refine c_in_ret ?_ | refine c_in_hit ?_ | refine wp_skip ?_ | refine wp_exit ?_ | refine wp_ret ?_ | refine c_in_miss rfl ?_ | ((first | apply st hF | apply stg hF | apply s_step hF | apply s_stg hF); (first | exact d_move | exact d_assign | exact d_pickT | exact d_pickF | exact d_add | exact d_cmpT | exact d_cmpF | exact d_cmp | exact d_eqbT (und _ _ rfl) | exact d_eqbF (und _ _ rfl) | exact d_eqb (und _ _ rfl) | exact d_eqST | exact d_eqSF | exact d_eqS | exact d_eqN (ifc _ rfl) | exact d_neN (ifc _ rfl) | exact d_makeI (con _ rfl)); clear hF; clear a; intro a hF) | ((first | apply stm hF | apply stu hF); clear hF; clear a; intro a hF) | (apply c_cond_t hF; exact rfl; first | exact rfl | assumption) | (apply c_cond_f hF; exact rfl; first | exact rfl | assumption) | refine s_nil ?_)
      refine ⟨27 - (n + 1), by omega, n + 1, by omega, by omega, rfl, ?_, rfl⟩
      by_cases hkl : k < n
      · rw [if_pos (by omega)]
        rw [if_pos hkl] at hF
        exact hF.keep' ⟨rfl, rfl, rfl, trivial⟩
      · rw [if_neg (by omega)]
        rw [if_neg hkl] at hF
        exact hF.keep' ⟨rfl, rfl, rfl, trivial⟩
  · rw [if_pos (by omega)] at hF
    repeat (first | refine c_seq ?_ | refine c_block ?_ | refine c_region _ ?_ | refine wpList_nil ?_ | refine c_then ?_ | refine c_then_exit ?_ | refine c_then_ret ?_ | refine c_in ?_ | refine c_in_ret ?_ | refine c_in_hit ?_ | refine wp_skip ?_ | refine wp_exit ?_ | refine wp_ret ?_ | refine c_in_miss rfl ?_ | ((first | apply st hF | apply stg hF | apply s_step hF | apply s_stg hF); (first | exact d_move | exact d_assign | exact d_pickT | exact d_pickF | exact d_add | exact d_cmpT | exact d_cmpF | exact d_cmp | exact d_eqbT (und _ _ rfl) | exact d_eqbF (und _ _ rfl) | exact d_eqb (und _ _ rfl) | exact d_eqST | exact d_eqSF | exact d_eqS | exact d_eqN (ifc _ rfl) | exact d_neN (ifc _ rfl) | exact d_makeI (con _ rfl)); clear hF; clear a; intro a hF) | ((first | apply stm hF | apply stu hF); clear hF; clear a; intro a hF) | (apply c_cond_t hF; exact rfl; first | exact rfl | assumption) | (apply c_cond_f hF; exact rfl; first | exact rfl | assumption) | refine s_nil ?_)
    refine stcg hF (is_ok w' k 0) cal37 ⟨rfl, rfl, trivial⟩ (k := fun a v w2 hR hF => ?_)
    obtain ⟨rfl, rfl⟩ := hR
    rw [show (k == 0) = false from beq_eq_false_iff_ne.2 (by omega)] at hF
    repeat (first | refine c_seq ?_ | refine c_block ?_ | refine c_region _ ?_ | refine wpList_nil ?_ | refine c_then ?_ | refine c_then_exit ?_ | refine c_then_ret ?_ | refine c_in ?_ | refine c_in_ret ?_ | refine c_in_hit ?_ | refine wp_skip ?_ | refine wp_exit ?_ | refine wp_ret ?_ | refine c_in_miss rfl ?_ | ((first | apply st hF | apply stg hF | apply s_step hF | apply s_stg hF); (first | exact d_move | exact d_assign | exact d_pickT | exact d_pickF | exact d_add | exact d_cmpT | exact d_cmpF | exact d_cmp | exact d_eqbT (und _ _ rfl) | exact d_eqbF (und _ _ rfl) | exact d_eqb (und _ _ rfl) | exact d_eqST | exact d_eqSF | exact d_eqS | exact d_eqN (ifc _ rfl) | exact d_neN (ifc _ rfl) | exact d_makeI (con _ rfl)); clear hF; clear a; intro a hF) | ((first | apply stm hF | apply stu hF); clear hF; clear a; intro a hF) | (apply c_cond_t hF; exact rfl; first | exact rfl | assumption) | (apply c_cond_f hF; exact rfl; first | exact rfl | assumption) | refine s_nil ?_)
    exact ret1 hF rfl rfl ⟨rfl, rfl⟩
end Go.Proofs.YtjomihhpglojpaaDoor
end
section
/- errors.Is over a fault: an error with a place, which wraps its number. busbarkit.Num of it. -/
namespace Go.Proofs.YtjomihhpglojpaaDoor
open Go.RowKit Go.Extern.Stop Go.Stop Go.Extern

/-- A fault, as an error. -/
def fltV (n x y : Int) : Value := .iface 111 (.agg #[.int .i64 n, .int .i64 x, .int .i64 y])

theorem noIsF (v : Value) (xT : TypeId) (w : World) : (Instr.typeAssert (.iface 111 v) xT 156 true).run Tryd.prog w = .ok (.tuple #[.nilIface, .bool false]) w := run_typeAssert_lacksB Tryd.underlying156 (by kernel_rfl) (by kernel_rfl) v xT w
theorem unwrapF (v : Value) (xT : TypeId) (w : World) : (Instr.typeAssert (.iface 111 v) xT 159 true).run Tryd.prog w = .ok (.tuple #[.iface 111 v, .bool true]) w := run_typeAssert_hasB Tryd.underlying159 (by kernel_rfl) v xT w
theorem isMethodUnwrap (v : Value) (w : World) : (Go.method 338 111 v "Unwrap").run Tryd.prog w = .ok (143, v) w := by kernel_rfl
theorem isNeF (v u : Value) (w : World) : (binOp .eql 30 (.iface 111 v) (.iface 73 u)).run Tryd.prog w = .ok (.bool false) w := run_eql_iface_types _ _ v u Tryd.underlying30 (by decide) w

section
open Go.RowKit
set_option linter.unusedSimpArgs false
set_option linter.unusedVariables false
attribute [local irreducible] wpList wpQuiet wpStill Code.wp Exit.then Exit.inBlock bodyPost Calls Does Does0
theorem unwrapF_ok (w : World) (n x y : Int) : Ret Tryd.prog 143 #[.agg #[.int .i64 n, .int .i64 x, .int .i64 y]] w (fun v w' => v = .iface 73 (.int .i64 n) ∧ w' = w.alloc (.cells #[.int .i64 n, .int .i64 x, .int .i64 y] 111)) := by
  refine enter1 Tryd.func143 rfl 5 rfl 6 rfl (fun a hF => ?_)
  repeat (first | refine c_seq ?_ | refine c_block ?_ | refine c_region _ ?_ | refine wpList_nil ?_ | refine c_then ?_ | refine c_then_exit ?_ | refine c_then_ret ?_ | refine c_in ?_ | refine c_in_ret ?_ | refine c_in_hit ?_ | refine wp_skip ?_ | refine wp_exit ?_ | refine wp_ret ?_ | refine c_in_miss rfl ?_ | ((first | apply st hF | apply stg hF | apply s_step hF | apply s_stg hF); (first | exact d_assign | exact d_fieldAddr (fld _ _ _ _ rfl) (isz _ _ rfl) | exact d_makeI (con _ rfl)); clear hF; clear a; intro a hF) | ((first | apply stm hF | apply stu hF); clear hF; clear a; intro a hF) | (apply c_cond_t hF; exact rfl; first | exact rfl | assumption) | (apply c_cond_f hF; exact rfl; first | exact rfl | assumption) | refine s_nil ?_)
  refine st hF (d_box rfl) rfl (fun a hF => ?_)
  have c0 : (w.alloc (.cells (Value.agg #[.int .i64 n, .int .i64 x, .int .i64 y]).cells 111)).cell? ⟨w.heap.size, 0, none⟩ = some (.int .i64 n) := cell_at (heap_alloc_new w _) rfl
  repeat (first | refine c_seq ?_ | refine c_block ?_ | refine c_region _ ?_ | refine wpList_nil ?_ | refine c_then ?_ | refine c_then_exit ?_ | refine c_then_ret ?_ | refine c_in ?_ | refine c_in_ret ?_ | refine c_in_hit ?_ | refine wp_skip ?_ | refine wp_exit ?_ | refine wp_ret ?_ | refine c_in_miss rfl ?_ | ((first | apply st hF | apply stg hF | apply s_step hF | apply s_stg hF); (first | exact d_assign | exact d_fieldAddr (fld _ _ _ _ rfl) (isz _ _ rfl) | exact d_makeI (con _ rfl) | exact d_load (und _ _ rfl) c0); clear hF; clear a; intro a hF) | ((first | apply stm hF | apply stu hF); clear hF; clear a; intro a hF) | (apply c_cond_t hF; exact rfl; first | exact rfl | assumption) | (apply c_cond_f hF; exact rfl; first | exact rfl | assumption) | refine s_nil ?_)
  exact ret1 hF rfl rfl ⟨rfl, rfl⟩
end

set_option maxRecDepth 100000 in
set_option maxHeartbeats 8000000 in
theorem isF_calls (n x y b : Int) (w : World) :
    Calls Tryd.prog 37 #[fltV n x y, .iface 73 (.int .i64 b)] w fun e w' => e = .returned (.bool (n == b)) ∧ w' = w.alloc (.cells #[.int .i64 n, .int .i64 x, .int .i64 y] 111) := by
  unfold fltV
  have h8 := @run_callFunc_extern Tryd.prog 63 _ Extern.ReflectliteType.typeOf Tryd.func63 (by kernel_rfl) (by kernel_rfl) (by kernel_rfl) (by kernel_rfl)
  have tT := isTypeOf
  have cT := isComparable
  have mR := isMethodComparable
  have nE := noIsE
  have uE := noUnwrapE
  have vE := noUnwrapsE
  have nF := noIsF
  have uF := unwrapF
  have mU := isMethodUnwrap
  have qF := isNeF
  have heq := fun w => Go.Lib.run_eql_iface_int (P := Tryd.prog) w (t := 30) (tx := 73) (k := .i64) n b Tryd.underlying30 isCompE Tryd.underlying73
  cases hab : (n == b) with
  | true =>
    rw [hab] at heq
    go_enter Tryd.func37, Tryd.ntmps37
    go_wp2
    refine wp_loop_rounds 2 ?_
    rw [rounds_succ]
    go_wp2_with (first | (go_at_call 143; refine Calls.mono (unwrapF_ok _ n x y) ?_; rintro e w' ⟨v, rfl, rfl, rfl⟩) | go_in)
    rw [rounds_succ]
    go_wp2
    go_ret
    exact ⟨rfl, rfl⟩
  | false =>
    rw [hab] at heq
    go_enter Tryd.func37, Tryd.ntmps37
    go_wp2
    refine wp_loop_rounds 2 ?_
    rw [rounds_succ]
    go_wp2_with (first | (go_at_call 143; refine Calls.mono (unwrapF_ok _ n x y) ?_; rintro e w' ⟨v, rfl, rfl, rfl⟩) | go_in)
    rw [rounds_succ]
    go_wp2
    go_ret
    exact ⟨rfl, rfl⟩
theorem isF_ok (w : World) (n x y b : Int) : Ret Tryd.prog 37 #[fltV n x y, .iface 73 (.int .i64 b)] w (fun v w' => v = .bool (n == b) ∧ Below w.heap.size w w') :=
  Calls.mono (isF_calls n x y b w) fun e w' h => ⟨_, h.1, rfl, by rw [h.2]; exact (Below.refl _ w).grown (World.grownBy_alloc _ _ none) (Nat.le_refl _) (fun k hk => by cases hk)⟩
end Go.Proofs.YtjomihhpglojpaaDoor
end
