/- Laid together by a program of mine: TolW RHeadW. -/
import Derived.Test.YtjomihhpglojpaaGreatDoorSumLawDatabaseS19
import Derived.Test.YtjomihhpglojpaaGreatDoorSumLawDatabaseS17
set_option linter.unusedSimpArgs false
set_option linter.unusedVariables false
section
/- The reference's at, and told, walked. -/
namespace Go.Proofs.YtjomihhpglojpaaGreatDoor
open Go.RowKit
set_option linter.unusedSimpArgs false
set_option linter.unusedVariables false
attribute [local irreducible] wpList wpQuiet wpStill Code.wp Exit.then Exit.inBlock bodyPost Calls Does Does0
set_option maxRecDepth 100000
/-- What the reference's at returns. -/
def ratV (n x y : Int) : Array Value := if n = 0 then #[.int .i64 0, .int .i64 0, .int .i64 0] else #[.int .i64 n, .int .i64 x, .int .i64 y]
theorem rat9_ok (w : World) (n x y : Int) : Ret Tryz.prog 22 [.int .i64 n, .agg #[.int .i64 x, .int .i64 y]].toArray w (fun v w' => v = .agg (ratV n x y) ∧ Below w.heap.size w w') := by
  refine enter2 Tryz.func22 rfl 9 rfl 11 rfl (fun a hF => ?_)
  repeat (first | refine c_seq ?_ | refine c_region _ ?_)
  refine st_box hF (cs := #[.int .i64 x, .int .i64 y]) rfl (k := fun a w1 hg1 hgr1 hsz1 hF => ?_)
  have hb1 : Below w.heap.size w w1 := (Below.refl _ w).grown hgr1 (Nat.le_refl _) (fun k hk => by cases hk)
  refine st_alloc hF inf34 (k := fun a w2 hg2 hgr2 hsz2 hF => ?_)
  have hb2 : Below w.heap.size w w2 := hb1.grown hgr2 hb1.size (fun k hk => by cases hk)
  have hg12 := blk_kept hg1 hgr2 (by simp)
  unfold ratV
  by_cases h : n = 0
  · rw [if_pos h]
    repeat (first | refine c_seq ?_ | refine c_region _ ?_ | refine wpList_nil ?_ | refine c_then ?_ | ((apply st hF); (first | exact d_move | exact d_cmpT | exact d_build (vs := []) (cells := #[.int .i64 0, .int .i64 0, .int .i64 0]) (by kernel_rfl) trivial); clear hF; clear a; intro a hF) | (apply c_cond_t hF; exact rfl; first | exact rfl | assumption))
    refine st_storeAgg hF (cs := #[.int .i64 0, .int .i64 0, .int .i64 0]) (isz _ _ rfl) rfl rfl hg2 (by simp [Value.oneCell']) (k := fun a w3 hg3 hgr3 hsz3 hF => ?_)
    repeat (first | refine wpList_nil ?_ | refine c_then ?_ | refine c_then_ret ?_ | refine wp_ret ?_)
    exact ret_c hF rfl (agg _ rfl) (isz _ _ rfl) hg3 rfl ⟨rfl, hb2.grown hgr3 hb2.size (fun k hk => by cases hk; omega)⟩
  · rw [if_neg h]
    repeat (first | refine c_seq ?_ | refine c_region _ ?_ | refine wpList_nil ?_ | refine c_then ?_ | refine wp_skip ?_ | ((apply st hF); (first | exact d_move | exact d_cmpF | exact d_loadAgg (agg _ rfl) (isz _ _ rfl) rfl (cells_at hg12) | exact d_build (vs := [(0, .int .i64 n), (1, .agg #[.int .i64 x, .int .i64 y])]) (cells := #[.int .i64 n, .int .i64 x, .int .i64 y]) (by kernel_rfl) ⟨rfl, rfl, rfl, rfl, trivial⟩); clear hF; clear a; intro a hF) | (apply c_cond_f hF; exact rfl; first | exact rfl | assumption))
    refine st_storeAgg hF (cs := #[.int .i64 n, .int .i64 x, .int .i64 y]) (isz _ _ rfl) rfl rfl hg2 (by simp [Value.oneCell']) (k := fun a w3 hg3 hgr3 hsz3 hF => ?_)
    repeat (first | refine wpList_nil ?_ | refine c_then ?_ | refine wp_ret ?_)
    exact ret_c hF rfl (agg _ rfl) (isz _ _ rfl) hg3 rfl ⟨rfl, hb2.grown hgr3 hb2.size (fun k hk => by cases hk; omega)⟩
theorem told_ok (w : World) (n x y : Int) (hg : Handle w) (hn : 0 ≤ n ∧ n ≤ 26) : Ret Tryz.prog 6 [atV n x y, .agg (ratV n x y)].toArray w (fun v w' => v = .bool true ∧ Below w.heap.size w w') := by
  refine enter2 Tryz.func6 rfl 13 rfl 15 rfl (fun a hF => ?_)
  unfold atV ratV at hF
  by_cases h : n = 0
  · rw [if_pos h, if_pos h] at hF
    repeat (first | refine c_seq ?_ | refine c_region _ ?_)
    refine st_box hF (cs := #[.int .i64 0, .int .i64 0, .int .i64 0]) rfl (k := fun a w1 hg1 hgr1 hsz1 hF => ?_)
    have hb1 : Below w.heap.size w w1 := (Below.refl _ w).grown hgr1 (Nat.le_refl _) (fun k hk => by cases hk)
    have c0 : w1.cell? ⟨w.heap.size, 0 + 0, none⟩ = some (.int .i64 0) := cell_at hg1 rfl
    have c1 : w1.cell? ⟨w.heap.size, 0 + 1 + 0, none⟩ = some (.int .i64 0) := cell_at hg1 rfl
    have c2 : w1.cell? ⟨w.heap.size, 0 + 1 + 1, none⟩ = some (.int .i64 0) := cell_at hg1 rfl
    repeat (first | refine c_seq ?_ | refine c_region _ ?_ | refine wpList_nil ?_ | refine c_then ?_ | ((apply st hF); (first | exact d_move | exact d_assign | exact d_fieldAddr (fld _ _ _ _ rfl) (isz _ _ rfl) | exact d_load (und _ _ rfl) c0 | exact d_load (und _ _ rfl) c1 | exact d_load (und _ _ rfl) c2); clear hF; clear a; intro a hF))
    refine stc hF (at_any w1 .nilIface 0 0 0 (hg.below hb1) (.inl ⟨rfl, rfl⟩)) cal15 ⟨rfl, rfl, rfl, rfl, trivial⟩ (k := fun a v w2 hR hF => ?_)
    obtain ⟨rfl, hb2⟩ := hR
    repeat (first | refine wpList_nil ?_ | refine c_then ?_ | refine wp_ret ?_ | ((apply st hF); (exact d_assign); clear hF; clear a; intro a hF))
    exact ret1 hF rfl rfl ⟨rfl, hb1.trans (hb2.mono hb1.size)⟩
  · rw [if_neg h, if_neg h] at hF
    repeat (first | refine c_seq ?_ | refine c_region _ ?_)
    refine st_box hF (cs := #[.int .i64 n, .int .i64 x, .int .i64 y]) rfl (k := fun a w1 hg1 hgr1 hsz1 hF => ?_)
    have hb1 : Below w.heap.size w w1 := (Below.refl _ w).grown hgr1 (Nat.le_refl _) (fun k hk => by cases hk)
    have c0 : w1.cell? ⟨w.heap.size, 0 + 0, none⟩ = some (.int .i64 n) := cell_at hg1 rfl
    have c1 : w1.cell? ⟨w.heap.size, 0 + 1 + 0, none⟩ = some (.int .i64 x) := cell_at hg1 rfl
    have c2 : w1.cell? ⟨w.heap.size, 0 + 1 + 1, none⟩ = some (.int .i64 y) := cell_at hg1 rfl
    repeat (first | refine c_seq ?_ | refine c_region _ ?_ | refine wpList_nil ?_ | refine c_then ?_ | ((apply st hF); (first | exact d_move | exact d_assign | exact d_fieldAddr (fld _ _ _ _ rfl) (isz _ _ rfl) | exact d_load (und _ _ rfl) c0 | exact d_load (und _ _ rfl) c1 | exact d_load (und _ _ rfl) c2); clear hF; clear a; intro a hF))
    refine stc hF (at_any w1 (fltV n x y) n x y (hg.below hb1) (.inr ⟨by omega, hn.2, rfl⟩)) cal15 ⟨rfl, rfl, rfl, rfl, trivial⟩ (k := fun a v w2 hR hF => ?_)
    obtain ⟨rfl, hb2⟩ := hR
    repeat (first | refine wpList_nil ?_ | refine c_then ?_ | refine wp_ret ?_ | ((apply st hF); (exact d_assign); clear hF; clear a; intro a hF))
    exact ret1 hF rfl rfl ⟨rfl, hb1.trans (hb2.mono hb1.size)⟩
end Go.Proofs.YtjomihhpglojpaaGreatDoor
end
section
/- The reference's head, walked. -/
namespace Go.Proofs.YtjomihhpglojpaaGreatDoor
open Go.RowKit
set_option linter.unusedSimpArgs false
set_option linter.unusedVariables false
attribute [local irreducible] wpList wpQuiet wpStill Code.wp Exit.then Exit.inBlock bodyPost Calls Does Does0
set_option maxRecDepth 100000
set_option maxHeartbeats 4000000 in
theorem rhead_ok (w : World) (m : Msg) : Ret Tryz.prog 21 [.agg (Msg.cells m).toArray].toArray w (fun v w' => v = .int .i64 (headE m) ∧ Below w.heap.size w w') := by
  refine enter1 Tryz.func21 rfl 35 rfl 36 rfl (fun a hF => ?_)
  unfold headE
  repeat (first | refine c_seq ?_ | refine c_region _ ?_)
  refine st_box hF (cs := (Msg.cells m).toArray) rfl (k := fun a w1 hg1 hgr1 hsz1 hF => ?_)
  have hb1 : Below w.heap.size w w1 := (Below.refl _ w).grown hgr1 (Nat.le_refl _) (fun k hk => by cases hk)
  have sc : ∀ (wq : World) (o : Nat) (x : Value), wq.heap[w.heap.size]? = some (.cells (Msg.cells m).toArray 27 (0, 0)) → (Msg.cells m)[o]? = some x → wq.cell? ⟨w.heap.size, 0 + o, none⟩ = some x := fun wq o x hg h => cell_at hg (by simpa using h)
  obtain ⟨me, hme⟩ : ∃ x, x = mostE m := ⟨_, rfl⟩
  rw [← hme]
  cases hwd : m.wide
  all_goals
    have hc0 : w1.cell? ⟨w.heap.size, 0 + 3, none⟩ = some (.bool m.wide) := sc w1 3 _ hg1 rfl
    rw [hwd] at hc0
    unfold mostE at hme
    rw [hwd] at hme
    first | rw [if_pos rfl] at hme | rw [if_neg (by decide)] at hme
    repeat (first | refine c_seq ?_ | refine c_region _ ?_ | refine wpList_nil ?_ | refine c_then ?_ | ((apply st hF); (first | exact d_assign | exact d_fieldAddr (fld _ _ _ _ rfl) (isz _ _ rfl) | exact d_load (und _ _ rfl) (sc w1 4 _ hg1 rfl)); clear hF; clear a; intro a hF))
    refine stc hF (rword_ok' w1 m.name) cal51 ⟨rfl, trivial⟩ (k := fun a v w2 hR hF => ?_)
    obtain ⟨rfl, hb2⟩ := hR
    have hB2 := hb1.trans (hb2.mono hb1.size)
    have hg2 := (hb2.block _ (lt_at hg1)).trans hg1
    cases hw : wordB m.name with
    | false =>
      rw [hw] at hF
      repeat (first | refine c_seq ?_ | refine c_region _ ?_ | refine wpList_nil ?_ | refine c_then ?_ | refine c_then_ret ?_ | refine wp_ret ?_ | ((apply st hF); (first | exact d_assign | exact d_not); clear hF; clear a; intro a hF) | (apply c_cond_t hF; exact rfl; first | exact rfl | assumption))
      exact ret1 hF rfl rfl ⟨by rw [if_pos rfl], hB2⟩
    | true =>
    rw [hw] at hF
    rw [if_neg (by decide)]
    have hc2 : w2.cell? ⟨w.heap.size, 0 + 3, none⟩ = some (.bool m.wide) := sc w2 3 _ hg2 rfl
    rw [hwd] at hc2
    by_cases hi : me < m.id
    · rw [if_pos hi]
      by_cases hi2 : m.id > 536870911
      · repeat (first | refine c_seq ?_ | refine c_region _ ?_ | refine wpList_nil ?_ | refine c_then ?_ | refine c_then_ret ?_ | refine wp_skip ?_ | refine wp_ret ?_ | ((apply st hF); (first | exact d_move | exact d_assign | exact d_not | exact d_pickT | exact d_cmpT | exact d_fieldAddr (fld _ _ _ _ rfl) (isz _ _ rfl) | exact d_load (und _ _ rfl) (sc w2 2 _ hg2 rfl)); clear hF; clear a; intro a hF) | ((first | apply stm hF | apply stu hF); clear hF; clear a; intro a hF) | (apply c_cond_t hF; exact rfl; first | exact rfl | assumption) | (apply c_cond_f hF; exact rfl; first | exact rfl | assumption))
        exact ret1 hF rfl rfl ⟨rfl, hB2⟩
      · first
          | (exfalso; omega)
          | (repeat (first | refine c_seq ?_ | refine c_region _ ?_ | refine wpList_nil ?_ | refine c_then ?_ | refine c_then_ret ?_ | refine wp_skip ?_ | refine wp_ret ?_ | ((first | apply st hF | apply stg hF); (first | exact d_move | exact d_assign | exact d_not | exact d_pickT | exact d_pickF | exact d_cmpT | exact d_cmpF | exact d_fieldAddr (fld _ _ _ _ rfl) (isz _ _ rfl) | exact d_load (und _ _ rfl) hc2 | exact d_load (und _ _ rfl) (sc w2 2 _ hg2 rfl)); clear hF; clear a; intro a hF) | (apply c_cond_t hF; exact rfl; first | exact rfl | assumption) | (apply c_cond_f hF; exact rfl; first | exact rfl | assumption))
             exact ret1 hF rfl rfl ⟨rfl, hB2⟩)
    rw [if_neg hi]
    have hi2 : ¬ m.id > 536870911 := by omega
    by_cases s1 : m.size < 0
    · rw [if_pos (.inl s1)]
      repeat (first | refine c_seq ?_ | refine c_region _ ?_ | refine wpList_nil ?_ | refine c_then ?_ | refine c_then_ret ?_ | refine wp_skip ?_ | refine wp_ret ?_ | ((first | apply st hF | apply stg hF); (first | exact d_move | exact d_assign | exact d_not | exact d_pickT | exact d_pickF | exact d_cmpT | exact d_cmpF | exact d_fieldAddr (fld _ _ _ _ rfl) (isz _ _ rfl) | exact d_load (und _ _ rfl) hc2 | exact d_load (und _ _ rfl) (sc w2 2 _ hg2 rfl) | exact d_load (und _ _ rfl) (sc w2 5 _ hg2 rfl)); clear hF; clear a; intro a hF) | ((apply stm hF); clear hF; clear a; intro a hF) | (apply c_cond_t hF; exact rfl; first | exact rfl | assumption) | (apply c_cond_f hF; exact rfl; first | exact rfl | assumption))
      exact ret1 hF rfl rfl ⟨rfl, hB2⟩
    by_cases s2 : m.size > 8
    · rw [if_pos (.inr s2)]
      repeat (first | refine c_seq ?_ | refine c_region _ ?_ | refine wpList_nil ?_ | refine c_then ?_ | refine c_then_ret ?_ | refine wp_skip ?_ | refine wp_ret ?_ | ((first | apply st hF | apply stg hF); (first | exact d_move | exact d_assign | exact d_not | exact d_pickT | exact d_pickF | exact d_cmpT | exact d_cmpF | exact d_fieldAddr (fld _ _ _ _ rfl) (isz _ _ rfl) | exact d_load (und _ _ rfl) hc2 | exact d_load (und _ _ rfl) (sc w2 2 _ hg2 rfl) | exact d_load (und _ _ rfl) (sc w2 5 _ hg2 rfl)); clear hF; clear a; intro a hF) | ((apply stm hF); clear hF; clear a; intro a hF) | (apply c_cond_t hF; exact rfl; first | exact rfl | assumption) | (apply c_cond_f hF; exact rfl; first | exact rfl | assumption))
      exact ret1 hF rfl rfl ⟨rfl, hB2⟩
    rw [if_neg (fun h => h.elim s1 s2)]
    repeat (first | refine c_seq ?_ | refine c_region _ ?_ | refine wpList_nil ?_ | refine c_then ?_ | refine wp_skip ?_ | ((first | apply st hF | apply stg hF); (first | exact d_move | exact d_not | exact d_pickT | exact d_pickF | exact d_cmpF | exact d_fieldAddr (fld _ _ _ _ rfl) (isz _ _ rfl) | exact d_load (und _ _ rfl) hc2 | exact d_load (und _ _ rfl) (sc w2 2 _ hg2 rfl) | exact d_load (und _ _ rfl) (sc w2 5 _ hg2 rfl) | exact d_load (und _ _ rfl) (sc w2 6 _ hg2 rfl)); clear hF; clear a; intro a hF) | ((apply stm hF); clear hF; clear a; intro a hF) | (apply c_cond_f hF; exact rfl; first | exact rfl | assumption))
    refine stc hF (rword_ok' w2 m.sender) cal51 ⟨rfl, trivial⟩ (k := fun a v w3 hR hF => ?_)
    obtain ⟨rfl, hb3⟩ := hR
    have hB3 := hB2.trans (hb3.mono hB2.size)
    have hg3 := (hb3.block _ (lt_at hg2)).trans hg2
    cases hw2 : wordB m.sender with
    | false =>
      rw [hw2] at hF
      repeat (first | refine c_seq ?_ | refine c_region _ ?_ | refine wpList_nil ?_ | refine c_then ?_ | refine c_then_ret ?_ | refine wp_ret ?_ | ((apply st hF); (first | exact d_assign | exact d_not); clear hF; clear a; intro a hF) | (apply c_cond_t hF; exact rfl; first | exact rfl | assumption))
      exact ret1 hF rfl rfl ⟨by rw [if_pos rfl], hB3⟩
    | true =>
    rw [hw2] at hF
    rw [if_neg (by decide)]
    by_cases hn : 64 < m.sgN
    · rw [if_pos hn]
      repeat (first | refine c_seq ?_ | refine c_region _ ?_ | refine wpList_nil ?_ | refine c_then ?_ | refine c_then_ret ?_ | refine wp_skip ?_ | refine wp_ret ?_ | ((apply st hF); (first | exact d_assign | exact d_not | exact d_cmpT | exact d_len (und _ _ rfl) | exact d_fieldAddr (fld _ _ _ _ rfl) (isz _ _ rfl) | exact d_load (und _ _ rfl) (sc w3 7 _ hg3 rfl)); clear hF; clear a; intro a hF) | (apply c_cond_t hF; exact rfl; first | exact rfl | assumption) | (apply c_cond_f hF; exact rfl; first | exact rfl | assumption))
      exact ret1 hF rfl rfl ⟨rfl, hB3⟩
    · rw [if_neg hn]
      repeat (first | refine c_seq ?_ | refine c_region _ ?_ | refine wpList_nil ?_ | refine c_then ?_ | refine wp_skip ?_ | refine wp_ret ?_ | ((apply st hF); (first | exact d_assign | exact d_not | exact d_cmpF | exact d_len (und _ _ rfl) | exact d_fieldAddr (fld _ _ _ _ rfl) (isz _ _ rfl) | exact d_load (und _ _ rfl) (sc w3 7 _ hg3 rfl)); clear hF; clear a; intro a hF) | (apply c_cond_f hF; exact rfl; first | exact rfl | assumption))
      exact ret1 hF rfl rfl ⟨rfl, hB3⟩
end Go.Proofs.YtjomihhpglojpaaGreatDoor
end
