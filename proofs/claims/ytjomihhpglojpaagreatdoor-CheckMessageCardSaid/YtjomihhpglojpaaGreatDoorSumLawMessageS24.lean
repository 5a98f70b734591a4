/- Laid together by a program of mine: AloneW. -/
import Derived.Test.YtjomihhpglojpaaGreatDoorSumLawMessageS16
import Derived.Test.YtjomihhpglojpaaGreatDoorSumLawMessageS22
import Derived.Test.YtjomihhpglojpaaGreatDoorSumLawMessageS23
set_option linter.unusedSimpArgs false
set_option linter.unusedVariables false
section
/- The reference's alone, walked. -/
namespace Go.Proofs.YtjomihhpglojpaaGreatDoor
open Go.RowKit
set_option linter.unusedSimpArgs false
set_option linter.unusedVariables false
attribute [local irreducible] wpList wpQuiet wpStill Code.wp Exit.then Exit.inBlock bodyPost Calls Does Does0
set_option maxRecDepth 100000
set_option maxHeartbeats 8000000 in
theorem ralone_ok (w : World) (s : Sig) (ss : List ByteArray) (n : Int) (hs : SigIn w s ss) (hB : SigB s) :
    Ret Tryz.prog 23 [.agg (Sig.cells s).toArray, .int .i64 n].toArray w (fun v w' => v = .int .i64 (aloneE s ss n) ∧ Below w.heap.size w w') := by
  refine enter2 Tryz.func23 rfl 72 rfl 74 rfl (fun a hF => ?_)
  unfold aloneE
  repeat (first | refine c_seq ?_ | refine c_region _ ?_)
  refine st_box hF (cs := (Sig.cells s).toArray) rfl (k := fun a w1 hg1 hgr1 hsz1 hF => ?_)
  have hb1 : Below w.heap.size w w1 := (Below.refl _ w).grown hgr1 (Nat.le_refl _) (fun k hk => by cases hk)
  have sc : ∀ (wq : World) (o : Nat) (x : Value), wq.heap[w.heap.size]? = some (.cells (Sig.cells s).toArray 62 (0, 0)) → (Sig.cells s)[o]? = some x → wq.cell? ⟨w.heap.size, 0 + o, none⟩ = some x := fun wq o x hg h => cell_at hg (by simpa using h)
  have pr : ∀ (wq : World) (o : Nat) (x y : Value), wq.heap[w.heap.size]? = some (.cells (Sig.cells s).toArray 62 (0, 0)) → (Sig.cells s)[o]? = some x → (Sig.cells s)[o + 1]? = some y → ∀ j v, (#[x, y] : Array Value)[j]? = some v → wq.cell? ⟨w.heap.size, 0 + o + j, none⟩ = some v := by
    intro wq o x y hg h0 h1 j v hj
    rcases j with _ | _ | j
    · simp at hj; subst hj; rw [Nat.add_zero, Nat.zero_add]; exact cell_at hg (by simpa using h0)
    · simp at hj; subst hj; rw [Nat.zero_add]; exact cell_at hg (by simpa using h1)
    · simp at hj
  repeat (first | refine c_seq ?_ | refine c_region _ ?_ | refine wpList_nil ?_ | refine c_then ?_ | ((apply st hF); (first | exact d_assign | exact d_fieldAddr (fld _ _ _ _ rfl) (isz _ _ rfl) | exact d_load (und _ _ rfl) (sc w1 2 _ hg1 rfl)); clear hF; clear a; intro a hF))
  refine stc hF (rword_ok' w1 s.name) cal51 ⟨rfl, trivial⟩ (k := fun a v w2 hR hF => ?_)
  obtain ⟨rfl, hb2⟩ := hR
  have hB2 := hb1.trans (hb2.mono hb1.size)
  have hg2 := (hb2.block _ (lt_at hg1)).trans hg1
  cases hw : wordB s.name with
  | false =>
    rw [hw] at hF
    repeat (first | refine c_seq ?_ | refine c_region _ ?_ | refine wpList_nil ?_ | refine c_then ?_ | refine c_then_ret ?_ | refine wp_ret ?_ | ((apply st hF); (first | exact d_assign | exact d_not); clear hF; clear a; intro a hF) | (apply c_cond_t hF; exact rfl; first | exact rfl | assumption))
    exact ret1 hF rfl rfl ⟨by rw [if_pos rfl], hB2⟩
  | true =>
  rw [hw] at hF
  rw [if_neg (by decide)]
  have go : roleB s ∨ ¬ roleB s := Classical.em _
  have r0 := sc w2 3 _ hg2 rfl
  have r1 := sc w2 4 _ hg2 rfl
  rcases go with hr | hr
  · rw [if_pos hr]
    by_cases c1 : s.role < 0
    · repeat (first | refine c_seq ?_ | refine c_region _ ?_ | refine wpList_nil ?_ | refine c_then ?_ | refine c_then_ret ?_ | refine wp_skip ?_ | refine wp_ret ?_ | ((apply st hF); (first | exact d_move | exact d_assign | exact d_not | exact d_pickT | exact d_cmpT | exact d_fieldAddr (fld _ _ _ _ rfl) (isz _ _ rfl) | exact d_load (und _ _ rfl) r0); clear hF; clear a; intro a hF) | ((first | apply stm hF | apply stu hF); clear hF; clear a; intro a hF) | (apply c_cond_t hF; exact rfl; first | exact rfl | assumption) | (apply c_cond_f hF; exact rfl; first | exact rfl | assumption))
      exact ret1 hF rfl rfl ⟨rfl, hB2⟩
    by_cases c2 : s.role > 2
    · repeat (first | refine c_seq ?_ | refine c_region _ ?_ | refine wpList_nil ?_ | refine c_then ?_ | refine c_then_ret ?_ | refine wp_skip ?_ | refine wp_ret ?_ | ((first | apply st hF | apply stg hF); (first | exact d_move | exact d_assign | exact d_not | exact d_pickT | exact d_pickF | exact d_cmpT | exact d_cmpF | exact d_fieldAddr (fld _ _ _ _ rfl) (isz _ _ rfl) | exact d_load (und _ _ rfl) r0); clear hF; clear a; intro a hF) | ((first | apply stm hF | apply stu hF); clear hF; clear a; intro a hF) | (apply c_cond_t hF; exact rfl; first | exact rfl | assumption) | (apply c_cond_f hF; exact rfl; first | exact rfl | assumption))
      exact ret1 hF rfl rfl ⟨rfl, hB2⟩
    obtain ⟨c3, c4⟩ : s.branch ≠ 0 ∧ s.role ≠ 2 := by
      rcases hr with h | h | h
      · exact absurd h c1
      · exact absurd h c2
      · exact h
    repeat (first | refine c_seq ?_ | refine c_region _ ?_ | refine wpList_nil ?_ | refine c_then ?_ | refine c_then_ret ?_ | refine wp_skip ?_ | refine wp_ret ?_ | ((first | apply st hF | apply stg hF); (first | exact d_move | exact d_assign | exact d_not | exact d_pickT | exact d_pickF | exact d_cmpT | exact d_cmpF | exact d_fieldAddr (fld _ _ _ _ rfl) (isz _ _ rfl) | exact d_load (und _ _ rfl) r0 | exact d_load (und _ _ rfl) r1); clear hF; clear a; intro a hF) | (apply c_cond_t hF; exact rfl; first | exact rfl | assumption) | (apply c_cond_f hF; exact rfl; first | exact rfl | assumption))
    exact ret1 hF rfl rfl ⟨rfl, hB2⟩
  rw [if_neg hr]
  have c1 : ¬ s.role < 0 := fun h => hr (.inl h)
  have c2 : ¬ s.role > 2 := fun h => hr (.inr (.inl h))
  have c3 : s.branch = 0 ∨ s.role = 2 := by
    by_cases h : s.branch = 0
    · exact .inl h
    · exact .inr (Classical.byContradiction fun h2 => hr (.inr (.inr ⟨h, h2⟩)))
  clear hr r0 r1 hb1 hb2 hg1
  rcases Classical.em (s.branch = 0) with c4 | c4
  all_goals
    repeat (first | refine c_seq ?_ | refine c_region _ ?_ | refine wpList_nil ?_ | refine c_then ?_ | refine wp_skip ?_ | ((first | apply st hF | apply stg hF); (first | exact d_move | exact d_not | exact d_pickT | exact d_pickF | exact d_cmpT | exact d_cmpF | exact d_fieldAddr (fld _ _ _ _ rfl) (isz _ _ rfl) | exact d_loadAgg (agg _ rfl) (isz _ _ rfl) rfl (cells_at hg2) | exact d_load (und _ _ rfl) (sc w2 3 _ hg2 rfl) | exact d_load (und _ _ rfl) (sc w2 4 _ hg2 rfl)); clear hF; clear a; intro a hF) | ((apply stm hF); clear hF; clear a; intro a hF) | (apply c_cond_f hF; exact rfl; first | exact rfl | assumption))
    refine stc hF (rwhere_ok w2 (Sig.cells s).toArray s.start s.size n s.mot ⟨rfl, rfl, rfl, rfl⟩) cal52 ⟨rfl, rfl, trivial⟩ (k := fun a v w3 hR hF => ?_)
    obtain ⟨rfl, hb3⟩ := hR
    have hB3 := hB2.trans (hb3.mono hB2.size)
    have hg3 := (hb3.block _ (lt_at hg2)).trans hg2
    clear hb3 hg2
    replace hF := hF.keep' (l' := [(2, .pointer (some ⟨w.heap.size, 0, none⟩)), (30, .int .i64 (Pl.whereE s.start s.size s.mot n)), (4, .int .i64 0)]) ⟨rfl, rfl, rfl, trivial⟩
    generalize Pl.whereE s.start s.size s.mot n = we at hF ⊢
    by_cases hwe : we = 0
    case neg =>
      rw [if_pos hwe]
      repeat (first | refine c_seq ?_ | refine c_region _ ?_ | refine wpList_nil ?_ | refine c_then ?_ | refine c_then_ret ?_ | refine wp_ret ?_ | ((apply st hF); (first | exact d_move | exact d_assign | exact d_cmpT); clear hF; clear a; intro a hF) | (apply c_cond_t hF; exact rfl; first | exact rfl | assumption))
      exact ret1 hF rfl rfl ⟨rfl, hB3⟩
    rw [if_neg (fun h => h hwe)]
    repeat (first | refine c_seq ?_ | refine c_region _ ?_ | refine wpList_nil ?_ | refine c_then ?_ | refine wp_skip ?_ | ((apply st hF); (first | exact d_move | exact d_assign | exact d_cmpF | exact d_fieldAddr (fld _ _ _ _ rfl) (isz _ _ rfl) | exact d_loadAgg (agg _ rfl) (isz _ _ rfl) rfl (pr w3 9 (.int .i64 s.sn) (.int .i64 s.sd) hg3 rfl rfl)); clear hF; clear a; intro a hF) | (apply c_cond_f hF; exact rfl; first | exact rfl | assumption))
    refine stc hF (rright_ok w3 s.sn s.sd hB.sn hB.sd) cal53 ⟨rfl, trivial⟩ (k := fun a v w4 hR hF => ?_)
    obtain ⟨rfl, hb4⟩ := hR
    have hB4 := hB3.trans (hb4.mono hB3.size)
    have hg4 := (hb4.block _ (lt_at hg3)).trans hg3
    clear hb4 hg3
    cases h0 : rightB s.sn s.sd with
    | false =>
      rw [h0] at hF
      rw [ranged_bad (j := 0) (by decide) h0, if_pos (by decide)]
      repeat (first | refine c_seq ?_ | refine c_region _ ?_ | refine wpList_nil ?_ | refine c_then ?_ | refine c_then_ret ?_ | refine wp_ret ?_ | ((apply st hF); (first | exact d_move | exact d_assign | exact d_not | exact d_pickT); clear hF; clear a; intro a hF) | ((apply stm hF); clear hF; clear a; intro a hF) | (apply c_cond_t hF; exact rfl; first | exact rfl | assumption))
      exact ret1 hF rfl rfl ⟨rfl, hB4⟩
    | true =>
    rw [h0] at hF
    repeat (((first | apply st hF | apply stg hF); (first | exact d_move | exact d_not | exact d_fieldAddr (fld _ _ _ _ rfl) (isz _ _ rfl) | exact d_loadAgg (agg _ rfl) (isz _ _ rfl) rfl (pr w4 11 (.int .i64 s.fn) (.int .i64 s.fd) hg4 rfl rfl)); clear hF; clear a; intro a hF))
    refine stcg hF (rright_ok w4 s.fn s.fd hB.fn hB.fd) cal53 ⟨rfl, trivial⟩ (k := fun a v w5 hR hF => ?_)
    obtain ⟨rfl, hb5⟩ := hR
    have hB5 := hB4.trans (hb5.mono hB4.size)
    have hg5 := (hb5.block _ (lt_at hg4)).trans hg4
    clear hb5 hg4
    cases h1 : rightB s.fn s.fd with
    | false =>
      rw [h1] at hF
      rw [ranged_bad (j := 1) (by decide) h1, if_pos (by decide)]
      repeat (first | refine c_seq ?_ | refine c_region _ ?_ | refine wpList_nil ?_ | refine c_then ?_ | refine c_then_ret ?_ | refine wp_ret ?_ | ((first | apply st hF | apply stg hF); (first | exact d_move | exact d_assign | exact d_not | exact d_pickT | exact d_pickF); clear hF; clear a; intro a hF) | ((apply stm hF); clear hF; clear a; intro a hF) | (apply c_cond_t hF; exact rfl; first | exact rfl | assumption))
      exact ret1 hF rfl rfl ⟨rfl, hB5⟩
    | true =>
    rw [h1] at hF
    repeat (((first | apply st hF | apply stg hF); (first | exact d_move | exact d_not | exact d_pickF | exact d_fieldAddr (fld _ _ _ _ rfl) (isz _ _ rfl) | exact d_loadAgg (agg _ rfl) (isz _ _ rfl) rfl (pr w5 13 (.int .i64 s.mn) (.int .i64 s.md) hg5 rfl rfl)); clear hF; clear a; intro a hF))
    refine stcg hF (rright_ok w5 s.mn s.md hB.mn hB.md) cal53 ⟨rfl, trivial⟩ (k := fun a v w6 hR hF => ?_)
    obtain ⟨rfl, hb6⟩ := hR
    have hB6 := hB5.trans (hb6.mono hB5.size)
    have hg6 := (hb6.block _ (lt_at hg5)).trans hg5
    clear hb6 hg5
    cases h2 : rightB s.mn s.md with
    | false =>
      rw [h2] at hF
      rw [ranged_bad (j := 2) (by decide) h2, if_pos (by decide)]
      repeat (first | refine c_seq ?_ | refine c_region _ ?_ | refine wpList_nil ?_ | refine c_then ?_ | refine c_then_ret ?_ | refine wp_ret ?_ | ((first | apply st hF | apply stg hF); (first | exact d_move | exact d_assign | exact d_not | exact d_pickT | exact d_pickF); clear hF; clear a; intro a hF) | ((apply stm hF); clear hF; clear a; intro a hF) | (apply c_cond_t hF; exact rfl; first | exact rfl | assumption))
      exact ret1 hF rfl rfl ⟨rfl, hB6⟩
    | true =>
    rw [h2] at hF
    repeat (((first | apply st hF | apply stg hF); (first | exact d_move | exact d_not | exact d_pickF | exact d_fieldAddr (fld _ _ _ _ rfl) (isz _ _ rfl) | exact d_loadAgg (agg _ rfl) (isz _ _ rfl) rfl (pr w6 15 (.int .i64 s.xn) (.int .i64 s.xd) hg6 rfl rfl)); clear hF; clear a; intro a hF))
    refine stcg hF (rright_ok w6 s.xn s.xd hB.xn hB.xd) cal53 ⟨rfl, trivial⟩ (k := fun a v w7 hR hF => ?_)
    obtain ⟨rfl, hb7⟩ := hR
    have hB7 := hB6.trans (hb7.mono hB6.size)
    have hg7 := (hb7.block _ (lt_at hg6)).trans hg6
    clear hb7 hg6
    cases h3 : rightB s.xn s.xd with
    | false =>
      rw [h3] at hF
      rw [ranged_bad (j := 3) (by decide) h3, if_pos (by decide)]
      repeat (first | refine c_seq ?_ | refine c_region _ ?_ | refine wpList_nil ?_ | refine c_then ?_ | refine c_then_ret ?_ | refine wp_ret ?_ | ((first | apply st hF | apply stg hF); (first | exact d_assign | exact d_not | exact d_pickF); clear hF; clear a; intro a hF) | (apply c_cond_t hF; exact rfl; first | exact rfl | assumption))
      exact ret1 hF rfl rfl ⟨rfl, hB7⟩
    | true =>
    rw [h3] at hF
    have hrg : rangedE s = if s.sn = 0 then 10 else if aboveP s.mn s.md s.xn s.xd then 18 else 0 := ranged_ok' (fun j hj => by
      rcases (show j = 0 ∨ j = 1 ∨ j = 2 ∨ j = 3 by omega) with rfl | rfl | rfl | rfl
      · exact h0
      · exact h1
      · exact h2
      · exact h3)
    rw [hrg]
    by_cases hz : s.sn = 0
    · rw [if_pos hz, if_pos (by decide)]
      repeat (first | refine c_seq ?_ | refine c_region _ ?_ | refine wpList_nil ?_ | refine c_then ?_ | refine c_then_ret ?_ | refine wp_skip ?_ | refine wp_ret ?_ | ((first | apply st hF | apply stg hF); (first | exact d_assign | exact d_not | exact d_pickF | exact d_cmpT | exact d_fieldAddr (fld _ _ _ _ rfl) (isz _ _ rfl) | exact d_load (und _ _ rfl) (sc w7 9 _ hg7 rfl)); clear hF; clear a; intro a hF) | (apply c_cond_t hF; exact rfl; first | exact rfl | assumption) | (apply c_cond_f hF; exact rfl; first | exact rfl | assumption))
      exact ret1 hF rfl rfl ⟨rfl, hB7⟩
    rw [if_neg hz]
    repeat (first | refine c_seq ?_ | refine c_region _ ?_ | refine wpList_nil ?_ | refine c_then ?_ | refine wp_skip ?_ | ((first | apply st hF | apply stg hF); (first | exact d_not | exact d_pickF | exact d_cmpF | exact d_fieldAddr (fld _ _ _ _ rfl) (isz _ _ rfl) | exact d_loadAgg (agg _ rfl) (isz _ _ rfl) rfl (pr w7 13 (.int .i64 s.mn) (.int .i64 s.md) hg7 rfl rfl) | exact d_loadAgg (agg _ rfl) (isz _ _ rfl) rfl (pr w7 15 (.int .i64 s.xn) (.int .i64 s.xd) hg7 rfl rfl) | exact d_load (und _ _ rfl) (sc w7 9 _ hg7 rfl)); clear hF; clear a; intro a hF) | (apply c_cond_f hF; exact rfl; first | exact rfl | assumption))
    refine stc hF (above_ok w7 s.mn s.md s.xn s.xd hB.mn hB.md hB.xn hB.xd) cal54 ⟨rfl, rfl, trivial⟩ (k := fun a v w8 hR hF => ?_)
    obtain ⟨⟨b, rfl, hb⟩, hb8⟩ := hR
    have hB8 := hB7.trans (hb8.mono hB7.size)
    have hg8 := (hb8.block _ (lt_at hg7)).trans hg7
    clear hb8 hg7
    cases b with
    | true =>
      rw [if_pos (hb.1 rfl).2.2, if_pos (by decide)]
      repeat (first | refine c_seq ?_ | refine c_region _ ?_ | refine wpList_nil ?_ | refine c_then ?_ | refine c_then_ret ?_ | refine wp_ret ?_ | ((apply st hF); (exact d_assign); clear hF; clear a; intro a hF) | (apply c_cond_t hF; exact rfl; first | exact rfl | assumption))
      exact ret1 hF rfl rfl ⟨rfl, hB8⟩
    | false =>
    rw [if_neg (c := aboveP _ _ _ _) (fun h => Bool.noConfusion (hb.2 ⟨h2, h3, h⟩)), if_neg (fun h => h rfl)]
    repeat (first | refine c_seq ?_ | refine c_region _ ?_ | refine wpList_nil ?_ | refine c_then ?_ | refine wp_skip ?_ | ((apply st hF); (first | exact d_fieldAddr (fld _ _ _ _ rfl) (isz _ _ rfl) | exact d_load (und _ _ rfl) (sc w8 17 _ hg8 rfl)); clear hF; clear a; intro a hF) | (apply c_cond_f hF; exact rfl; first | exact rfl | assumption))
    refine stc hF (rmay_ok w8 s.unit) cal37 ⟨rfl, trivial⟩ (k := fun a v w9 hR hF => ?_)
    obtain ⟨m, rfl, hm, hb9⟩ := hR
    rw [text_is hm] at hF
    have hB9 := hB8.trans (hb9.mono hB8.size)
    have hg9 := (hb9.block _ (lt_at hg8)).trans hg8
    clear hb9 hg8
    generalize textE s.unit = te at hF ⊢
    by_cases hte : te = 0
    case neg =>
      rw [if_pos hte]
      repeat (first | refine c_seq ?_ | refine c_region _ ?_ | refine wpList_nil ?_ | refine c_then ?_ | refine c_then_ret ?_ | refine wp_ret ?_ | ((apply st hF); (first | exact d_move | exact d_assign | exact d_cmpT); clear hF; clear a; intro a hF) | (apply c_cond_t hF; exact rfl; first | exact rfl | assumption))
      exact ret1 hF rfl rfl ⟨rfl, hB9⟩
    rw [if_neg (fun h => h hte)]
    repeat (first | refine c_seq ?_ | refine c_region _ ?_ | refine wpList_nil ?_ | refine c_then ?_ | refine wp_skip ?_ | ((apply st hF); (first | exact d_move | exact d_assign | exact d_cmpF | exact d_fieldAddr (fld _ _ _ _ rfl) (isz _ _ rfl) | exact d_load (und _ _ rfl) (sc w9 18 _ hg9 rfl)); clear hF; clear a; intro a hF) | (apply c_cond_f hF; exact rfl; first | exact rfl | assumption))
    have hcap := hs.cap
    have hby := hs.bytes
    refine stc hF (rnames_ok w9 ss s.toA s.toN s.toC hs.len (hs.below hB9).rd (by omega)) cal55 ⟨rfl, trivial⟩ (k := fun a v w10 hR hF => ?_)
    obtain ⟨rfl, hb10⟩ := hR
    repeat (first | refine wpList_nil ?_ | refine c_then ?_ | refine wp_ret ?_ | ((apply st hF); (exact d_assign); clear hF; clear a; intro a hF))
    exact ret1 hF rfl rfl ⟨rfl, hB9.trans (hb10.mono hB9.size)⟩
end Go.Proofs.YtjomihhpglojpaaGreatDoor
end
