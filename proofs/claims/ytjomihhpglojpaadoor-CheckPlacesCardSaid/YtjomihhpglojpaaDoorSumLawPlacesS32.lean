/- Laid together by a program of mine: CopyW LessL PlacL. -/
import Derived.Test.YtjomihhpglojpaaDoorSumLawPlacesS7
import Derived.Test.YtjomihhpglojpaaDoorSumLawPlacesS16
import Derived.Test.YtjomihhpglojpaaDoorSumLawPlacesS6
import Derived.Test.YtjomihhpglojpaaDoorSumLawPlacesS26
import Derived.Test.YtjomihhpglojpaaDoorSumLawPlacesS29
set_option linter.unusedSimpArgs false
set_option linter.unusedVariables false
section
/- Copies of texts, signals and messages, walked. -/
namespace Go.Proofs.YtjomihhpglojpaaDoor
open Go.RowKit
set_option linter.unusedSimpArgs false
set_option linter.unusedVariables false
attribute [local irreducible] wpList wpQuiet wpStill Code.wp Exit.then Exit.inBlock bodyPost Calls Does Does0
set_option maxRecDepth 100000
theorem own_geC {w : World} {base : Nat} {e : TypeId} {s n : Nat} {v : Value} {xs : List Value} (h : w.ownsRow base e s v n xs) {b : Nat} (hb : v.ownBlock = some b) : base ≤ b ∧ b < w.heap.size := by
  refine ⟨?_, (h.lt _ hb).2⟩
  rcases h.2 with ⟨rfl, _⟩ | ⟨g', cap', cur, rfl, h1, _⟩
  · cases hb
  · cases hb; exact h1
def CopyT (base : Nat) (w : World) (ao : Option Addr) (n c : Nat) (ss : List ByteArray) : Prop := w.ownsRow base 9 1 (.slice ao n c) n (ss.map .string)
def Sig.cp (s : Sig) (ao : Option Addr) (c : Nat) : Sig := { s with toA := ao, toC := c }
set_option maxHeartbeats 4000000 in
theorem copy_texts (w : World) (xs : List ByteArray) (ao : Option Addr) (n c : Nat) (hn : xs.length = n) (hR : Rd w ao .string xs) (hb : n * 16 ≤ 140737488351232) :
    Ret Tryd.prog 59 [.slice ao n c].toArray w (fun v w' => ∃ ao' c', v = .slice ao' n c' ∧ CopyT w.heap.size w' ao' n c' xs ∧ Below w.heap.size w w') := by
  subst hn
  refine enter1 Tryd.func59 rfl 18 rfl 19 rfl (fun a hF => ?_)
  repeat (first | refine c_seq ?_ | refine c_block ?_ | refine c_region _ ?_ | refine wpList_nil ?_ | refine c_then ?_ | refine c_then_exit ?_ | refine c_then_ret ?_ | refine c_in ?_ | refine c_in_ret ?_ | refine c_in_hit ?_ | refine wp_skip ?_ | refine wp_exit ?_ | refine wp_ret ?_ | refine c_in_miss rfl ?_ | ((first | apply st hF | apply stg hF | apply s_step hF | apply s_stg hF); (first | exact d_move | exact d_assign | exact d_add | exact d_cmpT | exact d_cmpF | exact d_cmp | exact d_len (und _ _ rfl) | exact d_lens (und _ _ rfl) | exact d_indexAddr1 (und _ _ rfl) (isz _ _ rfl)); clear hF; clear a; intro a hF) | ((first | apply stm hF | apply stu hF); clear hF; clear a; intro a hF) | (apply c_cond_t hF; exact rfl; first | exact rfl | assumption) | (apply c_cond_f hF; exact rfl; first | exact rfl | assumption) | refine s_nil ?_)
  refine c_loop (fun q a wr => ∃ k ao' cap', k ≤ xs.length ∧ q = xs.length - k ∧ Fr 19 [(0, .slice ao xs.length c), (3, .slice ao' k cap'), (4, .int .i64 (k : Nat))] a ∧
    CopyT w.heap.size wr ao' k cap' (xs.take k) ∧ Below w.heap.size w wr) xs.length
    ⟨0, none, 0, by omega, rfl, hF.keep' ⟨rfl, rfl, rfl, trivial⟩, World.ownsRow_nil _ _ _ _, Below.refl _ _⟩ ?_
  clear hF a
  rintro q a wr ⟨k, ao', cap', hk, rfl, hF, hown, hbel⟩
  have hsz := hbel.size
  by_cases hlt : k < xs.length
  · obtain ⟨b, o, hao, hc⟩ := hR k hlt
    replace hc : wr.cell? ⟨b, o + k, none⟩ = some (.string xs[k]) := (hbel.cell (p := ⟨b, o + k, none⟩) (World.block_lt_of_cell? w _ hc)).trans hc
    rw [hao] at hF
    repeat (first | refine c_seq ?_ | refine c_block ?_ | refine c_region _ ?_ | refine wpList_nil ?_ | refine c_then ?_ | refine c_then_exit ?_ | refine c_then_ret ?_ | refine c_in ?_ | refine c_in_ret ?_ | refine c_in_hit ?_ | refine wp_skip ?_ | refine wp_exit ?_ | refine wp_ret ?_ | refine c_in_miss rfl ?_ | ((first | apply st hF | apply stg hF | apply s_step hF | apply s_stg hF); (first | exact d_move | exact d_assign | exact d_add | exact d_cmpT | exact d_cmpF | exact d_cmp | exact d_len (und _ _ rfl) | exact d_lens (und _ _ rfl) | exact d_indexAddr1 (und _ _ rfl) (isz _ _ rfl) | exact d_indexAddr1 (und _ _ rfl) (isz _ _ rfl) (j := k) | exact d_load (und _ _ rfl) hc); clear hF; clear a; intro a hF) | ((first | apply stm hF | apply stu hF); clear hF; clear a; intro a hF) | (apply c_cond_t hF; exact rfl; first | exact rfl | assumption) | (apply c_cond_f hF; exact rfl; first | exact rfl | assumption) | refine s_nil ?_)
    refine st_push hF (und _ _ rfl) inf9 rfl hown (by omega) (by unfold maxLen; omega) hsz (k := fun a ao2 cap2 w2 hown2 hgr hF => ?_)
    have hb2 := below_own hbel hsz hown hgr
    repeat (first | refine c_seq ?_ | refine c_block ?_ | refine c_region _ ?_ | refine wpList_nil ?_ | refine c_then ?_ | refine c_then_exit ?_ | refine c_then_ret ?_ | refine c_in ?_ | refine c_in_ret ?_ | refine c_in_hit ?_ | refine wp_skip ?_ | refine wp_exit ?_ | refine wp_ret ?_ | refine c_in_miss rfl ?_ | ((first | apply st hF | apply stg hF | apply s_step hF | apply s_stg hF); (first | exact d_move | exact d_assign | exact d_add | exact d_cmpT | exact d_cmpF | exact d_cmp | exact d_len (und _ _ rfl) | exact d_lens (und _ _ rfl) | exact d_indexAddr1 (und _ _ rfl) (isz _ _ rfl)); clear hF; clear a; intro a hF) | ((first | apply stm hF | apply stu hF); clear hF; clear a; intro a hF) | (apply c_cond_t hF; exact rfl; first | exact rfl | assumption) | (apply c_cond_f hF; exact rfl; first | exact rfl | assumption) | refine s_nil ?_)
    refine ⟨xs.length - (k + 1), by omega, k + 1, ao2, cap2, by omega, rfl, hao.symm ▸ hF.keep' ⟨rfl, rfl, rfl, trivial⟩, ?_, hb2⟩
    unfold CopyT
    rw [List.take_succ_eq_append_getElem hlt, List.map_append]
    exact hown2
  · obtain rfl : k = xs.length := by omega
    repeat (first | refine c_seq ?_ | refine c_block ?_ | refine c_region _ ?_ | refine wpList_nil ?_ | refine c_then ?_ | refine c_then_exit ?_ | refine c_then_ret ?_ | refine c_in ?_ | refine c_in_ret ?_ | refine c_in_hit ?_ | refine wp_skip ?_ | refine wp_exit ?_ | refine wp_ret ?_ | refine c_in_miss rfl ?_ | ((first | apply st hF | apply stg hF | apply s_step hF | apply s_stg hF); (first | exact d_move | exact d_assign | exact d_add | exact d_cmpT | exact d_cmpF | exact d_cmp | exact d_len (und _ _ rfl) | exact d_lens (und _ _ rfl) | exact d_indexAddr1 (und _ _ rfl) (isz _ _ rfl)); clear hF; clear a; intro a hF) | ((first | apply stm hF | apply stu hF); clear hF; clear a; intro a hF) | (apply c_cond_t hF; exact rfl; first | exact rfl | assumption) | (apply c_cond_f hF; exact rfl; first | exact rfl | assumption) | refine s_nil ?_)
    rw [List.take_length] at hown
    exact ret1 hF rfl rfl ⟨ao', cap', rfl, hown, hbel⟩
set_option maxHeartbeats 4000000 in
theorem copy_signal (w : World) (s : Sig) (ss : List ByteArray) (hs : SigIn w s ss) :
    Ret Tryd.prog 62 [.agg (Sig.cells s).toArray].toArray w (fun v w' => ∃ ao c, v = .agg (Sig.cells (s.cp ao c)).toArray ∧ CopyT w.heap.size w' ao s.toN c ss ∧ Below w.heap.size w w') := by
  refine enter1 Tryd.func62 rfl 9 rfl 10 rfl (fun a hF => ?_)
  repeat (first | refine c_seq ?_ | refine c_block ?_ | refine c_region _ ?_ | refine wpList_nil ?_ | refine c_then ?_ | refine c_then_exit ?_ | refine c_then_ret ?_ | refine c_in ?_ | refine c_in_ret ?_ | refine c_in_hit ?_ | refine wp_skip ?_ | refine wp_exit ?_ | refine wp_ret ?_ | refine c_in_miss rfl ?_ | ((first | apply st hF | apply stg hF | apply s_step hF | apply s_stg hF); (first | exact d_fieldAddr (fld _ _ _ _ rfl) (isz _ _ rfl)); clear hF; clear a; intro a hF) | ((first | apply stm hF | apply stu hF); clear hF; clear a; intro a hF) | (apply c_cond_t hF; exact rfl; first | exact rfl | assumption) | (apply c_cond_f hF; exact rfl; first | exact rfl | assumption) | refine s_nil ?_)
  refine st_box hF (cs := (Sig.cells s).toArray) rfl (k := fun a w1 hg1 hgr1 hsz1 hF => ?_)
  refine st_alloc hF inf38 (k := fun a w2 hg2 hgr2 hsz2 hF => ?_)
  have hb2 : Below w.heap.size w w2 := ((Below.refl _ w).grown hgr1 (Nat.le_refl _) (fun k hk => by cases hk)).grown hgr2 (by omega) (fun k hk => by cases hk)
  have hg12 := blk_kept hg1 hgr2 (by simp)
  repeat (first | refine c_seq ?_ | refine c_block ?_ | refine c_region _ ?_ | refine wpList_nil ?_ | refine c_then ?_ | refine c_then_exit ?_ | refine c_then_ret ?_ | refine c_in ?_ | refine c_in_ret ?_ | refine c_in_hit ?_ | refine wp_skip ?_ | refine wp_exit ?_ | refine wp_ret ?_ | refine c_in_miss rfl ?_ | ((first | apply st hF | apply stg hF | apply s_step hF | apply s_stg hF); (first | exact d_fieldAddr (fld _ _ _ _ rfl) (isz _ _ rfl) | exact d_loadAgg (agg _ rfl) (isz _ _ rfl) rfl (cells_at hg12)); clear hF; clear a; intro a hF) | ((first | apply stm hF | apply stu hF); clear hF; clear a; intro a hF) | (apply c_cond_t hF; exact rfl; first | exact rfl | assumption) | (apply c_cond_f hF; exact rfl; first | exact rfl | assumption) | refine s_nil ?_)
  refine st_alloc hF inf38 (k := fun a w3 hg3 hgr3 hsz3 hF => ?_)
  have hb3 : Below w.heap.size w w3 := hb2.grown hgr3 (by omega) (fun k hk => by cases hk)
  have hg13 := blk_kept hg12 hgr3 (by simp)
  have hg23 := blk_kept hg2 hgr3 (by simp)
  refine st_storeAgg hF (cs := (Sig.cells s).toArray) (isz _ _ rfl) rfl rfl hg3 (sig_cells s) (k := fun a w4 hg4 hgr4 hsz4 hF => ?_)
  have hb4 : Below w.heap.size w w4 := hb3.grown hgr4 (by omega) (fun k hk => by cases hk; omega)
  have hg14 := blk_kept hg13 hgr4 (by simp; omega)
  have hg24 := blk_kept hg23 hgr4 (by simp; omega)
  have c18 := cell_at (i := 18) hg14 rfl
  repeat (first | refine c_seq ?_ | refine c_block ?_ | refine c_region _ ?_ | refine wpList_nil ?_ | refine c_then ?_ | refine c_then_exit ?_ | refine c_then_ret ?_ | refine c_in ?_ | refine c_in_ret ?_ | refine c_in_hit ?_ | refine wp_skip ?_ | refine wp_exit ?_ | refine wp_ret ?_ | refine c_in_miss rfl ?_ | ((first | apply st hF | apply stg hF | apply s_step hF | apply s_stg hF); (first | exact d_fieldAddr (fld _ _ _ _ rfl) (isz _ _ rfl) | exact d_load (und _ _ rfl) c18); clear hF; clear a; intro a hF) | ((first | apply stm hF | apply stu hF); clear hF; clear a; intro a hF) | (apply c_cond_t hF; exact rfl; first | exact rfl | assumption) | (apply c_cond_f hF; exact rfl; first | exact rfl | assumption) | refine s_nil ?_)
  refine stc hF (copy_texts w4 ss s.toA _ s.toC hs.len (hs.rd.below hb4) (by have := hs.bytes; have := hs.cap; omega)) cal59 ⟨rfl, trivial⟩ (k := fun a v w5 hR hF => ?_)
  obtain ⟨ao, cap, rfl, hown, hb5⟩ := hR
  have hb5' : Below w.heap.size w w5 := hb4.trans (hb5.mono (by omega))
  have hg15 : w5.heap[w.heap.size]? = _ := (hb5.block _ (lt_at hg14)).trans hg14
  have hg25 : w5.heap[w1.heap.size]? = _ := (hb5.block _ (lt_at hg24)).trans hg24
  have hg35 : w5.heap[w2.heap.size]? = _ := (hb5.block _ (lt_at hg4)).trans hg4
  have hz5 := hb5.size
  repeat (first | refine c_seq ?_ | refine c_block ?_ | refine c_region _ ?_ | refine wpList_nil ?_ | refine c_then ?_ | refine c_then_exit ?_ | refine c_then_ret ?_ | refine c_in ?_ | refine c_in_ret ?_ | refine c_in_hit ?_ | refine wp_skip ?_ | refine wp_exit ?_ | refine wp_ret ?_ | refine c_in_miss rfl ?_ | ((first | apply st hF | apply stg hF | apply s_step hF | apply s_stg hF); (first | exact d_fieldAddr (fld _ _ _ _ rfl) (isz _ _ rfl)); clear hF; clear a; intro a hF) | ((first | apply stm hF | apply stu hF); clear hF; clear a; intro a hF) | (apply c_cond_t hF; exact rfl; first | exact rfl | assumption) | (apply c_cond_f hF; exact rfl; first | exact rfl | assumption) | refine s_nil ?_)
  refine st_store hF (isz _ _ rfl) hg35 (i := 18) (by show 18 < 19; decide) rfl rfl rfl (k := fun a w6 hg6 hgr6 hsz6 hF => ?_)
  have hown6 : CopyT w4.heap.size w6 ao s.toN cap ss := own_keptB hown hgr6 (fun k hk e => by have := (own_geC hown hk).1; simp only [Option.some.injEq] at e; omega)
  have hb6 : Below w.heap.size w w6 := hb5'.grown hgr6 (by omega) (fun k hk => by cases hk; omega)
  have hg26 := blk_kept hg25 hgr6 (by simp; omega)
  repeat (first | refine c_seq ?_ | refine c_block ?_ | refine c_region _ ?_ | refine wpList_nil ?_ | refine c_then ?_ | refine c_then_exit ?_ | refine c_then_ret ?_ | refine c_in ?_ | refine c_in_ret ?_ | refine c_in_hit ?_ | refine wp_skip ?_ | refine wp_exit ?_ | refine wp_ret ?_ | refine c_in_miss rfl ?_ | ((first | apply st hF | apply stg hF | apply s_step hF | apply s_stg hF); (first | exact d_fieldAddr (fld _ _ _ _ rfl) (isz _ _ rfl) | exact d_loadAgg (agg _ rfl) (isz _ _ rfl) rfl (cells_at hg6)); clear hF; clear a; intro a hF) | ((first | apply stm hF | apply stu hF); clear hF; clear a; intro a hF) | (apply c_cond_t hF; exact rfl; first | exact rfl | assumption) | (apply c_cond_f hF; exact rfl; first | exact rfl | assumption) | refine s_nil ?_)
  refine st_storeAgg hF (cs := (Sig.cells (s.cp ao cap)).toArray) (isz _ _ rfl) rfl rfl hg26 (sig_cells _) (k := fun a w7 hg7 hgr7 hsz7 hF => ?_)
  have hown7 : CopyT w4.heap.size w7 ao s.toN cap ss := own_keptB hown6 hgr7 (fun k hk e => by have := (own_geC hown hk).1; simp only [Option.some.injEq] at e; omega)
  have hb7 : Below w.heap.size w w7 := hb6.grown hgr7 (by omega) (fun k hk => by cases hk; omega)
  repeat (first | refine c_seq ?_ | refine c_block ?_ | refine c_region _ ?_ | refine wpList_nil ?_ | refine c_then ?_ | refine c_then_exit ?_ | refine c_then_ret ?_ | refine c_in ?_ | refine c_in_ret ?_ | refine c_in_hit ?_ | refine wp_skip ?_ | refine wp_exit ?_ | refine wp_ret ?_ | refine c_in_miss rfl ?_ | ((first | apply st hF | apply stg hF | apply s_step hF | apply s_stg hF); (first | exact d_fieldAddr (fld _ _ _ _ rfl) (isz _ _ rfl)); clear hF; clear a; intro a hF) | ((first | apply stm hF | apply stu hF); clear hF; clear a; intro a hF) | (apply c_cond_t hF; exact rfl; first | exact rfl | assumption) | (apply c_cond_f hF; exact rfl; first | exact rfl | assumption) | refine s_nil ?_)
  exact ret_c hF rfl (agg _ rfl) (isz _ _ rfl) hg7 rfl ⟨ao, cap, rfl, own_rebase hown7 fun k hk => (by have := (own_geC hown hk).1; omega), hb7⟩
/-- Signal number i, copied. -/
def CopyOk (base : Nat) (w : World) (ps : List SigT) (ls : List Sig) (i : Nat) : Prop := ∃ p ao c, ps[i]? = some p ∧ ls[i]? = some (p.1.cp ao c) ∧ CopyT base w ao p.1.toN c p.2
theorem CopyOk.below {base : Nat} {w w' : World} {ps : List SigT} {ls : List Sig} {i : Nat} (h : CopyOk base w ps ls i) (hb : Below w.heap.size w w') : CopyOk base w' ps ls i := by
  obtain ⟨p, ao, c, h1, h2, h3⟩ := h
  exact ⟨p, ao, c, h1, h2, own_below h3 hb⟩
theorem CopyOk.keptO {base : Nat} {w w' : World} {ps : List SigT} {ls : List Sig} {i : Nat} (h : CopyOk base w ps ls i) {base' e' s' n' : Nat} {v' : Value} {xs' : List Value} (h' : w.ownsRow base' e' s' v' n' xs') (hne : 9 ≠ e') (hgr : w.grownBy w' v'.ownBlock) : CopyOk base w' ps ls i := by
  obtain ⟨p, ao, c, h1, h2, hown⟩ := h
  exact ⟨p, ao, c, h1, h2, own_keptO hown h' hne hgr⟩
theorem CopyOk.rebase {base base' : Nat} {w : World} {ps : List SigT} {ls : List Sig} {i : Nat} (h : CopyOk base w ps ls i) (hb : base' ≤ base) : CopyOk base' w ps ls i := by
  obtain ⟨p, ao, c, h1, h2, hown⟩ := h
  exact ⟨p, ao, c, h1, h2, own_rebase hown fun k hk => (by have := (own_geC hown hk).1; omega)⟩
theorem CopyOk.keptB {base : Nat} {w w' : World} {ps : List SigT} {ls : List Sig} {i : Nat} (h : CopyOk base w ps ls i) {g : Nat} (hgr : w.grownBy w' (some g)) (hg : g < base) : CopyOk base w' ps ls i := by
  obtain ⟨p, ao, c, h1, h2, hown⟩ := h
  exact ⟨p, ao, c, h1, h2, own_keptB hown hgr fun k hk e => (by have := (own_geC hown hk).1; simp only [Option.some.injEq] at e; omega)⟩
structure CopyS (base : Nat) (w : World) (ao : Option Addr) (cap : Nat) (ps : List SigT) (ls : List Sig) : Prop where
  len : ls.length = ps.length
  own : w.ownsRow base 38 19 (.slice ao ps.length cap) ps.length (ls.flatMap Sig.cells)
  ok : ∀ i, i < ps.length → CopyOk base w ps ls i
theorem CopyS.below {base : Nat} {w w' : World} {ao : Option Addr} {cap : Nat} {ps : List SigT} {ls : List Sig} (h : CopyS base w ao cap ps ls) (hb : Below w.heap.size w w') : CopyS base w' ao cap ps ls := ⟨h.len, own_below h.own hb, fun i hi => (h.ok i hi).below hb⟩
theorem CopyS.keptB {base : Nat} {w w' : World} {ao : Option Addr} {cap : Nat} {ps : List SigT} {ls : List Sig} (h : CopyS base w ao cap ps ls) {g : Nat} (hgr : w.grownBy w' (some g)) (hg : g < base) : CopyS base w' ao cap ps ls :=
  ⟨h.len, own_keptB h.own hgr fun k hk e => (by have := (own_geC h.own hk).1; simp only [Option.some.injEq] at e; omega), fun i hi => (h.ok i hi).keptB hgr hg⟩
theorem CopyS.rebase {base base' : Nat} {w : World} {ao : Option Addr} {cap : Nat} {ps : List SigT} {ls : List Sig} (h : CopyS base w ao cap ps ls) (hb : base' ≤ base) : CopyS base' w ao cap ps ls :=
  ⟨h.len, own_rebase h.own fun k hk => (by have := (own_geC h.own hk).1; omega), fun i hi => (h.ok i hi).rebase hb⟩
set_option maxHeartbeats 4000000 in
theorem copy_signals (w : World) (ps : List SigT) (ao : Option Addr) (n c : Nat) (hs : SigsIn w ao n c ps) :
    Ret Tryd.prog 36 [.slice ao n c].toArray w (fun v w' => ∃ ao' cap ls, v = .slice ao' n cap ∧ CopyS w.heap.size w' ao' cap ps ls ∧ Below w.heap.size w w') := by
  obtain ⟨hn, hrd, heach, hcap, hby⟩ := hs
  subst hn
  refine enter1 Tryd.func36 rfl 21 rfl 22 rfl (fun a hF => ?_)
  repeat (first | refine c_seq ?_ | refine c_block ?_ | refine c_region _ ?_ | refine wpList_nil ?_ | refine c_then ?_ | refine c_then_exit ?_ | refine c_then_ret ?_ | refine c_in ?_ | refine c_in_ret ?_ | refine c_in_hit ?_ | refine wp_skip ?_ | refine wp_exit ?_ | refine wp_ret ?_ | refine c_in_miss rfl ?_ | ((first | apply st hF | apply stg hF | apply s_step hF | apply s_stg hF); (first | exact d_move | exact d_assign | exact d_add | exact d_cmpT | exact d_cmpF | exact d_cmp | exact d_len (und _ _ rfl) | exact d_lens (und _ _ rfl) | exact d_indexAddr1 (und _ _ rfl) (isz _ _ rfl)); clear hF; clear a; intro a hF) | ((first | apply stm hF | apply stu hF); clear hF; clear a; intro a hF) | (apply c_cond_t hF; exact rfl; first | exact rfl | assumption) | (apply c_cond_f hF; exact rfl; first | exact rfl | assumption) | refine s_nil ?_)
  refine c_loop (fun q a wr => ∃ k ao' cap' ls, k ≤ ps.length ∧ q = ps.length - k ∧ Fr 22 [(0, .slice ao ps.length c), (3, .slice ao' k cap'), (4, .int .i64 (k : Nat))] a ∧ ls.length = k ∧
    wr.ownsRow w.heap.size 38 19 (.slice ao' k cap') k (ls.flatMap Sig.cells) ∧ (∀ i, i < k → CopyOk w.heap.size wr ps ls i) ∧ Below w.heap.size w wr) ps.length
    ⟨0, none, 0, [], by omega, rfl, hF.keep' ⟨rfl, rfl, rfl, trivial⟩, rfl, by simpa using World.ownsRow_nil _ _ _ _, fun i hi => absurd hi (Nat.not_lt_zero _), Below.refl _ _⟩ ?_
  clear hF a
  rintro q a wr ⟨k, ao', cap', ls, hk, rfl, hF, hll, hown, hok, hbel⟩
  have hsz := hbel.size
  by_cases hlt : k < ps.length
  · obtain ⟨b, o, hao, hc⟩ := hrd k (by simpa using hlt)
    rw [at_map hlt] at hc
    rw [hao] at hF
    have hc' : ∀ q v, (Sig.cells ps[k].1)[q]? = some v → wr.cell? ⟨b, o + k * 19 + q, none⟩ = some v := fun q v hq => (hbel.cell (p := ⟨b, o + k * 19 + q, none⟩) (World.block_lt_of_cell? w _ (hc q v hq))).trans (hc q v hq)
    have hin := heach ps[k] (List.getElem_mem hlt)
    repeat (first | refine c_seq ?_ | refine c_block ?_ | refine c_region _ ?_ | refine wpList_nil ?_ | refine c_then ?_ | refine c_then_exit ?_ | refine c_then_ret ?_ | refine c_in ?_ | refine c_in_ret ?_ | refine c_in_hit ?_ | refine wp_skip ?_ | refine wp_exit ?_ | refine wp_ret ?_ | refine c_in_miss rfl ?_ | ((first | apply st hF | apply stg hF | apply s_step hF | apply s_stg hF); (first | exact d_move | exact d_assign | exact d_add | exact d_cmpT | exact d_cmpF | exact d_cmp | exact d_len (und _ _ rfl) | exact d_lens (und _ _ rfl) | exact d_indexAddr1 (und _ _ rfl) (isz _ _ rfl) | exact d_indexAddrS (und _ _ rfl) (isz _ _ rfl) | exact d_loadAgg (agg _ rfl) (isz _ _ rfl) rfl (arr_cells hc')); clear hF; clear a; intro a hF) | ((first | apply stm hF | apply stu hF); clear hF; clear a; intro a hF) | (apply c_cond_t hF; exact rfl; first | exact rfl | assumption) | (apply c_cond_f hF; exact rfl; first | exact rfl | assumption) | refine s_nil ?_)
    refine stc hF (copy_signal wr ps[k].1 ps[k].2 (hin.below hbel)) cal62 ⟨rfl, trivial⟩ (k := fun a v w1 hR hF => ?_)
    obtain ⟨ag, cap, rfl, hl1, hb1⟩ := hR
    have hB1 : Below w.heap.size w w1 := hbel.trans (hb1.mono hsz)
    have hown1 := own_below hown hb1
    refine st_alloc hF inf38 (k := fun a w2 hg2 hgr2 hsz2 hF => ?_)
    have hb2 : Below w1.heap.size w1 w2 := (Below.refl _ w1).grown hgr2 (Nat.le_refl _) (fun k hk => by cases hk)
    refine st_storeAgg hF (cs := (Sig.cells (ps[k].1.cp ag cap)).toArray) (isz _ _ rfl) rfl rfl hg2 (sig_cells _) (k := fun a w3 hg3 hgr3 hsz3 hF => ?_)
    have hb3 : Below w1.heap.size w1 w3 := hb2.grown hgr3 (by omega) (fun k hk => by cases hk; exact Nat.le_refl _)
    have hB3 : Below w.heap.size w w3 := hB1.trans (hb3.mono hB1.size)
    have hown3 := own_below hown1 hb3
    have hl3 : CopyT w.heap.size w3 ag ps[k].1.toN cap ps[k].2 := own_rebase (own_below hl1 hb3) fun k hk => (by have := (own_geC hl1 hk).1; omega)
    have hok3 : ∀ i, i < k → CopyOk w.heap.size w3 ps ls i := fun i hi => ((hok i hi).below hb1).below hb3
    repeat (first | refine c_seq ?_ | refine c_block ?_ | refine c_region _ ?_ | refine wpList_nil ?_ | refine c_then ?_ | refine c_then_exit ?_ | refine c_then_ret ?_ | refine c_in ?_ | refine c_in_ret ?_ | refine c_in_hit ?_ | refine wp_skip ?_ | refine wp_exit ?_ | refine wp_ret ?_ | refine c_in_miss rfl ?_ | ((first | apply st hF | apply stg hF | apply s_step hF | apply s_stg hF); (first | exact d_move | exact d_assign | exact d_add | exact d_cmpT | exact d_cmpF | exact d_cmp | exact d_len (und _ _ rfl) | exact d_lens (und _ _ rfl) | exact d_indexAddr1 (und _ _ rfl) (isz _ _ rfl) | exact d_loadAgg (agg _ rfl) (isz _ _ rfl) rfl (cells_at hg3)); clear hF; clear a; intro a hF) | ((first | apply stm hF | apply stu hF); clear hF; clear a; intro a hF) | (apply c_cond_t hF; exact rfl; first | exact rfl | assumption) | (apply c_cond_f hF; exact rfl; first | exact rfl | assumption) | refine s_nil ?_)
    refine st_pushS hF (us := (Sig.cells (ps[k].1.cp ag cap)).toArray) (und _ _ rfl) inf38 rfl (by decide) (by decide) rfl (sig_cells _) hown3 (by omega) (by unfold maxLen; omega) hB3.size (k := fun a ao2 cap2 w4 hown4 hgr4 hat hF => ?_)
    have hB4 := below_own hB3 hB3.size hown3 hgr4
    repeat (first | refine c_seq ?_ | refine c_block ?_ | refine c_region _ ?_ | refine wpList_nil ?_ | refine c_then ?_ | refine c_then_exit ?_ | refine c_then_ret ?_ | refine c_in ?_ | refine c_in_ret ?_ | refine c_in_hit ?_ | refine wp_skip ?_ | refine wp_exit ?_ | refine wp_ret ?_ | refine c_in_miss rfl ?_ | ((first | apply st hF | apply stg hF | apply s_step hF | apply s_stg hF); (first | exact d_move | exact d_assign | exact d_add | exact d_cmpT | exact d_cmpF | exact d_cmp | exact d_len (und _ _ rfl) | exact d_lens (und _ _ rfl) | exact d_indexAddr1 (und _ _ rfl) (isz _ _ rfl)); clear hF; clear a; intro a hF) | ((first | apply stm hF | apply stu hF); clear hF; clear a; intro a hF) | (apply c_cond_t hF; exact rfl; first | exact rfl | assumption) | (apply c_cond_f hF; exact rfl; first | exact rfl | assumption) | refine s_nil ?_)
    refine ⟨ps.length - (k + 1), by omega, k + 1, ao2, cap2, ls ++ [ps[k].1.cp ag cap], by omega, rfl, hao.symm ▸ hF.keep' ⟨rfl, rfl, rfl, trivial⟩, by simp [hll], by simpa using hown4, fun i hi => ?_, hB4⟩
    by_cases hik : i < k
    · obtain ⟨p, g', c', h1, h2, h3⟩ := (hok3 i hik).keptO hown3 (by decide) hgr4
      exact ⟨p, g', c', h1, by rw [List.getElem?_append_left (by omega)]; exact h2, h3⟩
    · obtain rfl : i = k := by omega
      exact ⟨ps[i], ag, cap, by simp [hlt], by rw [List.getElem?_append_right (by omega), hll]; simp, own_keptO hl3 hown3 (by decide) hgr4⟩
  · obtain rfl : k = ps.length := by omega
    repeat (first | refine c_seq ?_ | refine c_block ?_ | refine c_region _ ?_ | refine wpList_nil ?_ | refine c_then ?_ | refine c_then_exit ?_ | refine c_then_ret ?_ | refine c_in ?_ | refine c_in_ret ?_ | refine c_in_hit ?_ | refine wp_skip ?_ | refine wp_exit ?_ | refine wp_ret ?_ | refine c_in_miss rfl ?_ | ((first | apply st hF | apply stg hF | apply s_step hF | apply s_stg hF); (first | exact d_move | exact d_assign | exact d_add | exact d_cmpT | exact d_cmpF | exact d_cmp | exact d_len (und _ _ rfl) | exact d_lens (und _ _ rfl) | exact d_indexAddr1 (und _ _ rfl) (isz _ _ rfl)); clear hF; clear a; intro a hF) | ((first | apply stm hF | apply stu hF); clear hF; clear a; intro a hF) | (apply c_cond_t hF; exact rfl; first | exact rfl | assumption) | (apply c_cond_f hF; exact rfl; first | exact rfl | assumption) | refine s_nil ?_)
    exact ret1 hF rfl rfl ⟨ao', cap', ls, rfl, ⟨hll, hown, hok⟩, hbel⟩
def Msg.cp (m : Msg) (ao : Option Addr) (c : Nat) : Msg := { m with sg := ao, sgC := c }
set_option maxHeartbeats 4000000 in
theorem copy_message (w : World) (m : Msg) (ps : List SigT) (hs : MsgIn w m ps) :
    Ret Tryd.prog 12 [.agg (Msg.cells m).toArray].toArray w (fun v w' => ∃ ao cap ls, v = .agg (Msg.cells (m.cp ao cap)).toArray ∧ CopyS w.heap.size w' ao cap ps ls ∧ Below w.heap.size w w') := by
  have hlen := hs.len
  refine enter1 Tryd.func12 rfl 9 rfl 10 rfl (fun a hF => ?_)
  repeat (first | refine c_seq ?_ | refine c_block ?_ | refine c_region _ ?_ | refine wpList_nil ?_ | refine c_then ?_ | refine c_then_exit ?_ | refine c_then_ret ?_ | refine c_in ?_ | refine c_in_ret ?_ | refine c_in_hit ?_ | refine wp_skip ?_ | refine wp_exit ?_ | refine wp_ret ?_ | refine c_in_miss rfl ?_ | ((first | apply st hF | apply stg hF | apply s_step hF | apply s_stg hF); (first | exact d_fieldAddr (fld _ _ _ _ rfl) (isz _ _ rfl)); clear hF; clear a; intro a hF) | ((first | apply stm hF | apply stu hF); clear hF; clear a; intro a hF) | (apply c_cond_t hF; exact rfl; first | exact rfl | assumption) | (apply c_cond_f hF; exact rfl; first | exact rfl | assumption) | refine s_nil ?_)
  refine st_box hF (cs := (Msg.cells m).toArray) rfl (k := fun a w1 hg1 hgr1 hsz1 hF => ?_)
  refine st_alloc hF inf27 (k := fun a w2 hg2 hgr2 hsz2 hF => ?_)
  have hb2 : Below w.heap.size w w2 := ((Below.refl _ w).grown hgr1 (Nat.le_refl _) (fun k hk => by cases hk)).grown hgr2 (by omega) (fun k hk => by cases hk)
  have hg12 := blk_kept hg1 hgr2 (by simp)
  repeat (first | refine c_seq ?_ | refine c_block ?_ | refine c_region _ ?_ | refine wpList_nil ?_ | refine c_then ?_ | refine c_then_exit ?_ | refine c_then_ret ?_ | refine c_in ?_ | refine c_in_ret ?_ | refine c_in_hit ?_ | refine wp_skip ?_ | refine wp_exit ?_ | refine wp_ret ?_ | refine c_in_miss rfl ?_ | ((first | apply st hF | apply stg hF | apply s_step hF | apply s_stg hF); (first | exact d_fieldAddr (fld _ _ _ _ rfl) (isz _ _ rfl) | exact d_loadAgg (agg _ rfl) (isz _ _ rfl) rfl (cells_at hg12)); clear hF; clear a; intro a hF) | ((first | apply stm hF | apply stu hF); clear hF; clear a; intro a hF) | (apply c_cond_t hF; exact rfl; first | exact rfl | assumption) | (apply c_cond_f hF; exact rfl; first | exact rfl | assumption) | refine s_nil ?_)
  refine st_alloc hF inf27 (k := fun a w3 hg3 hgr3 hsz3 hF => ?_)
  have hb3 : Below w.heap.size w w3 := hb2.grown hgr3 (by omega) (fun k hk => by cases hk)
  have hg13 := blk_kept hg12 hgr3 (by simp)
  have hg23 := blk_kept hg2 hgr3 (by simp)
  refine st_storeAgg hF (cs := (Msg.cells m).toArray) (isz _ _ rfl) rfl rfl hg3 (msg_cells m) (k := fun a w4 hg4 hgr4 hsz4 hF => ?_)
  have hb4 : Below w.heap.size w w4 := hb3.grown hgr4 (by omega) (fun k hk => by cases hk; omega)
  have hg14 := blk_kept hg13 hgr4 (by simp; omega)
  have hg24 := blk_kept hg23 hgr4 (by simp; omega)
  have c7 := cell_at (i := 7) hg14 rfl
  repeat (first | refine c_seq ?_ | refine c_block ?_ | refine c_region _ ?_ | refine wpList_nil ?_ | refine c_then ?_ | refine c_then_exit ?_ | refine c_then_ret ?_ | refine c_in ?_ | refine c_in_ret ?_ | refine c_in_hit ?_ | refine wp_skip ?_ | refine wp_exit ?_ | refine wp_ret ?_ | refine c_in_miss rfl ?_ | ((first | apply st hF | apply stg hF | apply s_step hF | apply s_stg hF); (first | exact d_fieldAddr (fld _ _ _ _ rfl) (isz _ _ rfl) | exact d_load (und _ _ rfl) c7); clear hF; clear a; intro a hF) | ((first | apply stm hF | apply stu hF); clear hF; clear a; intro a hF) | (apply c_cond_t hF; exact rfl; first | exact rfl | assumption) | (apply c_cond_f hF; exact rfl; first | exact rfl | assumption) | refine s_nil ?_)
  refine stc hF (copy_signals w4 ps m.sg _ m.sgC (SigsIn.below hs hb4)) cal36 ⟨rfl, trivial⟩ (k := fun a v w5 hR hF => ?_)
  obtain ⟨ao, cap, ls, rfl, hcs, hb5⟩ := hR
  have hb5' : Below w.heap.size w w5 := hb4.trans (hb5.mono (by omega))
  have hg15 : w5.heap[w.heap.size]? = _ := (hb5.block _ (lt_at hg14)).trans hg14
  have hg25 : w5.heap[w1.heap.size]? = _ := (hb5.block _ (lt_at hg24)).trans hg24
  have hg35 : w5.heap[w2.heap.size]? = _ := (hb5.block _ (lt_at hg4)).trans hg4
  have hz5 := hb5.size
  repeat (first | refine c_seq ?_ | refine c_block ?_ | refine c_region _ ?_ | refine wpList_nil ?_ | refine c_then ?_ | refine c_then_exit ?_ | refine c_then_ret ?_ | refine c_in ?_ | refine c_in_ret ?_ | refine c_in_hit ?_ | refine wp_skip ?_ | refine wp_exit ?_ | refine wp_ret ?_ | refine c_in_miss rfl ?_ | ((first | apply st hF | apply stg hF | apply s_step hF | apply s_stg hF); (first | exact d_fieldAddr (fld _ _ _ _ rfl) (isz _ _ rfl)); clear hF; clear a; intro a hF) | ((first | apply stm hF | apply stu hF); clear hF; clear a; intro a hF) | (apply c_cond_t hF; exact rfl; first | exact rfl | assumption) | (apply c_cond_f hF; exact rfl; first | exact rfl | assumption) | refine s_nil ?_)
  refine st_store hF (isz _ _ rfl) hg35 (i := 7) (by show 7 < 8; decide) rfl rfl rfl (k := fun a w6 hg6 hgr6 hsz6 hF => ?_)
  have hb6 : Below w.heap.size w w6 := hb5'.grown hgr6 (by omega) (fun k hk => by cases hk; omega)
  have hg26 := blk_kept hg25 hgr6 (by simp; omega)
  have hcs6 := hcs.keptB hgr6 (by omega)
  repeat (first | refine c_seq ?_ | refine c_block ?_ | refine c_region _ ?_ | refine wpList_nil ?_ | refine c_then ?_ | refine c_then_exit ?_ | refine c_then_ret ?_ | refine c_in ?_ | refine c_in_ret ?_ | refine c_in_hit ?_ | refine wp_skip ?_ | refine wp_exit ?_ | refine wp_ret ?_ | refine c_in_miss rfl ?_ | ((first | apply st hF | apply stg hF | apply s_step hF | apply s_stg hF); (first | exact d_fieldAddr (fld _ _ _ _ rfl) (isz _ _ rfl) | exact d_loadAgg (agg _ rfl) (isz _ _ rfl) rfl (cells_at hg6)); clear hF; clear a; intro a hF) | ((first | apply stm hF | apply stu hF); clear hF; clear a; intro a hF) | (apply c_cond_t hF; exact rfl; first | exact rfl | assumption) | (apply c_cond_f hF; exact rfl; first | exact rfl | assumption) | refine s_nil ?_)
  refine st_storeAgg hF (cs := (Msg.cells (m.cp ao cap)).toArray) (isz _ _ rfl) rfl rfl hg26 (msg_cells _) (k := fun a w7 hg7 hgr7 hsz7 hF => ?_)
  have hb7 : Below w.heap.size w w7 := hb6.grown hgr7 (by omega) (fun k hk => by cases hk; omega)
  have hcs7 := hcs6.keptB hgr7 (by omega)
  repeat (first | refine c_seq ?_ | refine c_block ?_ | refine c_region _ ?_ | refine wpList_nil ?_ | refine c_then ?_ | refine c_then_exit ?_ | refine c_then_ret ?_ | refine c_in ?_ | refine c_in_ret ?_ | refine c_in_hit ?_ | refine wp_skip ?_ | refine wp_exit ?_ | refine wp_ret ?_ | refine c_in_miss rfl ?_ | ((first | apply st hF | apply stg hF | apply s_step hF | apply s_stg hF); (first | exact d_fieldAddr (fld _ _ _ _ rfl) (isz _ _ rfl)); clear hF; clear a; intro a hF) | ((first | apply stm hF | apply stu hF); clear hF; clear a; intro a hF) | (apply c_cond_t hF; exact rfl; first | exact rfl | assumption) | (apply c_cond_f hF; exact rfl; first | exact rfl | assumption) | refine s_nil ?_)
  exact ret_c hF rfl (agg _ rfl) (isz _ _ rfl) hg7 rfl ⟨ao, cap, ls, rfl, hcs7.rebase (by omega), hb7⟩
/-- What the copies read as. -/
def copyP (ps : List SigT) (ls : List Sig) : List SigT := (List.range ps.length).map fun i => (ls.getD i sigM, (ps.getD i (sigM, [])).2)
theorem copyP_len (ps : List SigT) (ls : List Sig) : (copyP ps ls).length = ps.length := by simp [copyP]
end Go.Proofs.YtjomihhpglojpaaDoor
end
section
/- What may be, may be without some of its signals that are no multiplexor; places do not count. Plain. -/
namespace Go.Proofs.YtjomihhpglojpaaDoor
open Go.RowKit
set_option linter.unusedSimpArgs false
set_option linter.unusedVariables false
attribute [local irreducible] wpList wpQuiet wpStill Code.wp Exit.then Exit.inBlock bodyPost Calls Does Does0
set_option maxRecDepth 100000
theorem alone_congr {s t : Sig} {ss : List ByteArray} {n : Int} (h1 : s.name = t.name) (h2 : s.role = t.role) (h3 : s.branch = t.branch) (h4 : s.start = t.start) (h5 : s.size = t.size) (h6 : s.mot = t.mot)
    (h7 : s.sn = t.sn ∧ s.sd = t.sd ∧ s.fn = t.fn ∧ s.fd = t.fd ∧ s.mn = t.mn ∧ s.md = t.md ∧ s.xn = t.xn ∧ s.xd = t.xd) (h8 : s.unit = t.unit) : aloneE s ss n = aloneE t ss n := by
  obtain ⟨a1, a2, a3, a4, a5, a6, a7, a8⟩ := h7
  have hr : roleB s ↔ roleB t := by unfold roleB; rw [h2, h3]
  have hR : rangedE s = rangedE t := by
    unfold rangedE
    simp only [a1, a2, a3, a4, a5, a6, a7, a8]
  unfold aloneE
  simp only [h1, h4, h5, h6, h8, hR, hr]
/-- The signals qs are some of the signals ps, in their order; the multiplexors are all there. -/
structure Some' (ps qs : List SigT) (f : Nat → Nat) : Prop where
  lt : ∀ i, i < qs.length → f i < ps.length
  mono : ∀ i j, i < j → f i < f j
  sgE : ∀ i, i < qs.length → sg qs i = sg ps (f i)
  txE : ∀ i, i < qs.length → tx qs i = tx ps (f i)
  mux : ∀ k, k < ps.length → (sg ps k).role = 1 → ∃ i, i < qs.length ∧ f i = k
theorem good_some {m m' : Msg} {ps qs : List SigT} {f : Nat → Nat} (h : Some' ps qs f) (hm : MsgGood m ps) (hh : headE m' = 0) (hs : m'.size = m.size) : MsgGood m' qs := by
  refine ⟨hh, fun j hj => ?_, fun j hj hb => ?_, fun j hj hb => ?_⟩
  · have h1 := hm.one (f j) (h.lt j hj)
    refine one_of ?_ ?_ ?_
    · rw [h.sgE j hj, h.txE j hj, hs]; exact alone_of_one h1
    · intro k hk
      rw [h.sgE j hj, h.sgE k (by omega)]
      exact names_of_one h1 (f k) (h.mono k j hk)
    · intro hr k hk
      rw [h.sgE j hj] at hr
      rw [h.sgE k (by omega)]
      exact mux_of_one h1 hr (f k) (h.mono k j hk)
  · refine hm.two (f j) (h.lt j hj) ?_
    obtain ⟨hr, hx⟩ := hb
    rw [h.sgE j hj] at hr hx
    refine ⟨hr, fun k hk => ?_⟩
    obtain ⟨k1, k2, k3⟩ := of_some hk
    obtain ⟨i, hi, rfl⟩ := h.mux k k1 k2
    have e : firstAt (isMux qs) qs.length = some i := by
      refine firstAt_some hi ?_ (fun j' hj' hb' => ?_)
      · unfold isMux; rw [h.sgE i hi]; exact k2
      · unfold isMux at hb'
        rw [h.sgE j' (by omega)] at hb'
        exact k3 (f j') (h.mono j' i hj') hb'
    have := hx i e
    rw [h.sgE i hi] at this
    exact this
  · obtain ⟨k, hk, ht, hsh⟩ := hb
    rw [h.sgE j hj, h.sgE k (by omega)] at ht hsh
    exact hm.meet (f j) (h.lt j hj) ⟨f k, h.mono k j hk, ht, hsh⟩
/-- All but number n. -/
theorem some_erase {ps : List SigT} {n : Nat} (hn : n < ps.length) (hr : (sg ps n).role ≠ 1) : Some' ps (ps.eraseIdx n) (fun i => if i < n then i else i + 1) := by
  have hl : (ps.eraseIdx n).length = ps.length - 1 := List.length_eraseIdx_of_lt hn
  have hg : ∀ i, i < ps.length - 1 → ∀ d, (ps.eraseIdx n).getD i d = ps.getD (if i < n then i else i + 1) d := by
    intro i hi d
    rw [List.getD_eq_getElem?_getD, List.getD_eq_getElem?_getD, List.getElem?_eraseIdx]
    split <;> rfl
  refine ⟨fun i hi => ?_, fun i j hij => ?_, fun i hi => ?_, fun i hi => ?_, fun k hk hr' => ?_⟩
  · split <;> omega
  · show (if i < n then i else i + 1) < (if j < n then j else j + 1)
    split <;> split <;> omega
  · unfold sg; rw [hg i (by omega)]
  · unfold tx; rw [hg i (by omega)]
  · by_cases e : k < n
    · exact ⟨k, by omega, by rw [if_pos e]⟩
    · by_cases e2 : k = n
      · subst e2; exact absurd hr' hr
      · exact ⟨k - 1, by omega, by rw [if_neg (by omega)]; omega⟩
/-- The places do not count. -/
structure SameSig (s t : Sig) : Prop where
  name : s.name = t.name
  role : s.role = t.role
  branch : s.branch = t.branch
  start : s.start = t.start
  size : s.size = t.size
  mot : s.mot = t.mot
  sgn : s.sgn = t.sgn
  rats : s.sn = t.sn ∧ s.sd = t.sd ∧ s.fn = t.fn ∧ s.fd = t.fd ∧ s.mn = t.mn ∧ s.md = t.md ∧ s.xn = t.xn ∧ s.xd = t.xd
  unit : s.unit = t.unit
theorem msgE_same {m m' : Msg} {ps qs : List SigT} (hl : qs.length = ps.length) (hh : headE m' = headE m) (hs : m'.size = m.size) (h : ∀ i, i < ps.length → SameSig (sg qs i) (sg ps i) ∧ tx qs i = tx ps i) : msgE m' qs = msgE m ps := by
  have a1 : ∀ i, i < ps.length → oneE qs m'.size i = oneE ps m.size i := by
    intro i hi
    obtain ⟨h1, h2⟩ := h i hi
    unfold oneE
    rw [h2, hs, alone_congr h1.name h1.role h1.branch h1.start h1.size h1.mot h1.rats h1.unit, h1.role, h1.name]
    have e1 : (∃ k, k < i ∧ (sg qs k).name = (sg ps i).name) ↔ (∃ k, k < i ∧ (sg ps k).name = (sg ps i).name) :=
      ⟨fun ⟨k, hk, e⟩ => ⟨k, hk, by rw [← (h k (by omega)).1.name]; exact e⟩, fun ⟨k, hk, e⟩ => ⟨k, hk, by rw [(h k (by omega)).1.name]; exact e⟩⟩
    have e2 : ((sg ps i).role = 1 ∧ ∃ k, k < i ∧ (sg qs k).role = 1) ↔ ((sg ps i).role = 1 ∧ ∃ k, k < i ∧ (sg ps k).role = 1) :=
      ⟨fun ⟨r, k, hk, e⟩ => ⟨r, k, hk, by rw [← (h k (by omega)).1.role]; exact e⟩, fun ⟨r, k, hk, e⟩ => ⟨r, k, hk, by rw [(h k (by omega)).1.role]; exact e⟩⟩
    simp only [e1, e2]
  have a2 : firstAt (isMux qs) qs.length = firstAt (isMux ps) ps.length := by
    rw [hl]
    exact firstAt_congr fun i hi => by unfold isMux; rw [(h i hi).1.role]
  have a3 : ∀ i, i < ps.length → (twoB qs i ↔ twoB ps i) := by
    intro i hi
    unfold twoB
    rw [a2, (h i hi).1.role, (h i hi).1.branch]
    constructor
    · rintro ⟨r, hx⟩
      exact ⟨r, fun k hk => by have := hx k hk; rw [(h k (of_some hk).1).1.size, (h k (of_some hk).1).1.sgn] at this; exact this⟩
    · rintro ⟨r, hx⟩
      exact ⟨r, fun k hk => by rw [(h k (of_some hk).1).1.size, (h k (of_some hk).1).1.sgn]; exact hx k hk⟩
  have a4 : ∀ i, i < ps.length → (meetB qs i ↔ meetB ps i) := by
    intro i hi
    have key : ∀ k, k < i → togB (sg qs k) (sg qs i) = togB (sg ps k) (sg ps i) ∧ (shareB (sg qs k) (sg qs i) ↔ shareB (sg ps k) (sg ps i)) := by
      intro k hk
      have hk' := (h k (by omega)).1
      have hi' := (h i hi).1
      unfold togB shareB
      rw [hk'.role, hi'.role, hk'.branch, hi'.branch, hk'.start, hk'.size, hk'.mot, hi'.start, hi'.size, hi'.mot]
      exact ⟨rfl, Iff.rfl⟩
    constructor
    · rintro ⟨k, hk, ht, hsh⟩
      exact ⟨k, hk, by rw [← (key k hk).1]; exact ht, (key k hk).2.1 hsh⟩
    · rintro ⟨k, hk, ht, hsh⟩
      exact ⟨k, hk, by rw [(key k hk).1]; exact ht, (key k hk).2.2 hsh⟩
  unfold msgE
  rw [hh, hl, firstAt_congr (fun i hi => by rw [a1 i hi] : ∀ i, i < ps.length → (oneE qs m'.size i ≠ 0 ↔ oneE ps m.size i ≠ 0)), firstAt_congr a3, firstAt_congr a4]
  split
  · rfl
  · rcases firstAt_spec (fun i => oneE ps m.size i ≠ 0) ps.length with ⟨e, _⟩ | ⟨k, e, hk, _⟩
    · rw [e]
      simp only [thenF]
    · rw [e]
      unfold thenF
      dsimp only
      rw [a1 k hk]
end Go.Proofs.YtjomihhpglojpaaDoor
end
section
/- A store of a struct into a part of a block; signals whose places are set. -/
namespace Go.Proofs.YtjomihhpglojpaaDoor
open Go.RowKit
section
variable {P : Program} {ops : Array Oper} {Q : Exit → Act → World → Prop} {a : Act} {w w' : World} {rest : List Oper} {N : Nat} {l : List (Nat × Value)}
theorem st_storePart (h : Fr N l a) {x y : Operand} {g o : Nat} {cs c : Array Value} {e t ty : TypeId} {pos : String} {af : Array Edge} {n : Nat} (hs : (P.info? t).map (·.size) = some n) (hn : cs.size = n) (hc : o + n ≤ c.size) (hg : w.heap[g]? = some (.cells c e (0, 0))) (hv : ∀ v ∈ cs, v.oneCell' = true)
    (hx : Ev l x (.pointer (some ⟨g, o, none⟩)) := by exact rfl) (hy : Ev l y (.agg cs) := by exact rfl)
    (k : ∀ a' w', w'.heap[g]? = some (.cells (c.toList.take o ++ cs.toList ++ c.toList.drop (o + n)).toArray e (0, 0)) → w.grownBy w' (some g) → w'.heap.size = w.heap.size → Fr N l a' → wpList P ops Q rest a' w') :
    wpList P ops Q (⟨none, .store t x y, ty, pos, af, none⟩ :: rest) a w := by
  subst hn
  have hr := run_storeCells_at (P := P) g o e cs.toList 0 c w hg (by simp; omega) (by simpa using hv)
  refine st0 h (w' := w.setRow g (c.toList.take (o + 0) ++ cs.toList ++ c.toList.drop (o + 0 + cs.toList.length)).toArray) ?_ rfl fun a' hF => k a' _ ?_ ?_ (by simp [World.setRow]) hF
  · intro ρ hρ d pos af gd
    obtain ⟨ti, h1, h2⟩ := Option.map_eq_some_iff.1 hs
    have hcs : (Value.agg cs).cells = cs := rfl
    simp [execOp, Instr.storeAt, Instr.sureAddr, storeVar, hρ _ _ hx, hρ _ _ hy, sizeOf, typeInfo, h1, h2, hcs, hr]
  · rw [setRow_heap w g c _ e _ hg]
    simp
  · exact ⟨rfl, rfl, rfl, by simp [World.setRow], fun k hk hne => setRow_other w g k _ (by intro e; exact hne (by rw [e]))⟩
/-- .. into a row of the call's own. -/
theorem st_storeRowPart (h : Fr N l a) {x y : Operand} {g o base m cap sz : Nat} {cs : Array Value} {e t ty : TypeId} {pos : String} {af : Array Edge} {n : Nat} {xs : List Value} (hs : (P.info? t).map (·.size) = some n) (hn : cs.size = n) (hc : o + n ≤ m * sz) (hown : w.ownsRow base e sz (.slice (some ⟨g, 0, none⟩) m cap) m xs) (hv : ∀ v ∈ cs, v.oneCell' = true)
    (hx : Ev l x (.pointer (some ⟨g, o, none⟩)) := by exact rfl) (hy : Ev l y (.agg cs) := by exact rfl)
    (k : ∀ a' w', w'.ownsRow base e sz (.slice (some ⟨g, 0, none⟩) m cap) m (xs.take o ++ cs.toList ++ xs.drop (o + n)) → w.grownBy w' (some g) → w'.heap.size = w.heap.size → Fr N l a' → wpList P ops Q rest a' w') :
    wpList P ops Q (⟨none, .store t x y, ty, pos, af, none⟩ :: rest) a w := by
  have hl : xs.length = m * sz := hown.1
  rcases hown.2 with ⟨h0, _⟩ | ⟨g', cap', cur, h0, hb, hg, hle, hm, hsz, htk⟩
  · cases h0
  · cases h0
    have hcur : m * sz ≤ cur.size := by
      have : xs.length ≤ cur.toList.length := by rw [← htk]; exact List.length_take_le' _ _
      simpa [hl] using this
    refine st_storePart h hs hn (by omega) hg hv hx hy fun a' w' hg' hgr hsz' hF => k a' w' ⟨?_, .inr ⟨_, _, _, rfl, hb, hg', hle, hm, ?_, ?_⟩⟩ hgr hsz' hF
    · simp only [List.length_append, List.length_take, List.length_drop, Array.length_toList, hl, hn]; omega
    · simp only [List.size_toArray, List.length_append, List.length_take, List.length_drop, Array.length_toList, hn]; omega
    · rw [← htk]
      simp only [List.take_append, List.length_take, List.length_append, Array.length_toList]
      rw [List.take_take, List.take_take, List.drop_take]
      have e1 : min (m * sz) o = o := by omega
      have e2 : List.take (m * sz - min o cur.size) cs.toList = cs.toList := List.take_of_length_le (by simp; omega)
      rw [e1, e2]
      congr 1
      · rw [Nat.min_eq_left (by omega : o ≤ m * sz)]
      · have e3 : min o cur.size = o := by omega
        rw [e3, hn]
end
theorem flat_part {α : Type} {enc : α → List Value} {sz : Nat} (he : ∀ x, (enc x).length = sz) {cs : List Value} {p q : Nat} : ∀ (xs : List α) (k : Nat) (hk : k < xs.length) (y : α), q ≤ sz → p ≤ q → enc y = (enc xs[k]).take p ++ cs ++ (enc xs[k]).drop q → (xs.flatMap enc).take (k * sz + p) ++ cs ++ (xs.flatMap enc).drop (k * sz + q) = (xs.set k y).flatMap enc
  | x :: xs, 0, _, y, hq, hp, hy => by
    have hx := he x
    simp only [List.flatMap_cons, List.set_cons_zero, Nat.zero_mul, Nat.zero_add]
    rw [List.take_append_of_le_length (by omega), List.drop_append_of_le_length (by omega), ← List.append_assoc]
    simp only [List.getElem_cons_zero] at hy
    rw [hy]
  | x :: xs, k + 1, hk, y, hq, hp, hy => by
    have hx := he x
    simp only [List.flatMap_cons, List.set_cons_succ]
    rw [← flat_part he xs k (by simpa using hk) y hq hp (by simpa using hy)]
    rw [show (k + 1) * sz + p = sz + (k * sz + p) by rw [Nat.add_mul]; omega, show (k + 1) * sz + q = sz + (k * sz + q) by rw [Nat.add_mul]; omega]
    rw [List.take_append, List.drop_append, hx]
    rw [List.take_of_length_le (l := enc x) (by omega), List.drop_of_length_le (l := enc x) (by omega)]
    simp [Nat.add_sub_cancel_left, List.append_assoc]
open Go.RowKit
set_option linter.unusedSimpArgs false
set_option linter.unusedVariables false
attribute [local irreducible] wpList wpQuiet wpStill Code.wp Exit.then Exit.inBlock bodyPost Calls Does Does0
def Sig.pl (s : Sig) (line col : Int) : Sig := { s with line := line, col := col }
theorem pl_cells (s : Sig) (line col : Int) : Sig.cells (s.pl line col) = (Sig.cells s).take 0 ++ [.int .i64 line, .int .i64 col] ++ (Sig.cells s).drop 2 := rfl
end Go.Proofs.YtjomihhpglojpaaDoor
end
