/- Laid together by a program of mine: CopyW PlacL PlacS KnW. -/
import Derived.Test.YtjomihhpglojpaaDoorSumLawKnownCS9
import Derived.Test.YtjomihhpglojpaaDoorSumLawKnownCS8
import Derived.Test.YtjomihhpglojpaaDoorSumLawKnownCS16
import Derived.Test.YtjomihhpglojpaaDoorSumLawKnownCS11
import Derived.Test.YtjomihhpglojpaaDoorSumLawKnownCS12
import Derived.Test.YtjomihhpglojpaaDoorSumLawKnownCS15
import Derived.Test.YtjomihhpglojpaaDoorSumLawKnownCS6
import Derived.Test.YtjomihhpglojpaaDoorSumLawKnownCS4
set_option linter.unusedSimpArgs false
set_option linter.unusedVariables false
section
/- Copies of texts, signals and messages, walked. -/
namespace Go.Proofs.YtjomihhpglojpaaDoor
open Go.RowKit
set_option linter.unusedSimpArgs false
set_option linter.unusedVariables false
attribute [local irreducible] wpList wpQuiet wpStill Code.wp Exit.then Exit.inBlock bodyPost Calls Does Does0
set_option maxRecDepth 100000
theorem own_geC {w : World} {base : Nat} {e : TypeId} {s n : Nat} {v : Value} {xs : List Value} (h : w.ownsRow base e s v n xs) {b : Nat} (hb : v.ownBlock = some b) : base ≤ b ∧ b < w.heap.size := by
  refine ⟨?_, (h.lt _ hb).2⟩
  rcases h.2 with ⟨rfl, _⟩ | ⟨g', cap', cur, rfl, h1, _⟩
  · cases hb
  · cases hb; exact h1
def CopyT (base : Nat) (w : World) (ao : Option Addr) (n c : Nat) (ss : List ByteArray) : Prop := w.ownsRow base 9 1 (.slice ao n c) n (ss.map .string)
def Sig.cp (s : Sig) (ao : Option Addr) (c : Nat) : Sig := { s with toA := ao, toC := c }
set_option maxHeartbeats 4000000 in
theorem copy_texts (w : World) (xs : List ByteArray) (ao : Option Addr) (n c : Nat) (hn : xs.length = n) (hR : Rd w ao .string xs) (hb : n * 16 ≤ 140737488351232) :
    Ret Tryd.prog 59 [.slice ao n c].toArray w (fun v w' => ∃ ao' c', v = .slice ao' n c' ∧ CopyT w.heap.size w' ao' n c' xs ∧ Below w.heap.size w w') := by
  subst hn
  refine enter1 Tryd.func59 rfl 18 rfl 19 rfl (fun a hF => ?_)
  repeat (first | refine c_seq ?_ | refine c_block ?_ | refine c_region _ ?_ | refine wpList_nil ?_ | refine c_then ?_ | ((apply st hF); (exact d_assign); clear hF; clear a; intro a hF))
  refine c_loop (fun q a wr => ∃ k ao' cap', k ≤ xs.length ∧ q = xs.length - k ∧ Fr 19 [(0, .slice ao xs.length c), (3, .slice ao' k cap'), (4, .int .i64 (k : Nat))] a ∧
    CopyT w.heap.size wr ao' k cap' (xs.take k) ∧ Below w.heap.size w wr) xs.length
    ⟨0, none, 0, by omega, rfl, hF.keep' ⟨rfl, rfl, rfl, trivial⟩, World.ownsRow_nil _ _ _ _, Below.refl _ _⟩ ?_
  clear hF a
  rintro q a wr ⟨k, ao', cap', hk, rfl, hF, hown, hbel⟩
  have hsz := hbel.size
  by_cases hlt : k < xs.length
  · obtain ⟨b, o, hao, hc⟩ := hR k hlt
    replace hc : wr.cell? ⟨b, o + k, none⟩ = some (.string xs[k]) := (hbel.cell (p := ⟨b, o + k, none⟩) (World.block_lt_of_cell? w _ hc)).trans hc
    rw [hao] at hF
    repeat (first | refine c_seq ?_ | refine c_block ?_ | refine c_region _ ?_ | refine wpList_nil ?_ | refine c_then ?_ | refine wp_skip ?_ | ((apply st hF); (first | exact d_move | exact d_cmpT | exact d_len (und _ _ rfl) | exact d_indexAddr1 (und _ _ rfl) (isz _ _ rfl) | exact d_load (und _ _ rfl) hc); clear hF; clear a; intro a hF) | (apply c_cond_t hF; exact rfl; first | exact rfl | assumption))
    refine st_push hF (und _ _ rfl) inf9 rfl hown (by omega) (by unfold maxLen; omega) hsz (k := fun a ao2 cap2 w2 hown2 hgr hF => ?_)
    have hb2 := below_own hbel hsz hown hgr
    repeat (first | refine c_region _ ?_ | refine wpList_nil ?_ | refine c_then ?_ | refine c_in ?_ | ((apply st hF); (first | exact d_move | exact d_assign | exact d_add); clear hF; clear a; intro a hF))
    refine ⟨xs.length - (k + 1), by omega, k + 1, ao2, cap2, by omega, rfl, hao.symm ▸ hF.keep' ⟨rfl, rfl, rfl, trivial⟩, ?_, hb2⟩
    unfold CopyT
    rw [List.take_succ_eq_append_getElem hlt, List.map_append]
    exact hown2
  · obtain rfl : k = xs.length := by omega
    repeat (first | refine c_seq ?_ | refine c_region _ ?_ | refine wpList_nil ?_ | refine c_then ?_ | refine c_then_exit ?_ | refine c_in_hit ?_ | refine wp_exit ?_ | refine wp_ret ?_ | ((apply st hF); (first | exact d_move | exact d_assign | exact d_cmpF | exact d_len (und _ _ rfl)); clear hF; clear a; intro a hF) | (apply c_cond_f hF; exact rfl; first | exact rfl | assumption))
    rw [List.take_length] at hown
    exact ret1 hF rfl rfl ⟨ao', cap', rfl, hown, hbel⟩
set_option maxHeartbeats 4000000 in
theorem copy_signal (w : World) (s : Sig) (ss : List ByteArray) (hs : SigIn w s ss) :
    Ret Tryd.prog 62 [.agg (Sig.cells s).toArray].toArray w (fun v w' => ∃ ao c, v = .agg (Sig.cells (s.cp ao c)).toArray ∧ CopyT w.heap.size w' ao s.toN c ss ∧ Below w.heap.size w w') := by
  refine enter1 Tryd.func62 rfl 9 rfl 10 rfl (fun a hF => ?_)
  repeat (first | refine c_seq ?_ | refine c_region _ ?_)
  refine st_box hF (cs := (Sig.cells s).toArray) rfl (k := fun a w1 hg1 hgr1 hsz1 hF => ?_)
  refine st_alloc hF inf38 (k := fun a w2 hg2 hgr2 hsz2 hF => ?_)
  have hb2 : Below w.heap.size w w2 := ((Below.refl _ w).grown hgr1 (Nat.le_refl _) (fun k hk => by cases hk)).grown hgr2 (by omega) (fun k hk => by cases hk)
  have hg12 := blk_kept hg1 hgr2 (by simp)
  repeat (first | refine c_seq ?_ | refine c_region _ ?_ | refine wpList_nil ?_ | refine c_then ?_ | ((apply st hF); (exact d_loadAgg (agg _ rfl) (isz _ _ rfl) rfl (cells_at hg12)); clear hF; clear a; intro a hF))
  refine st_alloc hF inf38 (k := fun a w3 hg3 hgr3 hsz3 hF => ?_)
  have hb3 : Below w.heap.size w w3 := hb2.grown hgr3 (by omega) (fun k hk => by cases hk)
  have hg13 := blk_kept hg12 hgr3 (by simp)
  have hg23 := blk_kept hg2 hgr3 (by simp)
  refine st_storeAgg hF (cs := (Sig.cells s).toArray) (isz _ _ rfl) rfl rfl hg3 (sig_cells s) (k := fun a w4 hg4 hgr4 hsz4 hF => ?_)
  have hb4 : Below w.heap.size w w4 := hb3.grown hgr4 (by omega) (fun k hk => by cases hk; omega)
  have hg14 := blk_kept hg13 hgr4 (by simp; omega)
  have hg24 := blk_kept hg23 hgr4 (by simp; omega)
  have c18 := cell_at (i := 18) hg14 rfl
  repeat (first | refine c_seq ?_ | refine c_region _ ?_ | refine wpList_nil ?_ | refine c_then ?_ | ((apply st hF); (first | exact d_fieldAddr (fld _ _ _ _ rfl) (isz _ _ rfl) | exact d_load (und _ _ rfl) c18); clear hF; clear a; intro a hF))
  refine stc hF (copy_texts w4 ss s.toA _ s.toC hs.len (hs.rd.below hb4) (by have := hs.bytes; have := hs.cap; omega)) cal59 ⟨rfl, trivial⟩ (k := fun a v w5 hR hF => ?_)
  obtain ⟨ao, cap, rfl, hown, hb5⟩ := hR
  have hb5' : Below w.heap.size w w5 := hb4.trans (hb5.mono (by omega))
  have hg15 : w5.heap[w.heap.size]? = _ := (hb5.block _ (lt_at hg14)).trans hg14
  have hg25 : w5.heap[w1.heap.size]? = _ := (hb5.block _ (lt_at hg24)).trans hg24
  have hg35 : w5.heap[w2.heap.size]? = _ := (hb5.block _ (lt_at hg4)).trans hg4
  have hz5 := hb5.size
  repeat (((apply st hF); (exact d_fieldAddr (fld _ _ _ _ rfl) (isz _ _ rfl)); clear hF; clear a; intro a hF))
  refine st_store hF (isz _ _ rfl) hg35 (i := 18) (by show 18 < 19; decide) rfl rfl rfl (k := fun a w6 hg6 hgr6 hsz6 hF => ?_)
  have hown6 : CopyT w4.heap.size w6 ao s.toN cap ss := own_keptB hown hgr6 (fun k hk e => by have := (own_geC hown hk).1; simp only [Option.some.injEq] at e; omega)
  have hb6 : Below w.heap.size w w6 := hb5'.grown hgr6 (by omega) (fun k hk => by cases hk; omega)
  have hg26 := blk_kept hg25 hgr6 (by simp; omega)
  repeat (first | refine c_seq ?_ | refine c_region _ ?_ | refine wpList_nil ?_ | refine c_then ?_ | ((apply st hF); (exact d_loadAgg (agg _ rfl) (isz _ _ rfl) rfl (cells_at hg6)); clear hF; clear a; intro a hF))
  refine st_storeAgg hF (cs := (Sig.cells (s.cp ao cap)).toArray) (isz _ _ rfl) rfl rfl hg26 (sig_cells _) (k := fun a w7 hg7 hgr7 hsz7 hF => ?_)
  have hown7 : CopyT w4.heap.size w7 ao s.toN cap ss := own_keptB hown6 hgr7 (fun k hk e => by have := (own_geC hown hk).1; simp only [Option.some.injEq] at e; omega)
  have hb7 : Below w.heap.size w w7 := hb6.grown hgr7 (by omega) (fun k hk => by cases hk; omega)
  repeat (first | refine wpList_nil ?_ | refine c_then ?_ | refine wp_ret ?_)
  exact ret_c hF rfl (agg _ rfl) (isz _ _ rfl) hg7 rfl ⟨ao, cap, rfl, own_rebase hown7 fun k hk => (by have := (own_geC hown hk).1; omega), hb7⟩
/-- Signal number i, copied. -/
def CopyOk (base : Nat) (w : World) (ps : List SigT) (ls : List Sig) (i : Nat) : Prop := ∃ p ao c, ps[i]? = some p ∧ ls[i]? = some (p.1.cp ao c) ∧ CopyT base w ao p.1.toN c p.2
theorem CopyOk.below {base : Nat} {w w' : World} {ps : List SigT} {ls : List Sig} {i : Nat} (h : CopyOk base w ps ls i) (hb : Below w.heap.size w w') : CopyOk base w' ps ls i := by
  obtain ⟨p, ao, c, h1, h2, h3⟩ := h
  exact ⟨p, ao, c, h1, h2, own_below h3 hb⟩
theorem CopyOk.keptO {base : Nat} {w w' : World} {ps : List SigT} {ls : List Sig} {i : Nat} (h : CopyOk base w ps ls i) {base' e' s' n' : Nat} {v' : Value} {xs' : List Value} (h' : w.ownsRow base' e' s' v' n' xs') (hne : 9 ≠ e') (hgr : w.grownBy w' v'.ownBlock) : CopyOk base w' ps ls i := by
  obtain ⟨p, ao, c, h1, h2, hown⟩ := h
  exact ⟨p, ao, c, h1, h2, own_keptO hown h' hne hgr⟩
theorem CopyOk.rebase {base base' : Nat} {w : World} {ps : List SigT} {ls : List Sig} {i : Nat} (h : CopyOk base w ps ls i) (hb : base' ≤ base) : CopyOk base' w ps ls i := by
  obtain ⟨p, ao, c, h1, h2, hown⟩ := h
  exact ⟨p, ao, c, h1, h2, own_rebase hown fun k hk => (by have := (own_geC hown hk).1; omega)⟩
theorem CopyOk.keptB {base : Nat} {w w' : World} {ps : List SigT} {ls : List Sig} {i : Nat} (h : CopyOk base w ps ls i) {g : Nat} (hgr : w.grownBy w' (some g)) (hg : g < base) : CopyOk base w' ps ls i := by
  obtain ⟨p, ao, c, h1, h2, hown⟩ := h
  exact ⟨p, ao, c, h1, h2, own_keptB hown hgr fun k hk e => (by have := (own_geC hown hk).1; simp only [Option.some.injEq] at e; omega)⟩
structure CopyS (base : Nat) (w : World) (ao : Option Addr) (cap : Nat) (ps : List SigT) (ls : List Sig) : Prop where
  len : ls.length = ps.length
  own : w.ownsRow base 38 19 (.slice ao ps.length cap) ps.length (ls.flatMap Sig.cells)
  ok : ∀ i, i < ps.length → CopyOk base w ps ls i
theorem CopyS.below {base : Nat} {w w' : World} {ao : Option Addr} {cap : Nat} {ps : List SigT} {ls : List Sig} (h : CopyS base w ao cap ps ls) (hb : Below w.heap.size w w') : CopyS base w' ao cap ps ls := ⟨h.len, own_below h.own hb, fun i hi => (h.ok i hi).below hb⟩
theorem CopyS.keptB {base : Nat} {w w' : World} {ao : Option Addr} {cap : Nat} {ps : List SigT} {ls : List Sig} (h : CopyS base w ao cap ps ls) {g : Nat} (hgr : w.grownBy w' (some g)) (hg : g < base) : CopyS base w' ao cap ps ls :=
  ⟨h.len, own_keptB h.own hgr fun k hk e => (by have := (own_geC h.own hk).1; simp only [Option.some.injEq] at e; omega), fun i hi => (h.ok i hi).keptB hgr hg⟩
theorem CopyS.rebase {base base' : Nat} {w : World} {ao : Option Addr} {cap : Nat} {ps : List SigT} {ls : List Sig} (h : CopyS base w ao cap ps ls) (hb : base' ≤ base) : CopyS base' w ao cap ps ls :=
  ⟨h.len, own_rebase h.own fun k hk => (by have := (own_geC h.own hk).1; omega), fun i hi => (h.ok i hi).rebase hb⟩
set_option maxHeartbeats 4000000 in
theorem copy_signals (w : World) (ps : List SigT) (ao : Option Addr) (n c : Nat) (hs : SigsIn w ao n c ps) :
    Ret Tryd.prog 36 [.slice ao n c].toArray w (fun v w' => ∃ ao' cap ls, v = .slice ao' n cap ∧ CopyS w.heap.size w' ao' cap ps ls ∧ Below w.heap.size w w') := by
  obtain ⟨hn, hrd, heach, hcap, hby⟩ := hs
  subst hn
  refine enter1 Tryd.func36 rfl 21 rfl 22 rfl (fun a hF => ?_)
  repeat (first | refine c_seq ?_ | refine c_block ?_ | refine c_region _ ?_ | refine wpList_nil ?_ | refine c_then ?_ | ((apply st hF); (exact d_assign); clear hF; clear a; intro a hF))
  refine c_loop (fun q a wr => ∃ k ao' cap' ls, k ≤ ps.length ∧ q = ps.length - k ∧ Fr 22 [(0, .slice ao ps.length c), (3, .slice ao' k cap'), (4, .int .i64 (k : Nat))] a ∧ ls.length = k ∧
    wr.ownsRow w.heap.size 38 19 (.slice ao' k cap') k (ls.flatMap Sig.cells) ∧ (∀ i, i < k → CopyOk w.heap.size wr ps ls i) ∧ Below w.heap.size w wr) ps.length
    ⟨0, none, 0, [], by omega, rfl, hF.keep' ⟨rfl, rfl, rfl, trivial⟩, rfl, by simpa using World.ownsRow_nil _ _ _ _, fun i hi => absurd hi (Nat.not_lt_zero _), Below.refl _ _⟩ ?_
  clear hF a
  rintro q a wr ⟨k, ao', cap', ls, hk, rfl, hF, hll, hown, hok, hbel⟩
  have hsz := hbel.size
  by_cases hlt : k < ps.length
  · obtain ⟨b, o, hao, hc⟩ := hrd k (by simpa using hlt)
    rw [at_map hlt] at hc
    rw [hao] at hF
    have hc' : ∀ q v, (Sig.cells ps[k].1)[q]? = some v → wr.cell? ⟨b, o + k * 19 + q, none⟩ = some v := fun q v hq => (hbel.cell (p := ⟨b, o + k * 19 + q, none⟩) (World.block_lt_of_cell? w _ (hc q v hq))).trans (hc q v hq)
    have hin := heach ps[k] (List.getElem_mem hlt)
    repeat (first | refine c_seq ?_ | refine c_block ?_ | refine c_region _ ?_ | refine wpList_nil ?_ | refine c_then ?_ | refine wp_skip ?_ | ((apply st hF); (first | exact d_move | exact d_cmpT | exact d_len (und _ _ rfl) | exact d_indexAddrS (und _ _ rfl) (isz _ _ rfl) | exact d_loadAgg (agg _ rfl) (isz _ _ rfl) rfl (arr_cells hc')); clear hF; clear a; intro a hF) | (apply c_cond_t hF; exact rfl; first | exact rfl | assumption))
    refine stc hF (copy_signal wr ps[k].1 ps[k].2 (hin.below hbel)) cal62 ⟨rfl, trivial⟩ (k := fun a v w1 hR hF => ?_)
    obtain ⟨ag, cap, rfl, hl1, hb1⟩ := hR
    have hB1 : Below w.heap.size w w1 := hbel.trans (hb1.mono hsz)
    have hown1 := own_below hown hb1
    refine st_alloc hF inf38 (k := fun a w2 hg2 hgr2 hsz2 hF => ?_)
    have hb2 : Below w1.heap.size w1 w2 := (Below.refl _ w1).grown hgr2 (Nat.le_refl _) (fun k hk => by cases hk)
    refine st_storeAgg hF (cs := (Sig.cells (ps[k].1.cp ag cap)).toArray) (isz _ _ rfl) rfl rfl hg2 (sig_cells _) (k := fun a w3 hg3 hgr3 hsz3 hF => ?_)
    have hb3 : Below w1.heap.size w1 w3 := hb2.grown hgr3 (by omega) (fun k hk => by cases hk; exact Nat.le_refl _)
    have hB3 : Below w.heap.size w w3 := hB1.trans (hb3.mono hB1.size)
    have hown3 := own_below hown1 hb3
    have hl3 : CopyT w.heap.size w3 ag ps[k].1.toN cap ps[k].2 := own_rebase (own_below hl1 hb3) fun k hk => (by have := (own_geC hl1 hk).1; omega)
    have hok3 : ∀ i, i < k → CopyOk w.heap.size w3 ps ls i := fun i hi => ((hok i hi).below hb1).below hb3
    repeat (first | refine c_region _ ?_ | refine wpList_nil ?_ | refine c_then ?_ | ((apply st hF); (first | exact d_move | exact d_loadAgg (agg _ rfl) (isz _ _ rfl) rfl (cells_at hg3)); clear hF; clear a; intro a hF))
    refine st_pushS hF (us := (Sig.cells (ps[k].1.cp ag cap)).toArray) (und _ _ rfl) inf38 rfl (by decide) (by decide) rfl (sig_cells _) hown3 (by omega) (by unfold maxLen; omega) hB3.size (k := fun a ao2 cap2 w4 hown4 hgr4 hat hF => ?_)
    have hB4 := below_own hB3 hB3.size hown3 hgr4
    repeat (first | refine c_region _ ?_ | refine wpList_nil ?_ | refine c_then ?_ | refine c_in ?_ | ((apply st hF); (first | exact d_move | exact d_assign | exact d_add); clear hF; clear a; intro a hF))
    refine ⟨ps.length - (k + 1), by omega, k + 1, ao2, cap2, ls ++ [ps[k].1.cp ag cap], by omega, rfl, hao.symm ▸ hF.keep' ⟨rfl, rfl, rfl, trivial⟩, by simp [hll], by simpa using hown4, fun i hi => ?_, hB4⟩
    by_cases hik : i < k
    · obtain ⟨p, g', c', h1, h2, h3⟩ := (hok3 i hik).keptO hown3 (by decide) hgr4
      exact ⟨p, g', c', h1, by rw [List.getElem?_append_left (by omega)]; exact h2, h3⟩
    · obtain rfl : i = k := by omega
      exact ⟨ps[i], ag, cap, by simp [hlt], by rw [List.getElem?_append_right (by omega), hll]; simp, own_keptO hl3 hown3 (by decide) hgr4⟩
  · obtain rfl : k = ps.length := by omega
    repeat (first | refine c_seq ?_ | refine c_region _ ?_ | refine wpList_nil ?_ | refine c_then ?_ | refine c_then_exit ?_ | refine c_in_hit ?_ | refine wp_exit ?_ | refine wp_ret ?_ | ((apply st hF); (first | exact d_move | exact d_assign | exact d_cmpF | exact d_len (und _ _ rfl)); clear hF; clear a; intro a hF) | (apply c_cond_f hF; exact rfl; first | exact rfl | assumption))
    exact ret1 hF rfl rfl ⟨ao', cap', ls, rfl, ⟨hll, hown, hok⟩, hbel⟩
def Msg.cp (m : Msg) (ao : Option Addr) (c : Nat) : Msg := { m with sg := ao, sgC := c }
set_option maxHeartbeats 4000000 in
theorem copy_message (w : World) (m : Msg) (ps : List SigT) (hs : MsgIn w m ps) :
    Ret Tryd.prog 12 [.agg (Msg.cells m).toArray].toArray w (fun v w' => ∃ ao cap ls, v = .agg (Msg.cells (m.cp ao cap)).toArray ∧ CopyS w.heap.size w' ao cap ps ls ∧ Below w.heap.size w w') := by
  have hlen := hs.len
  refine enter1 Tryd.func12 rfl 9 rfl 10 rfl (fun a hF => ?_)
  repeat (first | refine c_seq ?_ | refine c_region _ ?_)
  refine st_box hF (cs := (Msg.cells m).toArray) rfl (k := fun a w1 hg1 hgr1 hsz1 hF => ?_)
  refine st_alloc hF inf27 (k := fun a w2 hg2 hgr2 hsz2 hF => ?_)
  have hb2 : Below w.heap.size w w2 := ((Below.refl _ w).grown hgr1 (Nat.le_refl _) (fun k hk => by cases hk)).grown hgr2 (by omega) (fun k hk => by cases hk)
  have hg12 := blk_kept hg1 hgr2 (by simp)
  repeat (first | refine c_seq ?_ | refine c_region _ ?_ | refine wpList_nil ?_ | refine c_then ?_ | ((apply st hF); (exact d_loadAgg (agg _ rfl) (isz _ _ rfl) rfl (cells_at hg12)); clear hF; clear a; intro a hF))
  refine st_alloc hF inf27 (k := fun a w3 hg3 hgr3 hsz3 hF => ?_)
  have hb3 : Below w.heap.size w w3 := hb2.grown hgr3 (by omega) (fun k hk => by cases hk)
  have hg13 := blk_kept hg12 hgr3 (by simp)
  have hg23 := blk_kept hg2 hgr3 (by simp)
  refine st_storeAgg hF (cs := (Msg.cells m).toArray) (isz _ _ rfl) rfl rfl hg3 (msg_cells m) (k := fun a w4 hg4 hgr4 hsz4 hF => ?_)
  have hb4 : Below w.heap.size w w4 := hb3.grown hgr4 (by omega) (fun k hk => by cases hk; omega)
  have hg14 := blk_kept hg13 hgr4 (by simp; omega)
  have hg24 := blk_kept hg23 hgr4 (by simp; omega)
  have c7 := cell_at (i := 7) hg14 rfl
  repeat (first | refine c_seq ?_ | refine c_region _ ?_ | refine wpList_nil ?_ | refine c_then ?_ | ((apply st hF); (first | exact d_fieldAddr (fld _ _ _ _ rfl) (isz _ _ rfl) | exact d_load (und _ _ rfl) c7); clear hF; clear a; intro a hF))
  refine stc hF (copy_signals w4 ps m.sg _ m.sgC (SigsIn.below hs hb4)) cal36 ⟨rfl, trivial⟩ (k := fun a v w5 hR hF => ?_)
  obtain ⟨ao, cap, ls, rfl, hcs, hb5⟩ := hR
  have hb5' : Below w.heap.size w w5 := hb4.trans (hb5.mono (by omega))
  have hg15 : w5.heap[w.heap.size]? = _ := (hb5.block _ (lt_at hg14)).trans hg14
  have hg25 : w5.heap[w1.heap.size]? = _ := (hb5.block _ (lt_at hg24)).trans hg24
  have hg35 : w5.heap[w2.heap.size]? = _ := (hb5.block _ (lt_at hg4)).trans hg4
  have hz5 := hb5.size
  repeat (((apply st hF); (exact d_fieldAddr (fld _ _ _ _ rfl) (isz _ _ rfl)); clear hF; clear a; intro a hF))
  refine st_store hF (isz _ _ rfl) hg35 (i := 7) (by show 7 < 8; decide) rfl rfl rfl (k := fun a w6 hg6 hgr6 hsz6 hF => ?_)
  have hb6 : Below w.heap.size w w6 := hb5'.grown hgr6 (by omega) (fun k hk => by cases hk; omega)
  have hg26 := blk_kept hg25 hgr6 (by simp; omega)
  have hcs6 := hcs.keptB hgr6 (by omega)
  repeat (first | refine c_seq ?_ | refine c_region _ ?_ | refine wpList_nil ?_ | refine c_then ?_ | ((apply st hF); (exact d_loadAgg (agg _ rfl) (isz _ _ rfl) rfl (cells_at hg6)); clear hF; clear a; intro a hF))
  refine st_storeAgg hF (cs := (Msg.cells (m.cp ao cap)).toArray) (isz _ _ rfl) rfl rfl hg26 (msg_cells _) (k := fun a w7 hg7 hgr7 hsz7 hF => ?_)
  have hb7 : Below w.heap.size w w7 := hb6.grown hgr7 (by omega) (fun k hk => by cases hk; omega)
  have hcs7 := hcs6.keptB hgr7 (by omega)
  repeat (first | refine wpList_nil ?_ | refine c_then ?_ | refine wp_ret ?_)
  exact ret_c hF rfl (agg _ rfl) (isz _ _ rfl) hg7 rfl ⟨ao, cap, ls, rfl, hcs7.rebase (by omega), hb7⟩
end Go.Proofs.YtjomihhpglojpaaDoor
end
section
/- A store of a struct into a part of a block; signals whose places are set. -/
namespace Go.Proofs.YtjomihhpglojpaaDoor
open Go.RowKit
section
variable {P : Program} {ops : Array Oper} {Q : Exit → Act → World → Prop} {a : Act} {w w' : World} {rest : List Oper} {N : Nat} {l : List (Nat × Value)}
theorem st_storePart (h : Fr N l a) {x y : Operand} {g o : Nat} {cs c : Array Value} {e t ty : TypeId} {pos : String} {af : Array Edge} {n : Nat} (hs : (P.info? t).map (·.size) = some n) (hn : cs.size = n) (hc : o + n ≤ c.size) (hg : w.heap[g]? = some (.cells c e (0, 0))) (hv : ∀ v ∈ cs, v.oneCell' = true)
    (hx : Ev l x (.pointer (some ⟨g, o, none⟩)) := by exact rfl) (hy : Ev l y (.agg cs) := by exact rfl)
    (k : ∀ a' w', w'.heap[g]? = some (.cells (c.toList.take o ++ cs.toList ++ c.toList.drop (o + n)).toArray e (0, 0)) → w.grownBy w' (some g) → w'.heap.size = w.heap.size → Fr N l a' → wpList P ops Q rest a' w') :
    wpList P ops Q (⟨none, .store t x y, ty, pos, af, none⟩ :: rest) a w := by
  subst hn
  have hr := run_storeCells_at (P := P) g o e cs.toList 0 c w hg (by simp; omega) (by simpa using hv)
  refine st0 h (w' := w.setRow g (c.toList.take (o + 0) ++ cs.toList ++ c.toList.drop (o + 0 + cs.toList.length)).toArray) ?_ rfl fun a' hF => k a' _ ?_ ?_ (by simp [World.setRow]) hF
  · intro ρ hρ d pos af gd
    obtain ⟨ti, h1, h2⟩ := Option.map_eq_some_iff.1 hs
    have hcs : (Value.agg cs).cells = cs := rfl
    simp [execOp, Instr.storeAt, Instr.sureAddr, storeVar, hρ _ _ hx, hρ _ _ hy, sizeOf, typeInfo, h1, h2, hcs, hr]
  · rw [setRow_heap w g c _ e _ hg]
    simp
  · exact ⟨rfl, rfl, rfl, by simp [World.setRow], fun k hk hne => setRow_other w g k _ (by intro e; exact hne (by rw [e]))⟩
end
open Go.RowKit
set_option linter.unusedSimpArgs false
set_option linter.unusedVariables false
attribute [local irreducible] wpList wpQuiet wpStill Code.wp Exit.then Exit.inBlock bodyPost Calls Does Does0
def Sig.pl (s : Sig) (line col : Int) : Sig := { s with line := line, col := col }
end Go.Proofs.YtjomihhpglojpaaDoor
end
section
/- Copied signals, as a list. -/
namespace Go.Proofs.YtjomihhpglojpaaDoor
open Go.RowKit
set_option linter.unusedSimpArgs false
set_option linter.unusedVariables false
attribute [local irreducible] wpList wpQuiet wpStill Code.wp Exit.then Exit.inBlock bodyPost Calls Does Does0
set_option maxRecDepth 100000
/-- A row of signals of the call's own, each with its texts, is a list of signals. -/
theorem sigs_in {w : World} {base : Nat} {ao : Option Addr} {cap : Nat} {ls : List Sig} {ps : List SigT} (hl : ls.length = ps.length) (hown : w.ownsRow base 38 19 (.slice ao ps.length cap) ps.length (ls.flatMap Sig.cells))
    (ht : ∀ i, i < ps.length → SigIn w (ls.getD i sigM) (tx ps i)) (hby : ps.length * 176 ≤ 140737488351232) : SigsIn w ao ps.length cap (zipP ls ps) := by
  refine ⟨zipP_len hl, ?_, fun p hp => ?_, (own_cap' hown).1, hby⟩
  · rw [zipP_map hl]
    rcases Nat.eq_zero_or_pos ps.length with h0 | h0
    · intro i hi; omega
    · obtain ⟨g, rfl, _⟩ := own_some hown h0
      exact own_rdS sigc_len hown hl
  · obtain ⟨i, hi, rfl⟩ := List.getElem_of_mem hp
    have hi' : i < ps.length := by rw [zipP_len hl] at hi; exact hi
    have h1 := zipP_sg hl hi'
    have h2 := zipP_tx hl hi'
    rw [sg_lt hi] at h1
    rw [tx_lt hi] at h2
    rw [h1, h2]
    exact ht i hi'
/-- A copied signal. -/
theorem copy_sig {base : Nat} {w : World} {ps : List SigT} {ls : List Sig} {i : Nat} (hi : i < ps.length) (h : CopyOk base w ps ls i) (hs : SigIn w (sg ps i) (tx ps i)) : ∃ ao c, ls.getD i sigM = (sg ps i).cp ao c ∧ CopyT base w ao (sg ps i).toN c (tx ps i) ∧ SigIn w ((sg ps i).cp ao c) (tx ps i) := by
  obtain ⟨p, ao, c, h1, h2, h3⟩ := h
  have e : ps[i] = p := by rw [List.getElem?_eq_getElem hi] at h1; exact Option.some.inj h1
  rw [sg_lt hi, tx_lt hi] at *
  subst e
  have e2 := own_rd h3
  exact ⟨ao, c, by simp [List.getD, h2], h3, ⟨hs.len, e2.2, (own_cap' h3).1, hs.bytes⟩⟩
theorem sigB_cp {s : Sig} (h : SigB s) (ao : Option Addr) (c : Nat) : SigB (s.cp ao c) := ⟨h.sn, h.sd, h.fn, h.fd, h.mn, h.md, h.xn, h.xd, h.br⟩
theorem same_cp (s : Sig) (ao : Option Addr) (c : Nat) : SameSig (s.cp ao c) s := ⟨rfl, rfl, rfl, rfl, rfl, rfl, rfl, ⟨rfl, rfl, rfl, rfl, rfl, rfl, rfl, rfl⟩, rfl⟩
end Go.Proofs.YtjomihhpglojpaaDoor
end
section
/- Calls with what they answer named; a name of three letters. -/
namespace Go.Proofs.YtjomihhpglojpaaDoor
open Go.RowKit
set_option linter.unusedSimpArgs false
set_option linter.unusedVariables false
attribute [local irreducible] wpList wpQuiet wpStill Code.wp Exit.then Exit.inBlock bodyPost Calls Does Does0
set_option maxRecDepth 100000
theorem csig_0 (w : World) (s : Sig) (ss : List ByteArray) (n : Int) (hs : SigIn w s ss) (hB : SigB s) (hT : Tabs w) (h : aloneE s ss n = 0) :
    Ret Tryd.prog 18 [.agg (Sig.cells s).toArray, .int .i64 n].toArray w (fun v w' => v = .nilIface ∧ Below w.heap.size w w') := by
  refine (csig_ok w s ss n hs.len hs.rd hB hT).mono fun v w' hv => ?_
  obtain ⟨rfl, hb⟩ := hv
  rw [h]
  exact ⟨if_pos rfl, hb⟩
theorem csig_k (w : World) (s : Sig) (ss : List ByteArray) (n k : Int) (hs : SigIn w s ss) (hB : SigB s) (hT : Tabs w) (h : aloneE s ss n = k) (hk : k ≠ 0) :
    Ret Tryd.prog 18 [.agg (Sig.cells s).toArray, .int .i64 n].toArray w (fun v w' => v = fltV k s.line s.col ∧ Below w.heap.size w w') := by
  refine (csig_ok w s ss n hs.len hs.rd hB hT).mono fun v w' hv => ?_
  obtain ⟨rfl, hb⟩ := hv
  rw [h]
  exact ⟨if_neg hk, hb⟩
theorem cmsg_0 (w : World) (m : Msg) (ps : List SigT) (hin : MsgIn w m ps) (hB : ∀ p ∈ ps, SigB p.1) (hT : Tabs w) (o : Option Nat) (h : msgE m ps = (0, o)) :
    Ret Tryd.prog 10 [.agg (Msg.cells m).toArray].toArray w (fun v w' => v = .nilIface ∧ Below w.heap.size w w') := by
  refine (cmsg_ok w m ps hin hB hT).mono fun v w' hv => ?_
  obtain ⟨rfl, hb⟩ := hv
  rw [h]
  exact ⟨if_pos rfl, hb⟩
theorem cmsg_k (w : World) (m : Msg) (ps : List SigT) (hin : MsgIn w m ps) (hB : ∀ p ∈ ps, SigB p.1) (hT : Tabs w) (k : Int) (o : Option Nat) (h : msgE m ps = (k, o)) (hk : k ≠ 0) :
    Ret Tryd.prog 10 [.agg (Msg.cells m).toArray].toArray w (fun v w' => v = fltV k (placeL m ps o) (placeC m ps o) ∧ Below w.heap.size w w') := by
  refine (cmsg_ok w m ps hin hB hT).mono fun v w' hv => ?_
  obtain ⟨rfl, hb⟩ := hv
  rw [h]
  exact ⟨if_neg hk, hb⟩
theorem cdb_0 (w : World) (d : Db) (ss : List ByteArray) (ms : List MsgT) (ts : List TabT) (hin : DbIn w d ss ms ts) (hT : Tabs w) (h : dbE d ss ms ts = okE) :
    Ret Tryd.prog 21 [.agg (Db.cells d).toArray].toArray w (fun v w' => v = .nilIface ∧ Below w.heap.size w w') := by
  refine (cdb_ok w d ss ms ts hin hT).mono fun v w' hv => ?_
  obtain ⟨rfl, hb⟩ := hv
  rw [h]
  exact ⟨if_pos rfl, hb⟩
theorem cdb_k (w : World) (d : Db) (ss : List ByteArray) (ms : List MsgT) (ts : List TabT) (hin : DbIn w d ss ms ts) (hT : Tabs w) (k x y : Int) (h : dbE d ss ms ts = (k, x, y)) (hk : k ≠ 0) :
    Ret Tryd.prog 21 [.agg (Db.cells d).toArray].toArray w (fun v w' => v = fltV k x y ∧ Below w.heap.size w w') := by
  refine (cdb_ok w d ss ms ts hin hT).mono fun v w' hv => ?_
  obtain ⟨rfl, hb⟩ := hv
  rw [h]
  exact ⟨if_neg hk, hb⟩
theorem no_is (w : World) (k x y : Int) (h1 : 1 ≤ k) (h2 : k ≤ 26) : Ret Tryd.prog 57 [fltV k x y, .int .i64 k].toArray w (fun v w' => v = .bool true ∧ Below w.heap.size w w') := by
  refine enter2 Tryd.func57 rfl 7 rfl 9 rfl (fun a hF => ?_)
  repeat (first | refine c_seq ?_ | refine c_region _ ?_ | refine wpList_nil ?_ | refine c_then ?_ | ((apply st hF); (first | exact d_move | exact d_assign); clear hF; clear a; intro a hF))
  refine stc hF (num_f w k x y h1 h2) cal13 ⟨rfl, trivial⟩ (k := fun a v w1 hR hF => ?_)
  obtain ⟨rfl, hb1⟩ := hR
  repeat (first | refine wpList_nil ?_ | refine c_then ?_ | refine wp_ret ?_ | ((apply st hF); (first | exact d_move | exact d_assign | exact d_cmpT); clear hF; clear a; intro a hF))
  exact ret1 hF rfl rfl ⟨rfl, hb1⟩
theorem no_nil (w : World) : Ret Tryd.prog 57 [.nilIface, .int .i64 0].toArray w (fun v w' => v = .bool true ∧ Below w.heap.size w w') := by
  refine enter2 Tryd.func57 rfl 7 rfl 9 rfl (fun a hF => ?_)
  repeat (first | refine c_seq ?_ | refine c_region _ ?_ | refine wpList_nil ?_ | refine c_then ?_ | ((apply st hF); (first | exact d_move | exact d_assign); clear hF; clear a; intro a hF))
  refine stc hF (num_nil w) cal13 ⟨rfl, trivial⟩ (k := fun a v w1 hR hF => ?_)
  obtain ⟨rfl, rfl⟩ := hR
  repeat (first | refine wpList_nil ?_ | refine c_then ?_ | refine wp_ret ?_ | ((apply st hF); (first | exact d_move | exact d_assign | exact d_cmpT); clear hF; clear a; intro a hF))
  exact ret1 hF rfl rfl ⟨rfl, Below.refl _ _⟩
def nmI (i : Nat) : List Int := [IntKind.u8.wrap (97 + (i : Int) / 26 % 26), IntKind.u8.wrap (97 + (i : Int) % 26), IntKind.u8.wrap (97 + (i : Int) / 676)]
def nmB (i : Nat) : ByteArray := strOfNums (nmI i)
set_option maxHeartbeats 2000000 in
theorem named_ok (w : World) (i : Nat) (hi : i < 1000) : Ret Tryd.prog 58 #[.int .i64 (i : Int)] w (fun v w' => v = .string (nmB i) ∧ Below w.heap.size w w') := by
  refine enter1 Tryd.func58 rfl 17 rfl 18 rfl (fun a hF => ?_)
  repeat (first | refine c_seq ?_ | refine c_region _ ?_ | refine wpList_nil ?_ | refine c_then ?_ | ((apply st hF); (first | exact d_move | exact d_assign | exact d_add | exact d_quo | exact d_rem | exact d_convI (und _ _ rfl) (und _ _ rfl)); clear hF; clear a; intro a hF))
  refine st hF (d_buildS (z := .int .u8 0) (by_ := 1) (und _ _ rfl) inf5 rfl (by omega) (by omega) (vs := [(0, .int .u8 (IntKind.u8.wrap (97 + (i : Int) / 26 % 26))), (1, .int .u8 (IntKind.u8.wrap (97 + (i : Int) % 26))), (2, .int .u8 (IntKind.u8.wrap (97 + (i : Int) / 676)))]) (cells := ((nmI i).map (Value.int .u8)).toArray) (by rfl) ⟨rfl, rfl, rfl, rfl, rfl, rfl, trivial⟩) (k := fun a hF => ?_)
  have hg1 : (w.alloc (.cells ((nmI i).map (Value.int .u8)).toArray 5)).heap[w.heap.size]? = some (.cells ((nmI i).map (Value.int .u8)).toArray 5 (0, 0)) := heap_alloc_new w _
  have hgr1 : w.grownBy (w.alloc (.cells ((nmI i).map (Value.int .u8)).toArray 5)) none := World.grownBy_alloc _ _ _
  generalize w.alloc (.cells ((nmI i).map (Value.int .u8)).toArray 5) = w1 at *
  have hb1 : Below w.heap.size w w1 := (Below.refl _ w).grown hgr1 (Nat.le_refl _) (fun k hk => by cases hk)
  have hcell : ∀ j, j < 3 → w1.cell? ⟨w.heap.size, 0 + j, none⟩ = some (.int .u8 ((nmI i).getD j 0)) := by
    intro j hj
    refine cell_at hg1 ?_
    rw [Nat.zero_add]
    rcases (show j = 0 ∨ j = 1 ∨ j = 2 by omega) with rfl | rfl | rfl <;> rfl
  repeat (first | refine wpList_nil ?_ | refine c_then ?_ | refine wp_ret ?_ | ((apply st hF); (first | exact d_assign | exact d_convBS (nmI i) (und _ _ rfl) (und _ _ rfl) (und _ _ rfl) rfl hcell); clear hF; clear a; intro a hF))
  exact ret1 hF rfl rfl ⟨rfl, hb1⟩
theorem nm_word : ∀ i, i < 513 → wordB (nmB i) = true := by
  have h : (List.range 513).all (fun i => wordB (nmB i)) = true := by kernel_rfl
  intro i hi
  exact List.all_eq_true.1 h i (List.mem_range.2 hi)
theorem textE_short {s : ByteArray} (n : Nat) (hz : s.size ≤ 1024) (hn : s.size ≤ (uSt s n).1) (h : (List.range n).all (fun k => decide (illB s (uSt s k).1 = false ∧ ctl (uR s k) = false)) = true) : textE s = 0 := by
  unfold textE
  rw [if_neg (by omega), if_pos]
  intro k hk
  by_cases hkn : k < n
  · exact of_decide_eq_true (List.all_eq_true.1 h k (List.mem_range.2 hkn))
  · have := uMono s n (k - n)
    rw [Nat.add_sub_cancel' (by omega)] at this
    omega
theorem textE_off : textE ⟨#[111, 102, 102]⟩ = 0 := textE_short 3 (by decide) (of_decide_eq_true (by kernel_rfl)) (by kernel_rfl)
theorem textE_on : textE ⟨#[111, 110]⟩ = 0 := textE_short 2 (by decide) (of_decide_eq_true (by kernel_rfl)) (by kernel_rfl)
end Go.Proofs.YtjomihhpglojpaaDoor
end
