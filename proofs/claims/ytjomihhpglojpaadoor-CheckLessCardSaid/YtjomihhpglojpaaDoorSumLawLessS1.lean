/- Laid together by a program of mine: Door2 MsgB CopyW. -/
import Derived.Test.YtjomihhpglojpaaDoorSumBOneW10
import Derived.Test.YtjomihhpglojpaaDoorSumBOneW25
import Derived.Test.YtjomihhpglojpaaDoorSumBOneW22
import Derived.Test.YtjomihhpglojpaaDoorSumBOneW23
set_option linter.unusedSimpArgs false
set_option linter.unusedVariables false
section
/- The condition of CharsNamed: utf8's two tables; a world that meets it. -/
namespace Go.Proofs.YtjomihhpglojpaaDoor
open Go.ChangeShapes Go.WideShapes Go.RowKit Go.Shelf
theorem laid2_parts {W : World} (h : laidMetH Tryd.prog tabs2 W) : laidMet Tryd.prog tabs2 W := h
theorem tabs_of_laid2 {W : World} (h : laidMetH Tryd.prog tabs2 W) : Tabs W := by
  have h2 := laid2_parts h
  unfold tabs2 at h2
  rw [acc_eq, fst_eq] at h2
  exact utf8Tabs_of_readsT (U8Types.of196 Tryd.lays196) ⟨by kernel_rfl, by kernel_rfl, by kernel_rfl, by kernel_rfl, by kernel_rfl, by kernel_rfl, by kernel_rfl⟩ (Lib.laidMet.reads h2 (.tail _ (.head _))) (Lib.laidMet.reads h2 (.head _))
theorem laidWorld2_met (os : Os) (args : Array Value) : laidMetH Tryd.prog tabs2 ((laidWorld3 os).forCall (fun _ _ => 0) ⟨#[], args, []⟩).memory := by
  show laidMet Tryd.prog tabs2 _
  exact (LaidIn.of_run (l := tabs2) [2, 1] 8 (by kernel_rfl) (by kernel_rfl) (by kernel_rfl) (by kernel_rfl)).met
end Go.Proofs.YtjomihhpglojpaaDoor
end
section
/- A message as it is handed in, with what its numbers stay within. -/
namespace Go.Proofs.YtjomihhpglojpaaDoor
open Go.RowKit
set_option linter.unusedSimpArgs false
set_option linter.unusedVariables false
attribute [local irreducible] wpList wpQuiet wpStill Code.wp Exit.then Exit.inBlock bodyPost Calls Does Does0
open Go.ChangeShapes Go.WideShapes

theorem by_sig : Tryd.prog.bytesOf 38 = 176 := by kernel_rfl
theorem sz_msg : Tryd.prog.cellsOf 27 = 8 := by kernel_rfl
theorem sz_u32 : Tryd.prog.cellsOf 24 = 1 := by kernel_rfl
theorem sz_sigs : Tryd.prog.cellsOf 25 = 1 := by kernel_rfl
theorem sigs_of {H : Type} {enc : TypeId × Value → H} {w : World} {cs : List Value} (h : Rdw enc Tryd.prog w 25 cs) : ∃ ao n c ps, cs = [.slice ao n c] ∧ SigsIn w ao n c ps ∧ ∀ p ∈ ps, SigB p.1 := by
  obtain ⟨ao, len, cap, rfl, hl, hm, hby, hel⟩ := h.slice (und _ _ rfl) (by rw [sz_sig]; decide)
  rw [by_sig] at hby
  have key : ∀ n, n ≤ len → ∃ ps : List SigT, ps.length = n ∧ RdS w ao 19 Sig.cells (ps.map (·.1)) ∧ ∀ p ∈ ps, SigIn w p.1 p.2 ∧ SigB p.1 := by
    intro n
    induction n with
    | zero => intro _; exact ⟨[], rfl, fun i hi => absurd hi (Nat.not_lt_zero _), by simp⟩
    | succ n ih =>
      intro hn
      obtain ⟨ps, hsl, hrd, hin⟩ := ih (by omega)
      obtain ⟨b, o, cs', hao, hcl, hq, hr⟩ := hel n (by omega)
      obtain ⟨s, ss, rfl, hs⟩ := sig_of hr
      have hsb := sig_bnd hr
      rw [sz_sig] at hq
      refine ⟨ps ++ [(s, ss)], by simp [hsl], fun i hi => ?_, fun x hx => ?_⟩
      · by_cases hin : i < n
        · obtain ⟨b', o', e1, e2⟩ := hrd i (by simp; omega)
          refine ⟨b', o', e1, ?_⟩
          have e3 : (List.map (·.1) (ps ++ [(s, ss)]))[i]'hi = (List.map (·.1) ps)[i]'(by simp; omega) := by
            simp only [List.map_append]
            rw [List.getElem_append_left (by simp; omega)]
          rw [e3]
          exact e2
        · have : i = n := by simp at hi; omega
          subst this
          refine ⟨b, o, hao, fun q v hv => ?_⟩
          have e3 : (List.map (·.1) (ps ++ [(s, ss)]))[i]'hi = s := by
            simp only [List.map_append]
            rw [List.getElem_append_right (by simp; omega)]
            simp [hsl]
          rw [e3] at hv
          have hlt : q < 19 := by
            have := (List.getElem?_eq_some_iff.1 hv).1
            rw [sigc_len] at this; exact this
          rw [hq q hlt]
          exact hv
      · rcases List.mem_append.1 hx with hx | hx
        · exact hin x hx
        · simp at hx; subst hx; exact ⟨hs, hsb⟩
  obtain ⟨ps, h1, h2, h3⟩ := key len (Nat.le_refl _)
  exact ⟨ao, len, cap, ps, rfl, ⟨h1, h2, fun p hp => (h3 p hp).1, hl, Nat.le_trans (Nat.mul_le_mul_right _ hl) hby⟩, fun p hp => (h3 p hp).2⟩

theorem wf_u32' {x : Int} (h : (Lit.int .u32 x).wf = true) : 0 ≤ x ∧ x < 4294967296 := by
  have h1 : IntKind.u32.min ≤ x ∧ x ≤ IntKind.u32.max := by simpa [Lit.wf] using h
  rw [show IntKind.u32.min = 0 by decide, show IntKind.u32.max = 4294967295 by decide] at h1
  exact ⟨h1.1, by omega⟩
theorem msg_of {H : Type} {enc : TypeId × Value → H} {w : World} {cs : List Value} (h : Rdw enc Tryd.prog w 27 cs) : ∃ m ps, cs = Msg.cells m ∧ MsgIn w m ps ∧ (∀ p ∈ ps, SigB p.1) ∧ 0 ≤ m.id ∧ m.id < 4294967296 := by
  have hl := h.rds.len (fld _ 0 _ _ rfl)
  rw [sz_msg] at hl
  obtain ⟨a0, a1, a2, a3, a4, a5, a6, a7, rfl⟩ : ∃ a0 a1 a2 a3 a4 a5 a6 a7, cs = [a0, a1, a2, a3, a4, a5, a6, a7] := by
    rcases cs with _ | ⟨a0, _ | ⟨a1, _ | ⟨a2, _ | ⟨a3, _ | ⟨a4, _ | ⟨a5, _ | ⟨a6, _ | ⟨a7, _ | ⟨a8, r⟩⟩⟩⟩⟩⟩⟩⟩⟩ <;> simp at hl
    exact ⟨_, _, _, _, _, _, _, _, rfl⟩
  have k0 := h.fld (fld _ 0 _ _ rfl); rw [sz_place] at k0
  have k1 := h.fld (fld _ 1 _ _ rfl); rw [sz_u32] at k1
  have k2 := h.fld (fld _ 2 _ _ rfl); rw [sz_bool] at k2
  have k3 := h.fld (fld _ 3 _ _ rfl); rw [sz_string] at k3
  have k4 := h.fld (fld _ 4 _ _ rfl); rw [sz_int] at k4
  have k5 := h.fld (fld _ 5 _ _ rfl); rw [sz_string] at k5
  have k6 := h.fld (fld _ 6 _ _ rfl); rw [sz_sigs] at k6
  have p0 := k0.fld (fld _ 0 _ _ rfl); rw [sz_int] at p0
  have p1 := k0.fld (fld _ 1 _ _ rfl); rw [sz_int] at p1
  obtain ⟨i0, e0, _⟩ := p0.rds.int (und _ _ rfl)
  obtain ⟨i1, e1, _⟩ := p1.rds.int (und _ _ rfl)
  obtain ⟨i2, e2, hw2⟩ := Rds.int k1.rds (und _ _ rfl)
  obtain ⟨i3, e3⟩ := Rds.bool k2.rds (und _ _ rfl)
  obtain ⟨i4, e4, _⟩ := Rds.string k3.rds (und _ _ rfl)
  obtain ⟨i5, e5, _⟩ := Rds.int k4.rds (und _ _ rfl)
  obtain ⟨i6, e6, _⟩ := Rds.string k5.rds (und _ _ rfl)
  obtain ⟨ao, n, c, ps, e7, hs, hsb⟩ := sigs_of k6
  simp only [List.drop_succ_cons, List.drop_zero, List.take_succ_cons, List.take_zero, List.cons.injEq, and_true] at e0 e1 e2 e3 e4 e5 e6 e7
  subst e0; subst e1; subst e2; subst e3; subst e4; subst e5; subst e6; subst e7
  exact ⟨⟨i0, i1, i2, i3, i4, i5, i6, ao, n, c⟩, ps, rfl, hs, hsb, wf_u32' hw2⟩
end Go.Proofs.YtjomihhpglojpaaDoor
end
section
/- Copies of texts, signals and messages, walked. -/
namespace Go.Proofs.YtjomihhpglojpaaDoor
open Go.RowKit
set_option linter.unusedSimpArgs false
set_option linter.unusedVariables false
attribute [local irreducible] wpList wpQuiet wpStill Code.wp Exit.then Exit.inBlock bodyPost Calls Does Does0
set_option maxRecDepth 100000
theorem own_geC {w : World} {base : Nat} {e : TypeId} {s n : Nat} {v : Value} {xs : List Value} (h : w.ownsRow base e s v n xs) {b : Nat} (hb : v.ownBlock = some b) : base ≤ b ∧ b < w.heap.size := by
  refine ⟨?_, (h.lt _ hb).2⟩
  rcases h.2 with ⟨rfl, _⟩ | ⟨g', cap', cur, rfl, h1, _⟩
  · cases hb
  · cases hb; exact h1
def CopyT (base : Nat) (w : World) (ao : Option Addr) (n c : Nat) (ss : List ByteArray) : Prop := w.ownsRow base 9 1 (.slice ao n c) n (ss.map .string)
def Sig.cp (s : Sig) (ao : Option Addr) (c : Nat) : Sig := { s with toA := ao, toC := c }
set_option maxHeartbeats 4000000 in
theorem copy_texts (w : World) (xs : List ByteArray) (ao : Option Addr) (n c : Nat) (hn : xs.length = n) (hR : Rd w ao .string xs) (hb : n * 16 ≤ 140737488351232) :
    Ret Tryd.prog 59 [.slice ao n c].toArray w (fun v w' => ∃ ao' c', v = .slice ao' n c' ∧ CopyT w.heap.size w' ao' n c' xs ∧ Below w.heap.size w w') := by
  subst hn
  refine enter1 Tryd.func59 rfl 18 rfl 19 rfl (fun a hF => ?_)
  repeat (first | refine c_seq ?_ | refine c_block ?_ | refine c_region _ ?_ | refine wpList_nil ?_ | refine c_then ?_ | refine c_then_exit ?_ | refine c_then_ret ?_ | refine c_in ?_ | refine c_in_ret ?_ | refine c_in_hit ?_ | refine wp_skip ?_ | refine wp_exit ?_ | refine wp_ret ?_ | refine c_in_miss rfl ?_ | ((first | apply st hF | apply stg hF | apply s_step hF | apply s_stg hF); (first | exact d_move | exact d_assign | exact d_add | exact d_cmpT | exact d_cmpF | exact d_cmp | exact d_len (und _ _ rfl) | exact d_lens (und _ _ rfl) | exact d_indexAddr1 (und _ _ rfl) (isz _ _ rfl)); clear hF; clear a; intro a hF) | ((first | apply stm hF | apply stu hF); clear hF; clear a; intro a hF) | (apply c_cond_t hF; exact rfl; first | exact rfl | assumption) | (apply c_cond_f hF; exact rfl; first | exact rfl | assumption) | refine s_nil ?_)
  refine c_loop (fun q a wr => ∃ k ao' cap', k ≤ xs.length ∧ q = xs.length - k ∧ Fr 19 [(0, .slice ao xs.length c), (3, .slice ao' k cap'), (4, .int .i64 (k : Nat))] a ∧
    CopyT w.heap.size wr ao' k cap' (xs.take k) ∧ Below w.heap.size w wr) xs.length
    ⟨0, none, 0, by omega, rfl, hF.keep' ⟨rfl, rfl, rfl, trivial⟩, World.ownsRow_nil _ _ _ _, Below.refl _ _⟩ ?_
  clear hF a
  rintro q a wr ⟨k, ao', cap', hk, rfl, hF, hown, hbel⟩
  have hsz := hbel.size
  by_cases hlt : k < xs.length
  · obtain ⟨b, o, hao, hc⟩ := hR k hlt
    replace hc : wr.cell? ⟨b, o + k, none⟩ = some (.string xs[k]) := (hbel.cell (p := ⟨b, o + k, none⟩) (World.block_lt_of_cell? w _ hc)).trans hc
    rw [hao] at hF
    repeat (first | refine c_seq ?_ | refine c_block ?_ | refine c_region _ ?_ | refine wpList_nil ?_ | refine c_then ?_ | refine c_then_exit ?_ | refine c_then_ret ?_ | refine c_in ?_ | refine c_in_ret ?_ | refine c_in_hit ?_ | refine wp_skip ?_ | refine wp_exit ?_ | refine wp_ret ?_ | refine c_in_miss rfl ?_ | ((first | apply st hF | apply stg hF | apply s_step hF | apply s_stg hF); (first | exact d_move | exact d_assign | exact d_add | exact d_cmpT | exact d_cmpF | exact d_cmp | exact d_len (und _ _ rfl) | exact d_lens (und _ _ rfl) | exact d_indexAddr1 (und _ _ rfl) (isz _ _ rfl) | exact d_indexAddr1 (und _ _ rfl) (isz _ _ rfl) (j := k) | exact d_load (und _ _ rfl) hc); clear hF; clear a; intro a hF) | ((first | apply stm hF | apply stu hF); clear hF; clear a; intro a hF) | (apply c_cond_t hF; exact rfl; first | exact rfl | assumption) | (apply c_cond_f hF; exact rfl; first | exact rfl | assumption) | refine s_nil ?_)
    refine st_push hF (und _ _ rfl) inf9 rfl hown (by omega) (by unfold maxLen; omega) hsz (k := fun a ao2 cap2 w2 hown2 hgr hF => ?_)
    have hb2 := below_own hbel hsz hown hgr
    repeat (first | refine c_seq ?_ | refine c_block ?_ | refine c_region _ ?_ | refine wpList_nil ?_ | refine c_then ?_ | refine c_then_exit ?_ | refine c_then_ret ?_ | refine c_in ?_ | refine c_in_ret ?_ | refine c_in_hit ?_ | refine wp_skip ?_ | refine wp_exit ?_ | refine wp_ret ?_ | refine c_in_miss rfl ?_ | ((first | apply st hF | apply stg hF | apply s_step hF | apply s_stg hF); (first | exact d_move | exact d_assign | exact d_add | exact d_cmpT | exact d_cmpF | exact d_cmp | exact d_len (und _ _ rfl) | exact d_lens (und _ _ rfl) | exact d_indexAddr1 (und _ _ rfl) (isz _ _ rfl)); clear hF; clear a; intro a hF) | ((first | apply stm hF | apply stu hF); clear hF; clear a; intro a hF) | (apply c_cond_t hF; exact rfl; first | exact rfl | assumption) | (apply c_cond_f hF; exact rfl; first | exact rfl | assumption) | refine s_nil ?_)
    refine ⟨xs.length - (k + 1), by omega, k + 1, ao2, cap2, by omega, rfl, hao.symm ▸ hF.keep' ⟨rfl, rfl, rfl, trivial⟩, ?_, hb2⟩
    unfold CopyT
    rw [List.take_succ_eq_append_getElem hlt, List.map_append]
    exact hown2
  · obtain rfl : k = xs.length := by omega
    repeat (first | refine c_seq ?_ | refine c_block ?_ | refine c_region _ ?_ | refine wpList_nil ?_ | refine c_then ?_ | refine c_then_exit ?_ | refine c_then_ret ?_ | refine c_in ?_ | refine c_in_ret ?_ | refine c_in_hit ?_ | refine wp_skip ?_ | refine wp_exit ?_ | refine wp_ret ?_ | refine c_in_miss rfl ?_ | ((first | apply st hF | apply stg hF | apply s_step hF | apply s_stg hF); (first | exact d_move | exact d_assign | exact d_add | exact d_cmpT | exact d_cmpF | exact d_cmp | exact d_len (und _ _ rfl) | exact d_lens (und _ _ rfl) | exact d_indexAddr1 (und _ _ rfl) (isz _ _ rfl)); clear hF; clear a; intro a hF) | ((first | apply stm hF | apply stu hF); clear hF; clear a; intro a hF) | (apply c_cond_t hF; exact rfl; first | exact rfl | assumption) | (apply c_cond_f hF; exact rfl; first | exact rfl | assumption) | refine s_nil ?_)
    rw [List.take_length] at hown
    exact ret1 hF rfl rfl ⟨ao', cap', rfl, hown, hbel⟩
set_option maxHeartbeats 4000000 in
theorem copy_signal (w : World) (s : Sig) (ss : List ByteArray) (hs : SigIn w s ss) :
    Ret Tryd.prog 62 [.agg (Sig.cells s).toArray].toArray w (fun v w' => ∃ ao c, v = .agg (Sig.cells (s.cp ao c)).toArray ∧ CopyT w.heap.size w' ao s.toN c ss ∧ Below w.heap.size w w') := by
  refine enter1 Tryd.func62 rfl 9 rfl 10 rfl (fun a hF => ?_)
  repeat (first | refine c_seq ?_ | refine c_block ?_ | refine c_region _ ?_ | refine wpList_nil ?_ | refine c_then ?_ | refine c_then_exit ?_ | refine c_then_ret ?_ | refine c_in ?_ | refine c_in_ret ?_ | refine c_in_hit ?_ | refine wp_skip ?_ | refine wp_exit ?_ | refine wp_ret ?_ | refine c_in_miss rfl ?_ | ((first | apply st hF | apply stg hF | apply s_step hF | apply s_stg hF); (first | exact d_fieldAddr (fld _ _ _ _ rfl) (isz _ _ rfl)); clear hF; clear a; intro a hF) | ((first | apply stm hF | apply stu hF); clear hF; clear a; intro a hF) | (apply c_cond_t hF; exact rfl; first | exact rfl | assumption) | (apply c_cond_f hF; exact rfl; first | exact rfl | assumption) | refine s_nil ?_)
  refine st_box hF (cs := (Sig.cells s).toArray) rfl (k := fun a w1 hg1 hgr1 hsz1 hF => ?_)
  refine st_alloc hF inf38 (k := fun a w2 hg2 hgr2 hsz2 hF => ?_)
  have hb2 : Below w.heap.size w w2 := ((Below.refl _ w).grown hgr1 (Nat.le_refl _) (fun k hk => by cases hk)).grown hgr2 (by omega) (fun k hk => by cases hk)
  have hg12 := blk_kept hg1 hgr2 (by simp)
  repeat (first | refine c_seq ?_ | refine c_block ?_ | refine c_region _ ?_ | refine wpList_nil ?_ | refine c_then ?_ | refine c_then_exit ?_ | refine c_then_ret ?_ | refine c_in ?_ | refine c_in_ret ?_ | refine c_in_hit ?_ | refine wp_skip ?_ | refine wp_exit ?_ | refine wp_ret ?_ | refine c_in_miss rfl ?_ | ((first | apply st hF | apply stg hF | apply s_step hF | apply s_stg hF); (first | exact d_fieldAddr (fld _ _ _ _ rfl) (isz _ _ rfl) | exact d_loadAgg (agg _ rfl) (isz _ _ rfl) rfl (cells_at hg12)); clear hF; clear a; intro a hF) | ((first | apply stm hF | apply stu hF); clear hF; clear a; intro a hF) | (apply c_cond_t hF; exact rfl; first | exact rfl | assumption) | (apply c_cond_f hF; exact rfl; first | exact rfl | assumption) | refine s_nil ?_)
  refine st_alloc hF inf38 (k := fun a w3 hg3 hgr3 hsz3 hF => ?_)
  have hb3 : Below w.heap.size w w3 := hb2.grown hgr3 (by omega) (fun k hk => by cases hk)
  have hg13 := blk_kept hg12 hgr3 (by simp)
  have hg23 := blk_kept hg2 hgr3 (by simp)
  refine st_storeAgg hF (cs := (Sig.cells s).toArray) (isz _ _ rfl) rfl rfl hg3 (sig_cells s) (k := fun a w4 hg4 hgr4 hsz4 hF => ?_)
  have hb4 : Below w.heap.size w w4 := hb3.grown hgr4 (by omega) (fun k hk => by cases hk; omega)
  have hg14 := blk_kept hg13 hgr4 (by simp; omega)
  have hg24 := blk_kept hg23 hgr4 (by simp; omega)
  have c18 := cell_at (i := 18) hg14 rfl
  repeat (first | refine c_seq ?_ | refine c_block ?_ | refine c_region _ ?_ | refine wpList_nil ?_ | refine c_then ?_ | refine c_then_exit ?_ | refine c_then_ret ?_ | refine c_in ?_ | refine c_in_ret ?_ | refine c_in_hit ?_ | refine wp_skip ?_ | refine wp_exit ?_ | refine wp_ret ?_ | refine c_in_miss rfl ?_ | ((first | apply st hF | apply stg hF | apply s_step hF | apply s_stg hF); (first | exact d_fieldAddr (fld _ _ _ _ rfl) (isz _ _ rfl) | exact d_load (und _ _ rfl) c18); clear hF; clear a; intro a hF) | ((first | apply stm hF | apply stu hF); clear hF; clear a; intro a hF) | (apply c_cond_t hF; exact rfl; first | exact rfl | assumption) | (apply c_cond_f hF; exact rfl; first | exact rfl | assumption) | refine s_nil ?_)
  refine stc hF (copy_texts w4 ss s.toA _ s.toC hs.len (hs.rd.below hb4) (by have := hs.bytes; have := hs.cap; omega)) cal59 ⟨rfl, trivial⟩ (k := fun a v w5 hR hF => ?_)
  obtain ⟨ao, cap, rfl, hown, hb5⟩ := hR
  have hb5' : Below w.heap.size w w5 := hb4.trans (hb5.mono (by omega))
  have hg15 : w5.heap[w.heap.size]? = _ := (hb5.block _ (lt_at hg14)).trans hg14
  have hg25 : w5.heap[w1.heap.size]? = _ := (hb5.block _ (lt_at hg24)).trans hg24
  have hg35 : w5.heap[w2.heap.size]? = _ := (hb5.block _ (lt_at hg4)).trans hg4
  have hz5 := hb5.size
  repeat (first | refine c_seq ?_ | refine c_block ?_ | refine c_region _ ?_ | refine wpList_nil ?_ | refine c_then ?_ | refine c_then_exit ?_ | refine c_then_ret ?_ | refine c_in ?_ | refine c_in_ret ?_ | refine c_in_hit ?_ | refine wp_skip ?_ | refine wp_exit ?_ | refine wp_ret ?_ | refine c_in_miss rfl ?_ | ((first | apply st hF | apply stg hF | apply s_step hF | apply s_stg hF); (first | exact d_fieldAddr (fld _ _ _ _ rfl) (isz _ _ rfl)); clear hF; clear a; intro a hF) | ((first | apply stm hF | apply stu hF); clear hF; clear a; intro a hF) | (apply c_cond_t hF; exact rfl; first | exact rfl | assumption) | (apply c_cond_f hF; exact rfl; first | exact rfl | assumption) | refine s_nil ?_)
  refine st_store hF (isz _ _ rfl) hg35 (i := 18) (by show 18 < 19; decide) rfl rfl rfl (k := fun a w6 hg6 hgr6 hsz6 hF => ?_)
  have hown6 : CopyT w4.heap.size w6 ao s.toN cap ss := own_keptB hown hgr6 (fun k hk e => by have := (own_geC hown hk).1; simp only [Option.some.injEq] at e; omega)
  have hb6 : Below w.heap.size w w6 := hb5'.grown hgr6 (by omega) (fun k hk => by cases hk; omega)
  have hg26 := blk_kept hg25 hgr6 (by simp; omega)
  repeat (first | refine c_seq ?_ | refine c_block ?_ | refine c_region _ ?_ | refine wpList_nil ?_ | refine c_then ?_ | refine c_then_exit ?_ | refine c_then_ret ?_ | refine c_in ?_ | refine c_in_ret ?_ | refine c_in_hit ?_ | refine wp_skip ?_ | refine wp_exit ?_ | refine wp_ret ?_ | refine c_in_miss rfl ?_ | ((first | apply st hF | apply stg hF | apply s_step hF | apply s_stg hF); (first | exact d_fieldAddr (fld _ _ _ _ rfl) (isz _ _ rfl) | exact d_loadAgg (agg _ rfl) (isz _ _ rfl) rfl (cells_at hg6)); clear hF; clear a; intro a hF) | ((first | apply stm hF | apply stu hF); clear hF; clear a; intro a hF) | (apply c_cond_t hF; exact rfl; first | exact rfl | assumption) | (apply c_cond_f hF; exact rfl; first | exact rfl | assumption) | refine s_nil ?_)
  refine st_storeAgg hF (cs := (Sig.cells (s.cp ao cap)).toArray) (isz _ _ rfl) rfl rfl hg26 (sig_cells _) (k := fun a w7 hg7 hgr7 hsz7 hF => ?_)
  have hown7 : CopyT w4.heap.size w7 ao s.toN cap ss := own_keptB hown6 hgr7 (fun k hk e => by have := (own_geC hown hk).1; simp only [Option.some.injEq] at e; omega)
  have hb7 : Below w.heap.size w w7 := hb6.grown hgr7 (by omega) (fun k hk => by cases hk; omega)
  repeat (first | refine c_seq ?_ | refine c_block ?_ | refine c_region _ ?_ | refine wpList_nil ?_ | refine c_then ?_ | refine c_then_exit ?_ | refine c_then_ret ?_ | refine c_in ?_ | refine c_in_ret ?_ | refine c_in_hit ?_ | refine wp_skip ?_ | refine wp_exit ?_ | refine wp_ret ?_ | refine c_in_miss rfl ?_ | ((first | apply st hF | apply stg hF | apply s_step hF | apply s_stg hF); (first | exact d_fieldAddr (fld _ _ _ _ rfl) (isz _ _ rfl)); clear hF; clear a; intro a hF) | ((first | apply stm hF | apply stu hF); clear hF; clear a; intro a hF) | (apply c_cond_t hF; exact rfl; first | exact rfl | assumption) | (apply c_cond_f hF; exact rfl; first | exact rfl | assumption) | refine s_nil ?_)
  exact ret_c hF rfl (agg _ rfl) (isz _ _ rfl) hg7 rfl ⟨ao, cap, rfl, own_rebase hown7 fun k hk => (by have := (own_geC hown hk).1; omega), hb7⟩
/-- Signal number i, copied. -/
def CopyOk (base : Nat) (w : World) (ps : List SigT) (ls : List Sig) (i : Nat) : Prop := ∃ p ao c, ps[i]? = some p ∧ ls[i]? = some (p.1.cp ao c) ∧ CopyT base w ao p.1.toN c p.2
theorem CopyOk.below {base : Nat} {w w' : World} {ps : List SigT} {ls : List Sig} {i : Nat} (h : CopyOk base w ps ls i) (hb : Below w.heap.size w w') : CopyOk base w' ps ls i := by
  obtain ⟨p, ao, c, h1, h2, h3⟩ := h
  exact ⟨p, ao, c, h1, h2, own_below h3 hb⟩
theorem CopyOk.keptO {base : Nat} {w w' : World} {ps : List SigT} {ls : List Sig} {i : Nat} (h : CopyOk base w ps ls i) {base' e' s' n' : Nat} {v' : Value} {xs' : List Value} (h' : w.ownsRow base' e' s' v' n' xs') (hne : 9 ≠ e') (hgr : w.grownBy w' v'.ownBlock) : CopyOk base w' ps ls i := by
  obtain ⟨p, ao, c, h1, h2, hown⟩ := h
  exact ⟨p, ao, c, h1, h2, own_keptO hown h' hne hgr⟩
theorem CopyOk.rebase {base base' : Nat} {w : World} {ps : List SigT} {ls : List Sig} {i : Nat} (h : CopyOk base w ps ls i) (hb : base' ≤ base) : CopyOk base' w ps ls i := by
  obtain ⟨p, ao, c, h1, h2, hown⟩ := h
  exact ⟨p, ao, c, h1, h2, own_rebase hown fun k hk => (by have := (own_geC hown hk).1; omega)⟩
theorem CopyOk.keptB {base : Nat} {w w' : World} {ps : List SigT} {ls : List Sig} {i : Nat} (h : CopyOk base w ps ls i) {g : Nat} (hgr : w.grownBy w' (some g)) (hg : g < base) : CopyOk base w' ps ls i := by
  obtain ⟨p, ao, c, h1, h2, hown⟩ := h
  exact ⟨p, ao, c, h1, h2, own_keptB hown hgr fun k hk e => (by have := (own_geC hown hk).1; simp only [Option.some.injEq] at e; omega)⟩
structure CopyS (base : Nat) (w : World) (ao : Option Addr) (cap : Nat) (ps : List SigT) (ls : List Sig) : Prop where
  len : ls.length = ps.length
  own : w.ownsRow base 38 19 (.slice ao ps.length cap) ps.length (ls.flatMap Sig.cells)
  ok : ∀ i, i < ps.length → CopyOk base w ps ls i
theorem CopyS.below {base : Nat} {w w' : World} {ao : Option Addr} {cap : Nat} {ps : List SigT} {ls : List Sig} (h : CopyS base w ao cap ps ls) (hb : Below w.heap.size w w') : CopyS base w' ao cap ps ls := ⟨h.len, own_below h.own hb, fun i hi => (h.ok i hi).below hb⟩
theorem CopyS.keptB {base : Nat} {w w' : World} {ao : Option Addr} {cap : Nat} {ps : List SigT} {ls : List Sig} (h : CopyS base w ao cap ps ls) {g : Nat} (hgr : w.grownBy w' (some g)) (hg : g < base) : CopyS base w' ao cap ps ls :=
  ⟨h.len, own_keptB h.own hgr fun k hk e => (by have := (own_geC h.own hk).1; simp only [Option.some.injEq] at e; omega), fun i hi => (h.ok i hi).keptB hgr hg⟩
theorem CopyS.rebase {base base' : Nat} {w : World} {ao : Option Addr} {cap : Nat} {ps : List SigT} {ls : List Sig} (h : CopyS base w ao cap ps ls) (hb : base' ≤ base) : CopyS base' w ao cap ps ls :=
  ⟨h.len, own_rebase h.own fun k hk => (by have := (own_geC h.own hk).1; omega), fun i hi => (h.ok i hi).rebase hb⟩
set_option maxHeartbeats 4000000 in
theorem copy_signals (w : World) (ps : List SigT) (ao : Option Addr) (n c : Nat) (hs : SigsIn w ao n c ps) :
    Ret Tryd.prog 36 [.slice ao n c].toArray w (fun v w' => ∃ ao' cap ls, v = .slice ao' n cap ∧ CopyS w.heap.size w' ao' cap ps ls ∧ Below w.heap.size w w') := by
  obtain ⟨hn, hrd, heach, hcap, hby⟩ := hs
  subst hn
  refine enter1 Tryd.func36 rfl 21 rfl 22 rfl (fun a hF => ?_)
  repeat (first | refine c_seq ?_ | refine c_block ?_ | refine c_region _ ?_ | refine wpList_nil ?_ | refine c_then ?_ | refine c_then_exit ?_ | refine c_then_ret ?_ | refine c_in ?_ | refine c_in_ret ?_ | refine c_in_hit ?_ | refine wp_skip ?_ | refine wp_exit ?_ | refine wp_ret ?_ | refine c_in_miss rfl ?_ | ((first | apply st hF | apply stg hF | apply s_step hF | apply s_stg hF); (first | exact d_move | exact d_assign | exact d_add | exact d_cmpT | exact d_cmpF | exact d_cmp | exact d_len (und _ _ rfl) | exact d_lens (und _ _ rfl) | exact d_indexAddr1 (und _ _ rfl) (isz _ _ rfl)); clear hF; clear a; intro a hF) | ((first | apply stm hF | apply stu hF); clear hF; clear a; intro a hF) | (apply c_cond_t hF; exact rfl; first | exact rfl | assumption) | (apply c_cond_f hF; exact rfl; first | exact rfl | assumption) | refine s_nil ?_)
  refine c_loop (fun q a wr => ∃ k ao' cap' ls, k ≤ ps.length ∧ q = ps.length - k ∧ Fr 22 [(0, .slice ao ps.length c), (3, .slice ao' k cap'), (4, .int .i64 (k : Nat))] a ∧ ls.length = k ∧
    wr.ownsRow w.heap.size 38 19 (.slice ao' k cap') k (ls.flatMap Sig.cells) ∧ (∀ i, i < k → CopyOk w.heap.size wr ps ls i) ∧ Below w.heap.size w wr) ps.length
    ⟨0, none, 0, [], by omega, rfl, hF.keep' ⟨rfl, rfl, rfl, trivial⟩, rfl, by simpa using World.ownsRow_nil _ _ _ _, fun i hi => absurd hi (Nat.not_lt_zero _), Below.refl _ _⟩ ?_
  clear hF a
  rintro q a wr ⟨k, ao', cap', ls, hk, rfl, hF, hll, hown, hok, hbel⟩
  have hsz := hbel.size
  by_cases hlt : k < ps.length
  · obtain ⟨b, o, hao, hc⟩ := hrd k (by simpa using hlt)
    rw [at_map hlt] at hc
    rw [hao] at hF
    have hc' : ∀ q v, (Sig.cells ps[k].1)[q]? = some v → wr.cell? ⟨b, o + k * 19 + q, none⟩ = some v := fun q v hq => (hbel.cell (p := ⟨b, o + k * 19 + q, none⟩) (World.block_lt_of_cell? w _ (hc q v hq))).trans (hc q v hq)
    have hin := heach ps[k] (List.getElem_mem hlt)
    repeat (first | refine c_seq ?_ | refine c_block ?_ | refine c_region _ ?_ | refine wpList_nil ?_ | refine c_then ?_ | refine c_then_exit ?_ | refine c_then_ret ?_ | refine c_in ?_ | refine c_in_ret ?_ | refine c_in_hit ?_ | refine wp_skip ?_ | refine wp_exit ?_ | refine wp_ret ?_ | refine c_in_miss rfl ?_ | ((first | apply st hF | apply stg hF | apply s_step hF | apply s_stg hF); (first | exact d_move | exact d_assign | exact d_add | exact d_cmpT | exact d_cmpF | exact d_cmp | exact d_len (und _ _ rfl) | exact d_lens (und _ _ rfl) | exact d_indexAddr1 (und _ _ rfl) (isz _ _ rfl) | exact d_indexAddrS (und _ _ rfl) (isz _ _ rfl) | exact d_loadAgg (agg _ rfl) (isz _ _ rfl) rfl (arr_cells hc')); clear hF; clear a; intro a hF) | ((first | apply stm hF | apply stu hF); clear hF; clear a; intro a hF) | (apply c_cond_t hF; exact rfl; first | exact rfl | assumption) | (apply c_cond_f hF; exact rfl; first | exact rfl | assumption) | refine s_nil ?_)
    refine stc hF (copy_signal wr ps[k].1 ps[k].2 (hin.below hbel)) cal62 ⟨rfl, trivial⟩ (k := fun a v w1 hR hF => ?_)
    obtain ⟨ag, cap, rfl, hl1, hb1⟩ := hR
    have hB1 : Below w.heap.size w w1 := hbel.trans (hb1.mono hsz)
    have hown1 := own_below hown hb1
    refine st_alloc hF inf38 (k := fun a w2 hg2 hgr2 hsz2 hF => ?_)
    have hb2 : Below w1.heap.size w1 w2 := (Below.refl _ w1).grown hgr2 (Nat.le_refl _) (fun k hk => by cases hk)
    refine st_storeAgg hF (cs := (Sig.cells (ps[k].1.cp ag cap)).toArray) (isz _ _ rfl) rfl rfl hg2 (sig_cells _) (k := fun a w3 hg3 hgr3 hsz3 hF => ?_)
    have hb3 : Below w1.heap.size w1 w3 := hb2.grown hgr3 (by omega) (fun k hk => by cases hk; exact Nat.le_refl _)
    have hB3 : Below w.heap.size w w3 := hB1.trans (hb3.mono hB1.size)
    have hown3 := own_below hown1 hb3
    have hl3 : CopyT w.heap.size w3 ag ps[k].1.toN cap ps[k].2 := own_rebase (own_below hl1 hb3) fun k hk => (by have := (own_geC hl1 hk).1; omega)
    have hok3 : ∀ i, i < k → CopyOk w.heap.size w3 ps ls i := fun i hi => ((hok i hi).below hb1).below hb3
    repeat (first | refine c_seq ?_ | refine c_block ?_ | refine c_region _ ?_ | refine wpList_nil ?_ | refine c_then ?_ | refine c_then_exit ?_ | refine c_then_ret ?_ | refine c_in ?_ | refine c_in_ret ?_ | refine c_in_hit ?_ | refine wp_skip ?_ | refine wp_exit ?_ | refine wp_ret ?_ | refine c_in_miss rfl ?_ | ((first | apply st hF | apply stg hF | apply s_step hF | apply s_stg hF); (first | exact d_move | exact d_assign | exact d_add | exact d_cmpT | exact d_cmpF | exact d_cmp | exact d_len (und _ _ rfl) | exact d_lens (und _ _ rfl) | exact d_indexAddr1 (und _ _ rfl) (isz _ _ rfl) | exact d_loadAgg (agg _ rfl) (isz _ _ rfl) rfl (cells_at hg3)); clear hF; clear a; intro a hF) | ((first | apply stm hF | apply stu hF); clear hF; clear a; intro a hF) | (apply c_cond_t hF; exact rfl; first | exact rfl | assumption) | (apply c_cond_f hF; exact rfl; first | exact rfl | assumption) | refine s_nil ?_)
    refine st_pushS hF (us := (Sig.cells (ps[k].1.cp ag cap)).toArray) (und _ _ rfl) inf38 rfl (by decide) (by decide) rfl (sig_cells _) hown3 (by omega) (by unfold maxLen; omega) hB3.size (k := fun a ao2 cap2 w4 hown4 hgr4 hat hF => ?_)
    have hB4 := below_own hB3 hB3.size hown3 hgr4
    repeat (first | refine c_seq ?_ | refine c_block ?_ | refine c_region _ ?_ | refine wpList_nil ?_ | refine c_then ?_ | refine c_then_exit ?_ | refine c_then_ret ?_ | refine c_in ?_ | refine c_in_ret ?_ | refine c_in_hit ?_ | refine wp_skip ?_ | refine wp_exit ?_ | refine wp_ret ?_ | refine c_in_miss rfl ?_ | ((first | apply st hF | apply stg hF | apply s_step hF | apply s_stg hF); (first | exact d_move | exact d_assign | exact d_add | exact d_cmpT | exact d_cmpF | exact d_cmp | exact d_len (und _ _ rfl) | exact d_lens (und _ _ rfl) | exact d_indexAddr1 (und _ _ rfl) (isz _ _ rfl)); clear hF; clear a; intro a hF) | ((first | apply stm hF | apply stu hF); clear hF; clear a; intro a hF) | (apply c_cond_t hF; exact rfl; first | exact rfl | assumption) | (apply c_cond_f hF; exact rfl; first | exact rfl | assumption) | refine s_nil ?_)
    refine ⟨ps.length - (k + 1), by omega, k + 1, ao2, cap2, ls ++ [ps[k].1.cp ag cap], by omega, rfl, hao.symm ▸ hF.keep' ⟨rfl, rfl, rfl, trivial⟩, by simp [hll], by simpa using hown4, fun i hi => ?_, hB4⟩
    by_cases hik : i < k
    · obtain ⟨p, g', c', h1, h2, h3⟩ := (hok3 i hik).keptO hown3 (by decide) hgr4
      exact ⟨p, g', c', h1, by rw [List.getElem?_append_left (by omega)]; exact h2, h3⟩
    · obtain rfl : i = k := by omega
      exact ⟨ps[i], ag, cap, by simp [hlt], by rw [List.getElem?_append_right (by omega), hll]; simp, own_keptO hl3 hown3 (by decide) hgr4⟩
  · obtain rfl : k = ps.length := by omega
    repeat (first | refine c_seq ?_ | refine c_block ?_ | refine c_region _ ?_ | refine wpList_nil ?_ | refine c_then ?_ | refine c_then_exit ?_ | refine c_then_ret ?_ | refine c_in ?_ | refine c_in_ret ?_ | refine c_in_hit ?_ | refine wp_skip ?_ | refine wp_exit ?_ | refine wp_ret ?_ | refine c_in_miss rfl ?_ | ((first | apply st hF | apply stg hF | apply s_step hF | apply s_stg hF); (first | exact d_move | exact d_assign | exact d_add | exact d_cmpT | exact d_cmpF | exact d_cmp | exact d_len (und _ _ rfl) | exact d_lens (und _ _ rfl) | exact d_indexAddr1 (und _ _ rfl) (isz _ _ rfl)); clear hF; clear a; intro a hF) | ((first | apply stm hF | apply stu hF); clear hF; clear a; intro a hF) | (apply c_cond_t hF; exact rfl; first | exact rfl | assumption) | (apply c_cond_f hF; exact rfl; first | exact rfl | assumption) | refine s_nil ?_)
    exact ret1 hF rfl rfl ⟨ao', cap', ls, rfl, ⟨hll, hown, hok⟩, hbel⟩
def Msg.cp (m : Msg) (ao : Option Addr) (c : Nat) : Msg := { m with sg := ao, sgC := c }
set_option maxHeartbeats 4000000 in
theorem copy_message (w : World) (m : Msg) (ps : List SigT) (hs : MsgIn w m ps) :
    Ret Tryd.prog 12 [.agg (Msg.cells m).toArray].toArray w (fun v w' => ∃ ao cap ls, v = .agg (Msg.cells (m.cp ao cap)).toArray ∧ CopyS w.heap.size w' ao cap ps ls ∧ Below w.heap.size w w') := by
  have hlen := hs.len
  refine enter1 Tryd.func12 rfl 9 rfl 10 rfl (fun a hF => ?_)
  repeat (first | refine c_seq ?_ | refine c_block ?_ | refine c_region _ ?_ | refine wpList_nil ?_ | refine c_then ?_ | refine c_then_exit ?_ | refine c_then_ret ?_ | refine c_in ?_ | refine c_in_ret ?_ | refine c_in_hit ?_ | refine wp_skip ?_ | refine wp_exit ?_ | refine wp_ret ?_ | refine c_in_miss rfl ?_ | ((first | apply st hF | apply stg hF | apply s_step hF | apply s_stg hF); (first | exact d_fieldAddr (fld _ _ _ _ rfl) (isz _ _ rfl)); clear hF; clear a; intro a hF) | ((first | apply stm hF | apply stu hF); clear hF; clear a; intro a hF) | (apply c_cond_t hF; exact rfl; first | exact rfl | assumption) | (apply c_cond_f hF; exact rfl; first | exact rfl | assumption) | refine s_nil ?_)
  refine st_box hF (cs := (Msg.cells m).toArray) rfl (k := fun a w1 hg1 hgr1 hsz1 hF => ?_)
  refine st_alloc hF inf27 (k := fun a w2 hg2 hgr2 hsz2 hF => ?_)
  have hb2 : Below w.heap.size w w2 := ((Below.refl _ w).grown hgr1 (Nat.le_refl _) (fun k hk => by cases hk)).grown hgr2 (by omega) (fun k hk => by cases hk)
  have hg12 := blk_kept hg1 hgr2 (by simp)
  repeat (first | refine c_seq ?_ | refine c_block ?_ | refine c_region _ ?_ | refine wpList_nil ?_ | refine c_then ?_ | refine c_then_exit ?_ | refine c_then_ret ?_ | refine c_in ?_ | refine c_in_ret ?_ | refine c_in_hit ?_ | refine wp_skip ?_ | refine wp_exit ?_ | refine wp_ret ?_ | refine c_in_miss rfl ?_ | ((first | apply st hF | apply stg hF | apply s_step hF | apply s_stg hF); (first | exact d_fieldAddr (fld _ _ _ _ rfl) (isz _ _ rfl) | exact d_loadAgg (agg _ rfl) (isz _ _ rfl) rfl (cells_at hg12)); clear hF; clear a; intro a hF) | ((first | apply stm hF | apply stu hF); clear hF; clear a; intro a hF) | (apply c_cond_t hF; exact rfl; first | exact rfl | assumption) | (apply c_cond_f hF; exact rfl; first | exact rfl | assumption) | refine s_nil ?_)
  refine st_alloc hF inf27 (k := fun a w3 hg3 hgr3 hsz3 hF => ?_)
  have hb3 : Below w.heap.size w w3 := hb2.grown hgr3 (by omega) (fun k hk => by cases hk)
  have hg13 := blk_kept hg12 hgr3 (by simp)
  have hg23 := blk_kept hg2 hgr3 (by simp)
  refine st_storeAgg hF (cs := (Msg.cells m).toArray) (isz _ _ rfl) rfl rfl hg3 (msg_cells m) (k := fun a w4 hg4 hgr4 hsz4 hF => ?_)
  have hb4 : Below w.heap.size w w4 := hb3.grown hgr4 (by omega) (fun k hk => by cases hk; omega)
  have hg14 := blk_kept hg13 hgr4 (by simp; omega)
  have hg24 := blk_kept hg23 hgr4 (by simp; omega)
  have c7 := cell_at (i := 7) hg14 rfl
  repeat (first | refine c_seq ?_ | refine c_block ?_ | refine c_region _ ?_ | refine wpList_nil ?_ | refine c_then ?_ | refine c_then_exit ?_ | refine c_then_ret ?_ | refine c_in ?_ | refine c_in_ret ?_ | refine c_in_hit ?_ | refine wp_skip ?_ | refine wp_exit ?_ | refine wp_ret ?_ | refine c_in_miss rfl ?_ | ((first | apply st hF | apply stg hF | apply s_step hF | apply s_stg hF); (first | exact d_fieldAddr (fld _ _ _ _ rfl) (isz _ _ rfl) | exact d_load (und _ _ rfl) c7); clear hF; clear a; intro a hF) | ((first | apply stm hF | apply stu hF); clear hF; clear a; intro a hF) | (apply c_cond_t hF; exact rfl; first | exact rfl | assumption) | (apply c_cond_f hF; exact rfl; first | exact rfl | assumption) | refine s_nil ?_)
  refine stc hF (copy_signals w4 ps m.sg _ m.sgC (SigsIn.below hs hb4)) cal36 ⟨rfl, trivial⟩ (k := fun a v w5 hR hF => ?_)
  obtain ⟨ao, cap, ls, rfl, hcs, hb5⟩ := hR
  have hb5' : Below w.heap.size w w5 := hb4.trans (hb5.mono (by omega))
  have hg15 : w5.heap[w.heap.size]? = _ := (hb5.block _ (lt_at hg14)).trans hg14
  have hg25 : w5.heap[w1.heap.size]? = _ := (hb5.block _ (lt_at hg24)).trans hg24
  have hg35 : w5.heap[w2.heap.size]? = _ := (hb5.block _ (lt_at hg4)).trans hg4
  have hz5 := hb5.size
  repeat (first | refine c_seq ?_ | refine c_block ?_ | refine c_region _ ?_ | refine wpList_nil ?_ | refine c_then ?_ | refine c_then_exit ?_ | refine c_then_ret ?_ | refine c_in ?_ | refine c_in_ret ?_ | refine c_in_hit ?_ | refine wp_skip ?_ | refine wp_exit ?_ | refine wp_ret ?_ | refine c_in_miss rfl ?_ | ((first | apply st hF | apply stg hF | apply s_step hF | apply s_stg hF); (first | exact d_fieldAddr (fld _ _ _ _ rfl) (isz _ _ rfl)); clear hF; clear a; intro a hF) | ((first | apply stm hF | apply stu hF); clear hF; clear a; intro a hF) | (apply c_cond_t hF; exact rfl; first | exact rfl | assumption) | (apply c_cond_f hF; exact rfl; first | exact rfl | assumption) | refine s_nil ?_)
  refine st_store hF (isz _ _ rfl) hg35 (i := 7) (by show 7 < 8; decide) rfl rfl rfl (k := fun a w6 hg6 hgr6 hsz6 hF => ?_)
  have hb6 : Below w.heap.size w w6 := hb5'.grown hgr6 (by omega) (fun k hk => by cases hk; omega)
  have hg26 := blk_kept hg25 hgr6 (by simp; omega)
  have hcs6 := hcs.keptB hgr6 (by omega)
  repeat (first | refine c_seq ?_ | refine c_block ?_ | refine c_region _ ?_ | refine wpList_nil ?_ | refine c_then ?_ | refine c_then_exit ?_ | refine c_then_ret ?_ | refine c_in ?_ | refine c_in_ret ?_ | refine c_in_hit ?_ | refine wp_skip ?_ | refine wp_exit ?_ | refine wp_ret ?_ | refine c_in_miss rfl ?_ | ((first | apply st hF | apply stg hF | apply s_step hF | apply s_stg hF); (first | exact d_fieldAddr (fld _ _ _ _ rfl) (isz _ _ rfl) | exact d_loadAgg (agg _ rfl) (isz _ _ rfl) rfl (cells_at hg6)); clear hF; clear a; intro a hF) | ((first | apply stm hF | apply stu hF); clear hF; clear a; intro a hF) | (apply c_cond_t hF; exact rfl; first | exact rfl | assumption) | (apply c_cond_f hF; exact rfl; first | exact rfl | assumption) | refine s_nil ?_)
  refine st_storeAgg hF (cs := (Msg.cells (m.cp ao cap)).toArray) (isz _ _ rfl) rfl rfl hg26 (msg_cells _) (k := fun a w7 hg7 hgr7 hsz7 hF => ?_)
  have hb7 : Below w.heap.size w w7 := hb6.grown hgr7 (by omega) (fun k hk => by cases hk; omega)
  have hcs7 := hcs6.keptB hgr7 (by omega)
  repeat (first | refine c_seq ?_ | refine c_block ?_ | refine c_region _ ?_ | refine wpList_nil ?_ | refine c_then ?_ | refine c_then_exit ?_ | refine c_then_ret ?_ | refine c_in ?_ | refine c_in_ret ?_ | refine c_in_hit ?_ | refine wp_skip ?_ | refine wp_exit ?_ | refine wp_ret ?_ | refine c_in_miss rfl ?_ | ((first | apply st hF | apply stg hF | apply s_step hF | apply s_stg hF); (first | exact d_fieldAddr (fld _ _ _ _ rfl) (isz _ _ rfl)); clear hF; clear a; intro a hF) | ((first | apply stm hF | apply stu hF); clear hF; clear a; intro a hF) | (apply c_cond_t hF; exact rfl; first | exact rfl | assumption) | (apply c_cond_f hF; exact rfl; first | exact rfl | assumption) | refine s_nil ?_)
  exact ret_c hF rfl (agg _ rfl) (isz _ _ rfl) hg7 rfl ⟨ao, cap, ls, rfl, hcs7.rebase (by omega), hb7⟩
/-- What the copies read as. -/
def copyP (ps : List SigT) (ls : List Sig) : List SigT := (List.range ps.length).map fun i => (ls.getD i sigM, (ps.getD i (sigM, [])).2)
theorem copyP_len (ps : List SigT) (ls : List Sig) : (copyP ps ls).length = ps.length := by simp [copyP]
end Go.Proofs.YtjomihhpglojpaaDoor
end
