/- Laid together by a program of mine: Sigs MsgK ZipS LessL MsgM. -/
import Derived.Test.YtjomihhpglojpaaGreatDoorSumLawMessageS7
import Derived.Test.YtjomihhpglojpaaGreatDoorSumLawMessageS17
import Derived.Test.YtjomihhpglojpaaGreatDoorSumLawMessageS25
set_option linter.unusedSimpArgs false
set_option linter.unusedVariables false
section
/- Lists of signals, lent and kept. -/
namespace Go.Proofs.YtjomihhpglojpaaGreatDoor
open Go.RowKit
set_option linter.unusedSimpArgs false
set_option linter.unusedVariables false
attribute [local irreducible] wpList wpQuiet wpStill Code.wp Exit.then Exit.inBlock bodyPost Calls Does Does0

set_option maxHeartbeats 4000000 in
theorem lent_signals (w : World) (ps : List SigT) (ao : Option Addr) (n c : Nat) (hs : SigsIn w ao n c ps) :
    Ret Tryz.prog 14 #[.slice ao n c] w (fun v w' => LentS w.heap.size w' v ps ∧ Below w.heap.size w w') := by
  obtain ⟨hn, hrd, heach, hcap, hby⟩ := hs
  subst hn
  refine enter1 Tryz.func14 rfl 33 rfl 34 rfl (fun a hF => ?_)
  repeat (first | refine c_seq ?_ | refine c_block ?_ | refine c_region _ ?_ | refine wpList_nil ?_ | refine c_then ?_ | ((apply st hF); (exact d_assign); clear hF; clear a; intro a hF))
  refine c_loop (fun q a wr => ∃ k ao' cap' ls, k ≤ ps.length ∧ q = ps.length - k ∧ Fr 34 [(0, .slice ao ps.length c), (3, .slice ao' k cap'), (4, .int .i64 (k : Nat))] a ∧ ls.length = k ∧
    wr.ownsRow w.heap.size 62 19 (.slice ao' k cap') k (ls.flatMap Sig.cells) ∧ (∀ i, i < k → LentOk w.heap.size wr ps ls i) ∧ Below w.heap.size w wr) ps.length
    ⟨0, none, 0, [], by omega, rfl, hF.keep' ⟨rfl, rfl, rfl, trivial⟩, rfl, by simpa using World.ownsRow_nil _ _ _ _, fun i hi => absurd hi (Nat.not_lt_zero _), Below.refl _ _⟩ ?_
  clear hF a
  rintro q a wr ⟨k, ao', cap', ls, hk, rfl, hF, hll, hown, hok, hbel⟩
  have hsz := hbel.size
  by_cases hlt : k < ps.length
  · obtain ⟨b, o, rfl, hc⟩ := hrd k (by simpa using hlt)
    rw [at_map hlt] at hc
    have hc' : ∀ q v, (Sig.cells ps[k].1)[q]? = some v → wr.cell? ⟨b, o + k * 19 + q, none⟩ = some v := fun q v hq => (hbel.cell (p := ⟨b, o + k * 19 + q, none⟩) (World.block_lt_of_cell? w _ (hc q v hq))).trans (hc q v hq)
    have hin := heach ps[k] (List.getElem_mem hlt)
    repeat (first | refine c_seq ?_ | refine c_block ?_ | refine c_region _ ?_ | refine wpList_nil ?_ | refine c_then ?_ | refine wp_skip ?_ | ((apply st hF); (first | exact d_move | exact d_cmpT | exact d_len (und _ _ rfl) | exact d_indexAddrS (und _ _ rfl) (isz _ _ rfl) | exact d_loadAgg (agg _ rfl) (isz _ _ rfl) rfl (arr_cells hc')); clear hF; clear a; intro a hF) | (apply c_cond_t hF; exact rfl; first | exact rfl | assumption))
    refine stc hF (lent_signal wr ps[k].1 ps[k].2 (hin.below hbel)) cal44 ⟨rfl, trivial⟩ (k := fun a v w1 hR hF => ?_)
    obtain ⟨g, cap, rfl, hl1, hb1⟩ := hR
    have hB1 : Below w.heap.size w w1 := hbel.trans (hb1.mono hsz)
    have hown1 := own_below hown hb1
    refine st_alloc hF inf62 (k := fun a w2 hg2 hgr2 hsz2 hF => ?_)
    have hb2 : Below w1.heap.size w1 w2 := (Below.refl _ w1).grown hgr2 (Nat.le_refl _) (fun k hk => by cases hk)
    refine st_storeAgg hF (cs := (Sig.cells (ps[k].1.at g cap)).toArray) (isz _ _ rfl) rfl rfl hg2 (sig_cells _) (k := fun a w3 hg3 hgr3 hsz3 hF => ?_)
    have hb3 : Below w1.heap.size w1 w3 := hb2.grown hgr3 (by omega) (fun k hk => by cases hk; exact Nat.le_refl _)
    have hB3 : Below w.heap.size w w3 := hB1.trans (hb3.mono hB1.size)
    have hown3 := own_below hown1 hb3
    have hl3 := (hl1.below hb3).rebase hsz
    have hok3 : ∀ i, i < k → LentOk w.heap.size w3 ps ls i := fun i hi => ((hok i hi).below hb1).below hb3
    repeat (first | refine c_region _ ?_ | refine wpList_nil ?_ | refine c_then ?_ | ((apply st hF); (first | exact d_move | exact d_loadAgg (agg _ rfl) (isz _ _ rfl) rfl (cells_at hg3)); clear hF; clear a; intro a hF))
    refine st_pushS hF (us := (Sig.cells (ps[k].1.at g cap)).toArray) (und _ _ rfl) inf62 rfl (by decide) (by decide) rfl (sig_cells _) hown3 (by omega) (by unfold maxLen; omega) hB3.size (k := fun a ao2 cap2 w4 hown4 hgr4 hat hF => ?_)
    have hB4 := below_own hB3 hB3.size hown3 hgr4
    repeat (first | refine c_region _ ?_ | refine wpList_nil ?_ | refine c_then ?_ | refine c_in ?_ | ((apply st hF); (first | exact d_move | exact d_assign | exact d_add); clear hF; clear a; intro a hF))
    refine ⟨ps.length - (k + 1), by omega, k + 1, ao2, cap2, ls ++ [ps[k].1.at g cap], by omega, rfl, hF.keep' ⟨rfl, rfl, rfl, trivial⟩, by simp [hll], by simpa using hown4, fun i hi => ?_, hB4⟩
    by_cases hik : i < k
    · obtain ⟨p, g', c', h1, h2, h3⟩ := (hok3 i hik).keptO hown3 (by decide) hgr4
      exact ⟨p, g', c', h1, by rw [List.getElem?_append_left (by omega)]; exact h2, h3⟩
    · obtain rfl : i = k := by omega
      obtain ⟨g', c', e, hlo⟩ := hl3
      exact ⟨ps[i], g, cap, by simp [hlt], by rw [List.getElem?_append_right (by omega), hll]; simp, g', c', e, own_keptO hlo hown3 (by decide) hgr4⟩
  · obtain rfl : k = ps.length := by omega
    repeat (first | refine c_seq ?_ | refine c_block ?_ | refine c_region _ ?_ | refine wpList_nil ?_ | refine c_then ?_ | refine c_then_exit ?_ | refine c_in_hit ?_ | refine wp_exit ?_ | ((apply st hF); (first | exact d_move | exact d_assign | exact d_cmpF | exact d_len (und _ _ rfl)); clear hF; clear a; intro a hF) | (apply c_cond_f hF; exact rfl; first | exact rfl | assumption))
    refine c_loop (fun q a wr => ∃ k ao' cap', k ≤ 16 ∧ q = 16 - k ∧ Fr 34 [(0, .slice ao ps.length c), (3, .slice ao' (ps.length + k) cap'), (6, .int .i64 (k : Nat))] a ∧
      wr.ownsRow w.heap.size 62 19 (.slice ao' (ps.length + k) cap') (ps.length + k) ((ls ++ List.replicate k sigM).flatMap Sig.cells) ∧ (∀ i, i < ps.length → LentOk w.heap.size wr ps ls i) ∧ Below w.heap.size w wr) 16
      ⟨0, ao', cap', by omega, rfl, hF.keep' ⟨rfl, rfl, rfl, trivial⟩, by simpa using hown, hok, hbel⟩ ?_
    clear hF a hown hok hbel hsz wr
    rintro q a wr ⟨k, ao', cap', hk, rfl, hF, hown, hok, hbel⟩
    have hsz := hbel.size
    by_cases hlt2 : k < 16
    · repeat (first | refine c_seq ?_ | refine c_block ?_ | refine c_region _ ?_ | refine wpList_nil ?_ | refine c_then ?_ | refine wp_skip ?_ | ((apply st hF); (first | exact d_move | exact d_cmpT | exact d_build (vs := [(4, .int .i64 (-7))]) (cells := (Sig.cells sigM).toArray) (by kernel_rfl) ⟨rfl, rfl, trivial⟩); clear hF; clear a; intro a hF) | (apply c_cond_t hF; exact rfl; first | exact rfl | assumption))
      refine st_pushS hF (us := (Sig.cells sigM).toArray) (und _ _ rfl) inf62 rfl (by decide) (by decide) rfl (sig_cells _) hown (by omega) (by unfold maxLen; omega) hsz (k := fun a ao2 cap2 w4 hown4 hgr4 hat hF => ?_)
      repeat (first | refine c_region _ ?_ | refine wpList_nil ?_ | refine c_then ?_ | refine c_in ?_ | ((apply st hF); (first | exact d_move | exact d_assign | exact d_add); clear hF; clear a; intro a hF))
      refine ⟨16 - (k + 1), by omega, k + 1, ao2, cap2, by omega, rfl, hF.keep' ⟨rfl, rfl, rfl, trivial⟩, ?_, fun i hi => (hok i hi).keptO hown (by decide) hgr4, below_own hbel hsz hown hgr4⟩
      rw [List.replicate_succ', ← List.append_assoc, List.flatMap_append]
      simpa [Nat.add_assoc] using hown4
    · obtain rfl : k = 16 := by omega
      obtain ⟨g, rfl, _⟩ := own_some hown (by omega)
      have hcap' := own_cap' hown
      repeat (first | refine c_seq ?_ | refine c_region _ ?_ | refine wpList_nil ?_ | refine c_then ?_ | refine c_then_exit ?_ | refine c_in_hit ?_ | refine wp_exit ?_ | refine wp_ret ?_ | ((apply st hF); (first | exact d_move | exact d_assign | exact d_cmpF | exact d_len (und _ _ rfl) | exact d_slice (und _ _ rfl) (isz _ _ rfl)); clear hF; clear a; intro a hF) | (apply c_cond_f hF; exact rfl; first | exact rfl | assumption))
      exact ret1 hF rfl rfl ⟨⟨g, cap', ls, rfl, hll, hown, hok⟩, hbel⟩

set_option maxHeartbeats 4000000 in
theorem kept_signals (w : World) (ps : List SigT) (v : Value) (base : Nat) (ao : Option Addr) (n c : Nat) (hs : SigsIn w ao n c ps) (hl : LentS base w v ps) :
    Ret Tryz.prog 28 #[v, .slice ao n c] w (fun v w' => v = .bool true ∧ Below w.heap.size w w') := by
  obtain ⟨hn, hrd, heach, hcap, hby⟩ := hs
  subst hn
  obtain ⟨g, cap, ls, rfl, hll, hown, hok⟩ := hl
  have hcap2 := own_cap' hown
  have hR := own_rdS sigc_len hown (by simp [hll])
  refine enter2 Tryz.func28 rfl 46 rfl 48 rfl (fun a hF => ?_)
  repeat (first | refine c_seq ?_ | refine c_block ?_ | refine c_region _ ?_ | refine wpList_nil ?_ | refine c_then ?_ | refine wp_skip ?_ | ((apply st hF); (first | exact d_move | exact d_assign | exact d_add | exact d_cmpF | exact d_len (und _ _ rfl) | exact d_slice (und _ _ rfl) (isz _ _ rfl) (j := ps.length + 16) (hq := by omega)); clear hF; clear a; intro a hF) | (apply c_cond_f hF; exact rfl; first | exact rfl | assumption))
  refine c_loop (fun q a w' => ∃ k, k ≤ ps.length ∧ q = ps.length - k ∧ Fr 48 [(1, .slice ao ps.length c), (5, .int .i64 ps.length), (6, .slice (some ⟨g, 0, none⟩) (ps.length + 16) cap), (7, .int .i64 (k : Nat))] a ∧ Below w.heap.size w w') ps.length
    ⟨0, by omega, rfl, hF.keep' ⟨rfl, rfl, rfl, rfl, trivial⟩, Below.refl _ w⟩ ?_
  clear hF a
  rintro q a wr ⟨k, hk, rfl, hF, hbel⟩
  by_cases hlt : k < ps.length
  · obtain ⟨p, gi, ci, hp, hli, hlt'⟩ := hok k hlt
    have hpe : ps[k] = p := by rw [List.getElem?_eq_getElem hlt] at hp; exact Option.some.inj hp
    obtain ⟨b, o, rfl, hc⟩ := hrd k (by simpa using hlt)
    rw [at_map hlt, hpe] at hc
    obtain ⟨b2, o2, e2, hc2⟩ := hR k (by simp; omega)
    cases e2
    have hle : (ls ++ List.replicate 16 sigM)[k]'(by simp; omega) = p.1.at gi ci := by
      rw [List.getElem_append_left (by omega)]
      rw [List.getElem?_eq_getElem (by omega)] at hli
      exact Option.some.inj hli
    rw [hle] at hc2
    have hin := heach p (by rw [← hpe]; exact List.getElem_mem hlt)
    have hx : ∀ w', Below w.heap.size w w' → ∀ q v, (Sig.cells (p.1.at gi ci))[q]? = some v → w'.cell? ⟨g, 0 + k * 19 + q, none⟩ = some v := fun w' h q v hq => (h.cell (p := ⟨g, 0 + k * 19 + q, none⟩) (World.block_lt_of_cell? w _ (hc2 q v hq))).trans (hc2 q v hq)
    have hy : ∀ w', Below w.heap.size w w' → ∀ q v, (Sig.cells p.1)[q]? = some v → w'.cell? ⟨b, o + k * 19 + q, none⟩ = some v := fun w' h q v hq => (h.cell (p := ⟨b, o + k * 19 + q, none⟩) (World.block_lt_of_cell? w _ (hc q v hq))).trans (hc q v hq)
    repeat (first | (refine c_region_drawC (fun w' => Below w.heap.size w w') _ mixed (by kernel_rfl) (below_more hbel 1) ?_) | refine c_seq ?_ | refine c_block ?_ | refine c_region _ ?_ | refine wpList_nil ?_ | refine c_then ?_ | refine wp_skip ?_ | ((apply st hF); (first | exact d_move | exact d_cmpT); clear hF; clear a; intro a hF) | ((apply q_step hF); intro wq hwq; (exact d_move); clear hF; clear a; intro a hF) | (apply c_cond_t hF; exact rfl; first | exact rfl | assumption))
    repeat (((apply q_step hF); intro wq hwq; (first | exact d_move | exact d_indexAddrS (und _ _ rfl) (isz _ _ rfl) | exact d_loadAgg (agg _ rfl) (isz _ _ rfl) rfl (arr_cells (hx wq hwq)) | exact d_loadAgg (agg _ rfl) (isz _ _ rfl) rfl (arr_cells (hy wq hwq))); clear hF; clear a; intro a hF))
    refine q_stc hF (fun w' hw' => (kept_signal w' p.1 p.2 gi ci base (hin.below hw') (hlt'.below hw')).mono (fun v w'' h => ⟨h.1, hw'.trans (h.2.mono hw'.size)⟩)) cal57 ⟨rfl, rfl, trivial⟩ (k := fun a hF => ?_)
    repeat (((apply q_step hF); intro wq hwq; (exact d_not); clear hF; clear a; intro a hF))
    refine q_nil ?_
    intro w3 hb3
    repeat (first | refine c_region _ ?_ | refine wpList_nil ?_ | refine c_then ?_ | refine c_in ?_ | refine wp_skip ?_ | ((apply st hF); (first | exact d_move | exact d_assign | exact d_add); clear hF; clear a; intro a hF) | (apply c_cond_f hF; exact rfl; first | exact rfl | assumption))
    exact ⟨ps.length - (k + 1), by omega, k + 1, by omega, rfl, hF.keep' ⟨rfl, rfl, rfl, rfl, trivial⟩, hb3⟩
  · obtain rfl : k = ps.length := by omega
    repeat (first | refine c_seq ?_ | refine c_block ?_ | refine c_region _ ?_ | refine wpList_nil ?_ | refine c_then ?_ | refine c_then_exit ?_ | refine c_in_hit ?_ | refine wp_exit ?_ | ((apply st hF); (first | exact d_move | exact d_assign | exact d_cmpF); clear hF; clear a; intro a hF) | (apply c_cond_f hF; exact rfl; first | exact rfl | assumption))
    refine c_loop (fun q a w' => ∃ k, k ≤ 16 ∧ q = 16 - k ∧ Fr 48 [(5, .int .i64 ps.length), (6, .slice (some ⟨g, 0, none⟩) (ps.length + 16) cap), (8, .int .i64 ((ps.length + k : Nat) : Int))] a ∧ Below w.heap.size w w') 16
      ⟨0, by omega, rfl, hF.keep' ⟨rfl, rfl, rfl, trivial⟩, hbel⟩ ?_
    clear hF a hbel wr
    rintro q a wr ⟨k, hk, rfl, hF, hbel⟩
    by_cases hlt2 : k < 16
    · obtain ⟨b2, o2, e2, hc2⟩ := hR (ps.length + k) (by simp; omega)
      cases e2
      have hle : (ls ++ List.replicate 16 sigM)[ps.length + k]'(by simp; omega) = sigM := by
        rw [List.getElem_append_right (by omega), List.getElem_replicate]
      rw [hle] at hc2
      have c5 : wr.cell? ⟨g, 0 + (ps.length + k) * 19 + 5, none⟩ = some (.int .i64 (-7)) := (hbel.cell (p := ⟨g, 0 + (ps.length + k) * 19 + 5, none⟩) (World.block_lt_of_cell? w _ (hc2 5 _ rfl))).trans (hc2 5 _ rfl)
      repeat (first | refine c_seq ?_ | refine c_block ?_ | refine c_region _ ?_ | refine wpList_nil ?_ | refine c_then ?_ | refine c_in ?_ | refine wp_skip ?_ | ((apply st hF); (first | exact d_move | exact d_assign | exact d_not | exact d_add | exact d_cmpT | exact d_len (und _ _ rfl) | exact d_fieldAddr (fld _ _ _ _ rfl) (isz _ _ rfl) | exact d_indexAddrS (und _ _ rfl) (isz _ _ rfl) | exact d_load (und _ _ rfl) c5); clear hF; clear a; intro a hF) | (apply c_cond_t hF; exact rfl; first | exact rfl | assumption) | (apply c_cond_f hF; exact rfl; first | exact rfl | assumption))
      exact ⟨16 - (k + 1), by omega, k + 1, by omega, rfl, hF.keep' ⟨rfl, rfl, rfl, trivial⟩, hbel⟩
    · repeat (first | refine c_seq ?_ | refine c_region _ ?_ | refine wpList_nil ?_ | refine c_then ?_ | refine c_then_exit ?_ | refine c_in_hit ?_ | refine wp_exit ?_ | refine wp_ret ?_ | ((apply st hF); (first | exact d_move | exact d_assign | exact d_cmpF | exact d_len (und _ _ rfl)); clear hF; clear a; intro a hF) | (apply c_cond_f hF; exact rfl; first | exact rfl | assumption))
      exact ret1 hF rfl rfl ⟨rfl, hbel⟩
end Go.Proofs.YtjomihhpglojpaaGreatDoor
end
section
/- Messages, lent and kept. -/
namespace Go.Proofs.YtjomihhpglojpaaGreatDoor
open Go.RowKit
set_option linter.unusedSimpArgs false
set_option linter.unusedVariables false
attribute [local irreducible] wpList wpQuiet wpStill Code.wp Exit.then Exit.inBlock bodyPost Calls Does Does0

set_option maxHeartbeats 4000000 in
theorem lent_message (w : World) (m : Msg) (ps : List SigT) (hs : MsgIn w m ps) :
    Ret Tryz.prog 5 #[.agg (Msg.cells m).toArray] w (fun v w' => ∃ g cap, v = .agg (Msg.cells (m.at g cap)).toArray ∧ LentS w.heap.size w' (.slice (some ⟨g, 0, none⟩) m.sgN cap) ps ∧ Below w.heap.size w w') := by
  have hlen := hs.len
  refine enter1 Tryz.func5 rfl 9 rfl 10 rfl (fun a hF => ?_)
  repeat (first | refine c_seq ?_ | refine c_region _ ?_)
  refine st_box hF (cs := (Msg.cells m).toArray) rfl (k := fun a w1 hg1 hgr1 hsz1 hF => ?_)
  refine st_alloc hF inf27 (k := fun a w2 hg2 hgr2 hsz2 hF => ?_)
  have hb2 : Below w.heap.size w w2 := ((Below.refl _ w).grown hgr1 (Nat.le_refl _) (fun k hk => by cases hk)).grown hgr2 (by omega) (fun k hk => by cases hk)
  have hg12 := blk_kept hg1 hgr2 (by simp)
  repeat (first | refine c_seq ?_ | refine c_region _ ?_ | refine wpList_nil ?_ | refine c_then ?_ | ((apply st hF); (exact d_loadAgg (agg _ rfl) (isz _ _ rfl) rfl (cells_at hg12)); clear hF; clear a; intro a hF))
  refine st_alloc hF inf27 (k := fun a w3 hg3 hgr3 hsz3 hF => ?_)
  have hb3 : Below w.heap.size w w3 := hb2.grown hgr3 (by omega) (fun k hk => by cases hk)
  have hg13 := blk_kept hg12 hgr3 (by simp)
  have hg23 := blk_kept hg2 hgr3 (by simp)
  refine st_storeAgg hF (cs := (Msg.cells m).toArray) (isz _ _ rfl) rfl rfl hg3 (msg_cells m) (k := fun a w4 hg4 hgr4 hsz4 hF => ?_)
  have hb4 : Below w.heap.size w w4 := hb3.grown hgr4 (by omega) (fun k hk => by cases hk; omega)
  have hg14 := blk_kept hg13 hgr4 (by simp; omega)
  have hg24 := blk_kept hg23 hgr4 (by simp; omega)
  have c7 := cell_at (i := 7) hg14 rfl
  repeat (first | refine c_seq ?_ | refine c_region _ ?_ | refine wpList_nil ?_ | refine c_then ?_ | ((apply st hF); (first | exact d_fieldAddr (fld _ _ _ _ rfl) (isz _ _ rfl) | exact d_load (und _ _ rfl) c7); clear hF; clear a; intro a hF))
  refine stc hF (lent_signals w4 ps m.sg _ m.sgC (SigsIn.below hs hb4)) cal14 ⟨rfl, trivial⟩ (k := fun a v w5 hR hF => ?_)
  obtain ⟨⟨g, cap, ls, rfl, hll, hown, hok⟩, hb5⟩ := hR
  have hb5' : Below w.heap.size w w5 := hb4.trans (hb5.mono (by omega))
  have hg15 : w5.heap[w.heap.size]? = _ := (hb5.block _ (lt_at hg14)).trans hg14
  have hg25 : w5.heap[w1.heap.size]? = _ := (hb5.block _ (lt_at hg24)).trans hg24
  have hg35 : w5.heap[w2.heap.size]? = _ := (hb5.block _ (lt_at hg4)).trans hg4
  have hz5 := hb5.size
  have hgge := own_base' hown
  repeat (((apply st hF); (exact d_fieldAddr (fld _ _ _ _ rfl) (isz _ _ rfl)); clear hF; clear a; intro a hF))
  refine st_store hF (isz _ _ rfl) hg35 (i := 7) (by show 7 < 8; decide) rfl rfl rfl (k := fun a w6 hg6 hgr6 hsz6 hF => ?_)
  have hb6 : Below w.heap.size w w6 := hb5'.grown hgr6 (by omega) (fun k hk => by cases hk; omega)
  have hg26 := blk_kept hg25 hgr6 (by simp; omega)
  repeat (first | refine c_seq ?_ | refine c_region _ ?_ | refine wpList_nil ?_ | refine c_then ?_ | ((apply st hF); (exact d_loadAgg (agg _ rfl) (isz _ _ rfl) rfl (cells_at hg6)); clear hF; clear a; intro a hF))
  refine st_storeAgg hF (cs := (Msg.cells { m with sg := some ⟨g, 0, none⟩, sgN := ps.length, sgC := cap }).toArray) (isz _ _ rfl) rfl rfl hg26 (msg_cells _) (k := fun a w7 hg7 hgr7 hsz7 hF => ?_)
  have hb7 : Below w.heap.size w w7 := hb6.grown hgr7 (by omega) (fun k hk => by cases hk; omega)
  -- the blocks behind w4 are as they were
  have keep : ∀ k, w4.heap.size ≤ k → k < w5.heap.size → w7.heap[k]? = w5.heap[k]? := fun k h1 h2 => (hgr7.block k (by omega) (by simp; omega)).trans (hgr6.block k h2 (by simp; omega))
  repeat (first | refine wpList_nil ?_ | refine c_then ?_ | refine wp_ret ?_)
  refine ret_c hF rfl (agg _ rfl) (isz _ _ rfl) hg7 rfl ⟨g, cap, by rw [hlen]; rfl, ⟨g, cap, ls, by rw [hlen], hll, ?_, fun i hi => ?_⟩, hb7⟩
  · refine own_rebase (own_keptB (own_keptB hown hgr6 (fun k hk e => ?_)) hgr7 (fun k hk e => ?_)) (fun k hk => ?_)
    · simp only [Value.ownBlock, Option.some.injEq] at hk e; omega
    · simp only [Value.ownBlock, Option.some.injEq] at hk e; omega
    · simp only [Value.ownBlock, Option.some.injEq] at hk; omega
  · obtain ⟨p, gi, ci, h1, h2, g', c', e, hlo⟩ := hok i hi
    have hge' := own_base' hlo
    refine ⟨p, gi, ci, h1, h2, g', c', e, own_rebase (own_keptB (own_keptB hlo hgr6 (fun k hk e => ?_)) hgr7 (fun k hk e => ?_)) (fun k hk => ?_)⟩
    · simp only [Value.ownBlock, Option.some.injEq] at hk e; omega
    · simp only [Value.ownBlock, Option.some.injEq] at hk e; omega
    · simp only [Value.ownBlock, Option.some.injEq] at hk; omega

set_option maxHeartbeats 4000000 in
theorem kept_message (w : World) (m : Msg) (ps : List SigT) (g cap base : Nat) (hs : MsgIn w m ps) (hl : LentS base w (.slice (some ⟨g, 0, none⟩) m.sgN cap) ps) :
    Ret Tryz.prog 9 #[.agg (Msg.cells (m.at g cap)).toArray, .agg (Msg.cells m).toArray] w (fun v w' => v = .bool true ∧ Below w.heap.size w w') := by
  refine enter2 Tryz.func9 rfl 50 rfl 52 rfl (fun a hF => ?_)
  repeat (first | refine c_seq ?_ | refine c_region _ ?_)
  refine st_box hF (cs := (Msg.cells (m.at g cap)).toArray) rfl (k := fun a w1 hg1 hgr1 hsz1 hF => ?_)
  refine st_box hF (cs := (Msg.cells m).toArray) rfl (k := fun a w2 hg2 hgr2 hsz2 hF => ?_)
  have hb2 : Below w.heap.size w w2 := ((Below.refl _ w).grown hgr1 (Nat.le_refl _) (fun k hk => by cases hk)).grown hgr2 (by omega) (fun k hk => by cases hk)
  have hg12 := blk_kept hg1 hgr2 (by simp)
  have x2 : w2.cell? ⟨w.heap.size, 2, none⟩ = some (.int .u32 m.id) := cell_at hg12 rfl
  have x3 : w2.cell? ⟨w.heap.size, 3, none⟩ = some (.bool m.wide) := cell_at hg12 rfl
  have x4 : w2.cell? ⟨w.heap.size, 4, none⟩ = some (.string m.name) := cell_at hg12 rfl
  have x5 : w2.cell? ⟨w.heap.size, 5, none⟩ = some (.int .i64 m.size) := cell_at hg12 rfl
  have x6 : w2.cell? ⟨w.heap.size, 6, none⟩ = some (.string m.sender) := cell_at hg12 rfl
  have x7 : w2.cell? ⟨w.heap.size, 7, none⟩ = some (.slice (some ⟨g, 0, none⟩) m.sgN cap) := cell_at hg12 rfl
  have xp0 : ∀ j v, (#[.int .i64 m.line, .int .i64 m.col] : Array Value)[j]? = some v → w2.cell? ⟨w.heap.size, 0 + j, none⟩ = some v := pair_at (cell_at (i := 0) hg12 rfl) (cell_at (i := 1) hg12 rfl)
  have y2 : w2.cell? ⟨w1.heap.size, 2, none⟩ = some (.int .u32 m.id) := cell_at hg2 rfl
  have y3 : w2.cell? ⟨w1.heap.size, 3, none⟩ = some (.bool m.wide) := cell_at hg2 rfl
  have y4 : w2.cell? ⟨w1.heap.size, 4, none⟩ = some (.string m.name) := cell_at hg2 rfl
  have y5 : w2.cell? ⟨w1.heap.size, 5, none⟩ = some (.int .i64 m.size) := cell_at hg2 rfl
  have y6 : w2.cell? ⟨w1.heap.size, 6, none⟩ = some (.string m.sender) := cell_at hg2 rfl
  have y7 : w2.cell? ⟨w1.heap.size, 7, none⟩ = some (.slice m.sg m.sgN m.sgC) := cell_at hg2 rfl
  have yp0 : ∀ j v, (#[.int .i64 m.line, .int .i64 m.col] : Array Value)[j]? = some v → w2.cell? ⟨w1.heap.size, 0 + j, none⟩ = some v := pair_at (cell_at (i := 0) hg2 rfl) (cell_at (i := 1) hg2 rfl)
  repeat (first | refine c_seq ?_ | refine c_region _ ?_ | refine wpList_nil ?_ | refine c_then ?_ | ((first | apply st hF | apply stg hF); (first | exact d_move | exact d_assign | exact d_pickT | exact d_cmpT | exact d_eqbT (und _ _ rfl) | exact d_eqST | exact d_fieldAddr (fld _ _ _ _ rfl) (isz _ _ rfl) | exact d_loadAgg (agg _ rfl) (isz _ _ rfl) rfl xp0 | exact d_loadAgg (agg _ rfl) (isz _ _ rfl) rfl yp0 | exact d_eqPs pairPlace | exact d_load (und _ _ rfl) x2 | exact d_load (und _ _ rfl) x3 | exact d_load (und _ _ rfl) x4 | exact d_load (und _ _ rfl) x5 | exact d_load (und _ _ rfl) x6 | exact d_load (und _ _ rfl) x7 | exact d_load (und _ _ rfl) y2 | exact d_load (und _ _ rfl) y3 | exact d_load (und _ _ rfl) y4 | exact d_load (und _ _ rfl) y5 | exact d_load (und _ _ rfl) y6 | exact d_load (und _ _ rfl) y7); clear hF; clear a; intro a hF))
  refine stcg hF (kept_signals w2 ps _ base m.sg _ m.sgC (SigsIn.below hs hb2) (hl.below hb2)) cal28 ⟨rfl, rfl, trivial⟩ (k := fun a v w3 hR hF => ?_)
  obtain ⟨rfl, hb3⟩ := hR
  repeat (first | refine wpList_nil ?_ | refine c_then ?_ | refine wp_ret ?_ | ((apply st hF); (first | exact d_assign | exact d_pickT); clear hF; clear a; intro a hF))
  exact ret1 hF rfl rfl ⟨rfl, hb2.trans (hb3.mono hb2.size)⟩

end Go.Proofs.YtjomihhpglojpaaGreatDoor
end
section
/- Signals with their texts, zipped. Plain. -/
namespace Go.Proofs.YtjomihhpglojpaaGreatDoor
open Go.RowKit
set_option linter.unusedSimpArgs false
set_option linter.unusedVariables false
attribute [local irreducible] wpList wpQuiet wpStill Code.wp Exit.then Exit.inBlock bodyPost Calls Does Does0
theorem msgE_idx {m : Msg} {ps : List SigT} {i : Nat} (h : (msgE m ps).2 = some i) : i < ps.length := by
  unfold msgE at h
  split at h
  · cases h
  · unfold thenF at h
    split at h
    · rename_i k hk
      cases h
      exact (of_some hk).1
    · split at h
      · rename_i k hk
        cases h
        exact (of_some hk).1
      · split at h
        · rename_i k hk
          cases h
          exact (of_some hk).1
        · cases h
/-- The signals with their texts, zipped. -/
def zipP (ls : List Sig) (ps : List SigT) : List SigT := ls.zip (ps.map (·.2))
theorem zipP_len {ls : List Sig} {ps : List SigT} (h : ls.length = ps.length) : (zipP ls ps).length = ps.length := by simp [zipP, h]
theorem zipP_sg {ls : List Sig} {ps : List SigT} (h : ls.length = ps.length) {i : Nat} (hi : i < ps.length) : sg (zipP ls ps) i = ls.getD i sigM := by
  rw [sg_lt (by rw [zipP_len h]; exact hi)]
  simp [zipP, List.getD, h, hi]
theorem zipP_tx {ls : List Sig} {ps : List SigT} (h : ls.length = ps.length) {i : Nat} (hi : i < ps.length) : tx (zipP ls ps) i = tx ps i := by
  rw [tx_lt (by rw [zipP_len h]; exact hi), tx_lt hi]
  simp [zipP]
theorem zipP_map {ls : List Sig} {ps : List SigT} (h : ls.length = ps.length) : (zipP ls ps).map (·.1) = ls := by
  unfold zipP
  exact List.map_fst_zip (by simp [h])
end Go.Proofs.YtjomihhpglojpaaGreatDoor
end
section
/- What may be, may be without some of its signals that are no multiplexor; places do not count. Plain. -/
namespace Go.Proofs.YtjomihhpglojpaaGreatDoor
open Go.RowKit
set_option linter.unusedSimpArgs false
set_option linter.unusedVariables false
attribute [local irreducible] wpList wpQuiet wpStill Code.wp Exit.then Exit.inBlock bodyPost Calls Does Does0
set_option maxRecDepth 100000
theorem alone_congr {s t : Sig} {ss : List ByteArray} {n : Int} (h1 : s.name = t.name) (h2 : s.role = t.role) (h3 : s.branch = t.branch) (h4 : s.start = t.start) (h5 : s.size = t.size) (h6 : s.mot = t.mot)
    (h7 : s.sn = t.sn ∧ s.sd = t.sd ∧ s.fn = t.fn ∧ s.fd = t.fd ∧ s.mn = t.mn ∧ s.md = t.md ∧ s.xn = t.xn ∧ s.xd = t.xd) (h8 : s.unit = t.unit) : aloneE s ss n = aloneE t ss n := by
  obtain ⟨a1, a2, a3, a4, a5, a6, a7, a8⟩ := h7
  have hr : roleB s ↔ roleB t := by unfold roleB; rw [h2, h3]
  have hR : rangedE s = rangedE t := by
    unfold rangedE
    simp only [a1, a2, a3, a4, a5, a6, a7, a8]
  unfold aloneE
  simp only [h1, h4, h5, h6, h8, hR, hr]
/-- The signals qs are some of the signals ps, in their order; the multiplexors are all there. -/
structure Some' (ps qs : List SigT) (f : Nat → Nat) : Prop where
  lt : ∀ i, i < qs.length → f i < ps.length
  mono : ∀ i j, i < j → f i < f j
  sgE : ∀ i, i < qs.length → sg qs i = sg ps (f i)
  txE : ∀ i, i < qs.length → tx qs i = tx ps (f i)
  mux : ∀ k, k < ps.length → (sg ps k).role = 1 → ∃ i, i < qs.length ∧ f i = k
theorem good_some {m m' : Msg} {ps qs : List SigT} {f : Nat → Nat} (h : Some' ps qs f) (hm : MsgGood m ps) (hh : headE m' = 0) (hs : m'.size = m.size) : MsgGood m' qs := by
  refine ⟨hh, fun j hj => ?_, fun j hj hb => ?_, fun j hj hb => ?_⟩
  · have h1 := hm.one (f j) (h.lt j hj)
    refine one_of ?_ ?_ ?_
    · rw [h.sgE j hj, h.txE j hj, hs]; exact alone_of_one h1
    · intro k hk
      rw [h.sgE j hj, h.sgE k (by omega)]
      exact names_of_one h1 (f k) (h.mono k j hk)
    · intro hr k hk
      rw [h.sgE j hj] at hr
      rw [h.sgE k (by omega)]
      exact mux_of_one h1 hr (f k) (h.mono k j hk)
  · refine hm.two (f j) (h.lt j hj) ?_
    obtain ⟨hr, hx⟩ := hb
    rw [h.sgE j hj] at hr hx
    refine ⟨hr, fun k hk => ?_⟩
    obtain ⟨k1, k2, k3⟩ := of_some hk
    obtain ⟨i, hi, rfl⟩ := h.mux k k1 k2
    have e : firstAt (isMux qs) qs.length = some i := by
      refine firstAt_some hi ?_ (fun j' hj' hb' => ?_)
      · unfold isMux; rw [h.sgE i hi]; exact k2
      · unfold isMux at hb'
        rw [h.sgE j' (by omega)] at hb'
        exact k3 (f j') (h.mono j' i hj') hb'
    have := hx i e
    rw [h.sgE i hi] at this
    exact this
  · obtain ⟨k, hk, ht, hsh⟩ := hb
    rw [h.sgE j hj, h.sgE k (by omega)] at ht hsh
    exact hm.meet (f j) (h.lt j hj) ⟨f k, h.mono k j hk, ht, hsh⟩
/-- All but number n. -/
theorem some_erase {ps : List SigT} {n : Nat} (hn : n < ps.length) (hr : (sg ps n).role ≠ 1) : Some' ps (ps.eraseIdx n) (fun i => if i < n then i else i + 1) := by
  have hl : (ps.eraseIdx n).length = ps.length - 1 := List.length_eraseIdx_of_lt hn
  have hg : ∀ i, i < ps.length - 1 → ∀ d, (ps.eraseIdx n).getD i d = ps.getD (if i < n then i else i + 1) d := by
    intro i hi d
    rw [List.getD_eq_getElem?_getD, List.getD_eq_getElem?_getD, List.getElem?_eraseIdx]
    split <;> rfl
  refine ⟨fun i hi => ?_, fun i j hij => ?_, fun i hi => ?_, fun i hi => ?_, fun k hk hr' => ?_⟩
  · split <;> omega
  · show (if i < n then i else i + 1) < (if j < n then j else j + 1)
    split <;> split <;> omega
  · unfold sg; rw [hg i (by omega)]
  · unfold tx; rw [hg i (by omega)]
  · by_cases e : k < n
    · exact ⟨k, by omega, by rw [if_pos e]⟩
    · by_cases e2 : k = n
      · subst e2; exact absurd hr' hr
      · exact ⟨k - 1, by omega, by rw [if_neg (by omega)]; omega⟩
/-- The places do not count. -/
structure SameSig (s t : Sig) : Prop where
  name : s.name = t.name
  role : s.role = t.role
  branch : s.branch = t.branch
  start : s.start = t.start
  size : s.size = t.size
  mot : s.mot = t.mot
  sgn : s.sgn = t.sgn
  rats : s.sn = t.sn ∧ s.sd = t.sd ∧ s.fn = t.fn ∧ s.fd = t.fd ∧ s.mn = t.mn ∧ s.md = t.md ∧ s.xn = t.xn ∧ s.xd = t.xd
  unit : s.unit = t.unit
theorem msgE_same {m m' : Msg} {ps qs : List SigT} (hl : qs.length = ps.length) (hh : headE m' = headE m) (hs : m'.size = m.size) (h : ∀ i, i < ps.length → SameSig (sg qs i) (sg ps i) ∧ tx qs i = tx ps i) : msgE m' qs = msgE m ps := by
  have a1 : ∀ i, i < ps.length → oneE qs m'.size i = oneE ps m.size i := by
    intro i hi
    obtain ⟨h1, h2⟩ := h i hi
    unfold oneE
    rw [h2, hs, alone_congr h1.name h1.role h1.branch h1.start h1.size h1.mot h1.rats h1.unit, h1.role, h1.name]
    have e1 : (∃ k, k < i ∧ (sg qs k).name = (sg ps i).name) ↔ (∃ k, k < i ∧ (sg ps k).name = (sg ps i).name) :=
      ⟨fun ⟨k, hk, e⟩ => ⟨k, hk, by rw [← (h k (by omega)).1.name]; exact e⟩, fun ⟨k, hk, e⟩ => ⟨k, hk, by rw [(h k (by omega)).1.name]; exact e⟩⟩
    have e2 : ((sg ps i).role = 1 ∧ ∃ k, k < i ∧ (sg qs k).role = 1) ↔ ((sg ps i).role = 1 ∧ ∃ k, k < i ∧ (sg ps k).role = 1) :=
      ⟨fun ⟨r, k, hk, e⟩ => ⟨r, k, hk, by rw [← (h k (by omega)).1.role]; exact e⟩, fun ⟨r, k, hk, e⟩ => ⟨r, k, hk, by rw [(h k (by omega)).1.role]; exact e⟩⟩
    simp only [e1, e2]
  have a2 : firstAt (isMux qs) qs.length = firstAt (isMux ps) ps.length := by
    rw [hl]
    exact firstAt_congr fun i hi => by unfold isMux; rw [(h i hi).1.role]
  have a3 : ∀ i, i < ps.length → (twoB qs i ↔ twoB ps i) := by
    intro i hi
    unfold twoB
    rw [a2, (h i hi).1.role, (h i hi).1.branch]
    constructor
    · rintro ⟨r, hx⟩
      exact ⟨r, fun k hk => by have := hx k hk; rw [(h k (of_some hk).1).1.size, (h k (of_some hk).1).1.sgn] at this; exact this⟩
    · rintro ⟨r, hx⟩
      exact ⟨r, fun k hk => by rw [(h k (of_some hk).1).1.size, (h k (of_some hk).1).1.sgn]; exact hx k hk⟩
  have a4 : ∀ i, i < ps.length → (meetB qs i ↔ meetB ps i) := by
    intro i hi
    have key : ∀ k, k < i → togB (sg qs k) (sg qs i) = togB (sg ps k) (sg ps i) ∧ (shareB (sg qs k) (sg qs i) ↔ shareB (sg ps k) (sg ps i)) := by
      intro k hk
      have hk' := (h k (by omega)).1
      have hi' := (h i hi).1
      unfold togB shareB
      rw [hk'.role, hi'.role, hk'.branch, hi'.branch, hk'.start, hk'.size, hk'.mot, hi'.start, hi'.size, hi'.mot]
      exact ⟨rfl, Iff.rfl⟩
    constructor
    · rintro ⟨k, hk, ht, hsh⟩
      exact ⟨k, hk, by rw [← (key k hk).1]; exact ht, (key k hk).2.1 hsh⟩
    · rintro ⟨k, hk, ht, hsh⟩
      exact ⟨k, hk, by rw [(key k hk).1]; exact ht, (key k hk).2.2 hsh⟩
  unfold msgE
  rw [hh, hl, firstAt_congr (fun i hi => by rw [a1 i hi] : ∀ i, i < ps.length → (oneE qs m'.size i ≠ 0 ↔ oneE ps m.size i ≠ 0)), firstAt_congr a3, firstAt_congr a4]
  split
  · rfl
  · rcases firstAt_spec (fun i => oneE ps m.size i ≠ 0) ps.length with ⟨e, _⟩ | ⟨k, e, hk, _⟩
    · rw [e]
      simp only [thenF]
    · rw [e]
      unfold thenF
      dsimp only
      rw [a1 k hk]
end Go.Proofs.YtjomihhpglojpaaGreatDoor
end
section
/- CheckMessage, walked. -/
namespace Go.Proofs.YtjomihhpglojpaaGreatDoor
open Go.RowKit
set_option linter.unusedSimpArgs false
set_option linter.unusedVariables false
attribute [local irreducible] wpList wpQuiet wpStill Code.wp Exit.then Exit.inBlock bodyPost Calls Does Does0
set_option maxRecDepth 100000
theorem rd_pre' {α : Type} {w : World} {ao : Option Addr} {enc : α → Value} {xs ys : List α} (h : Rd w ao enc (xs ++ ys)) : Rd w ao enc xs := by
  intro i hi
  obtain ⟨b, o, e, hc⟩ := h i (by rw [List.length_append]; omega)
  exact ⟨b, o, e, by rw [hc, List.getElem_append_left hi]⟩
theorem same_at (s : Sig) (g c : Nat) : SameSig (s.at g c) s := ⟨rfl, rfl, rfl, rfl, rfl, rfl, rfl, ⟨rfl, rfl, rfl, rfl, rfl, rfl, rfl, rfl⟩, rfl⟩
theorem sigB_at' {s : Sig} (h : SigB s) (g c : Nat) : SigB (s.at g c) := ⟨h.sn, h.sd, h.fn, h.fd, h.mn, h.md, h.xn, h.xd, h.br⟩
/-- A lent list of signals is a list of signals; nothing else about it is new. -/
theorem lent_in {base : Nat} {w w0 : World} {m : Msg} {ps : List SigT} {g cap : Nat} (hl : LentS base w (.slice (some ⟨g, 0, none⟩) m.sgN cap) ps) (hin : MsgIn w0 m ps) (hB : ∀ p ∈ ps, SigB p.1) :
    ∃ qs, MsgIn w (m.at g cap) qs ∧ (∀ p ∈ qs, SigB p.1) ∧ msgE (m.at g cap) qs = msgE m ps ∧ placeL (m.at g cap) qs (msgE m ps).2 = placeL m ps (msgE m ps).2 ∧ placeC (m.at g cap) qs (msgE m ps).2 = placeC m ps (msgE m ps).2 := by
  obtain ⟨g', cap', ls, e, hll, hown, hok⟩ := hl
  have hlen := hin.len
  have e1 : g = g' := Option.some.inj (congrArg Value.ownBlock e)
  have e2 : cap = cap' := by injection e
  subst e1; subst e2
  have hat : ∀ i, i < ps.length → ∃ gi ci, ls.getD i sigM = (sg ps i).at gi ci ∧ SigIn w ((sg ps i).at gi ci) (tx ps i) := by
    intro i hi
    obtain ⟨p, gi, ci, h1, h2, gt, ct, h3, h4⟩ := hok i hi
    have ep : ps[i] = p := by rw [List.getElem?_eq_getElem hi] at h1; exact Option.some.inj h1
    have hs := hin.each ps[i] (List.getElem_mem hi)
    rw [sg_lt hi, tx_lt hi]
    subst ep
    have eg : gi = gt := Option.some.inj (congrArg Value.ownBlock h3)
    have ec : ci = ct := by injection h3
    subst eg; subst ec
    refine ⟨gi, ci, by rw [List.getD_eq_getElem?_getD, h2]; rfl, hs.len, rd_pre' (own_rd h4).2, ?_, hs.bytes⟩
    have := (own_cap' h4).1
    have h5 := hs.len
    show ps[i].1.toN ≤ ci
    omega
  have hRd : RdS w (some ⟨g, 0, none⟩) 19 Sig.cells ls := by
    have := own_rdS sigc_len hown (by simp [hll])
    intro i hi
    obtain ⟨b, o, h1, h2⟩ := this i (by simp; omega)
    rw [List.getElem_append_left hi] at h2
    exact ⟨b, o, h1, h2⟩
  have hmsg : msgE (m.at g cap) (zipP ls ps) = msgE m ps := by
    refine msgE_same (zipP_len hll) rfl rfl fun i hi => ?_
    rw [zipP_sg hll hi, zipP_tx hll hi]
    obtain ⟨gi, ci, h1, _⟩ := hat i hi
    rw [h1]
    exact ⟨same_at _ _ _, rfl⟩
  refine ⟨zipP ls ps, ⟨by rw [zipP_len hll]; exact hlen, by rw [zipP_map hll]; exact hRd, fun p hp => ?_, ?_, hin.bytes⟩, fun p hp => ?_, hmsg, ?_, ?_⟩
  · obtain ⟨i, hi, rfl⟩ := List.getElem_of_mem hp
    have hi' : i < ps.length := by rw [zipP_len hll] at hi; exact hi
    have h1 := zipP_sg hll hi'
    have h2 := zipP_tx hll hi'
    rw [sg_lt hi] at h1
    rw [tx_lt hi] at h2
    obtain ⟨gi, ci, h3, h4⟩ := hat i hi'
    rw [h1, h2, h3]
    exact h4
  · have := (own_cap' hown).1
    show m.sgN ≤ cap
    omega
  · obtain ⟨i, hi, rfl⟩ := List.getElem_of_mem hp
    have hi' : i < ps.length := by rw [zipP_len hll] at hi; exact hi
    have h1 := zipP_sg hll hi'
    rw [sg_lt hi] at h1
    obtain ⟨gi, ci, h3, h4⟩ := hat i hi'
    rw [h1, h3]
    exact sigB_at' (by rw [sg_lt hi']; exact hB _ (List.getElem_mem hi')) _ _
  · cases ho : (msgE m ps).2 with
    | none => rfl
    | some i =>
      have hi := msgE_idx ho
      obtain ⟨gi, ci, h3, h4⟩ := hat i hi
      show (sg (zipP ls ps) i).line = (sg ps i).line
      rw [zipP_sg hll hi, h3]
      rfl
  · cases ho : (msgE m ps).2 with
    | none => rfl
    | some i =>
      have hi := msgE_idx ho
      obtain ⟨gi, ci, h3, h4⟩ := hat i hi
      show (sg (zipP ls ps) i).col = (sg ps i).col
      rw [zipP_sg hll hi, h3]
      rfl
set_option maxHeartbeats 8000000 in
theorem checkmessage_ok (w : World) (m : Msg) (ps : List SigT) (hin : MsgIn w m ps) (hB : ∀ p ∈ ps, SigB p.1) (hh : Handle w) (hT : Tabs w) :
    Ret Tryz.prog 3 #[.agg (Msg.cells m).toArray] w (fun v w' => v = .bool true ∧ Below w.heap.size w w') := by
  refine enter1 Tryz.func3 rfl 15 rfl 16 rfl (fun a hF => ?_)
  repeat (first | refine c_seq ?_ | refine c_region _ ?_)
  refine st_box hF (cs := (Msg.cells m).toArray) rfl (k := fun a w1 hg1 hgr1 hsz1 hF => ?_)
  have hb1 : Below w.heap.size w w1 := (Below.refl _ w).grown hgr1 (Nat.le_refl _) (fun k hk => by cases hk)
  have hm1 : MgAt w.heap.size m w1 := hg1
  clear hg1 hgr1
  repeat (first | refine c_seq ?_ | refine c_region _ ?_ | refine wpList_nil ?_ | refine c_then ?_ | ((apply st hF); (first | exact d_assign | exact d_loadAgg (agg _ rfl) (isz _ _ rfl) rfl (cells_at hm1)); clear hF; clear a; intro a hF))
  refine stc hF (lent_message w1 m ps (SigsIn.below hin hb1)) cal5 ⟨rfl, trivial⟩ (k := fun a v w2 hR hF => ?_)
  obtain ⟨g, cap, rfl, hl, hb2⟩ := hR
  have hm2 := hm1.below hb2
  have hB2 : Below w.heap.size w w2 := hb1.trans (hb2.mono hb1.size)
  refine st_alloc hF inf27 (k := fun a w3 hg3 hgr3 hsz3 hF => ?_)
  refine st_storeAgg hF (cs := (Msg.cells (m.at g cap)).toArray) (isz _ _ rfl) rfl rfl hg3 (msg_cells _) (k := fun a w4 hx4 hgr4 hsz4 hF => ?_)
  have hb4 : Below w2.heap.size w2 w4 := ((Below.refl _ w2).grown hgr3 (Nat.le_refl _) (fun k hk => by cases hk)).grown hgr4 (by omega) (fun k hk => by cases hk; exact Nat.le_refl _)
  have hx4 : MgAt w2.heap.size (m.at g cap) w4 := hx4
  have hm4 := hm2.below hb4
  have hl4 := hl.below hb4
  replace hb4 : Below w.heap.size w w4 := hB2.trans (hb4.mono hB2.size)
  clear hg3 hgr3 hgr4 hm1 hm2 hl hb2
  repeat (first | (refine c_region_mix (fun wq => MgAt w.heap.size m wq ∧ MgAt w2.heap.size (m.at g cap) wq) [(0, true), (2, true), (1, false), (3, false), (4, false), (5, true), (6, true), (7, true), (8, false), (9, true), (10, true)] 2 mixed (by kernel_rfl) ⟨hm4, hx4⟩ ?_; simp only [pickX, List.filterMap_cons, List.getElem?_cons_zero, List.getElem?_cons_succ, List.filterMap_nil, Option.map_some]) | refine c_seq ?_ | refine wpList_nil ?_ | refine c_then ?_)
  have hdb : Below w4.heap.size w4 (w4.drewN 1) := below_more (Below.refl _ w4) 1
  generalize w4.drewN 1 = w5 at *
  have hB5 : Below w.heap.size w w5 := hb4.trans (hdb.mono hb4.size)
  have hm5 := hm4.below hdb
  have hx5 := hx4.below hdb
  have hl5 := hl4.below hdb
  obtain ⟨qs, hqin, hqB, hqE, hqL, hqC⟩ := lent_in hl5 hin hB
  clear hm4 hx4 hl4 hdb
  repeat (((apply x_step hF); intro wq hwq; (first | exact d_loadAgg (agg _ rfl) (isz _ _ rfl) rfl (cells_at hwq.1) | exact d_loadAgg (agg _ rfl) (isz _ _ rfl) rfl (cells_at hwq.2)); clear hF; clear a; intro a hF))
  refine x_one ?_
  refine stc hF (cmsg_ok w5 (m.at g cap) qs hqin hqB (hT.below hB5)) cal7 ⟨rfl, trivial⟩ (k := fun a v w6 hR hF => ?_)
  obtain ⟨rfl, hb6⟩ := hR
  rw [hqE, hqL, hqC] at hF
  have hm6 := hm5.below hb6
  have hx6 := hx5.below hb6
  have hl6 := hl5.below hb6
  have hB6 := hB5.trans (hb6.mono hB5.size)
  refine wpList_nil ⟨rfl, ⟨hm6, hx6⟩, x_one ?_⟩
  refine stc hF (rmsg_ok w6 m ps (SigsIn.below hin hB6) hB) cal8 ⟨rfl, trivial⟩ (k := fun a v w7 hR hF => ?_)
  obtain ⟨rfl, hb7⟩ := hR
  have hm7 := hm6.below hb7
  have hx7 := hx6.below hb7
  have hl7 := hl6.below hb7
  have hB7 := hB6.trans (hb7.mono hB6.size)
  refine wpList_nil ⟨rfl, ⟨hm7, hx7⟩, x_one ?_⟩
  refine stc hF (told_ok w7 _ _ _ (hh.below hB7) (msgE_bnd m ps)) cal6 ⟨rfl, rfl, trivial⟩ (k := fun a v w8 hR hF => ?_)
  obtain ⟨rfl, hb8⟩ := hR
  have hm8 := hm7.below hb8
  have hx8 := hx7.below hb8
  have hl8 := hl7.below hb8
  have hB8 := hB7.trans (hb8.mono hB7.size)
  refine wpList_nil ⟨rfl, ⟨hm8, hx8⟩, ?_⟩
  repeat (((first | apply x_step hF | apply x_stg hF); intro wq hwq; (first | exact d_move | exact d_loadAgg (agg _ rfl) (isz _ _ rfl) rfl (cells_at hwq.1) | exact d_loadAgg (agg _ rfl) (isz _ _ rfl) rfl (cells_at hwq.2)); clear hF; clear a; intro a hF))
  refine x_one ?_
  refine stcg hF (kept_message w8 m ps g cap _ (SigsIn.below hin hB8) hl8) cal9 ⟨rfl, rfl, trivial⟩ (k := fun a v w9 hR hF => ?_)
  obtain ⟨rfl, hb9⟩ := hR
  refine wpList_nil ⟨rfl, ⟨hm8.below hb9, hx8.below hb9⟩, ?_⟩
  repeat (((apply x_step hF); intro wq hwq; (first | exact d_assign | exact d_pickT); clear hF; clear a; intro a hF))
  refine x_nil ?_
  repeat (first | refine c_then ?_ | refine wp_ret ?_)
  exact ret1 hF rfl rfl ⟨rfl, hB8.trans (hb9.mono hB8.size)⟩
end Go.Proofs.YtjomihhpglojpaaGreatDoor
end
