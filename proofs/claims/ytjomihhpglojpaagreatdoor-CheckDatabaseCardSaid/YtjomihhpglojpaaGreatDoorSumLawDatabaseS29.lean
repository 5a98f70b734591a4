/- Laid together by a program of mine: RMessW. -/
import Derived.Test.YtjomihhpglojpaaGreatDoorSumLawDatabaseS24
import Derived.Test.YtjomihhpglojpaaGreatDoorSumLawDatabaseS27
import Derived.Test.YtjomihhpglojpaaGreatDoorSumLawDatabaseS28
import Derived.Test.YtjomihhpglojpaaGreatDoorSumLawDatabaseS20
import Derived.Test.YtjomihhpglojpaaGreatDoorSumLawDatabaseS22
set_option linter.unusedSimpArgs false
set_option linter.unusedVariables false
section
/- The reference's Share and Message, walked. -/
namespace Go.Proofs.YtjomihhpglojpaaGreatDoor
open Go.RowKit
set_option linter.unusedSimpArgs false
set_option linter.unusedVariables false
attribute [local irreducible] wpList wpQuiet wpStill Code.wp Exit.then Exit.inBlock bodyPost Calls Does Does0
set_option maxRecDepth 100000
theorem ratV_size (n x y : Int) : (ratV n x y).size = 3 := by unfold ratV; split <;> rfl
theorem ratV_one (n x y : Int) : ∀ v ∈ ratV n x y, v.oneCell' = true := by unfold ratV; split <;> simp [Value.oneCell']
set_option maxHeartbeats 8000000 in
theorem share_ok (w : World) (s t : Sig) (l m : List Int) (hl : Pl.bitsOfSig s.start s.size s.mot = .ok l) (hm : Pl.bitsOfSig t.start t.size t.mot = .ok m) :
    Ret Tryz.prog 27 [.agg (Sig.cells s).toArray, .agg (Sig.cells t).toArray].toArray w (fun v w' => (∃ b, v = .bool b ∧ (b = true ↔ shareB s t)) ∧ Below w.heap.size w w') := by
  have hl64 := (bits_le hl).1
  have hm64 := (bits_le hm).1
  have hsh : shareB s t ↔ ∃ x, x ∈ l ∧ x ∈ m := by
    constructor
    · rintro ⟨l', m', x, h1, h2, h3, h4⟩
      rw [hl] at h1; rw [hm] at h2
      cases h1; cases h2
      exact ⟨x, h3, h4⟩
    · rintro ⟨x, h3, h4⟩
      exact ⟨l, m, x, hl, hm, h3, h4⟩
  refine enter2 Tryz.func27 rfl 40 rfl 42 rfl (fun a hF => ?_)
  repeat (first | refine c_seq ?_ | refine c_region _ ?_)
  refine st_box hF (cs := (Sig.cells s).toArray) rfl (k := fun a w1 hg1 hgr1 hsz1 hF => ?_)
  refine st_box hF (cs := (Sig.cells t).toArray) rfl (k := fun a w2 hg2 hgr2 hsz2 hF => ?_)
  have hb2 : Below w.heap.size w w2 := ((Below.refl _ w).grown hgr1 (Nat.le_refl _) (fun k hk => by cases hk)).grown hgr2 (by omega) (fun k hk => by cases hk)
  have hs2 : w2.heap[w.heap.size]? = some (.cells (Sig.cells s).toArray 62 (0, 0)) := blk_kept hg1 hgr2 (by simp)
  clear hg1 hgr1 hgr2
  repeat (first | refine c_seq ?_ | refine c_region _ ?_ | refine wpList_nil ?_ | refine c_then ?_ | ((apply st hF); (first | exact d_assign | exact d_loadAgg (agg _ rfl) (isz _ _ rfl) rfl (cells_at hs2)); clear hF; clear a; intro a hF))
  refine stc hF (refbits_of w2 (Sig.cells s).toArray s.start s.size s.mot ⟨rfl, rfl, rfl, rfl⟩) cal56 ⟨rfl, trivial⟩ (k := fun a v w3 hR hF => ?_)
  obtain ⟨hBR, hb3⟩ := hR
  rw [hl] at hBR
  obtain ⟨al, cl, rfl, hol⟩ := hBR
  have hrl := (own_rd hol).2
  have ht3 := (hb3.block _ (lt_at hg2)).trans hg2
  replace hb3 := hb2.trans (hb3.mono hb2.size)
  clear hol hs2 hg2
  repeat (first | refine c_seq ?_ | refine c_region _ ?_ | refine wpList_nil ?_ | refine c_then ?_ | ((apply st hF); (first | exact d_move | exact d_assign | exact d_extract | exact d_loadAgg (agg _ rfl) (isz _ _ rfl) rfl (cells_at ht3)); clear hF; clear a; intro a hF))
  refine stc hF (refbits_of w3 (Sig.cells t).toArray t.start t.size t.mot ⟨rfl, rfl, rfl, rfl⟩) cal56 ⟨rfl, trivial⟩ (k := fun a v w4 hR hF => ?_)
  obtain ⟨hBR, hb4⟩ := hR
  rw [hm] at hBR
  obtain ⟨am, cm, rfl, hom⟩ := hBR
  have hrm := (own_rd hom).2
  replace hrl := hrl.below hb4
  replace hb4 := hb3.trans (hb4.mono hb3.size)
  clear hom ht3 hb3 hb2
  repeat (first | refine c_seq ?_ | refine c_block ?_ | refine c_region _ ?_ | refine wpList_nil ?_ | refine c_then ?_ | ((apply st hF); (first | exact d_move | exact d_assign | exact d_extract); clear hF; clear a; intro a hF))
  refine c_loop (fun q a wr => ∃ i : Nat, i ≤ l.length ∧ q = l.length - i ∧ (∀ i' (h : i' < l.length), i' < i → l[i'] ∉ m) ∧ Fr 42 [(5, .slice al l.length cl), (7, .slice am m.length cm), (9, .int .i64 (i : Nat))] a ∧ Below w4.heap.size w4 wr) l.length
    ⟨0, Nat.zero_le _, rfl, fun i' _ h => absurd h (Nat.not_lt_zero _), hF.keep' ⟨rfl, rfl, rfl, trivial⟩, Below.refl _ _⟩ ?_
  clear hF a
  rintro q a wr ⟨i, hi, rfl, hno, hF, hbel⟩
  have hB : Below w.heap.size w wr := hb4.trans (hbel.mono hb4.size)
  by_cases hlt : i < l.length
  case neg =>
    repeat (first | refine c_seq ?_ | refine c_region _ ?_ | refine wpList_nil ?_ | refine c_then ?_ | refine c_then_exit ?_ | refine c_in_hit ?_ | refine wp_exit ?_ | refine wp_ret ?_ | ((apply st hF); (first | exact d_move | exact d_assign | exact d_cmpF | exact d_len (und _ _ rfl)); clear hF; clear a; intro a hF) | (apply c_cond_f hF; exact rfl; first | exact rfl | assumption))
    refine ret1 hF rfl rfl ⟨⟨false, rfl, fun h => Bool.noConfusion h, fun h => ?_⟩, hB⟩
    obtain ⟨x, h1, h2⟩ := hsh.1 h
    obtain ⟨i', hi', rfl⟩ := List.getElem_of_mem h1
    exact absurd h2 (hno i' hi' (by omega))
  repeat (first | refine c_seq ?_ | refine c_block ?_ | refine c_region _ ?_ | refine wpList_nil ?_ | refine c_then ?_ | refine wp_skip ?_ | ((apply st hF); (first | exact d_move | exact d_assign | exact d_cmpT | exact d_len (und _ _ rfl)); clear hF; clear a; intro a hF) | (apply c_cond_t hF; exact rfl; first | exact rfl | assumption))
  refine c_loop (fun q a wr => ∃ k : Nat, k ≤ m.length ∧ q = m.length - k ∧ (∀ k' (h : k' < m.length), k' < k → l[i] ≠ m[k']) ∧ Fr 42 [(5, .slice al l.length cl), (7, .slice am m.length cm), (9, .int .i64 (i : Nat)), (10, .int .i64 (k : Nat))] a ∧ Below w4.heap.size w4 wr) m.length
    ⟨0, Nat.zero_le _, rfl, fun k' _ h => absurd h (Nat.not_lt_zero _), hF.keep' ⟨rfl, rfl, rfl, rfl, trivial⟩, hbel⟩ ?_
  clear hF a hbel hB wr
  rintro q a wr ⟨k, hk, rfl, hno2, hF, hbel⟩
  have hB : Below w.heap.size w wr := hb4.trans (hbel.mono hb4.size)
  by_cases hkt : k < m.length
  case neg =>
    obtain rfl : k = m.length := by omega
    repeat (first | refine c_seq ?_ | refine c_region _ ?_ | refine wpList_nil ?_ | refine c_then ?_ | refine c_then_exit ?_ | refine c_in ?_ | refine c_in_hit ?_ | refine wp_exit ?_ | ((apply st hF); (first | exact d_move | exact d_assign | exact d_add | exact d_cmpF | exact d_len (und _ _ rfl)); clear hF; clear a; intro a hF) | (apply c_cond_f hF; exact rfl; first | exact rfl | assumption))
    refine ⟨l.length - (i + 1), by omega, i + 1, by omega, rfl, fun i' h1 h2 hmem => ?_, hF.keep' ⟨rfl, rfl, rfl, trivial⟩, hbel⟩
    by_cases e : i' = i
    · subst e
      obtain ⟨k', hk', e2⟩ := List.getElem_of_mem hmem
      exact hno2 k' hk' hk' e2.symm
    · exact hno i' h1 (by omega) hmem
  obtain ⟨b1, o1, e1, c1⟩ := hrl.below hbel i hlt
  obtain ⟨b2, o2, e2, c2⟩ := hrm.below hbel k hkt
  rw [e1, e2] at hF
  generalize hx : l[i] = x at *
  generalize hy : m[k] = y at *
  by_cases hxy : x = y
  · repeat (first | refine c_seq ?_ | refine c_block ?_ | refine c_region _ ?_ | refine wpList_nil ?_ | refine c_then ?_ | refine c_then_ret ?_ | refine c_in_ret ?_ | refine wp_skip ?_ | refine wp_ret ?_ | (refine q_nil ?_; rintro _ ⟨ndr, rfl⟩) | refine c_region_draw _ mixed (by kernel_rfl) ?_ | ((apply st hF); (first | exact d_move | exact d_assign | exact d_cmpT | exact d_len (und _ _ rfl)); clear hF; clear a; intro a hF) | ((apply q_step hF); intro wq hwq; (first | exact d_move | exact d_cmpT | exact d_indexAddr1 (und _ _ rfl) (isz _ _ rfl) | exact q_load (und _ _ rfl) hwq (by exact c1) | exact q_load (und _ _ rfl) hwq (by exact c2)); clear hF; clear a; intro a hF) | (apply c_cond_t hF; exact rfl; first | exact rfl | assumption))
    refine ret1 hF rfl rfl ⟨⟨true, rfl, fun _ => hsh.2 ⟨x, by rw [← hx]; exact List.getElem_mem _, by rw [hxy, ← hy]; exact List.getElem_mem _⟩, fun _ => rfl⟩, below_more hB _⟩
  · repeat (first | refine c_seq ?_ | refine c_block ?_ | refine c_region _ ?_ | refine wpList_nil ?_ | refine c_then ?_ | refine c_in ?_ | refine wp_skip ?_ | (refine q_nil ?_; rintro _ ⟨ndr, rfl⟩) | refine c_region_draw _ mixed (by kernel_rfl) ?_ | ((apply st hF); (first | exact d_move | exact d_assign | exact d_add | exact d_cmpT | exact d_len (und _ _ rfl)); clear hF; clear a; intro a hF) | ((apply q_step hF); intro wq hwq; (first | exact d_move | exact d_cmpF | exact d_indexAddr1 (und _ _ rfl) (isz _ _ rfl) | exact q_load (und _ _ rfl) hwq (by exact c1) | exact q_load (und _ _ rfl) hwq (by exact c2)); clear hF; clear a; intro a hF) | (apply c_cond_t hF; exact rfl; first | exact rfl | assumption) | (apply c_cond_f hF; exact rfl; first | exact rfl | assumption))
    exact ⟨m.length - (k + 1), by omega, k + 1, by omega, rfl, fun k' h1 h2 => by
      by_cases e : k' = k
      · subst e; rw [hy]; exact hxy
      · exact hno2 k' h1 (by omega), by rw [e1, e2]; exact hF.keep' ⟨rfl, rfl, rfl, rfl, trivial⟩, below_more hbel _⟩
/-- The first multiplexor, as the walks of both sides have it. -/
theorem muxR_I {ps : List SigT} {n : Nat} {z : Int} (hn : n ≤ ps.length) (h : MuxR (ps.map (·.1)) n z) : MuxI ps n z := by
  rcases h with ⟨i, hi, h1, h2, h3, rfl⟩ | ⟨h1, rfl⟩
  · have hi' : i < ps.length := by simpa using hi
    refine .inr ⟨i, rfl, h1, by rw [sg_lt hi']; simpa using h2, fun j hj => ?_⟩
    have := h3 j (by simp; omega) hj
    rw [sg_lt (by omega)]
    simpa using this
  · refine .inl ⟨rfl, fun j hj => ?_⟩
    have := h1 j (by simp; omega) hj
    rw [sg_lt (by omega)]
    simpa using this
set_option maxHeartbeats 16000000 in
theorem rmsg_ok (w : World) (m : Msg) (ps : List SigT) (hin : MsgIn w m ps) (hB : ∀ p ∈ ps, SigB p.1) :
    Ret Tryz.prog 8 [.agg (Msg.cells m).toArray].toArray w (fun v w' => v = .agg (ratV (msgE m ps).1 (placeL m ps (msgE m ps).2) (placeC m ps (msgE m ps).2)) ∧ Below w.heap.size w w') := by
  have hlen := hin.len
  have hby := hin.bytes
  have hcells : ∀ (wq : World), Below w.heap.size w wq → ∀ k, k < ps.length → ∃ b o, m.sg = some ⟨b, o, none⟩ ∧ ∀ q v, (Sig.cells (sg ps k))[q]? = some v → wq.cell? ⟨b, o + k * 19 + q, none⟩ = some v := fun wq hb k hk => sig_cells_at hin hb hk
  have hfault : ∀ (wq : World) (B : Nat) (n x y : Int) (l : List (Nat × Value)), True := fun _ _ _ _ _ _ => trivial
  clear hfault
  refine enter1 Tryz.func8 rfl 161 rfl 162 rfl (fun a hF => ?_)
  repeat (first | refine c_seq ?_ | refine c_region _ ?_)
  refine st_box hF (cs := (Msg.cells m).toArray) rfl (k := fun a w1 hg1 hgr1 hsz1 hF => ?_)
  refine st_alloc hF inf34 (k := fun a w2 hf2 hgr2 hsz2 hF => ?_)
  have hb2 : Below w.heap.size w w2 := ((Below.refl _ w).grown hgr1 (Nat.le_refl _) (fun k hk => by cases hk)).grown hgr2 (by omega) (fun k hk => by cases hk)
  have hm2 : MgAt w.heap.size m w2 := blk_kept hg1 hgr2 (by simp)
  replace hf2 : w2.heap[w1.heap.size]? = some (.cells (ratV 0 0 0) 34 (0, 0)) := hf2
  clear hg1 hgr1 hgr2
  repeat (first | refine c_seq ?_ | refine c_region _ ?_ | refine wpList_nil ?_ | refine c_then ?_ | ((apply st hF); (exact d_loadAgg (agg _ rfl) (isz _ _ rfl) rfl (cells_at hm2)); clear hF; clear a; intro a hF))
  refine stc hF (rhead_ok w2 m) cal21 ⟨rfl, trivial⟩ (k := fun a v w3 hR hF => ?_)
  obtain ⟨rfl, hb3⟩ := hR
  have hm3 := hm2.below hb3
  have hf3 := (hb3.block _ (lt_at hf2)).trans hf2
  replace hb3 := hb2.trans (hb3.mono hb2.size)
  clear hm2 hf2 hb2
  obtain ⟨he, hhe⟩ : ∃ x, x = headE m := ⟨_, rfl⟩
  rw [← hhe] at hF
  by_cases h0 : he = 0
  case neg =>
    repeat (first | refine c_seq ?_ | refine c_region _ ?_ | refine wpList_nil ?_ | refine c_then ?_ | ((apply st hF); (first | exact d_move | exact d_assign | exact d_cmpT | exact d_fieldAddr (fld _ _ _ _ rfl) (isz _ _ rfl) | exact d_loadAgg (agg _ rfl) (isz _ _ rfl) rfl hm3.pl); clear hF; clear a; intro a hF) | (apply c_cond_t hF; exact rfl; first | exact rfl | assumption))
    refine stc hF (rat9_ok w3 he m.line m.col) cal22 ⟨rfl, rfl, trivial⟩ (k := fun a v w4 hR hF => ?_)
    obtain ⟨rfl, hb4⟩ := hR
    have hf4 := (hb4.block _ (lt_at hf3)).trans hf3
    replace hb4 := hb3.trans (hb4.mono hb3.size)
    refine st_storeAgg hF (cs := ratV he m.line m.col) (isz _ _ rfl) (ratV_size _ _ _) (ratV_size _ _ _) hf4 (ratV_one _ _ _) (k := fun a w5 hf5 hgr5 hsz5 hF => ?_)
    repeat (first | refine wpList_nil ?_ | refine c_then ?_ | refine c_then_ret ?_ | refine wp_ret ?_)
    refine ret_c hF rfl (agg _ rfl) (by rw [ratV_size]; exact isz _ _ rfl) hf5 rfl ⟨?_, hb4.grown hgr5 hb4.size (fun k hk => by cases hk; omega)⟩
    rw [msgE_head (hhe ▸ h0), hhe]
    rfl
  have hh0 : headE m = 0 := by omega
  repeat (first | refine c_seq ?_ | refine c_block ?_ | refine c_region _ ?_ | refine wpList_nil ?_ | refine c_then ?_ | refine wp_skip ?_ | ((apply st hF); (first | exact d_move | exact d_assign | exact d_cmpF | exact d_fieldAddr (fld _ _ _ _ rfl) (isz _ _ rfl) | exact d_load (und _ _ rfl) (hm3.c 7 _ rfl)); clear hF; clear a; intro a hF) | (apply c_cond_f hF; exact rfl; first | exact rfl | assumption))
  refine c_loop (fun q a wr => ∃ k, k ≤ m.sgN ∧ q = m.sgN - k ∧ (∀ j, j < k → oneE ps m.size j = 0) ∧ Fr 162 [(1, .pointer (some ⟨w.heap.size, 0, none⟩)), (2, .pointer (some ⟨w1.heap.size, 0, none⟩)), (4, .slice m.sg m.sgN m.sgC), (5, .int .i64 (k : Nat))] a ∧
    MgAt w.heap.size m wr ∧ wr.heap[w1.heap.size]? = some (.cells (ratV 0 0 0) 34 (0, 0)) ∧ Below w.heap.size w wr) m.sgN
    ⟨0, Nat.zero_le _, rfl, fun j hj => absurd hj (Nat.not_lt_zero _), hF.keep' ⟨rfl, rfl, rfl, rfl, trivial⟩, hm3, hf3, hb3⟩ ?_
  clear hF a hm3 hf3 hb3
  rintro q a wr ⟨k, hk, rfl, hone, hF, hm, hf, hbel⟩
  have hz := hbel.size
  by_cases hlt : k < m.sgN
  case pos =>
    have hkl : k < ps.length := by omega
    obtain ⟨b, o, hao, hc⟩ := hcells wr hbel k hkl
    have hbr : SigB (sg ps k) := by rw [sg_lt hkl]; exact hB _ (List.getElem_mem hkl)
    have htx := tx_in hin hkl
    have hoE : ∀ e, oneE ps m.size k = e → e ≠ 0 → msgE m ps = (e, some k) := fun e he h1 => by
      rw [msgE_one hh0 hkl (by rw [he]; exact h1) hone, he]
    have hEq : oneE ps m.size k = oneE ps m.size k := rfl
    conv at hEq => rhs; unfold oneE
    obtain ⟨s, hs⟩ : ∃ x, x = sg ps k := ⟨_, rfl⟩
    obtain ⟨ss, hss⟩ : ∃ x, x = tx ps k := ⟨_, rfl⟩
    have hpl : placeL m ps (some k) = s.line ∧ placeC m ps (some k) = s.col := by rw [hs]; exact ⟨rfl, rfl⟩
    rw [← hs] at hc hbr htx hEq
    rw [← hss] at htx hEq
    rw [hao] at hF
    repeat (first | (refine c_region_mix (fun wq => Below wr.heap.size wr wq) [(0, true), (1, true), (2, true), (3, true), (4, true), (5, true), (6, false), (7, true)] 8 mixed (by kernel_rfl) (below_more (Below.refl _ wr) 1) ?_; simp only [pickX, List.filterMap_cons, List.getElem?_cons_zero, List.getElem?_cons_succ, List.filterMap_nil, Option.map_some]) | refine c_seq ?_ | refine c_block ?_ | refine c_region _ ?_ | refine wpList_nil ?_ | refine c_then ?_ | refine wp_skip ?_ | ((apply st hF); (first | exact d_move | exact d_cmpT | exact d_len (und _ _ rfl)); clear hF; clear a; intro a hF) | (apply c_cond_t hF; exact rfl; first | exact rfl | assumption))
    have hdb : Below wr.heap.size wr (wr.drewN 1) := below_more (Below.refl _ wr) 1
    generalize wr.drewN 1 = r1 at *
    repeat (((apply x_step hF); intro wq hwq; (first | exact d_move | exact d_fieldAddr (fld _ _ _ _ rfl) (isz _ _ rfl) | exact d_indexAddrS (und _ _ rfl) (isz _ _ rfl) (j := k) | exact d_loadAgg (agg _ rfl) (isz _ _ rfl) rfl (arr_cells (fun q v hq => keep_c (hc q v hq) hwq)) | exact d_load (und _ _ rfl) (((hm.below hwq).c 5 _ rfl))); clear hF; clear a; intro a hF))
    refine x_one ?_
    have hB1 : Below w.heap.size w r1 := hbel.trans (hdb.mono hz)
    refine stc hF (ralone_ok r1 s ss m.size (htx.below hB1) hbr) cal23 ⟨rfl, rfl, trivial⟩ (k := fun a v r2 hR hF => ?_)
    obtain ⟨rfl, hb2⟩ := hR
    replace hb2 : Below wr.heap.size wr r2 := hdb.trans (hb2.mono hdb.size)
    refine wpList_nil ⟨rfl, hb2, ?_⟩
    repeat (((apply x_step hF); intro wq hwq; (exact d_assign); clear hF; clear a; intro a hF))
    refine x_nil ?_
    obtain ⟨ae, hae⟩ : ∃ x, x = aloneE s ss m.size := ⟨_, rfl⟩
    rw [← hae] at hF hEq
    -- the names ahead
    obtain ⟨e1, he1⟩ : ∃ x : Int, (ae ≠ 0 → x = ae) ∧ (ae = 0 → (∃ j, j < k ∧ (sg ps j).name = s.name) → x = 12) ∧ (ae = 0 → (¬ ∃ j, j < k ∧ (sg ps j).name = s.name) → x = 0) := by
      rcases Classical.em (ae = 0) with h | h
      · rcases Classical.em (∃ j, j < k ∧ (sg ps j).name = s.name) with h2 | h2
        · exact ⟨12, fun h3 => absurd h h3, fun _ _ => rfl, fun _ h3 => absurd h2 h3⟩
        · exact ⟨0, fun h3 => absurd h h3, fun _ h3 => absurd h3 h2, fun _ _ => rfl⟩
      · exact ⟨ae, fun _ => rfl, fun h3 => absurd h3 h, fun h3 => absurd h3 h⟩
    repeat (first | refine c_seq ?_ | refine c_block ?_ | refine c_region _ ?_ | refine wpList_nil ?_ | refine c_then ?_ | ((apply st hF); (exact d_assign); clear hF; clear a; intro a hF))
    refine c_loop (fun q a wq => ∃ (j : Nat) (e : Int), j ≤ k ∧ q = k - j ∧ ((e = 0 ∧ ae = 0 ∧ ∀ i, i < j → (sg ps i).name ≠ s.name) ∨ (e ≠ 0 ∧ e = e1)) ∧ Fr 162 [(1, .pointer (some ⟨w.heap.size, 0, none⟩)), (2, .pointer (some ⟨w1.heap.size, 0, none⟩)), (3, .int .i64 e), (4, .slice (some ⟨b, o, none⟩) m.sgN m.sgC), (5, .int .i64 (k : Nat)), (6, .int .i64 (j : Nat))] a ∧ Below wr.heap.size wr wq) k
      ⟨0, ae, Nat.zero_le _, rfl, (by
        by_cases h : ae = 0
        · exact .inl ⟨h, h, fun i hi => absurd hi (Nat.not_lt_zero _)⟩
        · exact .inr ⟨h, (he1.1 h).symm⟩), hF.keep' ⟨rfl, rfl, rfl, rfl, rfl, rfl, trivial⟩, hb2⟩ ?_
    clear hF a hb2 hdb hB1 r1 r2
    rintro q a r2 ⟨j, e, hj, rfl, hst, hF, hb2⟩
    have hB2 : Below w.heap.size w r2 := hbel.trans (hb2.mono hz)
    by_cases hgo : j < k ∧ e = 0
    · obtain ⟨hjk, rfl⟩ := hgo
      obtain ⟨_, ha0, hnj⟩ : _ ∧ ae = 0 ∧ ∀ i, i < j → (sg ps i).name ≠ s.name := by
        rcases hst with h | h
        · exact h
        · exact absurd rfl h.1
      obtain ⟨b', o', hao', hcj⟩ := hcells r2 hB2 j (by omega)
      obtain ⟨b'', o'', hao'', hck⟩ := hcells r2 hB2 k hkl
      have e' := hao.symm.trans hao'; cases e'
      have e'' := hao.symm.trans hao''; cases e''
      have n1 := hcj 2 _ rfl
      have n2 := hck 2 _ rfl
      rw [← hs] at n2
      by_cases hnm : (sg ps j).name = s.name
      · have hd : decide ((sg ps j).name = s.name) = true := decide_eq_true hnm
        repeat (first | refine c_seq ?_ | refine c_block ?_ | refine c_region _ ?_ | refine wpList_nil ?_ | refine c_then ?_ | refine c_in ?_ | refine wp_skip ?_ | (refine q_nil ?_; rintro _ ⟨ndr, rfl⟩) | refine c_region_draw _ mixed (by kernel_rfl) ?_ | ((first | apply st hF | apply stg hF); (first | exact d_move | exact d_assign | exact d_pickT | exact d_add | exact d_cmpT); clear hF; clear a; intro a hF) | ((apply q_step hF); intro wq hwq; (first | exact d_move | exact d_eqST | exact d_fieldAddr (fld _ _ _ _ rfl) (isz _ _ rfl) | exact d_indexAddrS (und _ _ rfl) (isz _ _ rfl) (j := j) | exact d_indexAddrS (und _ _ rfl) (isz _ _ rfl) (j := k) | exact q_load (und _ _ rfl) hwq (by exact n1) | exact q_load (und _ _ rfl) hwq (by exact n2)); clear hF; clear a; intro a hF) | (apply c_cond_t hF; exact rfl; first | exact rfl | assumption))
        exact ⟨k - (j + 1), by omega, j + 1, 12, by omega, rfl, .inr ⟨by decide, (he1.2.1 ha0 ⟨j, hjk, hnm⟩).symm⟩, hF.keep' ⟨rfl, rfl, rfl, rfl, rfl, rfl, trivial⟩, below_more hb2 _⟩
      · have hd : decide ((sg ps j).name = s.name) = false := decide_eq_false hnm
        repeat (first | refine c_seq ?_ | refine c_block ?_ | refine c_region _ ?_ | refine wpList_nil ?_ | refine c_then ?_ | refine c_in ?_ | refine wp_skip ?_ | (refine q_nil ?_; rintro _ ⟨ndr, rfl⟩) | refine c_region_draw _ mixed (by kernel_rfl) ?_ | ((first | apply st hF | apply stg hF); (first | exact d_move | exact d_assign | exact d_pickT | exact d_add | exact d_cmpT); clear hF; clear a; intro a hF) | ((apply q_step hF); intro wq hwq; (first | exact d_move | exact d_eqSF | exact d_fieldAddr (fld _ _ _ _ rfl) (isz _ _ rfl) | exact d_indexAddrS (und _ _ rfl) (isz _ _ rfl) (j := j) | exact d_indexAddrS (und _ _ rfl) (isz _ _ rfl) (j := k) | exact q_load (und _ _ rfl) hwq (by exact n1) | exact q_load (und _ _ rfl) hwq (by exact n2)); clear hF; clear a; intro a hF) | (apply c_cond_t hF; exact rfl; first | exact rfl | assumption) | (apply c_cond_f hF; exact rfl; first | exact rfl | assumption))
        exact ⟨k - (j + 1), by omega, j + 1, 0, by omega, rfl, .inl ⟨rfl, ha0, fun i hi => by
          by_cases e : i = j
          · subst e; exact hnm
          · exact hnj i (by omega)⟩, hF.keep' ⟨rfl, rfl, rfl, rfl, rfl, rfl, trivial⟩, below_more hb2 _⟩
    have hee : e = e1 := by
      rcases hst with ⟨h1, h2, h3⟩ | ⟨_, h⟩
      · have : j = k := by
          by_cases h4 : j < k
          · exact absurd ⟨h4, h1⟩ hgo
          · omega
        subst this
        rw [h1, he1.2.2 h2 (fun ⟨i, hi, hn⟩ => h3 i hi hn)]
      · exact h
    subst hee
    clear hst
    have hm2 := hm.below hb2
    have hf2 := (hb2.block _ (lt_at hf)).trans hf
    have hz2 := hB2.size
    have hlf := lt_at hf
    obtain ⟨b'', o'', hao'', hck⟩ := hcells r2 hB2 k hkl
    have e'' := hao.symm.trans hao''; cases e''
    rw [← hs] at hck
    have hRm : RdS r2 (some ⟨b, o, none⟩) 19 Sig.cells (ps.map (·.1)) := by rw [← hao]; exact hin.rd.below hB2
    have hskip : ∀ (h : ¬ (j < k ∧ e = 0)), True := fun _ => trivial
    clear hskip
    by_cases hez : e = 0
    · -- nothing so far
      have hjk : ¬ j < k := fun h => hgo ⟨h, hez⟩
      have hae0 : ae = 0 := Classical.byContradiction fun h => h ((he1.1 h).symm.trans hez)
      have hnn : ¬ ∃ i, i < k ∧ (sg ps i).name = s.name := fun h => by have := he1.2.1 hae0 h; omega
      rw [if_neg (fun h => h hae0), if_neg hnn] at hEq
      subst hez
      by_cases hr1 : s.role = 1
      · repeat (first | refine c_seq ?_ | refine c_region _ ?_ | refine wpList_nil ?_ | refine c_then ?_ | refine c_then_exit ?_ | refine c_in_hit ?_ | refine wp_exit ?_ | ((first | apply st hF | apply stg hF); (first | exact d_move | exact d_pickT | exact d_pickF | exact d_cmpT | exact d_cmpF | exact d_fieldAddr (fld _ _ _ _ rfl) (isz _ _ rfl) | exact d_indexAddrS (und _ _ rfl) (isz _ _ rfl) (j := k) | exact d_load (und _ _ rfl) (hck 3 _ rfl)); clear hF; clear a; intro a hF) | ((apply stm hF); clear hF; clear a; intro a hF) | (apply c_cond_f hF; exact rfl; first | exact rfl | assumption))
        refine stcg hF (mux_ok r2 (ps.map (·.1)) (some ⟨b, o, none⟩) m.sgN m.sgC k (by simpa using hlen) hRm (by omega) (by omega)) cal24 ⟨rfl, rfl, trivial⟩ (k := fun a v r3 hR hF => ?_)
        obtain ⟨⟨z, hz', rfl⟩, rfl⟩ := hR
        have hmi := muxR_I (by omega) hz'
        by_cases hzn : z ≥ 0
        · obtain ⟨i, rfl, h1, h2, h3⟩ := hmi.pos hzn
          rw [if_pos ⟨hr1, i, h1, h2⟩] at hEq
          repeat (first | refine c_seq ?_ | refine c_region _ ?_ | refine wpList_nil ?_ | refine c_then ?_ | ((first | apply st hF | apply stg hF); (first | exact d_move | exact d_assign | exact d_pickT | exact d_cmpT | exact d_fieldAddr (fld _ _ _ _ rfl) (isz _ _ rfl) | exact d_indexAddrS (und _ _ rfl) (isz _ _ rfl) (j := k) | exact d_loadAgg (agg _ rfl) (isz _ _ rfl) rfl (pair_at (hck 0 _ rfl) (hck 1 _ rfl))); clear hF; clear a; intro a hF) | (apply c_cond_t hF; exact rfl; first | exact rfl | assumption))
          refine stc hF (rat9_ok _ 14 s.line s.col) cal22 ⟨rfl, rfl, trivial⟩ (k := fun a v r4 hR hF => ?_)
          obtain ⟨rfl, hb4⟩ := hR
          have hf4 := (hb4.block _ (lt_at hf2)).trans hf2
          replace hb4 := hB2.trans (hb4.mono hB2.size)
          refine st_storeAgg hF (cs := ratV 14 s.line s.col) (isz _ _ rfl) (ratV_size _ _ _) (ratV_size _ _ _) hf4 (ratV_one _ _ _) (k := fun a w5 hf5 hgr5 hsz5 hF => ?_)
          repeat (first | refine wpList_nil ?_ | refine c_then ?_ | refine c_then_ret ?_ | refine c_in_ret ?_ | refine wp_ret ?_)
          refine ret_c hF rfl (agg _ rfl) (by rw [ratV_size]; exact isz _ _ rfl) hf5 rfl ⟨?_, hb4.grown hgr5 hb4.size (fun k hk => by cases hk; omega)⟩
          rw [hoE 14 hEq (by decide), hpl.1, hpl.2]
        · have hneg := hmi.neg (by omega)
          rw [if_neg (fun ⟨_, i, hi, e⟩ => hneg i hi e)] at hEq
          repeat (first | refine c_seq ?_ | refine c_region _ ?_ | refine wpList_nil ?_ | refine c_then ?_ | refine c_in ?_ | refine wp_skip ?_ | ((first | apply st hF | apply stg hF); (first | exact d_move | exact d_assign | exact d_pickT | exact d_add | exact d_cmpF); clear hF; clear a; intro a hF) | (apply c_cond_f hF; exact rfl; first | exact rfl | assumption))
          exact ⟨m.sgN - (k + 1), by omega, k + 1, by omega, rfl, fun i hi => by
            by_cases e : i = k
            · subst e; exact hEq
            · exact hone i (by omega), by rw [hao]; exact hF.keep' ⟨rfl, rfl, rfl, rfl, trivial⟩, hm2, hf2, hB2⟩
      · rw [if_neg (fun h => hr1 h.1)] at hEq
        repeat (first | refine c_seq ?_ | refine c_region _ ?_ | refine wpList_nil ?_ | refine c_then ?_ | refine c_then_exit ?_ | refine c_in ?_ | refine c_in_hit ?_ | refine wp_skip ?_ | refine wp_exit ?_ | ((first | apply st hF | apply stg hF); (first | exact d_move | exact d_assign | exact d_pickT | exact d_pickF | exact d_add | exact d_cmpT | exact d_cmpF | exact d_fieldAddr (fld _ _ _ _ rfl) (isz _ _ rfl) | exact d_indexAddrS (und _ _ rfl) (isz _ _ rfl) (j := k) | exact d_load (und _ _ rfl) (hck 3 _ rfl)); clear hF; clear a; intro a hF) | ((apply stm hF); clear hF; clear a; intro a hF) | (apply c_cond_f hF; exact rfl; first | exact rfl | assumption))
        exact ⟨m.sgN - (k + 1), by omega, k + 1, by omega, rfl, fun i hi => by
          by_cases e : i = k
          · subst e; exact hEq
          · exact hone i (by omega), by rw [hao]; exact hF.keep' ⟨rfl, rfl, rfl, rfl, trivial⟩, hm2, hf2, hB2⟩
    · have hEe : oneE ps m.size k = e := by
        rw [hEq]
        by_cases h : ae = 0
        · rw [if_neg (fun h2 => h2 h)]
          by_cases h2 : ∃ i, i < k ∧ (sg ps i).name = s.name
          · rw [if_pos h2, he1.2.1 h h2]
          · exact absurd (he1.2.2 h h2) hez
        · rw [if_pos h, he1.1 h]
      have hjd : j < k ∨ ¬ j < k := by omega
      rcases hjd with hjd | hjd
      all_goals
        repeat (first | refine c_seq ?_ | refine c_region _ ?_ | refine wpList_nil ?_ | refine c_then ?_ | refine c_then_exit ?_ | refine c_in_hit ?_ | refine wp_skip ?_ | refine wp_exit ?_ | ((first | apply st hF | apply stg hF); (first | exact d_move | exact d_pickT | exact d_pickF | exact d_cmpT | exact d_cmpF | exact d_fieldAddr (fld _ _ _ _ rfl) (isz _ _ rfl) | exact d_indexAddrS (und _ _ rfl) (isz _ _ rfl) (j := k) | exact d_loadAgg (agg _ rfl) (isz _ _ rfl) rfl (pair_at (hck 0 _ rfl) (hck 1 _ rfl))); clear hF; clear a; intro a hF) | ((apply stm hF); clear hF; clear a; intro a hF) | (apply c_cond_t hF; exact rfl; first | exact rfl | assumption) | (apply c_cond_f hF; exact rfl; first | exact rfl | assumption))
        refine stc hF (rat9_ok _ e s.line s.col) cal22 ⟨rfl, rfl, trivial⟩ (k := fun a v r4 hR hF => ?_)
        obtain ⟨rfl, hb4⟩ := hR
        have hf4 := (hb4.block _ (lt_at hf2)).trans hf2
        replace hb4 := hB2.trans (hb4.mono hB2.size)
        refine st_storeAgg hF (cs := ratV e s.line s.col) (isz _ _ rfl) (ratV_size _ _ _) (ratV_size _ _ _) hf4 (ratV_one _ _ _) (k := fun a w5 hf5 hgr5 hsz5 hF => ?_)
        repeat (first | refine wpList_nil ?_ | refine c_then ?_ | refine c_then_ret ?_ | refine c_in_ret ?_ | refine wp_ret ?_)
        refine ret_c hF rfl (agg _ rfl) (by rw [ratV_size]; exact isz _ _ rfl) hf5 rfl ⟨?_, hb4.grown hgr5 hb4.size (fun k hk => by cases hk; omega)⟩
        rw [hoE e hEe hez, hpl.1, hpl.2]
  -- the branches
  obtain rfl : k = m.sgN := by omega
  have hone' : ∀ j, j < ps.length → oneE ps m.size j = 0 := fun j hj => hone j (by omega)
  repeat (first | refine c_seq ?_ | refine c_region _ ?_ | refine wpList_nil ?_ | refine c_then ?_ | refine c_then_exit ?_ | refine c_in_hit ?_ | refine wp_exit ?_ | ((apply st hF); (first | exact d_move | exact d_cmpF | exact d_len (und _ _ rfl)); clear hF; clear a; intro a hF) | (apply c_cond_f hF; exact rfl; first | exact rfl | assumption))
  refine stc hF (mux_ok wr (ps.map (·.1)) m.sg m.sgN m.sgC m.sgN (by simpa using hlen) (hin.rd.below hbel) (Nat.le_refl _) (by omega)) cal24 ⟨rfl, rfl, trivial⟩ (k := fun a v wr' hR hF => ?_)
  obtain ⟨⟨mx, hmx', rfl⟩, rfl⟩ := hR
  have hmx := muxR_I (by omega) hmx'
  have hmxb := hmx.bnd
  clear hmx' hone
  have hfm : (mx = -1 ∧ firstAt (isMux ps) ps.length = none) ∨ ∃ i : Nat, mx = (i : Int) ∧ i < ps.length ∧ firstAt (isMux ps) ps.length = some i := by
    rcases hmx with ⟨rfl, h⟩ | ⟨i, rfl, h1, h2, h3⟩
    · exact .inl ⟨rfl, firstAt_none fun j hj => h j (by omega)⟩
    · exact .inr ⟨i, rfl, by omega, firstAt_some (by omega) h2 h3⟩
  repeat (first | refine c_seq ?_ | refine c_block ?_ | refine c_region _ ?_ | refine wpList_nil ?_ | refine c_then ?_ | ((apply st hF); (exact d_assign); clear hF; clear a; intro a hF))
  refine c_loop (fun q a wr => ∃ k, k ≤ m.sgN ∧ q = m.sgN - k ∧ (∀ j, j < k → ¬ twoB ps j) ∧ Fr 162 [(2, .pointer (some ⟨w1.heap.size, 0, none⟩)), (4, .slice m.sg m.sgN m.sgC), (7, .int .i64 mx), (8, .int .i64 (k : Nat))] a ∧
    wr.heap[w1.heap.size]? = some (.cells (ratV 0 0 0) 34 (0, 0)) ∧ Below w.heap.size w wr) m.sgN
    ⟨0, Nat.zero_le _, rfl, fun j hj => absurd hj (Nat.not_lt_zero _), hF.keep' ⟨rfl, rfl, rfl, rfl, trivial⟩, hf, hbel⟩ ?_
  clear hF a hm hf hbel hz wr' hlt hk
  rintro q a wr ⟨k, hk, rfl, htwo, hF, hf, hbel⟩
  have hz := hbel.size
  by_cases hlt : k < m.sgN
  case pos =>
    have hkl : k < ps.length := by omega
    obtain ⟨b, o, hao, hc⟩ := hcells wr hbel k hkl
    have hbr : SigB (sg ps k) := by rw [sg_lt hkl]; exact hB _ (List.getElem_mem hkl)
    rw [hao] at hF
    have hbad : twoB ps k → msgE m ps = (14, some k) := fun h => msgE_two hh0 hone' hkl h htwo
    have hgood : ¬ twoB ps k → ∀ j, j < k + 1 → ¬ twoB ps j := fun h j hj => by
      by_cases e : j = k
      · subst e; exact h
      · exact htwo j (by omega)
    have htw : twoB ps k ↔ ((sg ps k).role = 2 ∧ ∀ i, firstAt (isMux ps) ps.length = some i → fitsB (sg ps k).branch (sg ps i).size (sg ps i).sgn = false) := Iff.rfl
    obtain ⟨s, hs⟩ : ∃ x, x = sg ps k := ⟨_, rfl⟩
    have hpl : placeL m ps (some k) = s.line ∧ placeC m ps (some k) = s.col := by rw [hs]; exact ⟨rfl, rfl⟩
    rw [← hs] at hc hbr htw
    repeat (first | (refine c_region_mix (fun wq => Below wr.heap.size wr wq) [(0, true), (1, true), (2, true), (3, true), (4, true), (5, true), (6, true), (7, true), (8, true), (9, true), (10, true), (11, true), (12, true), (13, true), (14, true), (15, true), (16, true), (17, true), (18, true), (19, true), (20, true), (21, true), (22, true), (23, true), (24, true), (25, false), (26, true), (27, true), (28, true)] 22 mixed (by kernel_rfl) (below_more (Below.refl _ wr) 1) ?_; simp only [pickX, List.filterMap_cons, List.getElem?_cons_zero, List.getElem?_cons_succ, List.filterMap_nil, Option.map_some]) | refine c_seq ?_ | refine c_block ?_ | refine c_region _ ?_ | refine wpList_nil ?_ | refine c_then ?_ | refine wp_skip ?_ | ((apply st hF); (first | exact d_move | exact d_cmpT | exact d_len (und _ _ rfl)); clear hF; clear a; intro a hF) | (apply c_cond_t hF; exact rfl; first | exact rfl | assumption))
    have hdb : Below wr.heap.size wr (wr.drewN 1) := below_more (Below.refl _ wr) 1
    generalize wr.drewN 1 = r3 at *
    have hB3 : Below w.heap.size w r3 := hbel.trans (hdb.mono hz)
    have hf3 := (hdb.block _ (lt_at hf)).trans hf
    have hc3 : ∀ q v, (Sig.cells s)[q]? = some v → r3.cell? ⟨b, o + k * 19 + q, none⟩ = some v := fun q v hq => keep_c (hc q v hq) hdb
    have c3 := hc 3 _ rfl
    have c4 := hc 4 _ rfl
    by_cases hr2 : s.role = 2
    case neg =>
      repeat (first | ((apply x_step hF); intro wq hwq; (first | exact d_move | exact d_cmpF | exact d_fieldAddr (fld _ _ _ _ rfl) (isz _ _ rfl) | exact d_indexAddrS (und _ _ rfl) (isz _ _ rfl) (j := k) | exact d_load (und _ _ rfl) ((keep_c c3 hwq))); clear hF; clear a; intro a hF) | ((first | apply x_stm hF | apply x_stu hF); clear hF; clear a; intro a hF))
      refine x_one (stu hF rfl rfl rfl (k := fun a hF => wpList_nil ⟨rfl, hdb, ?_⟩))
      repeat (first | ((apply x_step hF); intro wq hwq; (exact d_pickF); clear hF; clear a; intro a hF) | ((first | apply x_stm hF | apply x_stu hF); clear hF; clear a; intro a hF))
      refine x_nil ?_
      repeat (first | refine c_region _ ?_ | refine wpList_nil ?_ | refine c_then ?_ | refine c_in ?_ | refine wp_skip ?_ | ((apply st hF); (first | exact d_move | exact d_assign | exact d_add); clear hF; clear a; intro a hF) | (apply c_cond_f hF; exact rfl; first | exact rfl | assumption))
      exact ⟨m.sgN - (k + 1), by omega, k + 1, by omega, rfl, hgood (fun h => hr2 (htw.1 h).1), hao.symm ▸ hF.keep' ⟨rfl, rfl, rfl, rfl, trivial⟩, hf3, hB3⟩
    have hend : ∀ {a : Act} {l : List (Nat × Value)}, msgE m ps = (14, some k) → True := fun _ => trivial
    clear hend
    rcases hfm with ⟨rfl, hfn⟩ | ⟨i, rfl, hil, hfs⟩
    · repeat (first | ((first | apply x_step hF | apply x_stg hF); intro wq hwq; (first | exact d_move | exact d_cmpT | exact d_fieldAddr (fld _ _ _ _ rfl) (isz _ _ rfl) | exact d_indexAddrS (und _ _ rfl) (isz _ _ rfl) (j := k) | exact d_load (und _ _ rfl) ((keep_c c3 hwq))); clear hF; clear a; intro a hF) | ((apply x_stm hF); clear hF; clear a; intro a hF))
      refine x_one (stm hF rfl rfl rfl rfl (k := fun a hF => wpList_nil ⟨rfl, hdb, ?_⟩))
      repeat (first | ((first | apply x_step hF | apply x_stg hF); intro wq hwq; (exact d_pickT); clear hF; clear a; intro a hF) | ((apply x_stm hF); clear hF; clear a; intro a hF))
      refine x_nil ?_
      repeat (first | refine c_seq ?_ | refine c_region _ ?_ | refine c_then ?_ | ((apply st hF); (first | exact d_move | exact d_fieldAddr (fld _ _ _ _ rfl) (isz _ _ rfl) | exact d_indexAddrS (und _ _ rfl) (isz _ _ rfl) (j := k) | exact d_loadAgg (agg _ rfl) (isz _ _ rfl) rfl (pair_at (hc3 0 _ rfl) (hc3 1 _ rfl))); clear hF; clear a; intro a hF) | (apply c_cond_t hF; exact rfl; first | exact rfl | assumption))
      refine stc hF (rat9_ok r3 14 s.line s.col) cal22 ⟨rfl, rfl, trivial⟩ (k := fun a v r4 hR hF => ?_)
      obtain ⟨rfl, hb4⟩ := hR
      have hf4 := (hb4.block _ (lt_at hf3)).trans hf3
      replace hb4 := hB3.trans (hb4.mono hB3.size)
      refine st_storeAgg hF (cs := ratV 14 s.line s.col) (isz _ _ rfl) (ratV_size _ _ _) (ratV_size _ _ _) hf4 (ratV_one _ _ _) (k := fun a w5 hf5 hgr5 hsz5 hF => ?_)
      repeat (first | refine wpList_nil ?_ | refine c_then ?_ | refine c_then_ret ?_ | refine c_in_ret ?_ | refine wp_ret ?_)
      refine ret_c hF rfl (agg _ rfl) (by rw [ratV_size]; exact isz _ _ rfl) hf5 rfl ⟨?_, hb4.grown hgr5 hb4.size (fun k hk => by cases hk; omega)⟩
      rw [hbad (htw.2 ⟨hr2, fun i hi => by rw [hfn] at hi; cases hi⟩), hpl.1, hpl.2]
    · obtain ⟨b', o', hao', hci⟩ := hcells wr hbel i hil
      have e := hao.symm.trans hao'
      cases e
      have x6 := hci 6 _ rfl
      have x8 := hci 8 _ rfl
      repeat (((first | apply x_step hF | apply x_stg hF); intro wq hwq; (first | exact d_move | exact d_cmpT | exact d_cmpF | exact d_fieldAddr (fld _ _ _ _ rfl) (isz _ _ rfl) | exact d_indexAddrS (und _ _ rfl) (isz _ _ rfl) (j := k) | exact d_indexAddrS (und _ _ rfl) (isz _ _ rfl) (j := i) | exact d_load (und _ _ rfl) ((keep_c c3 hwq)) | exact d_load (und _ _ rfl) ((keep_c c4 hwq)) | exact d_load (und _ _ rfl) ((keep_c x6 hwq)) | exact d_load (und _ _ rfl) ((keep_c x8 hwq))); clear hF; clear a; intro a hF))
      refine x_one ?_
      refine stcg hF (rfits_ok r3 s.branch (sg ps i).size (sg ps i).sgn hbr.br) cal25 ⟨rfl, rfl, rfl, trivial⟩ (k := fun a v r4 hR hF => wpList_nil ?_)
      obtain ⟨rfl, rfl⟩ := hR
      refine ⟨rfl, hdb, ?_⟩
      cases hft : fitsB s.branch (sg ps i).size (sg ps i).sgn with
      | true =>
        rw [hft] at hF
        repeat (((first | apply x_step hF | apply x_stg hF); intro wq hwq; (first | exact d_not | exact d_pickT | exact d_pickF); clear hF; clear a; intro a hF))
        refine x_nil ?_
        repeat (first | refine c_region _ ?_ | refine wpList_nil ?_ | refine c_then ?_ | refine c_in ?_ | refine wp_skip ?_ | ((apply st hF); (first | exact d_move | exact d_assign | exact d_add); clear hF; clear a; intro a hF) | (apply c_cond_f hF; exact rfl; first | exact rfl | assumption))
        exact ⟨m.sgN - (k + 1), by omega, k + 1, by omega, rfl, hgood (fun h => by have := (htw.1 h).2 i hfs; rw [hft] at this; cases this), hao.symm ▸ hF.keep' ⟨rfl, rfl, rfl, rfl, trivial⟩, hf3, hB3⟩
      | false =>
        rw [hft] at hF
        repeat (((first | apply x_step hF | apply x_stg hF); intro wq hwq; (first | exact d_not | exact d_pickT | exact d_pickF); clear hF; clear a; intro a hF))
        refine x_nil ?_
        repeat (first | refine c_seq ?_ | refine c_region _ ?_ | refine c_then ?_ | ((apply st hF); (first | exact d_move | exact d_fieldAddr (fld _ _ _ _ rfl) (isz _ _ rfl) | exact d_indexAddrS (und _ _ rfl) (isz _ _ rfl) (j := k) | exact d_loadAgg (agg _ rfl) (isz _ _ rfl) rfl (pair_at (hc3 0 _ rfl) (hc3 1 _ rfl))); clear hF; clear a; intro a hF) | (apply c_cond_t hF; exact rfl; first | exact rfl | assumption))
        refine stc hF (rat9_ok _ 14 s.line s.col) cal22 ⟨rfl, rfl, trivial⟩ (k := fun a v r5 hR hF => ?_)
        obtain ⟨rfl, hb4⟩ := hR
        have hf4 := (hb4.block _ (lt_at hf3)).trans hf3
        replace hb4 := hB3.trans (hb4.mono hB3.size)
        refine st_storeAgg hF (cs := ratV 14 s.line s.col) (isz _ _ rfl) (ratV_size _ _ _) (ratV_size _ _ _) hf4 (ratV_one _ _ _) (k := fun a w5 hf5 hgr5 hsz5 hF => ?_)
        repeat (first | refine wpList_nil ?_ | refine c_then ?_ | refine c_then_ret ?_ | refine c_in_ret ?_ | refine wp_ret ?_)
        refine ret_c hF rfl (agg _ rfl) (by rw [ratV_size]; exact isz _ _ rfl) hf5 rfl ⟨?_, hb4.grown hgr5 hb4.size (fun k hk => by cases hk; omega)⟩
        rw [hbad (htw.2 ⟨hr2, fun j hj => by rw [hfs] at hj; cases hj; exact hft⟩), hpl.1, hpl.2]
  -- those that meet
  obtain rfl : k = m.sgN := by omega
  have htwo' : ∀ j, j < ps.length → ¬ twoB ps j := fun j hj => htwo j (by omega)
  have hbits : ∀ j, j < ps.length → ∃ l, Pl.bitsOfSig (sg ps j).start (sg ps j).size (sg ps j).mot = .ok l := fun j hj => by
    have h0 := where_of_alone (alone_of_one (hone' j hj))
    unfold Pl.whereE at h0
    cases h : Pl.bitsOfSig (sg ps j).start (sg ps j).size (sg ps j).mot with
    | ok l => exact ⟨l, rfl⟩
    | error e => rw [h] at h0; have := Pl.err_15 h; dsimp only at h0; omega
  clear htwo
  repeat (first | refine c_seq ?_ | refine c_block ?_ | refine c_region _ ?_ | refine wpList_nil ?_ | refine c_then ?_ | refine c_then_exit ?_ | refine c_in_hit ?_ | refine wp_exit ?_ | ((apply st hF); (first | exact d_move | exact d_assign | exact d_cmpF | exact d_len (und _ _ rfl)); clear hF; clear a; intro a hF) | (apply c_cond_f hF; exact rfl; first | exact rfl | assumption))
  refine c_loop (fun q a wr => ∃ k, k ≤ m.sgN ∧ q = m.sgN - k ∧ (∀ j, j < k → ¬ meetB ps j) ∧ Fr 162 [(2, .pointer (some ⟨w1.heap.size, 0, none⟩)), (4, .slice m.sg m.sgN m.sgC), (9, .int .i64 (k : Nat))] a ∧
    wr.heap[w1.heap.size]? = some (.cells (ratV 0 0 0) 34 (0, 0)) ∧ Below w.heap.size w wr) m.sgN
    ⟨0, Nat.zero_le _, rfl, fun j hj => absurd hj (Nat.not_lt_zero _), hF.keep' ⟨rfl, rfl, rfl, trivial⟩, hf, hbel⟩ ?_
  clear hF a hf hbel hz wr hlt hk
  rintro q a wr ⟨k, hk, rfl, hno, hF, hf, hbel⟩
  have hz := hbel.size
  have hlf := lt_at hf
  by_cases hlt : k < m.sgN
  case neg =>
    obtain rfl : k = m.sgN := by omega
    repeat (first | refine c_seq ?_ | refine c_region _ ?_ | refine wpList_nil ?_ | refine c_then ?_ | refine c_then_exit ?_ | refine c_in_hit ?_ | refine wp_exit ?_ | ((apply st hF); (first | exact d_move | exact d_cmpF | exact d_len (und _ _ rfl) | exact d_build (vs := []) (cells := ratV 0 0 0) (by kernel_rfl) trivial); clear hF; clear a; intro a hF) | (apply c_cond_f hF; exact rfl; first | exact rfl | assumption))
    refine st_storeAgg hF (cs := ratV 0 0 0) (isz _ _ rfl) rfl rfl hf (ratV_one _ _ _) (k := fun a w5 hf5 hgr5 hsz5 hF => ?_)
    repeat (first | refine wpList_nil ?_ | refine c_then ?_ | refine wp_ret ?_)
    refine ret_c hF rfl (agg _ rfl) (isz _ _ rfl) hf5 rfl ⟨?_, hbel.grown hgr5 hz (fun k hk => by cases hk; omega)⟩
    rw [msgE_ok hh0 hone' htwo' (fun j hj => hno j (by omega))]
    rfl
  have hkl : k < ps.length := by omega
  repeat (first | refine c_seq ?_ | refine c_block ?_ | refine c_region _ ?_ | refine wpList_nil ?_ | refine c_then ?_ | refine wp_skip ?_ | ((apply st hF); (first | exact d_move | exact d_assign | exact d_cmpT | exact d_len (und _ _ rfl)); clear hF; clear a; intro a hF) | (apply c_cond_t hF; exact rfl; first | exact rfl | assumption))
  refine c_loop (fun q a wq => ∃ j : Nat, j ≤ k ∧ q = k - j ∧ (∀ i, i < j → ¬ (togB (sg ps i) (sg ps k) = true ∧ shareB (sg ps i) (sg ps k))) ∧ Fr 162 [(2, .pointer (some ⟨w1.heap.size, 0, none⟩)), (4, .slice m.sg m.sgN m.sgC), (9, .int .i64 (k : Nat)), (10, .int .i64 (j : Nat))] a ∧ Below wr.heap.size wr wq) k
    ⟨0, Nat.zero_le _, rfl, fun i hi => absurd hi (Nat.not_lt_zero _), hF.keep' ⟨rfl, rfl, rfl, rfl, trivial⟩, Below.refl _ _⟩ ?_
  clear hF a
  rintro q a r1 ⟨j, hj, rfl, hnj, hF, hb1⟩
  have hB1 : Below w.heap.size w r1 := hbel.trans (hb1.mono hz)
  by_cases hjk : j < k
  case neg =>
    obtain rfl : j = k := by omega
    repeat (first | refine c_seq ?_ | refine c_region _ ?_ | refine wpList_nil ?_ | refine c_then ?_ | refine c_then_exit ?_ | refine c_in ?_ | refine c_in_hit ?_ | refine wp_exit ?_ | ((apply st hF); (first | exact d_move | exact d_assign | exact d_add | exact d_cmpF); clear hF; clear a; intro a hF) | (apply c_cond_f hF; exact rfl; first | exact rfl | assumption))
    refine ⟨m.sgN - (j + 1), by omega, j + 1, by omega, rfl, fun i hi => ?_, hF.keep' ⟨rfl, rfl, rfl, trivial⟩, (hb1.block _ hlf).trans hf, hB1⟩
    by_cases e : i = j
    · subst e
      rintro ⟨p, hp, h1, h2⟩
      exact hnj p hp ⟨h1, h2⟩
    · exact hno i (by omega)
  obtain ⟨b, o, hao, hc⟩ := hcells r1 hB1 k hkl
  obtain ⟨b', o', hao', hcj⟩ := hcells r1 hB1 j (by omega)
  have e := hao.symm.trans hao'; cases e
  rw [hao] at hF
  obtain ⟨lj, hlj⟩ := hbits j (by omega)
  obtain ⟨lk, hlk⟩ := hbits k hkl
  have hpl : placeL m ps (some k) = (sg ps k).line ∧ placeC m ps (some k) = (sg ps k).col := ⟨rfl, rfl⟩
  repeat (first | (refine c_region_mix (fun wq => Below r1.heap.size r1 wq) [(0, true), (1, true), (2, true), (3, true), (4, true), (5, true), (6, true), (7, true), (8, false), (9, true), (10, true), (11, true), (12, true), (13, true), (14, true), (15, true), (16, true), (17, true), (18, false), (19, true)] 30 mixed (by kernel_rfl) (below_more (Below.refl _ r1) 1) ?_; simp only [pickX, List.filterMap_cons, List.getElem?_cons_zero, List.getElem?_cons_succ, List.filterMap_nil, Option.map_some]) | refine c_seq ?_ | refine c_block ?_ | refine c_region _ ?_ | refine wpList_nil ?_ | refine c_then ?_ | refine wp_skip ?_ | ((apply st hF); (first | exact d_move | exact d_cmpT); clear hF; clear a; intro a hF) | (apply c_cond_t hF; exact rfl; first | exact rfl | assumption))
  have hdb : Below r1.heap.size r1 (r1.drewN 1) := below_more (Below.refl _ r1) 1
  generalize r1.drewN 1 = r2 at *
  repeat (((apply x_step hF); intro wq hwq; (first | exact d_move | exact d_indexAddrS (und _ _ rfl) (isz _ _ rfl) (j := j) | exact d_indexAddrS (und _ _ rfl) (isz _ _ rfl) (j := k) | exact d_loadAgg (agg _ rfl) (isz _ _ rfl) rfl (arr_cells (fun q v hq => keep_c (hcj q v hq) hwq)) | exact d_loadAgg (agg _ rfl) (isz _ _ rfl) rfl (arr_cells (fun q v hq => keep_c (hc q v hq) hwq))); clear hF; clear a; intro a hF))
  refine x_one ?_
  refine stc hF (together_ok r2 (sg ps j) (sg ps k)) cal26 ⟨rfl, rfl, trivial⟩ (k := fun a v r3 hR hF => wpList_nil ?_)
  obtain ⟨rfl, hb3⟩ := hR
  have hdb3 : Below r1.heap.size r1 r3 := hdb.trans (hb3.mono hdb.size)
  refine ⟨rfl, hdb3, ?_⟩
  have hnext : ¬ (togB (sg ps j) (sg ps k) = true ∧ shareB (sg ps j) (sg ps k)) → ∀ i, i < j + 1 → ¬ (togB (sg ps i) (sg ps k) = true ∧ shareB (sg ps i) (sg ps k)) := fun h i hi => by
    by_cases e : i = j
    · subst e; exact h
    · exact hnj i (by omega)
  cases ht : togB (sg ps j) (sg ps k) with
  | false =>
    rw [ht] at hF
    repeat (first | ((apply x_step hF); intro wq hwq; (exact d_move); clear hF; clear a; intro a hF) | ((apply x_stm hF); clear hF; clear a; intro a hF))
    refine x_one (stm hF rfl rfl rfl rfl (k := fun a hF => wpList_nil ⟨rfl, hdb3, ?_⟩))
    repeat (((apply x_step hF); intro wq hwq; (exact d_pickF); clear hF; clear a; intro a hF))
    refine x_nil ?_
    repeat (first | refine c_region _ ?_ | refine wpList_nil ?_ | refine c_then ?_ | refine c_in ?_ | refine wp_skip ?_ | ((apply st hF); (first | exact d_move | exact d_assign | exact d_add); clear hF; clear a; intro a hF) | (apply c_cond_f hF; exact rfl; first | exact rfl | assumption))
    exact ⟨k - (j + 1), by omega, j + 1, by omega, rfl, hnext (fun h => by rw [ht] at h; cases h.1), by rw [hao]; exact hF.keep' ⟨rfl, rfl, rfl, rfl, trivial⟩, hb1.trans (hdb3.mono hb1.size)⟩
  | true =>
    rw [ht] at hF
    repeat (((first | apply x_step hF | apply x_stg hF); intro wq hwq; (first | exact d_move | exact d_indexAddrS (und _ _ rfl) (isz _ _ rfl) (j := j) | exact d_indexAddrS (und _ _ rfl) (isz _ _ rfl) (j := k) | exact d_loadAgg (agg _ rfl) (isz _ _ rfl) rfl (arr_cells (fun q v hq => keep_c (hcj q v hq) hwq)) | exact d_loadAgg (agg _ rfl) (isz _ _ rfl) rfl (arr_cells (fun q v hq => keep_c (hc q v hq) hwq))); clear hF; clear a; intro a hF))
    refine x_one ?_
    refine stcg hF (share_ok r3 (sg ps j) (sg ps k) lj lk hlj hlk) cal27 ⟨rfl, rfl, trivial⟩ (k := fun a v r4 hR hF => wpList_nil ?_)
    obtain ⟨⟨bb, rfl, hbb⟩, hb4⟩ := hR
    have hdb4 : Below r1.heap.size r1 r4 := hdb3.trans (hb4.mono hdb3.size)
    refine ⟨rfl, hdb4, ?_⟩
    have hB4 : Below w.heap.size w r4 := hB1.trans (hdb4.mono hB1.size)
    cases bb with
    | false =>
      repeat (((apply x_step hF); intro wq hwq; (exact d_pickT); clear hF; clear a; intro a hF))
      refine x_nil ?_
      repeat (first | refine c_region _ ?_ | refine wpList_nil ?_ | refine c_then ?_ | refine c_in ?_ | refine wp_skip ?_ | ((apply st hF); (first | exact d_move | exact d_assign | exact d_add); clear hF; clear a; intro a hF) | (apply c_cond_f hF; exact rfl; first | exact rfl | assumption))
      exact ⟨k - (j + 1), by omega, j + 1, by omega, rfl, hnext (fun h => Bool.noConfusion (hbb.2 h.2)), by rw [hao]; exact hF.keep' ⟨rfl, rfl, rfl, rfl, trivial⟩, hb1.trans (hdb4.mono hb1.size)⟩
    | true =>
      have hmb : meetB ps k := ⟨j, hjk, ht, hbb.1 rfl⟩
      have hf4 : r4.heap[w1.heap.size]? = _ := ((hb1.trans (hdb4.mono hb1.size)).block _ hlf).trans hf
      have hc4 : ∀ q v, (Sig.cells (sg ps k))[q]? = some v → r4.cell? ⟨b, o + k * 19 + q, none⟩ = some v := fun q v hq => keep_c (hc q v hq) hdb4
      repeat (((apply x_step hF); intro wq hwq; (exact d_pickT); clear hF; clear a; intro a hF))
      refine x_nil ?_
      repeat (first | refine c_seq ?_ | refine c_region _ ?_ | refine c_then ?_ | ((apply st hF); (first | exact d_move | exact d_fieldAddr (fld _ _ _ _ rfl) (isz _ _ rfl) | exact d_indexAddrS (und _ _ rfl) (isz _ _ rfl) (j := k) | exact d_loadAgg (agg _ rfl) (isz _ _ rfl) rfl (pair_at (hc4 0 _ rfl) (hc4 1 _ rfl))); clear hF; clear a; intro a hF) | (apply c_cond_t hF; exact rfl; first | exact rfl | assumption))
      refine stc hF (rat9_ok r4 17 (sg ps k).line (sg ps k).col) cal22 ⟨rfl, rfl, trivial⟩ (k := fun a v r5 hR hF => ?_)
      obtain ⟨rfl, hb5⟩ := hR
      have hf5 := (hb5.block _ (lt_at hf4)).trans hf4
      replace hb5 := hB4.trans (hb5.mono hB4.size)
      refine st_storeAgg hF (cs := ratV 17 (sg ps k).line (sg ps k).col) (isz _ _ rfl) (ratV_size _ _ _) (ratV_size _ _ _) hf5 (ratV_one _ _ _) (k := fun a w5 hf6 hgr6 hsz6 hF => ?_)
      repeat (first | refine wpList_nil ?_ | refine c_then ?_ | refine c_then_ret ?_ | refine c_in_ret ?_ | refine wp_ret ?_)
      refine ret_c hF rfl (agg _ rfl) (by rw [ratV_size]; exact isz _ _ rfl) hf6 rfl ⟨?_, hb5.grown hgr6 hb5.size (fun k hk => by cases hk; omega)⟩
      rw [msgE_meet hh0 hone' htwo' hkl hmb hno, hpl.1, hpl.2]
end Go.Proofs.YtjomihhpglojpaaGreatDoor
end
