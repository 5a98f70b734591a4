/- Laid together by a program of mine: KnMsg. -/
import Derived.Test.YtjomihhpglojpaaDoorSumLawKnownCS18
set_option linter.unusedSimpArgs false
set_option linter.unusedVariables false
section
/- busbarlaw09.messages, walked. (Printed by tools/knmsg.py.) -/
namespace Go.Proofs.YtjomihhpglojpaaDoor
open Go.RowKit
set_option linter.unusedSimpArgs false
set_option linter.unusedVariables false
attribute [local irreducible] wpList wpQuiet wpStill Code.wp Exit.then Exit.inBlock bodyPost Calls Does Does0
set_option maxRecDepth 100000
theorem rd_keptS {w w' : World} {B g : Nat} {X : Sig} (h : Rd w (some ⟨g, 0, none⟩) .string txA) (hx : SgAt B X w) (hgr : w.grownBy w' (some B)) : Rd w' (some ⟨g, 0, none⟩) .string txA := by
  intro i hi
  obtain ⟨b, o, e, hc⟩ := h i hi
  cases e
  have hne : g ≠ B := by
    rintro rfl
    have hi0 : i = 0 := by have : i < 1 := hi; omega
    subst hi0
    have h2 := hx.c' 0 _ rfl
    rw [hc] at h2
    cases h2
  refine ⟨_, _, rfl, ?_⟩
  rw [← hc]
  unfold World.cell?
  dsimp only
  rw [hgr.block _ (World.block_lt_of_cell? w _ hc) (by simpa using hne)]
theorem msg_mk {w : World} {m : Msg} {ps : List SigT} {b n : Nat} (e1 : m.sg = some ⟨b, 0, none⟩) (e2 : m.sgN = n) (e3 : m.sgC = n) (hl : ps.length = n) (hn : n ≤ 1000) (h : RdS w (some ⟨b, 0, none⟩) 19 Sig.cells (ps.map (·.1))) (hs : ∀ p ∈ ps, SigIn w p.1 p.2) : MsgIn w m ps := by
  unfold MsgIn
  rw [e1, e2, e3]
  exact ⟨hl, h, hs, Nat.le_refl _, by omega⟩
set_option maxHeartbeats 64000000 in
theorem messages_ok (w : World) (hg : Handle w) (hT : Tabs w) : Ret Tryd.prog 25 #[] w (fun v w' => v = .bool true ∧ Below w.heap.size w w') := by
  refine enter0 Tryd.func25 rfl 116 rfl 116 rfl (fun a hF => ?_)
  have hX : Below w.heap.size w w := Below.refl _ w
  repeat (first | refine c_seq ?_ | refine c_region _ ?_ | refine wpList_nil ?_ | refine c_then ?_ | ((apply st hF); (exact d_assign); clear hF; clear a; intro a hF))
  refine stc hF (one_ok w ⟨#[97]⟩ 0 8) cal30 ⟨rfl, rfl, rfl, trivial⟩ (k := fun a v v1 hR hF => ?_)
  obtain ⟨⟨g, rfl, rg⟩, hb⟩ := hR
  replace hX := hX.trans (hb.mono hX.size)
  refine st hF (d_buildSS [(Sig.cells (oneS ⟨#[97]⟩ 0 8 g)).toArray] (und _ _ rfl) inf38 (by decide) (by decide) (by decide) rfl (by simp [Sig.cells]) ⟨rfl, rfl, trivial⟩) rfl (fun a hF => ?_)
  have hb := below_alloc v1 (.cells (([(Sig.cells (oneS ⟨#[97]⟩ 0 8 g)).toArray]).flatMap fun u => u.toList).toArray 38)
  have hL := rdS_alloc v1 19 Sig.cells sigc_len [oneS ⟨#[97]⟩ 0 8 g] 38 (([(Sig.cells (oneS ⟨#[97]⟩ 0 8 g)).toArray]).flatMap fun u => u.toList).toArray (by simp)
  generalize v1.alloc _ = v2 at *
  replace rg := rg.below hb
  replace hX := hX.trans (hb.mono hX.size)
  refine stc hF (two_ok v2 _ 1 1) cal29 ⟨rfl, trivial⟩ (k := fun a v v3 hR hF => ?_)
  obtain ⟨rfl, hb⟩ := hR
  replace rg := rg.below hb
  replace hL := hL.below hb
  replace hX := hX.trans (hb.mono hX.size)
  have hY : Below v3.heap.size v3 v3 := Below.refl _ _
  have hin0 : MsgIn v3 (twoM (some ⟨v1.heap.size, 0, none⟩) 1 1) [(oneS ⟨#[97]⟩ 0 8 g, txA)] := msg_mk (n := 1) rfl rfl rfl rfl (by decide) hL (fun p hp => by
      simp only [List.mem_cons, List.not_mem_nil, or_false] at hp
      rcases hp with rfl
      · exact sig_in1 rg rfl rfl rfl)
  clear hL rg
  have hwm1 := hX.size
  refine st_alloc hF inf27 (k := fun a v4 hg1 hgr1 hsz1 hF => ?_)
  refine st_storeAgg hF (cs := (Msg.cells (twoM (some ⟨v1.heap.size, 0, none⟩) 1 1)).toArray) (isz _ _ rfl) rfl rfl hg1 (msg_cells _) (k := fun a v5 hg2 hgr2 hsz2 hF => ?_)
  have hb2 : Below v3.heap.size v3 v5 := ((Below.refl _ v3).grown hgr1 (Nat.le_refl _) (fun k hk => by cases hk)).grown hgr2 (by omega) (fun k hk => by cases hk; exact Nat.le_refl _)
  have m1 : MgAt v3.heap.size (twoM (some ⟨v1.heap.size, 0, none⟩) 1 1) v5 := hg2
  replace hY := hY.trans (hb2.mono hY.size)
  replace hX := hX.trans (hb2.mono hX.size)
  clear hg1 hg2 hgr1 hgr2 hb2 hsz1 hsz2
  repeat (first | refine c_seq ?_ | refine c_region _ ?_ | refine wpList_nil ?_ | refine c_then ?_ | ((apply st hF); (exact d_loadAgg (agg _ rfl) (isz _ _ rfl) rfl (cells_at m1)); clear hF; clear a; intro a hF))
  have hom1m2 := lt_at m1
  have hwm2 := hX.size
  refine st_alloc hF inf27 (k := fun a v6 hg1 hgr1 hsz1 hF => ?_)
  refine st_storeAgg hF (cs := (Msg.cells (twoM (some ⟨v1.heap.size, 0, none⟩) 1 1)).toArray) (isz _ _ rfl) rfl rfl hg1 (msg_cells _) (k := fun a v7 hg2 hgr2 hsz2 hF => ?_)
  have hb2 : Below v5.heap.size v5 v7 := ((Below.refl _ v5).grown hgr1 (Nat.le_refl _) (fun k hk => by cases hk)).grown hgr2 (by omega) (fun k hk => by cases hk; exact Nat.le_refl _)
  have m2 : MgAt v5.heap.size (twoM (some ⟨v1.heap.size, 0, none⟩) 1 1) v7 := hg2
  replace m1 := m1.below hb2
  replace hY := hY.trans (hb2.mono hY.size)
  replace hX := hX.trans (hb2.mono hX.size)
  clear hg1 hg2 hgr1 hgr2 hb2 hsz1 hsz2
  repeat (first | refine c_seq ?_ | refine c_region _ ?_ | refine wpList_nil ?_ | refine c_then ?_ | ((apply st hF); (exact d_fieldAddr (fld _ _ _ _ rfl) (isz _ _ rfl)); clear hF; clear a; intro a hF))
  refine st_store hF (isz _ _ rfl) m2 (i := 0 + 2) (by show 0 + 2 < 8; decide) rfl rfl rfl (k := fun a v8 hg hgr hsz hF => ?_)
  replace m2 : MgAt v5.heap.size ({ twoM (some ⟨v1.heap.size, 0, none⟩) 1 1 with id := 2048 }) v8 := hg
  replace m1 : MgAt v3.heap.size (twoM (some ⟨v1.heap.size, 0, none⟩) 1 1) v8 := blk_kept m1 hgr (by simp; omega)
  replace hY := hY.grown hgr hY.size (fun k hk => by cases hk; omega)
  replace hX := hX.grown hgr hX.size (fun k hk => by cases hk; omega)
  clear hg hgr hsz
  repeat (first | refine c_seq ?_ | refine c_region _ ?_ | refine wpList_nil ?_ | refine c_then ?_ | ((apply st hF); (exact d_loadAgg (agg _ rfl) (isz _ _ rfl) rfl (cells_at m2)); clear hF; clear a; intro a hF))
  have hom2m3 := lt_at m2
  have hwm3 := hX.size
  refine st_alloc hF inf27 (k := fun a v9 hg1 hgr1 hsz1 hF => ?_)
  refine st_storeAgg hF (cs := (Msg.cells ({ twoM (some ⟨v1.heap.size, 0, none⟩) 1 1 with id := 2048 })).toArray) (isz _ _ rfl) rfl rfl hg1 (msg_cells _) (k := fun a v10 hg2 hgr2 hsz2 hF => ?_)
  have hb2 : Below v8.heap.size v8 v10 := ((Below.refl _ v8).grown hgr1 (Nat.le_refl _) (fun k hk => by cases hk)).grown hgr2 (by omega) (fun k hk => by cases hk; exact Nat.le_refl _)
  have m3 : MgAt v8.heap.size ({ twoM (some ⟨v1.heap.size, 0, none⟩) 1 1 with id := 2048 }) v10 := hg2
  replace m1 := m1.below hb2
  replace m2 := m2.below hb2
  replace hY := hY.trans (hb2.mono hY.size)
  replace hX := hX.trans (hb2.mono hX.size)
  clear hg1 hg2 hgr1 hgr2 hb2 hsz1 hsz2
  repeat (first | refine c_seq ?_ | refine c_region _ ?_ | refine wpList_nil ?_ | refine c_then ?_ | ((apply st hF); (exact d_fieldAddr (fld _ _ _ _ rfl) (isz _ _ rfl)); clear hF; clear a; intro a hF))
  refine st_store hF (isz _ _ rfl) m3 (i := 0 + 3) (by show 0 + 3 < 8; decide) rfl rfl rfl (k := fun a v11 hg hgr hsz hF => ?_)
  replace m3 : MgAt v8.heap.size ({ twoM (some ⟨v1.heap.size, 0, none⟩) 1 1 with id := 2048, wide := true }) v11 := hg
  replace m1 : MgAt v3.heap.size (twoM (some ⟨v1.heap.size, 0, none⟩) 1 1) v11 := blk_kept m1 hgr (by simp; omega)
  replace m2 : MgAt v5.heap.size ({ twoM (some ⟨v1.heap.size, 0, none⟩) 1 1 with id := 2048 }) v11 := blk_kept m2 hgr (by simp; omega)
  replace hY := hY.grown hgr hY.size (fun k hk => by cases hk; omega)
  replace hX := hX.grown hgr hX.size (fun k hk => by cases hk; omega)
  clear hg hgr hsz
  repeat (first | refine c_seq ?_ | refine c_region _ ?_ | refine wpList_nil ?_ | refine c_then ?_ | ((apply st hF); (exact d_loadAgg (agg _ rfl) (isz _ _ rfl) rfl (cells_at m1)); clear hF; clear a; intro a hF))
  have hom3m4 := lt_at m3
  have hwm4 := hX.size
  refine st_alloc hF inf27 (k := fun a v12 hg1 hgr1 hsz1 hF => ?_)
  refine st_storeAgg hF (cs := (Msg.cells (twoM (some ⟨v1.heap.size, 0, none⟩) 1 1)).toArray) (isz _ _ rfl) rfl rfl hg1 (msg_cells _) (k := fun a v13 hg2 hgr2 hsz2 hF => ?_)
  have hb2 : Below v11.heap.size v11 v13 := ((Below.refl _ v11).grown hgr1 (Nat.le_refl _) (fun k hk => by cases hk)).grown hgr2 (by omega) (fun k hk => by cases hk; exact Nat.le_refl _)
  have m4 : MgAt v11.heap.size (twoM (some ⟨v1.heap.size, 0, none⟩) 1 1) v13 := hg2
  replace m1 := m1.below hb2
  replace m2 := m2.below hb2
  replace m3 := m3.below hb2
  replace hY := hY.trans (hb2.mono hY.size)
  replace hX := hX.trans (hb2.mono hX.size)
  clear hg1 hg2 hgr1 hgr2 hb2 hsz1 hsz2
  repeat (first | refine c_seq ?_ | refine c_region _ ?_ | refine wpList_nil ?_ | refine c_then ?_ | ((apply st hF); (exact d_fieldAddr (fld _ _ _ _ rfl) (isz _ _ rfl)); clear hF; clear a; intro a hF))
  refine st_store hF (isz _ _ rfl) m4 (i := 0 + 5) (by show 0 + 5 < 8; decide) rfl rfl rfl (k := fun a v14 hg hgr hsz hF => ?_)
  replace m4 : MgAt v11.heap.size ({ twoM (some ⟨v1.heap.size, 0, none⟩) 1 1 with size := 9 }) v14 := hg
  replace m1 : MgAt v3.heap.size (twoM (some ⟨v1.heap.size, 0, none⟩) 1 1) v14 := blk_kept m1 hgr (by simp; omega)
  replace m2 : MgAt v5.heap.size ({ twoM (some ⟨v1.heap.size, 0, none⟩) 1 1 with id := 2048 }) v14 := blk_kept m2 hgr (by simp; omega)
  replace m3 : MgAt v8.heap.size ({ twoM (some ⟨v1.heap.size, 0, none⟩) 1 1 with id := 2048, wide := true }) v14 := blk_kept m3 hgr (by simp; omega)
  replace hY := hY.grown hgr hY.size (fun k hk => by cases hk; omega)
  replace hX := hX.grown hgr hX.size (fun k hk => by cases hk; omega)
  clear hg hgr hsz
  repeat (first | refine c_seq ?_ | refine c_region _ ?_ | refine wpList_nil ?_ | refine c_then ?_ | ((apply st hF); (exact d_loadAgg (agg _ rfl) (isz _ _ rfl) rfl (cells_at m3)); clear hF; clear a; intro a hF))
  have hom4m5 := lt_at m4
  have hwm5 := hX.size
  refine st_alloc hF inf27 (k := fun a v15 hg1 hgr1 hsz1 hF => ?_)
  refine st_storeAgg hF (cs := (Msg.cells ({ twoM (some ⟨v1.heap.size, 0, none⟩) 1 1 with id := 2048, wide := true })).toArray) (isz _ _ rfl) rfl rfl hg1 (msg_cells _) (k := fun a v16 hg2 hgr2 hsz2 hF => ?_)
  have hb2 : Below v14.heap.size v14 v16 := ((Below.refl _ v14).grown hgr1 (Nat.le_refl _) (fun k hk => by cases hk)).grown hgr2 (by omega) (fun k hk => by cases hk; exact Nat.le_refl _)
  have m5 : MgAt v14.heap.size ({ twoM (some ⟨v1.heap.size, 0, none⟩) 1 1 with id := 2048, wide := true }) v16 := hg2
  replace m1 := m1.below hb2
  replace m2 := m2.below hb2
  replace m3 := m3.below hb2
  replace m4 := m4.below hb2
  replace hY := hY.trans (hb2.mono hY.size)
  replace hX := hX.trans (hb2.mono hX.size)
  clear hg1 hg2 hgr1 hgr2 hb2 hsz1 hsz2
  repeat (first | refine c_seq ?_ | refine c_region _ ?_ | refine wpList_nil ?_ | refine c_then ?_ | ((apply st hF); (exact d_fieldAddr (fld _ _ _ _ rfl) (isz _ _ rfl)); clear hF; clear a; intro a hF))
  refine st_store hF (isz _ _ rfl) m5 (i := 0 + 2) (by show 0 + 2 < 8; decide) rfl rfl rfl (k := fun a v17 hg hgr hsz hF => ?_)
  replace m5 : MgAt v14.heap.size ({ twoM (some ⟨v1.heap.size, 0, none⟩) 1 1 with id := 536870912, wide := true }) v17 := hg
  replace m1 : MgAt v3.heap.size (twoM (some ⟨v1.heap.size, 0, none⟩) 1 1) v17 := blk_kept m1 hgr (by simp; omega)
  replace m2 : MgAt v5.heap.size ({ twoM (some ⟨v1.heap.size, 0, none⟩) 1 1 with id := 2048 }) v17 := blk_kept m2 hgr (by simp; omega)
  replace m3 : MgAt v8.heap.size ({ twoM (some ⟨v1.heap.size, 0, none⟩) 1 1 with id := 2048, wide := true }) v17 := blk_kept m3 hgr (by simp; omega)
  replace m4 : MgAt v11.heap.size ({ twoM (some ⟨v1.heap.size, 0, none⟩) 1 1 with size := 9 }) v17 := blk_kept m4 hgr (by simp; omega)
  replace hY := hY.grown hgr hY.size (fun k hk => by cases hk; omega)
  replace hX := hX.grown hgr hX.size (fun k hk => by cases hk; omega)
  clear hg hgr hsz
  repeat (first | refine c_seq ?_ | refine c_region _ ?_ | refine wpList_nil ?_ | refine c_then ?_ | ((apply st hF); (exact d_loadAgg (agg _ rfl) (isz _ _ rfl) rfl (cells_at m1)); clear hF; clear a; intro a hF))
  refine stc hF (cmsg_0 v17 (twoM (some ⟨v1.heap.size, 0, none⟩) 1 1) [(oneS ⟨#[97]⟩ 0 8 g, txA)] (SigsIn.below hin0 hY) (by intro p hp; simp only [List.mem_cons, List.not_mem_nil, or_false] at hp; rcases hp with rfl <;> constructor <;> (dsimp only [oneS]; omega)) (hT.below hX) none ((msg_C (unit_mem (by intro p hp; simp only [List.mem_cons, List.not_mem_nil, or_false] at hp; rcases hp with rfl <;> rfl))).trans (by kernel_rfl))) cal10 ⟨rfl, trivial⟩ (k := fun a v v18 hR hF => ?_)
  obtain ⟨rfl, hb⟩ := hR
  replace m1 := m1.below hb
  replace m2 := m2.below hb
  replace m3 := m3.below hb
  replace m4 := m4.below hb
  replace m5 := m5.below hb
  replace hY := hY.trans (hb.mono hY.size)
  replace hX := hX.trans (hb.mono hX.size)
  repeat (((first | apply st hF | apply stg hF); (first | exact d_move | exact d_neN (ifc _ rfl) | exact d_loadAgg (agg _ rfl) (isz _ _ rfl) rfl (cells_at m2)); clear hF; clear a; intro a hF))
  refine stcg hF (cmsg_k v18 ({ twoM (some ⟨v1.heap.size, 0, none⟩) 1 1 with id := 2048 }) [(oneS ⟨#[97]⟩ 0 8 g, txA)] (SigsIn.below hin0 hY) (by intro p hp; simp only [List.mem_cons, List.not_mem_nil, or_false] at hp; rcases hp with rfl <;> constructor <;> (dsimp only [oneS]; omega)) (hT.below hX) 26 none ((msg_C (unit_mem (by intro p hp; simp only [List.mem_cons, List.not_mem_nil, or_false] at hp; rcases hp with rfl <;> rfl))).trans (by kernel_rfl)) (by decide)) cal10 ⟨rfl, trivial⟩ (k := fun a v v19 hR hF => ?_)
  obtain ⟨rfl, hb⟩ := hR
  replace m1 := m1.below hb
  replace m2 := m2.below hb
  replace m3 := m3.below hb
  replace m4 := m4.below hb
  replace m5 := m5.below hb
  replace hY := hY.trans (hb.mono hY.size)
  replace hX := hX.trans (hb.mono hX.size)
  refine stcg hF (no_is v19 26 0 0 (by decide) (by decide)) cal57 ⟨rfl, rfl, trivial⟩ (k := fun a v v20 hR hF => ?_)
  obtain ⟨rfl, hb⟩ := hR
  replace m1 := m1.below hb
  replace m2 := m2.below hb
  replace m3 := m3.below hb
  replace m4 := m4.below hb
  replace m5 := m5.below hb
  replace hY := hY.trans (hb.mono hY.size)
  replace hX := hX.trans (hb.mono hX.size)
  repeat (((first | apply st hF | apply stg hF); (first | exact d_move | exact d_not | exact d_pickF | exact d_loadAgg (agg _ rfl) (isz _ _ rfl) rfl (cells_at m3)); clear hF; clear a; intro a hF))
  refine stcg hF (cmsg_0 v20 ({ twoM (some ⟨v1.heap.size, 0, none⟩) 1 1 with id := 2048, wide := true }) [(oneS ⟨#[97]⟩ 0 8 g, txA)] (SigsIn.below hin0 hY) (by intro p hp; simp only [List.mem_cons, List.not_mem_nil, or_false] at hp; rcases hp with rfl <;> constructor <;> (dsimp only [oneS]; omega)) (hT.below hX) none ((msg_C (unit_mem (by intro p hp; simp only [List.mem_cons, List.not_mem_nil, or_false] at hp; rcases hp with rfl <;> rfl))).trans (by kernel_rfl))) cal10 ⟨rfl, trivial⟩ (k := fun a v v21 hR hF => ?_)
  obtain ⟨rfl, hb⟩ := hR
  replace m1 := m1.below hb
  replace m2 := m2.below hb
  replace m3 := m3.below hb
  replace m4 := m4.below hb
  replace m5 := m5.below hb
  replace hY := hY.trans (hb.mono hY.size)
  replace hX := hX.trans (hb.mono hX.size)
  repeat (((first | apply st hF | apply stg hF); (first | exact d_move | exact d_pickF | exact d_neN (ifc _ rfl) | exact d_loadAgg (agg _ rfl) (isz _ _ rfl) rfl (cells_at m4)); clear hF; clear a; intro a hF))
  refine stcg hF (cmsg_k v21 ({ twoM (some ⟨v1.heap.size, 0, none⟩) 1 1 with size := 9 }) [(oneS ⟨#[97]⟩ 0 8 g, txA)] (SigsIn.below hin0 hY) (by intro p hp; simp only [List.mem_cons, List.not_mem_nil, or_false] at hp; rcases hp with rfl <;> constructor <;> (dsimp only [oneS]; omega)) (hT.below hX) 15 none ((msg_C (unit_mem (by intro p hp; simp only [List.mem_cons, List.not_mem_nil, or_false] at hp; rcases hp with rfl <;> rfl))).trans (by kernel_rfl)) (by decide)) cal10 ⟨rfl, trivial⟩ (k := fun a v v22 hR hF => ?_)
  obtain ⟨rfl, hb⟩ := hR
  replace m1 := m1.below hb
  replace m2 := m2.below hb
  replace m3 := m3.below hb
  replace m4 := m4.below hb
  replace m5 := m5.below hb
  replace hY := hY.trans (hb.mono hY.size)
  replace hX := hX.trans (hb.mono hX.size)
  refine stcg hF (no_is v22 15 0 0 (by decide) (by decide)) cal57 ⟨rfl, rfl, trivial⟩ (k := fun a v v23 hR hF => ?_)
  obtain ⟨rfl, hb⟩ := hR
  replace m1 := m1.below hb
  replace m2 := m2.below hb
  replace m3 := m3.below hb
  replace m4 := m4.below hb
  replace m5 := m5.below hb
  replace hY := hY.trans (hb.mono hY.size)
  replace hX := hX.trans (hb.mono hX.size)
  repeat (((first | apply st hF | apply stg hF); (first | exact d_move | exact d_not | exact d_pickF | exact d_loadAgg (agg _ rfl) (isz _ _ rfl) rfl (cells_at m5)); clear hF; clear a; intro a hF))
  refine stcg hF (cmsg_k v23 ({ twoM (some ⟨v1.heap.size, 0, none⟩) 1 1 with id := 536870912, wide := true }) [(oneS ⟨#[97]⟩ 0 8 g, txA)] (SigsIn.below hin0 hY) (by intro p hp; simp only [List.mem_cons, List.not_mem_nil, or_false] at hp; rcases hp with rfl <;> constructor <;> (dsimp only [oneS]; omega)) (hT.below hX) 26 none ((msg_C (unit_mem (by intro p hp; simp only [List.mem_cons, List.not_mem_nil, or_false] at hp; rcases hp with rfl <;> rfl))).trans (by kernel_rfl)) (by decide)) cal10 ⟨rfl, trivial⟩ (k := fun a v v24 hR hF => ?_)
  obtain ⟨rfl, hb⟩ := hR
  replace m1 := m1.below hb
  replace m2 := m2.below hb
  replace m3 := m3.below hb
  replace m4 := m4.below hb
  replace m5 := m5.below hb
  replace hY := hY.trans (hb.mono hY.size)
  replace hX := hX.trans (hb.mono hX.size)
  refine stcg hF (no_is v24 26 0 0 (by decide) (by decide)) cal57 ⟨rfl, rfl, trivial⟩ (k := fun a v v25 hR hF => ?_)
  obtain ⟨rfl, hb⟩ := hR
  replace m1 := m1.below hb
  replace m2 := m2.below hb
  replace m3 := m3.below hb
  replace m4 := m4.below hb
  replace m5 := m5.below hb
  replace hY := hY.trans (hb.mono hY.size)
  replace hX := hX.trans (hb.mono hX.size)
  clear m1
  clear m2
  clear m3
  clear m4
  clear m5
  clear hY hin0
  repeat (first | refine c_seq ?_ | refine c_region _ ?_ | refine wpList_nil ?_ | refine c_then ?_ | refine wp_skip ?_ | ((first | apply st hF | apply stg hF); (first | exact d_not | exact d_pickF); clear hF; clear a; intro a hF) | (apply c_cond_f hF; exact rfl; first | exact rfl | assumption))
  refine stc hF (one_ok v25 ⟨#[98]⟩ 0 4) cal30 ⟨rfl, rfl, rfl, trivial⟩ (k := fun a v v26 hR hF => ?_)
  obtain ⟨⟨gb, rfl, rgb⟩, hb⟩ := hR
  replace hX := hX.trans (hb.mono hX.size)
  have hwsb := hX.size
  refine st_alloc hF inf38 (k := fun a v27 hg1 hgr1 hsz1 hF => ?_)
  refine st_storeAgg hF (cs := (Sig.cells (oneS ⟨#[98]⟩ 0 4 gb)).toArray) (isz _ _ rfl) rfl rfl hg1 (sig_cells _) (k := fun a v28 hg2 hgr2 hsz2 hF => ?_)
  have hb2 : Below v26.heap.size v26 v28 := ((Below.refl _ v26).grown hgr1 (Nat.le_refl _) (fun k hk => by cases hk)).grown hgr2 (by omega) (fun k hk => by cases hk; exact Nat.le_refl _)
  have sb : SgAt v26.heap.size (oneS ⟨#[98]⟩ 0 4 gb) v28 := hg2
  replace rgb := rgb.below hb2
  replace hX := hX.trans (hb2.mono hX.size)
  clear hg1 hg2 hgr1 hgr2 hb2 hsz1 hsz2
  repeat (first | refine c_seq ?_ | refine c_region _ ?_ | refine wpList_nil ?_ | refine c_then ?_ | ((apply st hF); (exact d_fieldAddr (fld _ _ _ _ rfl) (isz _ _ rfl)); clear hF; clear a; intro a hF))
  refine st_store hF (isz _ _ rfl) sb (i := 0 + 3) (by show 0 + 3 < 19; decide) rfl rfl rfl (k := fun a v29 hg hgr hsz hF => ?_)
  replace rgb := rd_keptS rgb sb hgr
  replace sb : SgAt v26.heap.size ({ oneS ⟨#[98]⟩ 0 4 gb with role := 2 }) v29 := hg
  replace hX := hX.grown hgr hX.size (fun k hk => by cases hk; omega)
  clear hg hgr hsz
  repeat (first | refine c_seq ?_ | refine c_region _ ?_ | refine wpList_nil ?_ | refine c_then ?_ | ((apply st hF); (exact d_fieldAddr (fld _ _ _ _ rfl) (isz _ _ rfl)); clear hF; clear a; intro a hF))
  refine st_store hF (isz _ _ rfl) sb (i := 0 + 4) (by show 0 + 4 < 19; decide) rfl rfl rfl (k := fun a v30 hg hgr hsz hF => ?_)
  replace rgb := rd_keptS rgb sb hgr
  replace sb : SgAt v26.heap.size ({ oneS ⟨#[98]⟩ 0 4 gb with role := 2, branch := 1 }) v30 := hg
  replace hX := hX.grown hgr hX.size (fun k hk => by cases hk; omega)
  clear hg hgr hsz
  repeat (first | (refine c_region_mix (fun wq => SgAt v26.heap.size ({ oneS ⟨#[98]⟩ 0 4 gb with role := 2, branch := 1 }) wq) [(0, false), (1, false), (2, false), (3, false), (4, false), (5, false), (6, true), (7, true), (9, true), (8, false), (10, false), (11, false), (12, false), (13, false), (14, true), (15, true)] 15 mixed (by kernel_rfl) (sb.below (below_more (Below.refl _ v30) 1)) ?_; simp only [pickX, List.filterMap_cons, List.getElem?_cons_zero, List.getElem?_cons_succ, List.filterMap_nil, Option.map_some]) | refine c_seq ?_ | refine wpList_nil ?_ | refine c_then ?_)
  have hdb : Below v30.heap.size v30 (v30.drewN 1) := below_more (Below.refl _ v30) 1
  generalize v30.drewN 1 = v31 at *
  replace sb := sb.below hdb
  replace rgb := rgb.below hdb
  replace hX := hX.trans (hdb.mono hX.size)
  clear hdb
  refine x_one ?_
  refine stc hF (one_ok v31 ⟨#[97]⟩ 0 8) cal30 ⟨rfl, rfl, rfl, trivial⟩ (k := fun a v v32 hR hF => ?_)
  obtain ⟨⟨g1, rfl, rg1⟩, hb⟩ := hR
  replace sb := sb.below hb
  replace rgb := rgb.below hb
  replace hX := hX.trans (hb.mono hX.size)
  refine wpList_nil ⟨rfl, sb, ?_⟩
  refine x_one ?_
  refine stc hF (one_ok v32 ⟨#[97]⟩ 8 1) cal30 ⟨rfl, rfl, rfl, trivial⟩ (k := fun a v v33 hR hF => ?_)
  obtain ⟨⟨g2, rfl, rg2⟩, hb⟩ := hR
  replace sb := sb.below hb
  replace rgb := rgb.below hb
  replace rg1 := rg1.below hb
  replace hX := hX.trans (hb.mono hX.size)
  refine wpList_nil ⟨rfl, sb, ?_⟩
  refine x_one ?_
  refine st hF (d_buildSS [(Sig.cells (oneS ⟨#[97]⟩ 0 8 g1)).toArray, (Sig.cells (oneS ⟨#[97]⟩ 8 1 g2)).toArray] (und _ _ rfl) inf38 (by decide) (by decide) (by decide) rfl (by simp [Sig.cells]) ⟨rfl, rfl, rfl, rfl, trivial⟩) rfl (fun a hF => ?_)
  have hb := below_alloc v33 (.cells (([(Sig.cells (oneS ⟨#[97]⟩ 0 8 g1)).toArray, (Sig.cells (oneS ⟨#[97]⟩ 8 1 g2)).toArray]).flatMap fun u => u.toList).toArray 38)
  have hL := rdS_alloc v33 19 Sig.cells sigc_len [oneS ⟨#[97]⟩ 0 8 g1, oneS ⟨#[97]⟩ 8 1 g2] 38 (([(Sig.cells (oneS ⟨#[97]⟩ 0 8 g1)).toArray, (Sig.cells (oneS ⟨#[97]⟩ 8 1 g2)).toArray]).flatMap fun u => u.toList).toArray (by simp)
  generalize v33.alloc _ = v34 at *
  replace sb := sb.below hb
  replace rgb := rgb.below hb
  replace rg1 := rg1.below hb
  replace rg2 := rg2.below hb
  replace hX := hX.trans (hb.mono hX.size)
  refine wpList_nil ⟨rfl, sb, ?_⟩
  refine x_one ?_
  refine stc hF (two_ok v34 _ 2 2) cal29 ⟨rfl, trivial⟩ (k := fun a v v35 hR hF => ?_)
  obtain ⟨rfl, hb⟩ := hR
  replace sb := sb.below hb
  replace rgb := rgb.below hb
  replace rg1 := rg1.below hb
  replace rg2 := rg2.below hb
  replace hL := hL.below hb
  replace hX := hX.trans (hb.mono hX.size)
  refine wpList_nil ⟨rfl, sb, ?_⟩
  refine x_one ?_
  refine stc hF (cmsg_k v35 (twoM (some ⟨v33.heap.size, 0, none⟩) 2 2) [(oneS ⟨#[97]⟩ 0 8 g1, txA), (oneS ⟨#[97]⟩ 8 1 g2, txA)] (msg_mk (n := 2) rfl rfl rfl rfl (by decide) hL (fun p hp => by
      simp only [List.mem_cons, List.not_mem_nil, or_false] at hp
      rcases hp with rfl | rfl
      · exact sig_in1 rg1 rfl rfl rfl
      · exact sig_in1 rg2 rfl rfl rfl)) (by intro p hp; simp only [List.mem_cons, List.not_mem_nil, or_false] at hp; rcases hp with rfl | rfl <;> constructor <;> (dsimp only [oneS]; omega)) (hT.below hX) 12 (some 1) ((msg_C (unit_mem (by intro p hp; simp only [List.mem_cons, List.not_mem_nil, or_false] at hp; rcases hp with rfl | rfl <;> rfl))).trans (by kernel_rfl)) (by decide)) cal10 ⟨rfl, trivial⟩ (k := fun a v v36 hR hF => ?_)
  obtain ⟨rfl, hb⟩ := hR
  replace sb := sb.below hb
  replace rgb := rgb.below hb
  replace rg1 := rg1.below hb
  replace rg2 := rg2.below hb
  replace hL := hL.below hb
  replace hX := hX.trans (hb.mono hX.size)
  refine wpList_nil ⟨rfl, sb, ?_⟩
  refine x_one ?_
  refine stc hF (no_is v36 12 0 0 (by decide) (by decide)) cal57 ⟨rfl, rfl, trivial⟩ (k := fun a v v37 hR hF => ?_)
  obtain ⟨rfl, hb⟩ := hR
  replace sb := sb.below hb
  replace rgb := rgb.below hb
  replace rg1 := rg1.below hb
  replace rg2 := rg2.below hb
  replace hL := hL.below hb
  replace hX := hX.trans (hb.mono hX.size)
  refine wpList_nil ⟨rfl, sb, ?_⟩
  clear hL
  clear rg1
  clear rg2
  repeat (((first | apply x_step hF | apply x_stg hF); intro wq hwq; (first | exact d_move | exact d_not | exact d_loadAgg (agg _ rfl) (isz _ _ rfl) rfl (cells_at hwq)); clear hF; clear a; intro a hF))
  refine x_one ?_
  refine stcg hF (one_ok v37 ⟨#[97]⟩ 8 8) cal30 ⟨rfl, rfl, rfl, trivial⟩ (k := fun a v v38 hR hF => ?_)
  obtain ⟨⟨g1, rfl, rg1⟩, hb⟩ := hR
  replace sb := sb.below hb
  replace rgb := rgb.below hb
  replace hX := hX.trans (hb.mono hX.size)
  refine wpList_nil ⟨rfl, sb, ?_⟩
  refine x_one ?_
  refine stg hF rfl rfl (d_buildSS [(Sig.cells (oneS ⟨#[97]⟩ 8 8 g1)).toArray, (Sig.cells ({ oneS ⟨#[98]⟩ 0 4 gb with role := 2, branch := 1 })).toArray] (und _ _ rfl) inf38 (by decide) (by decide) (by decide) rfl (by simp [Sig.cells]) ⟨rfl, rfl, rfl, rfl, trivial⟩) rfl (fun a hF => ?_)
  have hb := below_alloc v38 (.cells (([(Sig.cells (oneS ⟨#[97]⟩ 8 8 g1)).toArray, (Sig.cells ({ oneS ⟨#[98]⟩ 0 4 gb with role := 2, branch := 1 })).toArray]).flatMap fun u => u.toList).toArray 38)
  have hL := rdS_alloc v38 19 Sig.cells sigc_len [oneS ⟨#[97]⟩ 8 8 g1, { oneS ⟨#[98]⟩ 0 4 gb with role := 2, branch := 1 }] 38 (([(Sig.cells (oneS ⟨#[97]⟩ 8 8 g1)).toArray, (Sig.cells ({ oneS ⟨#[98]⟩ 0 4 gb with role := 2, branch := 1 })).toArray]).flatMap fun u => u.toList).toArray (by simp)
  generalize v38.alloc _ = v39 at *
  replace sb := sb.below hb
  replace rgb := rgb.below hb
  replace rg1 := rg1.below hb
  replace hX := hX.trans (hb.mono hX.size)
  refine wpList_nil ⟨rfl, sb, ?_⟩
  refine x_one ?_
  refine stcg hF (two_ok v39 _ 2 2) cal29 ⟨rfl, trivial⟩ (k := fun a v v40 hR hF => ?_)
  obtain ⟨rfl, hb⟩ := hR
  replace sb := sb.below hb
  replace rgb := rgb.below hb
  replace rg1 := rg1.below hb
  replace hL := hL.below hb
  replace hX := hX.trans (hb.mono hX.size)
  refine wpList_nil ⟨rfl, sb, ?_⟩
  refine x_one ?_
  refine stcg hF (cmsg_k v40 (twoM (some ⟨v38.heap.size, 0, none⟩) 2 2) [(oneS ⟨#[97]⟩ 8 8 g1, txA), ({ oneS ⟨#[98]⟩ 0 4 gb with role := 2, branch := 1 }, txA)] (msg_mk (n := 2) rfl rfl rfl rfl (by decide) hL (fun p hp => by
      simp only [List.mem_cons, List.not_mem_nil, or_false] at hp
      rcases hp with rfl | rfl
      · exact sig_in1 rg1 rfl rfl rfl
      · exact sig_in1 rgb rfl rfl rfl)) (by intro p hp; simp only [List.mem_cons, List.not_mem_nil, or_false] at hp; rcases hp with rfl | rfl <;> constructor <;> (dsimp only [oneS]; omega)) (hT.below hX) 14 (some 1) ((msg_C (unit_mem (by intro p hp; simp only [List.mem_cons, List.not_mem_nil, or_false] at hp; rcases hp with rfl | rfl <;> rfl))).trans (by kernel_rfl)) (by decide)) cal10 ⟨rfl, trivial⟩ (k := fun a v v41 hR hF => ?_)
  obtain ⟨rfl, hb⟩ := hR
  replace sb := sb.below hb
  replace rgb := rgb.below hb
  replace rg1 := rg1.below hb
  replace hL := hL.below hb
  replace hX := hX.trans (hb.mono hX.size)
  refine wpList_nil ⟨rfl, sb, ?_⟩
  refine x_one ?_
  refine stcg hF (no_is v41 14 0 0 (by decide) (by decide)) cal57 ⟨rfl, rfl, trivial⟩ (k := fun a v v42 hR hF => ?_)
  obtain ⟨rfl, hb⟩ := hR
  replace sb := sb.below hb
  replace rgb := rgb.below hb
  replace rg1 := rg1.below hb
  replace hL := hL.below hb
  replace hX := hX.trans (hb.mono hX.size)
  refine wpList_nil ⟨rfl, sb, ?_⟩
  clear hL
  clear rg1
  repeat (((first | apply x_step hF | apply x_stg hF); intro wq hwq; (first | exact d_not | exact d_pickF); clear hF; clear a; intro a hF))
  refine x_nil ?_
  repeat (first | refine c_seq ?_ | refine c_region _ ?_ | refine c_then ?_ | refine wp_skip ?_ | (apply c_cond_f hF; exact rfl; first | exact rfl | assumption))
  refine stc hF (one_ok v42 ⟨#[115]⟩ 0 2) cal30 ⟨rfl, rfl, rfl, trivial⟩ (k := fun a v v43 hR hF => ?_)
  obtain ⟨⟨gs, rfl, rgs⟩, hb⟩ := hR
  replace sb := sb.below hb
  replace rgb := rgb.below hb
  replace hX := hX.trans (hb.mono hX.size)
  have hosbss := lt_at sb
  have hwss := hX.size
  refine st_alloc hF inf38 (k := fun a v44 hg1 hgr1 hsz1 hF => ?_)
  refine st_storeAgg hF (cs := (Sig.cells (oneS ⟨#[115]⟩ 0 2 gs)).toArray) (isz _ _ rfl) rfl rfl hg1 (sig_cells _) (k := fun a v45 hg2 hgr2 hsz2 hF => ?_)
  have hb2 : Below v43.heap.size v43 v45 := ((Below.refl _ v43).grown hgr1 (Nat.le_refl _) (fun k hk => by cases hk)).grown hgr2 (by omega) (fun k hk => by cases hk; exact Nat.le_refl _)
  have ss : SgAt v43.heap.size (oneS ⟨#[115]⟩ 0 2 gs) v45 := hg2
  replace sb := sb.below hb2
  replace rgb := rgb.below hb2
  replace rgs := rgs.below hb2
  replace hX := hX.trans (hb2.mono hX.size)
  clear hg1 hg2 hgr1 hgr2 hb2 hsz1 hsz2
  repeat (first | refine c_seq ?_ | refine c_region _ ?_ | refine wpList_nil ?_ | refine c_then ?_ | ((apply st hF); (exact d_fieldAddr (fld _ _ _ _ rfl) (isz _ _ rfl)); clear hF; clear a; intro a hF))
  refine st_store hF (isz _ _ rfl) ss (i := 0 + 3) (by show 0 + 3 < 19; decide) rfl rfl rfl (k := fun a v46 hg hgr hsz hF => ?_)
  replace rgb := rd_keptS rgb ss hgr
  replace rgs := rd_keptS rgs ss hgr
  replace ss : SgAt v43.heap.size ({ oneS ⟨#[115]⟩ 0 2 gs with role := 1 }) v46 := hg
  replace sb : SgAt v26.heap.size ({ oneS ⟨#[98]⟩ 0 4 gb with role := 2, branch := 1 }) v46 := blk_kept sb hgr (by simp; omega)
  replace hX := hX.grown hgr hX.size (fun k hk => by cases hk; omega)
  clear hg hgr hsz
  repeat (first | refine c_seq ?_ | refine c_region _ ?_ | refine wpList_nil ?_ | refine c_then ?_)
  refine stc hF (one_ok v46 ⟨#[98]⟩ 4 4) cal30 ⟨rfl, rfl, rfl, trivial⟩ (k := fun a v v47 hR hF => ?_)
  obtain ⟨⟨gc, rfl, rgc⟩, hb⟩ := hR
  replace sb := sb.below hb
  replace ss := ss.below hb
  replace rgb := rgb.below hb
  replace rgs := rgs.below hb
  replace hX := hX.trans (hb.mono hX.size)
  refine st_storeAgg hF (cs := (Sig.cells (oneS ⟨#[98]⟩ 4 4 gc)).toArray) (isz _ _ rfl) rfl rfl sb (sig_cells _) (k := fun a v48 hg hgr hsz hF => ?_)
  replace rgb := rd_keptS rgb sb hgr
  replace rgs := rd_keptS rgs sb hgr
  replace rgc := rd_keptS rgc sb hgr
  replace sb : SgAt v26.heap.size (oneS ⟨#[98]⟩ 4 4 gc) v48 := hg
  replace ss : SgAt v43.heap.size ({ oneS ⟨#[115]⟩ 0 2 gs with role := 1 }) v48 := blk_kept ss hgr (by simp; omega)
  replace hX := hX.grown hgr hX.size (fun k hk => by cases hk; omega)
  clear hg hgr hsz
  clear rgb
  repeat (first | refine c_seq ?_ | refine c_region _ ?_ | refine wpList_nil ?_ | refine c_then ?_ | ((apply st hF); (exact d_fieldAddr (fld _ _ _ _ rfl) (isz _ _ rfl)); clear hF; clear a; intro a hF))
  refine st_store hF (isz _ _ rfl) sb (i := 0 + 3) (by show 0 + 3 < 19; decide) rfl rfl rfl (k := fun a v49 hg hgr hsz hF => ?_)
  replace rgs := rd_keptS rgs sb hgr
  replace rgc := rd_keptS rgc sb hgr
  replace sb : SgAt v26.heap.size ({ oneS ⟨#[98]⟩ 4 4 gc with role := 2 }) v49 := hg
  replace ss : SgAt v43.heap.size ({ oneS ⟨#[115]⟩ 0 2 gs with role := 1 }) v49 := blk_kept ss hgr (by simp; omega)
  replace hX := hX.grown hgr hX.size (fun k hk => by cases hk; omega)
  clear hg hgr hsz
  repeat (first | refine c_seq ?_ | refine c_region _ ?_ | refine wpList_nil ?_ | refine c_then ?_ | ((apply st hF); (exact d_fieldAddr (fld _ _ _ _ rfl) (isz _ _ rfl)); clear hF; clear a; intro a hF))
  refine st_store hF (isz _ _ rfl) sb (i := 0 + 4) (by show 0 + 4 < 19; decide) rfl rfl rfl (k := fun a v50 hg hgr hsz hF => ?_)
  replace rgs := rd_keptS rgs sb hgr
  replace rgc := rd_keptS rgc sb hgr
  replace sb : SgAt v26.heap.size ({ oneS ⟨#[98]⟩ 4 4 gc with role := 2, branch := 3 }) v50 := hg
  replace ss : SgAt v43.heap.size ({ oneS ⟨#[115]⟩ 0 2 gs with role := 1 }) v50 := blk_kept ss hgr (by simp; omega)
  replace hX := hX.grown hgr hX.size (fun k hk => by cases hk; omega)
  clear hg hgr hsz
  repeat (first | refine c_seq ?_ | refine c_region _ ?_ | refine wpList_nil ?_ | refine c_then ?_ | ((apply st hF); (exact d_loadAgg (agg _ rfl) (isz _ _ rfl) rfl (cells_at sb)); clear hF; clear a; intro a hF))
  have hosssc := lt_at ss
  have hwsc := hX.size
  refine st_alloc hF inf38 (k := fun a v51 hg1 hgr1 hsz1 hF => ?_)
  refine st_storeAgg hF (cs := (Sig.cells ({ oneS ⟨#[98]⟩ 4 4 gc with role := 2, branch := 3 })).toArray) (isz _ _ rfl) rfl rfl hg1 (sig_cells _) (k := fun a v52 hg2 hgr2 hsz2 hF => ?_)
  have hb2 : Below v50.heap.size v50 v52 := ((Below.refl _ v50).grown hgr1 (Nat.le_refl _) (fun k hk => by cases hk)).grown hgr2 (by omega) (fun k hk => by cases hk; exact Nat.le_refl _)
  have sc : SgAt v50.heap.size ({ oneS ⟨#[98]⟩ 4 4 gc with role := 2, branch := 3 }) v52 := hg2
  replace sb := sb.below hb2
  replace ss := ss.below hb2
  replace rgs := rgs.below hb2
  replace rgc := rgc.below hb2
  replace hX := hX.trans (hb2.mono hX.size)
  clear hg1 hg2 hgr1 hgr2 hb2 hsz1 hsz2
  repeat (first | refine c_seq ?_ | refine c_region _ ?_ | refine wpList_nil ?_ | refine c_then ?_ | ((apply st hF); (exact d_fieldAddr (fld _ _ _ _ rfl) (isz _ _ rfl)); clear hF; clear a; intro a hF))
  refine st_store hF (isz _ _ rfl) sc (i := 0 + 2) (by show 0 + 2 < 19; decide) rfl rfl rfl (k := fun a v53 hg hgr hsz hF => ?_)
  replace rgs := rd_keptS rgs sc hgr
  replace rgc := rd_keptS rgc sc hgr
  replace sc : SgAt v50.heap.size ({ oneS ⟨#[98]⟩ 4 4 gc with role := 2, branch := 3, name := ⟨#[99]⟩ }) v53 := hg
  replace sb : SgAt v26.heap.size ({ oneS ⟨#[98]⟩ 4 4 gc with role := 2, branch := 3 }) v53 := blk_kept sb hgr (by simp; omega)
  replace ss : SgAt v43.heap.size ({ oneS ⟨#[115]⟩ 0 2 gs with role := 1 }) v53 := blk_kept ss hgr (by simp; omega)
  replace hX := hX.grown hgr hX.size (fun k hk => by cases hk; omega)
  clear hg hgr hsz
  repeat (first | refine c_seq ?_ | refine c_region _ ?_ | refine wpList_nil ?_ | refine c_then ?_ | ((apply st hF); (exact d_fieldAddr (fld _ _ _ _ rfl) (isz _ _ rfl)); clear hF; clear a; intro a hF))
  refine st_store hF (isz _ _ rfl) sc (i := 0 + 4) (by show 0 + 4 < 19; decide) rfl rfl rfl (k := fun a v54 hg hgr hsz hF => ?_)
  replace rgs := rd_keptS rgs sc hgr
  replace rgc := rd_keptS rgc sc hgr
  replace sc : SgAt v50.heap.size ({ oneS ⟨#[98]⟩ 4 4 gc with role := 2, branch := 2, name := ⟨#[99]⟩ }) v54 := hg
  replace sb : SgAt v26.heap.size ({ oneS ⟨#[98]⟩ 4 4 gc with role := 2, branch := 3 }) v54 := blk_kept sb hgr (by simp; omega)
  replace ss : SgAt v43.heap.size ({ oneS ⟨#[115]⟩ 0 2 gs with role := 1 }) v54 := blk_kept ss hgr (by simp; omega)
  replace hX := hX.grown hgr hX.size (fun k hk => by cases hk; omega)
  clear hg hgr hsz
  repeat (first | refine c_seq ?_ | refine c_region _ ?_ | refine wpList_nil ?_ | refine c_then ?_ | ((apply st hF); (first | exact d_fieldAddr (fld _ _ _ _ rfl) (isz _ _ rfl) | exact d_build (vs := [(0, .int .i64 7), (1, .int .i64 8)]) (cells := #[.int .i64 7, .int .i64 8]) (by kernel_rfl) ⟨rfl, rfl, rfl, rfl, trivial⟩); clear hF; clear a; intro a hF))
  refine st_storePart hF (cs := #[.int .i64 7, .int .i64 8]) (o := 0 + 0) (isz _ _ rfl) rfl (by show 0 + 0 + 2 ≤ 19; decide) sc (by simp [Value.oneCell']) (k := fun a v55 hg hgr hsz hF => ?_)
  replace rgs := rd_keptS rgs sc hgr
  replace rgc := rd_keptS rgc sc hgr
  replace sc : SgAt v50.heap.size ({ oneS ⟨#[98]⟩ 4 4 gc with role := 2, branch := 2, name := ⟨#[99]⟩, line := 7, col := 8 }) v55 := hg
  replace sb : SgAt v26.heap.size ({ oneS ⟨#[98]⟩ 4 4 gc with role := 2, branch := 3 }) v55 := blk_kept sb hgr (by simp; omega)
  replace ss : SgAt v43.heap.size ({ oneS ⟨#[115]⟩ 0 2 gs with role := 1 }) v55 := blk_kept ss hgr (by simp; omega)
  replace hX := hX.grown hgr hX.size (fun k hk => by cases hk; omega)
  clear hg hgr hsz
  repeat (first | refine c_seq ?_ | refine c_region _ ?_ | refine wpList_nil ?_ | refine c_then ?_ | ((apply st hF); (exact d_loadAgg (agg _ rfl) (isz _ _ rfl) rfl (cells_at sb)); clear hF; clear a; intro a hF))
  have hoscsd := lt_at sc
  have hwsd := hX.size
  refine st_alloc hF inf38 (k := fun a v56 hg1 hgr1 hsz1 hF => ?_)
  refine st_storeAgg hF (cs := (Sig.cells ({ oneS ⟨#[98]⟩ 4 4 gc with role := 2, branch := 3 })).toArray) (isz _ _ rfl) rfl rfl hg1 (sig_cells _) (k := fun a v57 hg2 hgr2 hsz2 hF => ?_)
  have hb2 : Below v55.heap.size v55 v57 := ((Below.refl _ v55).grown hgr1 (Nat.le_refl _) (fun k hk => by cases hk)).grown hgr2 (by omega) (fun k hk => by cases hk; exact Nat.le_refl _)
  have sd : SgAt v55.heap.size ({ oneS ⟨#[98]⟩ 4 4 gc with role := 2, branch := 3 }) v57 := hg2
  replace sb := sb.below hb2
  replace ss := ss.below hb2
  replace sc := sc.below hb2
  replace rgs := rgs.below hb2
  replace rgc := rgc.below hb2
  replace hX := hX.trans (hb2.mono hX.size)
  clear hg1 hg2 hgr1 hgr2 hb2 hsz1 hsz2
  repeat (first | refine c_seq ?_ | refine c_region _ ?_ | refine wpList_nil ?_ | refine c_then ?_ | ((apply st hF); (exact d_fieldAddr (fld _ _ _ _ rfl) (isz _ _ rfl)); clear hF; clear a; intro a hF))
  refine st_store hF (isz _ _ rfl) sd (i := 0 + 4) (by show 0 + 4 < 19; decide) rfl rfl rfl (k := fun a v58 hg hgr hsz hF => ?_)
  replace rgs := rd_keptS rgs sd hgr
  replace rgc := rd_keptS rgc sd hgr
  replace sd : SgAt v55.heap.size ({ oneS ⟨#[98]⟩ 4 4 gc with role := 2, branch := 4 }) v58 := hg
  replace sb : SgAt v26.heap.size ({ oneS ⟨#[98]⟩ 4 4 gc with role := 2, branch := 3 }) v58 := blk_kept sb hgr (by simp; omega)
  replace ss : SgAt v43.heap.size ({ oneS ⟨#[115]⟩ 0 2 gs with role := 1 }) v58 := blk_kept ss hgr (by simp; omega)
  replace sc : SgAt v50.heap.size ({ oneS ⟨#[98]⟩ 4 4 gc with role := 2, branch := 2, name := ⟨#[99]⟩, line := 7, col := 8 }) v58 := blk_kept sc hgr (by simp; omega)
  replace hX := hX.grown hgr hX.size (fun k hk => by cases hk; omega)
  clear hg hgr hsz
  repeat (first | refine c_seq ?_ | refine c_region _ ?_ | refine wpList_nil ?_ | refine c_then ?_ | ((apply st hF); (exact d_loadAgg (agg _ rfl) (isz _ _ rfl) rfl (cells_at sc)); clear hF; clear a; intro a hF))
  have hosdse := lt_at sd
  have hwse := hX.size
  refine st_alloc hF inf38 (k := fun a v59 hg1 hgr1 hsz1 hF => ?_)
  refine st_storeAgg hF (cs := (Sig.cells ({ oneS ⟨#[98]⟩ 4 4 gc with role := 2, branch := 2, name := ⟨#[99]⟩, line := 7, col := 8 })).toArray) (isz _ _ rfl) rfl rfl hg1 (sig_cells _) (k := fun a v60 hg2 hgr2 hsz2 hF => ?_)
  have hb2 : Below v58.heap.size v58 v60 := ((Below.refl _ v58).grown hgr1 (Nat.le_refl _) (fun k hk => by cases hk)).grown hgr2 (by omega) (fun k hk => by cases hk; exact Nat.le_refl _)
  have se : SgAt v58.heap.size ({ oneS ⟨#[98]⟩ 4 4 gc with role := 2, branch := 2, name := ⟨#[99]⟩, line := 7, col := 8 }) v60 := hg2
  replace sb := sb.below hb2
  replace ss := ss.below hb2
  replace sc := sc.below hb2
  replace sd := sd.below hb2
  replace rgs := rgs.below hb2
  replace rgc := rgc.below hb2
  replace hX := hX.trans (hb2.mono hX.size)
  clear hg1 hg2 hgr1 hgr2 hb2 hsz1 hsz2
  repeat (first | refine c_seq ?_ | refine c_region _ ?_ | refine wpList_nil ?_ | refine c_then ?_ | ((apply st hF); (exact d_fieldAddr (fld _ _ _ _ rfl) (isz _ _ rfl)); clear hF; clear a; intro a hF))
  refine st_store hF (isz _ _ rfl) se (i := 0 + 4) (by show 0 + 4 < 19; decide) rfl rfl rfl (k := fun a v61 hg hgr hsz hF => ?_)
  replace rgs := rd_keptS rgs se hgr
  replace rgc := rd_keptS rgc se hgr
  replace se : SgAt v58.heap.size ({ oneS ⟨#[98]⟩ 4 4 gc with role := 2, branch := 3, name := ⟨#[99]⟩, line := 7, col := 8 }) v61 := hg
  replace sb : SgAt v26.heap.size ({ oneS ⟨#[98]⟩ 4 4 gc with role := 2, branch := 3 }) v61 := blk_kept sb hgr (by simp; omega)
  replace ss : SgAt v43.heap.size ({ oneS ⟨#[115]⟩ 0 2 gs with role := 1 }) v61 := blk_kept ss hgr (by simp; omega)
  replace sc : SgAt v50.heap.size ({ oneS ⟨#[98]⟩ 4 4 gc with role := 2, branch := 2, name := ⟨#[99]⟩, line := 7, col := 8 }) v61 := blk_kept sc hgr (by simp; omega)
  replace sd : SgAt v55.heap.size ({ oneS ⟨#[98]⟩ 4 4 gc with role := 2, branch := 4 }) v61 := blk_kept sd hgr (by simp; omega)
  replace hX := hX.grown hgr hX.size (fun k hk => by cases hk; omega)
  clear hg hgr hsz
  repeat (first | refine c_seq ?_ | refine c_region _ ?_ | refine wpList_nil ?_ | refine c_then ?_ | ((apply st hF); (exact d_loadAgg (agg _ rfl) (isz _ _ rfl) rfl (cells_at ss)); clear hF; clear a; intro a hF))
  have hosest_ := lt_at se
  have hwst_ := hX.size
  refine st_alloc hF inf38 (k := fun a v62 hg1 hgr1 hsz1 hF => ?_)
  refine st_storeAgg hF (cs := (Sig.cells ({ oneS ⟨#[115]⟩ 0 2 gs with role := 1 })).toArray) (isz _ _ rfl) rfl rfl hg1 (sig_cells _) (k := fun a v63 hg2 hgr2 hsz2 hF => ?_)
  have hb2 : Below v61.heap.size v61 v63 := ((Below.refl _ v61).grown hgr1 (Nat.le_refl _) (fun k hk => by cases hk)).grown hgr2 (by omega) (fun k hk => by cases hk; exact Nat.le_refl _)
  have st_ : SgAt v61.heap.size ({ oneS ⟨#[115]⟩ 0 2 gs with role := 1 }) v63 := hg2
  replace sb := sb.below hb2
  replace ss := ss.below hb2
  replace sc := sc.below hb2
  replace sd := sd.below hb2
  replace se := se.below hb2
  replace rgs := rgs.below hb2
  replace rgc := rgc.below hb2
  replace hX := hX.trans (hb2.mono hX.size)
  clear hg1 hg2 hgr1 hgr2 hb2 hsz1 hsz2
  repeat (first | refine c_seq ?_ | refine c_region _ ?_ | refine wpList_nil ?_ | refine c_then ?_ | ((apply st hF); (exact d_fieldAddr (fld _ _ _ _ rfl) (isz _ _ rfl)); clear hF; clear a; intro a hF))
  refine st_store hF (isz _ _ rfl) st_ (i := 0 + 2) (by show 0 + 2 < 19; decide) rfl rfl rfl (k := fun a v64 hg hgr hsz hF => ?_)
  replace rgs := rd_keptS rgs st_ hgr
  replace rgc := rd_keptS rgc st_ hgr
  replace st_ : SgAt v61.heap.size ({ oneS ⟨#[115]⟩ 0 2 gs with role := 1, name := ⟨#[116]⟩ }) v64 := hg
  replace sb : SgAt v26.heap.size ({ oneS ⟨#[98]⟩ 4 4 gc with role := 2, branch := 3 }) v64 := blk_kept sb hgr (by simp; omega)
  replace ss : SgAt v43.heap.size ({ oneS ⟨#[115]⟩ 0 2 gs with role := 1 }) v64 := blk_kept ss hgr (by simp; omega)
  replace sc : SgAt v50.heap.size ({ oneS ⟨#[98]⟩ 4 4 gc with role := 2, branch := 2, name := ⟨#[99]⟩, line := 7, col := 8 }) v64 := blk_kept sc hgr (by simp; omega)
  replace sd : SgAt v55.heap.size ({ oneS ⟨#[98]⟩ 4 4 gc with role := 2, branch := 4 }) v64 := blk_kept sd hgr (by simp; omega)
  replace se : SgAt v58.heap.size ({ oneS ⟨#[98]⟩ 4 4 gc with role := 2, branch := 3, name := ⟨#[99]⟩, line := 7, col := 8 }) v64 := blk_kept se hgr (by simp; omega)
  replace hX := hX.grown hgr hX.size (fun k hk => by cases hk; omega)
  clear hg hgr hsz
  repeat (first | refine c_seq ?_ | refine c_region _ ?_ | refine wpList_nil ?_ | refine c_then ?_ | ((apply st hF); (first | exact d_loadAgg (agg _ rfl) (isz _ _ rfl) rfl (cells_at ss) | exact d_loadAgg (agg _ rfl) (isz _ _ rfl) rfl (cells_at sb) | exact d_loadAgg (agg _ rfl) (isz _ _ rfl) rfl (cells_at sc)); clear hF; clear a; intro a hF))
  refine st hF (d_buildSS [(Sig.cells ({ oneS ⟨#[115]⟩ 0 2 gs with role := 1 })).toArray, (Sig.cells ({ oneS ⟨#[98]⟩ 4 4 gc with role := 2, branch := 3 })).toArray, (Sig.cells ({ oneS ⟨#[98]⟩ 4 4 gc with role := 2, branch := 2, name := ⟨#[99]⟩, line := 7, col := 8 })).toArray] (und _ _ rfl) inf38 (by decide) (by decide) (by decide) rfl (by simp [Sig.cells]) ⟨rfl, rfl, rfl, rfl, rfl, rfl, trivial⟩) rfl (fun a hF => ?_)
  have hb := below_alloc v64 (.cells (([(Sig.cells ({ oneS ⟨#[115]⟩ 0 2 gs with role := 1 })).toArray, (Sig.cells ({ oneS ⟨#[98]⟩ 4 4 gc with role := 2, branch := 3 })).toArray, (Sig.cells ({ oneS ⟨#[98]⟩ 4 4 gc with role := 2, branch := 2, name := ⟨#[99]⟩, line := 7, col := 8 })).toArray]).flatMap fun u => u.toList).toArray 38)
  have hL := rdS_alloc v64 19 Sig.cells sigc_len [{ oneS ⟨#[115]⟩ 0 2 gs with role := 1 }, { oneS ⟨#[98]⟩ 4 4 gc with role := 2, branch := 3 }, { oneS ⟨#[98]⟩ 4 4 gc with role := 2, branch := 2, name := ⟨#[99]⟩, line := 7, col := 8 }] 38 (([(Sig.cells ({ oneS ⟨#[115]⟩ 0 2 gs with role := 1 })).toArray, (Sig.cells ({ oneS ⟨#[98]⟩ 4 4 gc with role := 2, branch := 3 })).toArray, (Sig.cells ({ oneS ⟨#[98]⟩ 4 4 gc with role := 2, branch := 2, name := ⟨#[99]⟩, line := 7, col := 8 })).toArray]).flatMap fun u => u.toList).toArray (by simp)
  generalize v64.alloc _ = v65 at *
  replace sb := sb.below hb
  replace ss := ss.below hb
  replace sc := sc.below hb
  replace sd := sd.below hb
  replace se := se.below hb
  replace st_ := st_.below hb
  replace rgs := rgs.below hb
  replace rgc := rgc.below hb
  replace hX := hX.trans (hb.mono hX.size)
  refine stc hF (two_ok v65 _ 3 3) cal29 ⟨rfl, trivial⟩ (k := fun a v v66 hR hF => ?_)
  obtain ⟨rfl, hb⟩ := hR
  replace sb := sb.below hb
  replace ss := ss.below hb
  replace sc := sc.below hb
  replace sd := sd.below hb
  replace se := se.below hb
  replace st_ := st_.below hb
  replace rgs := rgs.below hb
  replace rgc := rgc.below hb
  replace hL := hL.below hb
  replace hX := hX.trans (hb.mono hX.size)
  refine stc hF (cmsg_0 v66 (twoM (some ⟨v64.heap.size, 0, none⟩) 3 3) [({ oneS ⟨#[115]⟩ 0 2 gs with role := 1 }, txA), ({ oneS ⟨#[98]⟩ 4 4 gc with role := 2, branch := 3 }, txA), ({ oneS ⟨#[98]⟩ 4 4 gc with role := 2, branch := 2, name := ⟨#[99]⟩, line := 7, col := 8 }, txA)] (msg_mk (n := 3) rfl rfl rfl rfl (by decide) hL (fun p hp => by
      simp only [List.mem_cons, List.not_mem_nil, or_false] at hp
      rcases hp with rfl | rfl | rfl
      · exact sig_in1 rgs rfl rfl rfl
      · exact sig_in1 rgc rfl rfl rfl
      · exact sig_in1 rgc rfl rfl rfl)) (by intro p hp; simp only [List.mem_cons, List.not_mem_nil, or_false] at hp; rcases hp with rfl | rfl | rfl <;> constructor <;> (dsimp only [oneS]; omega)) (hT.below hX) none ((msg_C (unit_mem (by intro p hp; simp only [List.mem_cons, List.not_mem_nil, or_false] at hp; rcases hp with rfl | rfl | rfl <;> rfl))).trans (by kernel_rfl))) cal10 ⟨rfl, trivial⟩ (k := fun a v v67 hR hF => ?_)
  obtain ⟨rfl, hb⟩ := hR
  replace sb := sb.below hb
  replace ss := ss.below hb
  replace sc := sc.below hb
  replace sd := sd.below hb
  replace se := se.below hb
  replace st_ := st_.below hb
  replace rgs := rgs.below hb
  replace rgc := rgc.below hb
  replace hL := hL.below hb
  replace hX := hX.trans (hb.mono hX.size)
  clear hL
  repeat (((first | apply st hF | apply stg hF); (first | exact d_move | exact d_eqN (ifc _ rfl) | exact d_loadAgg (agg _ rfl) (isz _ _ rfl) rfl (cells_at ss) | exact d_loadAgg (agg _ rfl) (isz _ _ rfl) rfl (cells_at sd)); clear hF; clear a; intro a hF))
  refine stg hF rfl rfl (d_buildSS [(Sig.cells ({ oneS ⟨#[115]⟩ 0 2 gs with role := 1 })).toArray, (Sig.cells ({ oneS ⟨#[98]⟩ 4 4 gc with role := 2, branch := 4 })).toArray] (und _ _ rfl) inf38 (by decide) (by decide) (by decide) rfl (by simp [Sig.cells]) ⟨rfl, rfl, rfl, rfl, trivial⟩) rfl (fun a hF => ?_)
  have hb := below_alloc v67 (.cells (([(Sig.cells ({ oneS ⟨#[115]⟩ 0 2 gs with role := 1 })).toArray, (Sig.cells ({ oneS ⟨#[98]⟩ 4 4 gc with role := 2, branch := 4 })).toArray]).flatMap fun u => u.toList).toArray 38)
  have hL := rdS_alloc v67 19 Sig.cells sigc_len [{ oneS ⟨#[115]⟩ 0 2 gs with role := 1 }, { oneS ⟨#[98]⟩ 4 4 gc with role := 2, branch := 4 }] 38 (([(Sig.cells ({ oneS ⟨#[115]⟩ 0 2 gs with role := 1 })).toArray, (Sig.cells ({ oneS ⟨#[98]⟩ 4 4 gc with role := 2, branch := 4 })).toArray]).flatMap fun u => u.toList).toArray (by simp)
  generalize v67.alloc _ = v68 at *
  replace sb := sb.below hb
  replace ss := ss.below hb
  replace sc := sc.below hb
  replace sd := sd.below hb
  replace se := se.below hb
  replace st_ := st_.below hb
  replace rgs := rgs.below hb
  replace rgc := rgc.below hb
  replace hX := hX.trans (hb.mono hX.size)
  refine stcg hF (two_ok v68 _ 2 2) cal29 ⟨rfl, trivial⟩ (k := fun a v v69 hR hF => ?_)
  obtain ⟨rfl, hb⟩ := hR
  replace sb := sb.below hb
  replace ss := ss.below hb
  replace sc := sc.below hb
  replace sd := sd.below hb
  replace se := se.below hb
  replace st_ := st_.below hb
  replace rgs := rgs.below hb
  replace rgc := rgc.below hb
  replace hL := hL.below hb
  replace hX := hX.trans (hb.mono hX.size)
  refine stcg hF (cmsg_k v69 (twoM (some ⟨v67.heap.size, 0, none⟩) 2 2) [({ oneS ⟨#[115]⟩ 0 2 gs with role := 1 }, txA), ({ oneS ⟨#[98]⟩ 4 4 gc with role := 2, branch := 4 }, txA)] (msg_mk (n := 2) rfl rfl rfl rfl (by decide) hL (fun p hp => by
      simp only [List.mem_cons, List.not_mem_nil, or_false] at hp
      rcases hp with rfl | rfl
      · exact sig_in1 rgs rfl rfl rfl
      · exact sig_in1 rgc rfl rfl rfl)) (by intro p hp; simp only [List.mem_cons, List.not_mem_nil, or_false] at hp; rcases hp with rfl | rfl <;> constructor <;> (dsimp only [oneS]; omega)) (hT.below hX) 14 (some 1) ((msg_C (unit_mem (by intro p hp; simp only [List.mem_cons, List.not_mem_nil, or_false] at hp; rcases hp with rfl | rfl <;> rfl))).trans (by kernel_rfl)) (by decide)) cal10 ⟨rfl, trivial⟩ (k := fun a v v70 hR hF => ?_)
  obtain ⟨rfl, hb⟩ := hR
  replace sb := sb.below hb
  replace ss := ss.below hb
  replace sc := sc.below hb
  replace sd := sd.below hb
  replace se := se.below hb
  replace st_ := st_.below hb
  replace rgs := rgs.below hb
  replace rgc := rgc.below hb
  replace hL := hL.below hb
  replace hX := hX.trans (hb.mono hX.size)
  clear hL
  refine stcg hF (no_is v70 14 0 0 (by decide) (by decide)) cal57 ⟨rfl, rfl, trivial⟩ (k := fun a v v71 hR hF => ?_)
  obtain ⟨rfl, hb⟩ := hR
  replace sb := sb.below hb
  replace ss := ss.below hb
  replace sc := sc.below hb
  replace sd := sd.below hb
  replace se := se.below hb
  replace st_ := st_.below hb
  replace rgs := rgs.below hb
  replace rgc := rgc.below hb
  replace hX := hX.trans (hb.mono hX.size)
  repeat (((first | apply st hF | apply stg hF); (first | exact d_move | exact d_pickT | exact d_loadAgg (agg _ rfl) (isz _ _ rfl) rfl (cells_at ss) | exact d_loadAgg (agg _ rfl) (isz _ _ rfl) rfl (cells_at sb) | exact d_loadAgg (agg _ rfl) (isz _ _ rfl) rfl (cells_at se)); clear hF; clear a; intro a hF))
  refine stg hF rfl rfl (d_buildSS [(Sig.cells ({ oneS ⟨#[115]⟩ 0 2 gs with role := 1 })).toArray, (Sig.cells ({ oneS ⟨#[98]⟩ 4 4 gc with role := 2, branch := 3 })).toArray, (Sig.cells ({ oneS ⟨#[98]⟩ 4 4 gc with role := 2, branch := 3, name := ⟨#[99]⟩, line := 7, col := 8 })).toArray] (und _ _ rfl) inf38 (by decide) (by decide) (by decide) rfl (by simp [Sig.cells]) ⟨rfl, rfl, rfl, rfl, rfl, rfl, trivial⟩) rfl (fun a hF => ?_)
  have hb := below_alloc v71 (.cells (([(Sig.cells ({ oneS ⟨#[115]⟩ 0 2 gs with role := 1 })).toArray, (Sig.cells ({ oneS ⟨#[98]⟩ 4 4 gc with role := 2, branch := 3 })).toArray, (Sig.cells ({ oneS ⟨#[98]⟩ 4 4 gc with role := 2, branch := 3, name := ⟨#[99]⟩, line := 7, col := 8 })).toArray]).flatMap fun u => u.toList).toArray 38)
  have hL := rdS_alloc v71 19 Sig.cells sigc_len [{ oneS ⟨#[115]⟩ 0 2 gs with role := 1 }, { oneS ⟨#[98]⟩ 4 4 gc with role := 2, branch := 3 }, { oneS ⟨#[98]⟩ 4 4 gc with role := 2, branch := 3, name := ⟨#[99]⟩, line := 7, col := 8 }] 38 (([(Sig.cells ({ oneS ⟨#[115]⟩ 0 2 gs with role := 1 })).toArray, (Sig.cells ({ oneS ⟨#[98]⟩ 4 4 gc with role := 2, branch := 3 })).toArray, (Sig.cells ({ oneS ⟨#[98]⟩ 4 4 gc with role := 2, branch := 3, name := ⟨#[99]⟩, line := 7, col := 8 })).toArray]).flatMap fun u => u.toList).toArray (by simp)
  generalize v71.alloc _ = v72 at *
  replace sb := sb.below hb
  replace ss := ss.below hb
  replace sc := sc.below hb
  replace sd := sd.below hb
  replace se := se.below hb
  replace st_ := st_.below hb
  replace rgs := rgs.below hb
  replace rgc := rgc.below hb
  replace hX := hX.trans (hb.mono hX.size)
  refine stcg hF (two_ok v72 _ 3 3) cal29 ⟨rfl, trivial⟩ (k := fun a v v73 hR hF => ?_)
  obtain ⟨rfl, hb⟩ := hR
  replace sb := sb.below hb
  replace ss := ss.below hb
  replace sc := sc.below hb
  replace sd := sd.below hb
  replace se := se.below hb
  replace st_ := st_.below hb
  replace rgs := rgs.below hb
  replace rgc := rgc.below hb
  replace hL := hL.below hb
  replace hX := hX.trans (hb.mono hX.size)
  refine stcg hF (cmsg_k v73 (twoM (some ⟨v71.heap.size, 0, none⟩) 3 3) [({ oneS ⟨#[115]⟩ 0 2 gs with role := 1 }, txA), ({ oneS ⟨#[98]⟩ 4 4 gc with role := 2, branch := 3 }, txA), ({ oneS ⟨#[98]⟩ 4 4 gc with role := 2, branch := 3, name := ⟨#[99]⟩, line := 7, col := 8 }, txA)] (msg_mk (n := 3) rfl rfl rfl rfl (by decide) hL (fun p hp => by
      simp only [List.mem_cons, List.not_mem_nil, or_false] at hp
      rcases hp with rfl | rfl | rfl
      · exact sig_in1 rgs rfl rfl rfl
      · exact sig_in1 rgc rfl rfl rfl
      · exact sig_in1 rgc rfl rfl rfl)) (by intro p hp; simp only [List.mem_cons, List.not_mem_nil, or_false] at hp; rcases hp with rfl | rfl | rfl <;> constructor <;> (dsimp only [oneS]; omega)) (hT.below hX) 17 (some 2) ((msg_C (unit_mem (by intro p hp; simp only [List.mem_cons, List.not_mem_nil, or_false] at hp; rcases hp with rfl | rfl | rfl <;> rfl))).trans (by kernel_rfl)) (by decide)) cal10 ⟨rfl, trivial⟩ (k := fun a v v74 hR hF => ?_)
  obtain ⟨rfl, hb⟩ := hR
  replace sb := sb.below hb
  replace ss := ss.below hb
  replace sc := sc.below hb
  replace sd := sd.below hb
  replace se := se.below hb
  replace st_ := st_.below hb
  replace rgs := rgs.below hb
  replace rgc := rgc.below hb
  replace hL := hL.below hb
  replace hX := hX.trans (hb.mono hX.size)
  clear hL
  refine stcg hF (at_any v74 (fltV 17 7 8) 17 7 8 (hg.below hX) (.inr ⟨by decide, by decide, rfl⟩)) cal44 ⟨rfl, rfl, rfl, rfl, trivial⟩ (k := fun a v v75 hR hF => ?_)
  obtain ⟨rfl, hb⟩ := hR
  replace sb := sb.below hb
  replace ss := ss.below hb
  replace sc := sc.below hb
  replace sd := sd.below hb
  replace se := se.below hb
  replace st_ := st_.below hb
  replace rgs := rgs.below hb
  replace rgc := rgc.below hb
  replace hX := hX.trans (hb.mono hX.size)
  repeat (((first | apply st hF | apply stg hF); (first | exact d_move | exact d_pickT | exact d_loadAgg (agg _ rfl) (isz _ _ rfl) rfl (cells_at ss) | exact d_loadAgg (agg _ rfl) (isz _ _ rfl) rfl (cells_at st_)); clear hF; clear a; intro a hF))
  refine stg hF rfl rfl (d_buildSS [(Sig.cells ({ oneS ⟨#[115]⟩ 0 2 gs with role := 1 })).toArray, (Sig.cells ({ oneS ⟨#[115]⟩ 0 2 gs with role := 1, name := ⟨#[116]⟩ })).toArray] (und _ _ rfl) inf38 (by decide) (by decide) (by decide) rfl (by simp [Sig.cells]) ⟨rfl, rfl, rfl, rfl, trivial⟩) rfl (fun a hF => ?_)
  have hb := below_alloc v75 (.cells (([(Sig.cells ({ oneS ⟨#[115]⟩ 0 2 gs with role := 1 })).toArray, (Sig.cells ({ oneS ⟨#[115]⟩ 0 2 gs with role := 1, name := ⟨#[116]⟩ })).toArray]).flatMap fun u => u.toList).toArray 38)
  have hL := rdS_alloc v75 19 Sig.cells sigc_len [{ oneS ⟨#[115]⟩ 0 2 gs with role := 1 }, { oneS ⟨#[115]⟩ 0 2 gs with role := 1, name := ⟨#[116]⟩ }] 38 (([(Sig.cells ({ oneS ⟨#[115]⟩ 0 2 gs with role := 1 })).toArray, (Sig.cells ({ oneS ⟨#[115]⟩ 0 2 gs with role := 1, name := ⟨#[116]⟩ })).toArray]).flatMap fun u => u.toList).toArray (by simp)
  generalize v75.alloc _ = v76 at *
  replace sb := sb.below hb
  replace ss := ss.below hb
  replace sc := sc.below hb
  replace sd := sd.below hb
  replace se := se.below hb
  replace st_ := st_.below hb
  replace rgs := rgs.below hb
  replace rgc := rgc.below hb
  replace hX := hX.trans (hb.mono hX.size)
  refine stcg hF (two_ok v76 _ 2 2) cal29 ⟨rfl, trivial⟩ (k := fun a v v77 hR hF => ?_)
  obtain ⟨rfl, hb⟩ := hR
  replace sb := sb.below hb
  replace ss := ss.below hb
  replace sc := sc.below hb
  replace sd := sd.below hb
  replace se := se.below hb
  replace st_ := st_.below hb
  replace rgs := rgs.below hb
  replace rgc := rgc.below hb
  replace hL := hL.below hb
  replace hX := hX.trans (hb.mono hX.size)
  refine stcg hF (cmsg_k v77 (twoM (some ⟨v75.heap.size, 0, none⟩) 2 2) [({ oneS ⟨#[115]⟩ 0 2 gs with role := 1 }, txA), ({ oneS ⟨#[115]⟩ 0 2 gs with role := 1, name := ⟨#[116]⟩ }, txA)] (msg_mk (n := 2) rfl rfl rfl rfl (by decide) hL (fun p hp => by
      simp only [List.mem_cons, List.not_mem_nil, or_false] at hp
      rcases hp with rfl | rfl
      · exact sig_in1 rgs rfl rfl rfl
      · exact sig_in1 rgs rfl rfl rfl)) (by intro p hp; simp only [List.mem_cons, List.not_mem_nil, or_false] at hp; rcases hp with rfl | rfl <;> constructor <;> (dsimp only [oneS]; omega)) (hT.below hX) 14 (some 1) ((msg_C (unit_mem (by intro p hp; simp only [List.mem_cons, List.not_mem_nil, or_false] at hp; rcases hp with rfl | rfl <;> rfl))).trans (by kernel_rfl)) (by decide)) cal10 ⟨rfl, trivial⟩ (k := fun a v v78 hR hF => ?_)
  obtain ⟨rfl, hb⟩ := hR
  replace sb := sb.below hb
  replace ss := ss.below hb
  replace sc := sc.below hb
  replace sd := sd.below hb
  replace se := se.below hb
  replace st_ := st_.below hb
  replace rgs := rgs.below hb
  replace rgc := rgc.below hb
  replace hL := hL.below hb
  replace hX := hX.trans (hb.mono hX.size)
  clear hL
  refine stcg hF (no_is v78 14 0 0 (by decide) (by decide)) cal57 ⟨rfl, rfl, trivial⟩ (k := fun a v v79 hR hF => ?_)
  obtain ⟨rfl, hb⟩ := hR
  replace sb := sb.below hb
  replace ss := ss.below hb
  replace sc := sc.below hb
  replace sd := sd.below hb
  replace se := se.below hb
  replace st_ := st_.below hb
  replace rgs := rgs.below hb
  replace rgc := rgc.below hb
  replace hX := hX.trans (hb.mono hX.size)
  repeat (first | refine wpList_nil ?_ | refine c_then ?_ | refine wp_ret ?_ | ((apply st hF); (first | exact d_assign | exact d_pickT); clear hF; clear a; intro a hF))
  exact ret1 hF rfl rfl ⟨rfl, hX⟩
end Go.Proofs.YtjomihhpglojpaaDoor
end
