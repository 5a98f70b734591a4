/- Laid together by a program of mine: KnMore. -/
import Derived.Test.YtjomihhpglojpaaDoorSumLawKnownCS22
set_option linter.unusedSimpArgs false
set_option linter.unusedVariables false
section
/- busbarlaw09.more, walked. (Printed by tools/knmore.py.) -/
namespace Go.Proofs.YtjomihhpglojpaaDoor
open Go.RowKit
set_option linter.unusedSimpArgs false
set_option linter.unusedVariables false
attribute [local irreducible] wpList wpQuiet wpStill Code.wp Exit.then Exit.inBlock bodyPost Calls Does Does0
set_option maxRecDepth 100000
def maxR : RowV := ⟨9223372036854775807, ⟨#[]⟩⟩
theorem max_good {D : Db} {m : Msg} {s : Sig} {ts : List TabT} (h : dbE D txA [(m, [(s, txA)])] ts = okE) : DbGood D txA [(m, [(s, txA)])] ts := dbE_zero (by rw [h]; rfl)
set_option maxHeartbeats 64000000 in
theorem more_ok (w : World) (hT : Tabs w) : Ret Tryd.prog 27 #[] w (fun v w' => v = .bool true ∧ Below w.heap.size w w') := by
  refine enter0 Tryd.func27 rfl 70 rfl 70 rfl (fun a hF => ?_)
  have hX : Below w.heap.size w w := Below.refl _ w
  repeat (first | refine c_seq ?_ | refine c_region _ ?_ | refine wpList_nil ?_ | refine c_then ?_ | ((apply st hF); (exact d_assign); clear hF; clear a; intro a hF))
  refine stc hF (one_ok w ⟨#[97]⟩ 0 1) cal30 ⟨rfl, rfl, rfl, trivial⟩ (k := fun a v v1 hR hF => ?_)
  obtain ⟨⟨ga, rfl, rga⟩, hb⟩ := hR
  replace hX := hX.trans (hb.mono hX.size)
  have hwsa := hX.size
  refine st_alloc hF inf38 (k := fun a v2 hg1 hgr1 hsz1 hF => ?_)
  refine st_storeAgg hF (cs := (Sig.cells (oneS ⟨#[97]⟩ 0 1 ga)).toArray) (isz _ _ rfl) rfl rfl hg1 (sig_cells _) (k := fun a v3 hg2 hgr2 hsz2 hF => ?_)
  have hb2 : Below v1.heap.size v1 v3 := ((Below.refl _ v1).grown hgr1 (Nat.le_refl _) (fun k hk => by cases hk)).grown hgr2 (by omega) (fun k hk => by cases hk; exact Nat.le_refl _)
  have sa : SgAt v1.heap.size (oneS ⟨#[97]⟩ 0 1 ga) v3 := hg2
  replace rga := rga.below hb2
  replace hX := hX.trans (hb2.mono hX.size)
  clear hg1 hg2 hgr1 hgr2 hb2 hsz1 hsz2
  repeat (first | refine c_seq ?_ | refine c_region _ ?_ | refine wpList_nil ?_ | refine c_then ?_ | ((apply st hF); (first | exact d_fieldAddr (fld _ _ _ _ rfl) (isz _ _ rfl) | exact d_build (vs := [(0, .int .i64 2), (1, .int .i64 4)]) (cells := #[.int .i64 2, .int .i64 4]) (by kernel_rfl) ⟨rfl, rfl, rfl, rfl, trivial⟩); clear hF; clear a; intro a hF))
  refine st_storePart hF (cs := #[.int .i64 2, .int .i64 4]) (o := 0 + 15) (isz _ _ rfl) rfl (by show 0 + 15 + 2 ≤ 19; decide) sa (by simp [Value.oneCell']) (k := fun a v4 hg hgr hsz hF => ?_)
  replace rga := rd_keptS rga sa hgr
  replace sa : SgAt v1.heap.size ({ oneS ⟨#[97]⟩ 0 1 ga with xn := 2, xd := 4 }) v4 := hg
  replace hX := hX.grown hgr hX.size (fun k hk => by cases hk; omega)
  clear hg hgr hsz
  repeat (first | refine c_seq ?_ | refine c_region _ ?_ | refine wpList_nil ?_ | refine c_then ?_)
  refine stc hF (one_ok v4 ⟨#[120]⟩ 0 2) cal30 ⟨rfl, rfl, rfl, trivial⟩ (k := fun a v v5 hR hF => ?_)
  obtain ⟨⟨gx, rfl, rgx⟩, hb⟩ := hR
  replace sa := sa.below hb
  replace rga := rga.below hb
  replace hX := hX.trans (hb.mono hX.size)
  have hosasx := lt_at sa
  have hwsx := hX.size
  refine st_alloc hF inf38 (k := fun a v6 hg1 hgr1 hsz1 hF => ?_)
  refine st_storeAgg hF (cs := (Sig.cells (oneS ⟨#[120]⟩ 0 2 gx)).toArray) (isz _ _ rfl) rfl rfl hg1 (sig_cells _) (k := fun a v7 hg2 hgr2 hsz2 hF => ?_)
  have hb2 : Below v5.heap.size v5 v7 := ((Below.refl _ v5).grown hgr1 (Nat.le_refl _) (fun k hk => by cases hk)).grown hgr2 (by omega) (fun k hk => by cases hk; exact Nat.le_refl _)
  have sx : SgAt v5.heap.size (oneS ⟨#[120]⟩ 0 2 gx) v7 := hg2
  replace sa := sa.below hb2
  replace rga := rga.below hb2
  replace rgx := rgx.below hb2
  replace hX := hX.trans (hb2.mono hX.size)
  clear hg1 hg2 hgr1 hgr2 hb2 hsz1 hsz2
  repeat (first | refine c_seq ?_ | refine c_region _ ?_ | refine wpList_nil ?_ | refine c_then ?_ | ((apply st hF); (exact d_fieldAddr (fld _ _ _ _ rfl) (isz _ _ rfl)); clear hF; clear a; intro a hF))
  refine st_store hF (isz _ _ rfl) sx (i := 0 + 3) (by show 0 + 3 < 19; decide) rfl rfl rfl (k := fun a v8 hg hgr hsz hF => ?_)
  replace rga := rd_keptS rga sx hgr
  replace rgx := rd_keptS rgx sx hgr
  replace sx : SgAt v5.heap.size ({ oneS ⟨#[120]⟩ 0 2 gx with role := 1 }) v8 := hg
  replace sa : SgAt v1.heap.size ({ oneS ⟨#[97]⟩ 0 1 ga with xn := 2, xd := 4 }) v8 := blk_kept sa hgr (by simp; omega)
  replace hX := hX.grown hgr hX.size (fun k hk => by cases hk; omega)
  clear hg hgr hsz
  repeat (first | refine c_seq ?_ | refine c_region _ ?_ | refine wpList_nil ?_ | refine c_then ?_)
  refine stc hF (one_ok v8 ⟨#[98]⟩ 4 2) cal30 ⟨rfl, rfl, rfl, trivial⟩ (k := fun a v v9 hR hF => ?_)
  obtain ⟨⟨gb, rfl, rgb⟩, hb⟩ := hR
  replace sa := sa.below hb
  replace sx := sx.below hb
  replace rga := rga.below hb
  replace rgx := rgx.below hb
  replace hX := hX.trans (hb.mono hX.size)
  have hosxsb := lt_at sx
  have hwsb := hX.size
  refine st_alloc hF inf38 (k := fun a v10 hg1 hgr1 hsz1 hF => ?_)
  refine st_storeAgg hF (cs := (Sig.cells (oneS ⟨#[98]⟩ 4 2 gb)).toArray) (isz _ _ rfl) rfl rfl hg1 (sig_cells _) (k := fun a v11 hg2 hgr2 hsz2 hF => ?_)
  have hb2 : Below v9.heap.size v9 v11 := ((Below.refl _ v9).grown hgr1 (Nat.le_refl _) (fun k hk => by cases hk)).grown hgr2 (by omega) (fun k hk => by cases hk; exact Nat.le_refl _)
  have sb : SgAt v9.heap.size (oneS ⟨#[98]⟩ 4 2 gb) v11 := hg2
  replace sa := sa.below hb2
  replace sx := sx.below hb2
  replace rga := rga.below hb2
  replace rgx := rgx.below hb2
  replace rgb := rgb.below hb2
  replace hX := hX.trans (hb2.mono hX.size)
  clear hg1 hg2 hgr1 hgr2 hb2 hsz1 hsz2
  repeat (first | refine c_seq ?_ | refine c_region _ ?_ | refine wpList_nil ?_ | refine c_then ?_ | ((apply st hF); (exact d_fieldAddr (fld _ _ _ _ rfl) (isz _ _ rfl)); clear hF; clear a; intro a hF))
  refine st_store hF (isz _ _ rfl) sb (i := 0 + 3) (by show 0 + 3 < 19; decide) rfl rfl rfl (k := fun a v12 hg hgr hsz hF => ?_)
  replace rga := rd_keptS rga sb hgr
  replace rgx := rd_keptS rgx sb hgr
  replace rgb := rd_keptS rgb sb hgr
  replace sb : SgAt v9.heap.size ({ oneS ⟨#[98]⟩ 4 2 gb with role := 2 }) v12 := hg
  replace sa : SgAt v1.heap.size ({ oneS ⟨#[97]⟩ 0 1 ga with xn := 2, xd := 4 }) v12 := blk_kept sa hgr (by simp; omega)
  replace sx : SgAt v5.heap.size ({ oneS ⟨#[120]⟩ 0 2 gx with role := 1 }) v12 := blk_kept sx hgr (by simp; omega)
  replace hX := hX.grown hgr hX.size (fun k hk => by cases hk; omega)
  clear hg hgr hsz
  repeat (first | refine c_seq ?_ | refine c_region _ ?_ | refine wpList_nil ?_ | refine c_then ?_ | ((apply st hF); (exact d_fieldAddr (fld _ _ _ _ rfl) (isz _ _ rfl)); clear hF; clear a; intro a hF))
  refine st_store hF (isz _ _ rfl) sb (i := 0 + 4) (by show 0 + 4 < 19; decide) rfl rfl rfl (k := fun a v13 hg hgr hsz hF => ?_)
  replace rga := rd_keptS rga sb hgr
  replace rgx := rd_keptS rgx sb hgr
  replace rgb := rd_keptS rgb sb hgr
  replace sb : SgAt v9.heap.size ({ oneS ⟨#[98]⟩ 4 2 gb with role := 2, branch := 1 }) v13 := hg
  replace sa : SgAt v1.heap.size ({ oneS ⟨#[97]⟩ 0 1 ga with xn := 2, xd := 4 }) v13 := blk_kept sa hgr (by simp; omega)
  replace sx : SgAt v5.heap.size ({ oneS ⟨#[120]⟩ 0 2 gx with role := 1 }) v13 := blk_kept sx hgr (by simp; omega)
  replace hX := hX.grown hgr hX.size (fun k hk => by cases hk; omega)
  clear hg hgr hsz
  refine wpList_nil (c_then ?_)
  replace hF := hF.keep' (l' := [(1, .pointer (some ⟨v1.heap.size, 0, none⟩)), (2, .pointer (some ⟨v5.heap.size, 0, none⟩)), (3, .pointer (some ⟨v9.heap.size, 0, none⟩))]) ⟨rfl, rfl, rfl, trivial⟩
  have hwX := hX.size
  refine c_mid (fun a wm => ∃ bl gp Bm : Nat, Fr 70 [(1, .pointer (some ⟨v1.heap.size, 0, none⟩)), (4, .pointer (some ⟨Bm, 0, none⟩))] a ∧ SgAt v1.heap.size ({ oneS ⟨#[97]⟩ 0 1 ga with xn := 2, xd := 4 }) wm ∧ MgAt Bm ({ twoM (some ⟨bl, 0, none⟩) 3 3 with size := 8 }) wm ∧ MsgIn wm ({ twoM (some ⟨bl, 0, none⟩) 3 3 with size := 8 }) [({ oneS ⟨#[120]⟩ 0 2 gx with role := 1 }, txA), ({ oneS ⟨#[98]⟩ 4 2 gb with role := 2, branch := 1 }, txA), (oneS ⟨#[112]⟩ 5 1 gp, txA)] ∧ Rd wm (some ⟨ga, 0, none⟩) .string txA ∧ Below w.heap.size w wm) ?_ ?_
  · refine c_region_tree (fun wq => SgAt v5.heap.size ({ oneS ⟨#[120]⟩ 0 2 gx with role := 1 }) wq ∧ SgAt v9.heap.size ({ oneS ⟨#[98]⟩ 4 2 gb with role := 2, branch := 1 }) wq) (.read 0 (.read 1 (.two 2 5 (.two 3 5 (.read 4 (.sole 5 (.sole 6 .done))) (.sole 3 (.read 4 (.sole 6 .done)))) (.sole 2 (.sole 3 (.read 4 (.sole 6 .done))))))) 8 mixed (by kernel_rfl) ⟨sx.below (below_more (Below.refl _ _) 1), sb.below (below_more (Below.refl _ _) 1)⟩ ?_
    have hdb : Below v13.heap.size v13 (v13.drewN 1) := below_more (Below.refl _ v13) 1
    generalize v13.drewN 1 = v14 at *
    replace sa := sa.below hdb
    replace sx := sx.below hdb
    replace sb := sb.below hdb
    replace rga := rga.below hdb
    replace rgx := rgx.below hdb
    replace rgb := rgb.below hdb
    replace hX := hX.trans (hdb.mono hX.size)
    refine r_read hF rfl (fun wq hwq => d_loadAgg (agg _ rfl) (isz _ _ rfl) rfl (cells_at hwq.1)) rfl (fun a hF => ?_)
    refine r_read hF rfl (fun wq hwq => d_loadAgg (agg _ rfl) (isz _ _ rfl) rfl (cells_at hwq.2)) rfl (fun a hF => ?_)
    refine r_two rfl rfl ?_ ?_
    · have hid0 := 0
      refine stc hF (one_ok v14 ⟨#[112]⟩ 5 1) cal30 ⟨rfl, rfl, rfl, trivial⟩ (k := fun a v v15 hR hF => ?_)
      obtain ⟨⟨gp, rfl, rgp⟩, hb⟩ := hR
      replace sa := sa.below hb
      replace sx := sx.below hb
      replace sb := sb.below hb
      replace rga := rga.below hb
      replace rgx := rgx.below hb
      replace rgb := rgb.below hb
      replace hX := hX.trans (hb.mono hX.size)
      refine wpList_nil ⟨rfl, ⟨sx, sb⟩, ?_⟩
      refine r_two rfl rfl ?_ ?_
      · have hid1 := 0
        have hosbls := lt_at sb
        have hwls := hX.size
        refine st hF (d_buildSS [(Sig.cells ({ oneS ⟨#[120]⟩ 0 2 gx with role := 1 })).toArray, (Sig.cells ({ oneS ⟨#[98]⟩ 4 2 gb with role := 2, branch := 1 })).toArray, (Sig.cells (oneS ⟨#[112]⟩ 5 1 gp)).toArray] (und _ _ rfl) inf38 (by decide) (by decide) (by decide) rfl (by simp [Sig.cells]) ⟨rfl, rfl, rfl, rfl, rfl, rfl, trivial⟩) rfl (fun a hF => ?_)
        have hb := below_alloc v15 (.cells (([(Sig.cells ({ oneS ⟨#[120]⟩ 0 2 gx with role := 1 })).toArray, (Sig.cells ({ oneS ⟨#[98]⟩ 4 2 gb with role := 2, branch := 1 })).toArray, (Sig.cells (oneS ⟨#[112]⟩ 5 1 gp)).toArray]).flatMap fun u => u.toList).toArray 38)
        have ls : BkAt v15.heap.size ([{ oneS ⟨#[120]⟩ 0 2 gx with role := 1 }, { oneS ⟨#[98]⟩ 4 2 gb with role := 2, branch := 1 }, oneS ⟨#[112]⟩ 5 1 gp].flatMap Sig.cells) 38 _ := bk_alloc v15 Sig.cells [{ oneS ⟨#[120]⟩ 0 2 gx with role := 1 }, { oneS ⟨#[98]⟩ 4 2 gb with role := 2, branch := 1 }, oneS ⟨#[112]⟩ 5 1 gp] 38 (([(Sig.cells ({ oneS ⟨#[120]⟩ 0 2 gx with role := 1 })).toArray, (Sig.cells ({ oneS ⟨#[98]⟩ 4 2 gb with role := 2, branch := 1 })).toArray, (Sig.cells (oneS ⟨#[112]⟩ 5 1 gp)).toArray]).flatMap fun u => u.toList).toArray (by simp)
        generalize v15.alloc _ = v16 at *
        replace sa := sa.below hb
        replace sx := sx.below hb
        replace sb := sb.below hb
        replace rga := rga.below hb
        replace rgx := rgx.below hb
        replace rgb := rgb.below hb
        replace rgp := rgp.below hb
        replace hX := hX.trans (hb.mono hX.size)
        refine wpList_nil ⟨rfl, ⟨sx, sb⟩, ?_⟩
        refine r_read hF rfl (fun wq _ => d_build (vs := [(3, .string ⟨#[77]⟩), (1, .int .u32 5), (4, .int .i64 8), (5, .string ⟨#[65]⟩), (6, .slice (some ⟨v15.heap.size, 0, none⟩) 3 3)]) (cells := (Msg.cells ({ twoM (some ⟨v15.heap.size, 0, none⟩) 3 3 with size := 8 })).toArray) (by kernel_rfl) ⟨rfl, rfl, rfl, rfl, rfl, rfl, rfl, rfl, rfl, rfl, trivial⟩) rfl (fun a hF => ?_)
        refine r_sole rfl ?_
        have homls := lt_at ls
        have hwm := hX.size
        refine st_alloc hF inf27 (k := fun a v17 hm hgr1 hsz1 hF => ?_)
        have hb : Below v16.heap.size v16 v17 := (Below.refl _ v16).grown hgr1 (Nat.le_refl _) (fun k hk => by cases hk)
        replace hm : MgAt v16.heap.size (twoM none 0 0 |> fun _ => ⟨0, 0, 0, false, ⟨#[]⟩, 0, ⟨#[]⟩, none, 0, 0⟩) v17 := hm
        replace sa := sa.below hb
        replace sx := sx.below hb
        replace sb := sb.below hb
        replace ls := ls.below hb
        replace rga := rga.below hb
        replace rgx := rgx.below hb
        replace rgb := rgb.below hb
        replace rgp := rgp.below hb
        replace hX := hX.trans (hb.mono hX.size)
        refine wpList_nil ⟨rfl, ⟨sx, sb⟩, ?_⟩
        refine r_sole rfl ?_
        have hps : MsgIn v17 ({ twoM (some ⟨v15.heap.size, 0, none⟩) 3 3 with size := 8 }) [({ oneS ⟨#[120]⟩ 0 2 gx with role := 1 }, txA), ({ oneS ⟨#[98]⟩ 4 2 gb with role := 2, branch := 1 }, txA), (oneS ⟨#[112]⟩ 5 1 gp, txA)] := msg_mk (n := 3) rfl rfl rfl rfl (by decide) (ls.rdS (enc := Sig.cells) (xs := [{ oneS ⟨#[120]⟩ 0 2 gx with role := 1 }, { oneS ⟨#[98]⟩ 4 2 gb with role := 2, branch := 1 }, oneS ⟨#[112]⟩ 5 1 gp]) sigc_len (by simp)) (fun p hp => by
            simp only [List.mem_cons, List.not_mem_nil, or_false] at hp
            rcases hp with rfl | rfl | rfl
            · exact sig_in1 rgx rfl rfl rfl
            · exact sig_in1 rgb rfl rfl rfl
            · exact sig_in1 rgp rfl rfl rfl)
        refine st_storeAgg hF (cs := (Msg.cells ({ twoM (some ⟨v15.heap.size, 0, none⟩) 3 3 with size := 8 })).toArray) (isz _ _ rfl) rfl rfl hm (msg_cells _) (k := fun a v18 hg hgr hsz hF => wpList_nil ⟨rfl, ⟨blk_kept sx hgr (by simp; omega), blk_kept sb hgr (by simp; omega)⟩, ?_⟩)
        have k1 := rd_keptM rgx hm hgr
        have k2 := rd_keptM rgb hm hgr
        have k3 := rd_keptM rgp hm hgr
        have hls : BkAt v15.heap.size ([{ oneS ⟨#[120]⟩ 0 2 gx with role := 1 }, { oneS ⟨#[98]⟩ 4 2 gb with role := 2, branch := 1 }, oneS ⟨#[112]⟩ 5 1 gp].flatMap Sig.cells) 38 v18 := blk_kept ls hgr (by simp; omega)
        have hps : MsgIn v18 ({ twoM (some ⟨v15.heap.size, 0, none⟩) 3 3 with size := 8 }) [({ oneS ⟨#[120]⟩ 0 2 gx with role := 1 }, txA), ({ oneS ⟨#[98]⟩ 4 2 gb with role := 2, branch := 1 }, txA), (oneS ⟨#[112]⟩ 5 1 gp, txA)] := msg_mk (n := 3) rfl rfl rfl rfl (by decide) (hls.rdS (enc := Sig.cells) (xs := [{ oneS ⟨#[120]⟩ 0 2 gx with role := 1 }, { oneS ⟨#[98]⟩ 4 2 gb with role := 2, branch := 1 }, oneS ⟨#[112]⟩ 5 1 gp]) sigc_len (by simp)) (fun p hp => by
            simp only [List.mem_cons, List.not_mem_nil, or_false] at hp
            rcases hp with rfl | rfl | rfl
            · exact sig_in1 k1 rfl rfl rfl
            · exact sig_in1 k2 rfl rfl rfl
            · exact sig_in1 k3 rfl rfl rfl)
        exact r_done (c_then ⟨v15.heap.size, gp, v16.heap.size, hF.keep' ⟨rfl, rfl, trivial⟩, blk_kept sa hgr (by simp; omega), hg, hps, rd_keptM rga hm hgr, hX.grown hgr hX.size (fun k hk => by cases hk; omega)⟩)
      · have hid1 := 0
        have homsb := lt_at sb
        have hwm := hX.size
        refine st_alloc hF inf27 (k := fun a v19 hm hgr1 hsz1 hF => ?_)
        have hb : Below v15.heap.size v15 v19 := (Below.refl _ v15).grown hgr1 (Nat.le_refl _) (fun k hk => by cases hk)
        replace hm : MgAt v15.heap.size (twoM none 0 0 |> fun _ => ⟨0, 0, 0, false, ⟨#[]⟩, 0, ⟨#[]⟩, none, 0, 0⟩) v19 := hm
        replace sa := sa.below hb
        replace sx := sx.below hb
        replace sb := sb.below hb
        replace rga := rga.below hb
        replace rgx := rgx.below hb
        replace rgb := rgb.below hb
        replace rgp := rgp.below hb
        replace hX := hX.trans (hb.mono hX.size)
        refine wpList_nil ⟨rfl, ⟨sx, sb⟩, ?_⟩
        refine r_sole rfl ?_
        have hohmls := lt_at hm
        have hwls := hX.size
        refine st hF (d_buildSS [(Sig.cells ({ oneS ⟨#[120]⟩ 0 2 gx with role := 1 })).toArray, (Sig.cells ({ oneS ⟨#[98]⟩ 4 2 gb with role := 2, branch := 1 })).toArray, (Sig.cells (oneS ⟨#[112]⟩ 5 1 gp)).toArray] (und _ _ rfl) inf38 (by decide) (by decide) (by decide) rfl (by simp [Sig.cells]) ⟨rfl, rfl, rfl, rfl, rfl, rfl, trivial⟩) rfl (fun a hF => ?_)
        have hb := below_alloc v19 (.cells (([(Sig.cells ({ oneS ⟨#[120]⟩ 0 2 gx with role := 1 })).toArray, (Sig.cells ({ oneS ⟨#[98]⟩ 4 2 gb with role := 2, branch := 1 })).toArray, (Sig.cells (oneS ⟨#[112]⟩ 5 1 gp)).toArray]).flatMap fun u => u.toList).toArray 38)
        have ls : BkAt v19.heap.size ([{ oneS ⟨#[120]⟩ 0 2 gx with role := 1 }, { oneS ⟨#[98]⟩ 4 2 gb with role := 2, branch := 1 }, oneS ⟨#[112]⟩ 5 1 gp].flatMap Sig.cells) 38 _ := bk_alloc v19 Sig.cells [{ oneS ⟨#[120]⟩ 0 2 gx with role := 1 }, { oneS ⟨#[98]⟩ 4 2 gb with role := 2, branch := 1 }, oneS ⟨#[112]⟩ 5 1 gp] 38 (([(Sig.cells ({ oneS ⟨#[120]⟩ 0 2 gx with role := 1 })).toArray, (Sig.cells ({ oneS ⟨#[98]⟩ 4 2 gb with role := 2, branch := 1 })).toArray, (Sig.cells (oneS ⟨#[112]⟩ 5 1 gp)).toArray]).flatMap fun u => u.toList).toArray (by simp)
        generalize v19.alloc _ = v20 at *
        replace sa := sa.below hb
        replace sx := sx.below hb
        replace sb := sb.below hb
        replace hm := hm.below hb
        replace rga := rga.below hb
        replace rgx := rgx.below hb
        replace rgb := rgb.below hb
        replace rgp := rgp.below hb
        replace hX := hX.trans (hb.mono hX.size)
        refine wpList_nil ⟨rfl, ⟨sx, sb⟩, ?_⟩
        refine r_read hF rfl (fun wq _ => d_build (vs := [(3, .string ⟨#[77]⟩), (1, .int .u32 5), (4, .int .i64 8), (5, .string ⟨#[65]⟩), (6, .slice (some ⟨v19.heap.size, 0, none⟩) 3 3)]) (cells := (Msg.cells ({ twoM (some ⟨v19.heap.size, 0, none⟩) 3 3 with size := 8 })).toArray) (by kernel_rfl) ⟨rfl, rfl, rfl, rfl, rfl, rfl, rfl, rfl, rfl, rfl, trivial⟩) rfl (fun a hF => ?_)
        refine r_sole rfl ?_
        have hps : MsgIn v20 ({ twoM (some ⟨v19.heap.size, 0, none⟩) 3 3 with size := 8 }) [({ oneS ⟨#[120]⟩ 0 2 gx with role := 1 }, txA), ({ oneS ⟨#[98]⟩ 4 2 gb with role := 2, branch := 1 }, txA), (oneS ⟨#[112]⟩ 5 1 gp, txA)] := msg_mk (n := 3) rfl rfl rfl rfl (by decide) (ls.rdS (enc := Sig.cells) (xs := [{ oneS ⟨#[120]⟩ 0 2 gx with role := 1 }, { oneS ⟨#[98]⟩ 4 2 gb with role := 2, branch := 1 }, oneS ⟨#[112]⟩ 5 1 gp]) sigc_len (by simp)) (fun p hp => by
            simp only [List.mem_cons, List.not_mem_nil, or_false] at hp
            rcases hp with rfl | rfl | rfl
            · exact sig_in1 rgx rfl rfl rfl
            · exact sig_in1 rgb rfl rfl rfl
            · exact sig_in1 rgp rfl rfl rfl)
        refine st_storeAgg hF (cs := (Msg.cells ({ twoM (some ⟨v19.heap.size, 0, none⟩) 3 3 with size := 8 })).toArray) (isz _ _ rfl) rfl rfl hm (msg_cells _) (k := fun a v21 hg hgr hsz hF => wpList_nil ⟨rfl, ⟨blk_kept sx hgr (by simp; omega), blk_kept sb hgr (by simp; omega)⟩, ?_⟩)
        have k1 := rd_keptM rgx hm hgr
        have k2 := rd_keptM rgb hm hgr
        have k3 := rd_keptM rgp hm hgr
        have hls : BkAt v19.heap.size ([{ oneS ⟨#[120]⟩ 0 2 gx with role := 1 }, { oneS ⟨#[98]⟩ 4 2 gb with role := 2, branch := 1 }, oneS ⟨#[112]⟩ 5 1 gp].flatMap Sig.cells) 38 v21 := blk_kept ls hgr (by simp; omega)
        have hps : MsgIn v21 ({ twoM (some ⟨v19.heap.size, 0, none⟩) 3 3 with size := 8 }) [({ oneS ⟨#[120]⟩ 0 2 gx with role := 1 }, txA), ({ oneS ⟨#[98]⟩ 4 2 gb with role := 2, branch := 1 }, txA), (oneS ⟨#[112]⟩ 5 1 gp, txA)] := msg_mk (n := 3) rfl rfl rfl rfl (by decide) (hls.rdS (enc := Sig.cells) (xs := [{ oneS ⟨#[120]⟩ 0 2 gx with role := 1 }, { oneS ⟨#[98]⟩ 4 2 gb with role := 2, branch := 1 }, oneS ⟨#[112]⟩ 5 1 gp]) sigc_len (by simp)) (fun p hp => by
            simp only [List.mem_cons, List.not_mem_nil, or_false] at hp
            rcases hp with rfl | rfl | rfl
            · exact sig_in1 k1 rfl rfl rfl
            · exact sig_in1 k2 rfl rfl rfl
            · exact sig_in1 k3 rfl rfl rfl)
        exact r_done (c_then ⟨v19.heap.size, gp, v15.heap.size, hF.keep' ⟨rfl, rfl, trivial⟩, blk_kept sa hgr (by simp; omega), hg, hps, rd_keptM rga hm hgr, hX.grown hgr hX.size (fun k hk => by cases hk; omega)⟩)
    · have hid0 := 0
      have homsb := lt_at sb
      have hwm := hX.size
      refine st_alloc hF inf27 (k := fun a v22 hm hgr1 hsz1 hF => ?_)
      have hb : Below v14.heap.size v14 v22 := (Below.refl _ v14).grown hgr1 (Nat.le_refl _) (fun k hk => by cases hk)
      replace hm : MgAt v14.heap.size (twoM none 0 0 |> fun _ => ⟨0, 0, 0, false, ⟨#[]⟩, 0, ⟨#[]⟩, none, 0, 0⟩) v22 := hm
      replace sa := sa.below hb
      replace sx := sx.below hb
      replace sb := sb.below hb
      replace rga := rga.below hb
      replace rgx := rgx.below hb
      replace rgb := rgb.below hb
      replace hX := hX.trans (hb.mono hX.size)
      refine wpList_nil ⟨rfl, ⟨sx, sb⟩, ?_⟩
      refine r_sole rfl ?_
      refine stc hF (one_ok v22 ⟨#[112]⟩ 5 1) cal30 ⟨rfl, rfl, rfl, trivial⟩ (k := fun a v v23 hR hF => ?_)
      obtain ⟨⟨gp, rfl, rgp⟩, hb⟩ := hR
      replace sa := sa.below hb
      replace sx := sx.below hb
      replace sb := sb.below hb
      replace hm := hm.below hb
      replace rga := rga.below hb
      replace rgx := rgx.below hb
      replace rgb := rgb.below hb
      replace hX := hX.trans (hb.mono hX.size)
      refine wpList_nil ⟨rfl, ⟨sx, sb⟩, ?_⟩
      refine r_sole rfl ?_
      have hohmls := lt_at hm
      have hwls := hX.size
      refine st hF (d_buildSS [(Sig.cells ({ oneS ⟨#[120]⟩ 0 2 gx with role := 1 })).toArray, (Sig.cells ({ oneS ⟨#[98]⟩ 4 2 gb with role := 2, branch := 1 })).toArray, (Sig.cells (oneS ⟨#[112]⟩ 5 1 gp)).toArray] (und _ _ rfl) inf38 (by decide) (by decide) (by decide) rfl (by simp [Sig.cells]) ⟨rfl, rfl, rfl, rfl, rfl, rfl, trivial⟩) rfl (fun a hF => ?_)
      have hb := below_alloc v23 (.cells (([(Sig.cells ({ oneS ⟨#[120]⟩ 0 2 gx with role := 1 })).toArray, (Sig.cells ({ oneS ⟨#[98]⟩ 4 2 gb with role := 2, branch := 1 })).toArray, (Sig.cells (oneS ⟨#[112]⟩ 5 1 gp)).toArray]).flatMap fun u => u.toList).toArray 38)
      have ls : BkAt v23.heap.size ([{ oneS ⟨#[120]⟩ 0 2 gx with role := 1 }, { oneS ⟨#[98]⟩ 4 2 gb with role := 2, branch := 1 }, oneS ⟨#[112]⟩ 5 1 gp].flatMap Sig.cells) 38 _ := bk_alloc v23 Sig.cells [{ oneS ⟨#[120]⟩ 0 2 gx with role := 1 }, { oneS ⟨#[98]⟩ 4 2 gb with role := 2, branch := 1 }, oneS ⟨#[112]⟩ 5 1 gp] 38 (([(Sig.cells ({ oneS ⟨#[120]⟩ 0 2 gx with role := 1 })).toArray, (Sig.cells ({ oneS ⟨#[98]⟩ 4 2 gb with role := 2, branch := 1 })).toArray, (Sig.cells (oneS ⟨#[112]⟩ 5 1 gp)).toArray]).flatMap fun u => u.toList).toArray (by simp)
      generalize v23.alloc _ = v24 at *
      replace sa := sa.below hb
      replace sx := sx.below hb
      replace sb := sb.below hb
      replace hm := hm.below hb
      replace rga := rga.below hb
      replace rgx := rgx.below hb
      replace rgb := rgb.below hb
      replace rgp := rgp.below hb
      replace hX := hX.trans (hb.mono hX.size)
      refine wpList_nil ⟨rfl, ⟨sx, sb⟩, ?_⟩
      refine r_read hF rfl (fun wq _ => d_build (vs := [(3, .string ⟨#[77]⟩), (1, .int .u32 5), (4, .int .i64 8), (5, .string ⟨#[65]⟩), (6, .slice (some ⟨v23.heap.size, 0, none⟩) 3 3)]) (cells := (Msg.cells ({ twoM (some ⟨v23.heap.size, 0, none⟩) 3 3 with size := 8 })).toArray) (by kernel_rfl) ⟨rfl, rfl, rfl, rfl, rfl, rfl, rfl, rfl, rfl, rfl, trivial⟩) rfl (fun a hF => ?_)
      refine r_sole rfl ?_
      have hps : MsgIn v24 ({ twoM (some ⟨v23.heap.size, 0, none⟩) 3 3 with size := 8 }) [({ oneS ⟨#[120]⟩ 0 2 gx with role := 1 }, txA), ({ oneS ⟨#[98]⟩ 4 2 gb with role := 2, branch := 1 }, txA), (oneS ⟨#[112]⟩ 5 1 gp, txA)] := msg_mk (n := 3) rfl rfl rfl rfl (by decide) (ls.rdS (enc := Sig.cells) (xs := [{ oneS ⟨#[120]⟩ 0 2 gx with role := 1 }, { oneS ⟨#[98]⟩ 4 2 gb with role := 2, branch := 1 }, oneS ⟨#[112]⟩ 5 1 gp]) sigc_len (by simp)) (fun p hp => by
          simp only [List.mem_cons, List.not_mem_nil, or_false] at hp
          rcases hp with rfl | rfl | rfl
          · exact sig_in1 rgx rfl rfl rfl
          · exact sig_in1 rgb rfl rfl rfl
          · exact sig_in1 rgp rfl rfl rfl)
      refine st_storeAgg hF (cs := (Msg.cells ({ twoM (some ⟨v23.heap.size, 0, none⟩) 3 3 with size := 8 })).toArray) (isz _ _ rfl) rfl rfl hm (msg_cells _) (k := fun a v25 hg hgr hsz hF => wpList_nil ⟨rfl, ⟨blk_kept sx hgr (by simp; omega), blk_kept sb hgr (by simp; omega)⟩, ?_⟩)
      have k1 := rd_keptM rgx hm hgr
      have k2 := rd_keptM rgb hm hgr
      have k3 := rd_keptM rgp hm hgr
      have hls : BkAt v23.heap.size ([{ oneS ⟨#[120]⟩ 0 2 gx with role := 1 }, { oneS ⟨#[98]⟩ 4 2 gb with role := 2, branch := 1 }, oneS ⟨#[112]⟩ 5 1 gp].flatMap Sig.cells) 38 v25 := blk_kept ls hgr (by simp; omega)
      have hps : MsgIn v25 ({ twoM (some ⟨v23.heap.size, 0, none⟩) 3 3 with size := 8 }) [({ oneS ⟨#[120]⟩ 0 2 gx with role := 1 }, txA), ({ oneS ⟨#[98]⟩ 4 2 gb with role := 2, branch := 1 }, txA), (oneS ⟨#[112]⟩ 5 1 gp, txA)] := msg_mk (n := 3) rfl rfl rfl rfl (by decide) (hls.rdS (enc := Sig.cells) (xs := [{ oneS ⟨#[120]⟩ 0 2 gx with role := 1 }, { oneS ⟨#[98]⟩ 4 2 gb with role := 2, branch := 1 }, oneS ⟨#[112]⟩ 5 1 gp]) sigc_len (by simp)) (fun p hp => by
          simp only [List.mem_cons, List.not_mem_nil, or_false] at hp
          rcases hp with rfl | rfl | rfl
          · exact sig_in1 k1 rfl rfl rfl
          · exact sig_in1 k2 rfl rfl rfl
          · exact sig_in1 k3 rfl rfl rfl)
      exact r_done (c_then ⟨v23.heap.size, gp, v14.heap.size, hF.keep' ⟨rfl, rfl, trivial⟩, blk_kept sa hgr (by simp; omega), hg, hps, rd_keptM rga hm hgr, hX.grown hgr hX.size (fun k hk => by cases hk; omega)⟩)
  clear hF a sa sx sb rga rgx rgb hX
  rintro a v26 ⟨bl, gp, Bm, hF, sa0, hm0, hps0, rga0, hX⟩
  have hY : Below v26.heap.size v26 v26 := Below.refl _ _
  repeat (first | refine c_seq ?_ | refine c_region _ ?_)
  refine st_buildR hF Value.string [⟨#[86, 101, 99, 116, 111, 114, 95, 95, 88, 88, 88]⟩] [(0, .string ⟨#[86, 101, 99, 116, 111, 114, 95, 95, 88, 88, 88]⟩)] (und _ _ rfl) inf9 rfl (by kernel_rfl) ⟨rfl, rfl, trivial⟩ (k := fun a v27 hgr6 hb hN5 hF => ?_)
  clear hgr6
  replace hY := hY.trans (hb.mono hY.size)
  replace hX := hX.trans (hb.mono hX.size)
  repeat (((apply st hF); (first | exact d_build (vs := [(1, .slice (some ⟨v26.heap.size, 0, none⟩) 1 1)]) (cells := #[.int .i64 0, .int .i64 0, .slice (some ⟨v26.heap.size, 0, none⟩) 1 1]) (by kernel_rfl) ⟨rfl, rfl, trivial⟩ | exact d_build (vs := [(2, .agg #[.int .i64 0, .int .i64 0, .slice (some ⟨v26.heap.size, 0, none⟩) 1 1])]) (cells := (Db.cells (dbN (v26.heap.size) none 0 0 none 0 0)).toArray) (by kernel_rfl) ⟨rfl, rfl, trivial⟩); clear hF; clear a; intro a hF))
  have hN5w := hX.size
  have hwd5 := hX.size
  have hwhYd5 := hY.size
  refine st_alloc hF inf62 (k := fun a v28 hg1 hgr1 hsz1 hF => ?_)
  refine st_storeAgg hF (cs := (Db.cells (dbN (v26.heap.size) none 0 0 none 0 0)).toArray) (isz _ _ rfl) rfl rfl hg1 (db_cells _) (k := fun a v29 hg2 hgr2 hsz2 hF => ?_)
  have hb2 : Below v27.heap.size v27 v29 := ((Below.refl _ v27).grown hgr1 (Nat.le_refl _) (fun k hk => by cases hk)).grown hgr2 (by omega) (fun k hk => by cases hk; exact Nat.le_refl _)
  have d5 : DgAt v27.heap.size (dbN (v26.heap.size) none 0 0 none 0 0) v29 := hg2
  replace hN5 := hN5.below hb2
  replace hY := hY.trans (hb2.mono hY.size)
  replace hX := hX.trans (hb2.mono hX.size)
  clear hg1 hg2 hgr1 hgr2 hb2 hsz1 hsz2
  have hN50 := hN5
  have d50 := d5
  have hY5 : Below v29.heap.size v29 v29 := Below.refl _ _
  clear hN5
  clear d5
  repeat (first | refine c_seq ?_ | refine c_region _ ?_ | refine wpList_nil ?_ | refine c_then ?_ | ((apply st hF); (exact d_loadAgg (agg _ rfl) (isz _ _ rfl) rfl (cells_at (hm0.below hY))); clear hF; clear a; intro a hF))
  have hwhw := hX.size
  have hwhYhw := hY.size
  have hwhY5hw := hY5.size
  refine st_alloc hF inf27 (k := fun a v30 hg1 hgr1 hsz1 hF => ?_)
  refine st_storeAgg hF (cs := (Msg.cells ({ twoM (some ⟨bl, 0, none⟩) 3 3 with size := 8 })).toArray) (isz _ _ rfl) rfl rfl hg1 (msg_cells _) (k := fun a v31 hg2 hgr2 hsz2 hF => ?_)
  have hb2 : Below v29.heap.size v29 v31 := ((Below.refl _ v29).grown hgr1 (Nat.le_refl _) (fun k hk => by cases hk)).grown hgr2 (by omega) (fun k hk => by cases hk; exact Nat.le_refl _)
  have hw : MgAt v29.heap.size ({ twoM (some ⟨bl, 0, none⟩) 3 3 with size := 8 }) v31 := hg2
  replace hY := hY.trans (hb2.mono hY.size)
  replace hY5 := hY5.trans (hb2.mono hY5.size)
  replace hX := hX.trans (hb2.mono hX.size)
  clear hg1 hg2 hgr1 hgr2 hb2 hsz1 hsz2
  repeat (first | refine c_seq ?_ | refine c_region _ ?_ | refine wpList_nil ?_ | refine c_then ?_)
  refine stc hF (one_ok v31 ⟨#[119]⟩ 0 64) cal30 ⟨rfl, rfl, rfl, trivial⟩ (k := fun a v v32 hR hF => ?_)
  obtain ⟨⟨gw, rfl, rgw⟩, hb⟩ := hR
  replace hw := hw.below hb
  replace hY := hY.trans (hb.mono hY.size)
  replace hY5 := hY5.trans (hb.mono hY5.size)
  replace hX := hX.trans (hb.mono hX.size)
  have hohwlw := lt_at hw
  have hwlw := hX.size
  have hwhYlw := hY.size
  have hwhY5lw := hY5.size
  refine st hF (d_buildSS [(Sig.cells (oneS ⟨#[119]⟩ 0 64 gw)).toArray] (und _ _ rfl) inf38 (by decide) (by decide) (by decide) rfl (by simp [Sig.cells]) ⟨rfl, rfl, trivial⟩) rfl (fun a hF => ?_)
  have hb := below_alloc v32 (.cells (([(Sig.cells (oneS ⟨#[119]⟩ 0 64 gw)).toArray]).flatMap fun u => u.toList).toArray 38)
  have lw : BkAt v32.heap.size ([oneS ⟨#[119]⟩ 0 64 gw].flatMap Sig.cells) 38 _ := bk_alloc v32 Sig.cells [oneS ⟨#[119]⟩ 0 64 gw] 38 (([(Sig.cells (oneS ⟨#[119]⟩ 0 64 gw)).toArray]).flatMap fun u => u.toList).toArray (by simp)
  generalize v32.alloc _ = v33 at *
  replace hw := hw.below hb
  replace rgw := rgw.below hb
  replace hY := hY.trans (hb.mono hY.size)
  replace hY5 := hY5.trans (hb.mono hY5.size)
  replace hX := hX.trans (hb.mono hX.size)
  repeat (((apply st hF); (exact d_fieldAddr (fld _ _ _ _ rfl) (isz _ _ rfl)); clear hF; clear a; intro a hF))
  refine st_store hF (isz _ _ rfl) hw (i := 0 + 7) (by show 0 + 7 < 8; decide) rfl rfl rfl (k := fun a v34 hg hgr hsz hF => ?_)
  replace rgw := rd_keptM rgw hw hgr
  replace hw : MgAt v29.heap.size ({ twoM (some ⟨v32.heap.size, 0, none⟩) 1 1 with size := 8 }) v34 := hg
  replace lw : BkAt v32.heap.size ([oneS ⟨#[119]⟩ 0 64 gw].flatMap Sig.cells) 38 v34 := blk_kept lw hgr (by simp; omega)
  replace hY := hY.grown hgr hY.size (fun k hk => by cases hk; omega)
  replace hY5 := hY5.grown hgr hY5.size (fun k hk => by cases hk; omega)
  replace hX := hX.grown hgr hX.size (fun k hk => by cases hk; omega)
  clear hg hgr hsz
  repeat (first | refine c_seq ?_ | refine c_region _ ?_ | refine wpList_nil ?_ | refine c_then ?_)
  refine st_buildR hF Value.string [⟨#[65]⟩] [(0, .string ⟨#[65]⟩)] (und _ _ rfl) inf9 rfl (by kernel_rfl) ⟨rfl, rfl, trivial⟩ (k := fun a v35 hgr6 hb hN7 hF => ?_)
  clear hgr6
  replace hw := hw.below hb
  replace lw := lw.below hb
  replace rgw := rgw.below hb
  replace hY := hY.trans (hb.mono hY.size)
  replace hY5 := hY5.trans (hb.mono hY5.size)
  replace hX := hX.trans (hb.mono hX.size)
  repeat (((apply st hF); (first | exact d_build (vs := [(1, .slice (some ⟨v34.heap.size, 0, none⟩) 1 1)]) (cells := #[.int .i64 0, .int .i64 0, .slice (some ⟨v34.heap.size, 0, none⟩) 1 1]) (by kernel_rfl) ⟨rfl, rfl, trivial⟩ | exact d_loadAgg (agg _ rfl) (isz _ _ rfl) rfl (cells_at hw)); clear hF; clear a; intro a hF))
  have holwlm := lt_at lw
  have hwlm := hX.size
  have hwhYlm := hY.size
  have hwhY5lm := hY5.size
  refine st hF (d_buildSS [(Msg.cells ({ twoM (some ⟨v32.heap.size, 0, none⟩) 1 1 with size := 8 })).toArray] (und _ _ rfl) inf27 (by decide) (by decide) (by decide) rfl (by simp [Msg.cells]) ⟨rfl, rfl, trivial⟩) rfl (fun a hF => ?_)
  have hb := below_alloc v35 (.cells (([(Msg.cells ({ twoM (some ⟨v32.heap.size, 0, none⟩) 1 1 with size := 8 })).toArray]).flatMap fun u => u.toList).toArray 27)
  have lm : BkAt v35.heap.size ([{ twoM (some ⟨v32.heap.size, 0, none⟩) 1 1 with size := 8 }].flatMap Msg.cells) 27 _ := bk_alloc v35 Msg.cells [{ twoM (some ⟨v32.heap.size, 0, none⟩) 1 1 with size := 8 }] 27 (([(Msg.cells ({ twoM (some ⟨v32.heap.size, 0, none⟩) 1 1 with size := 8 })).toArray]).flatMap fun u => u.toList).toArray (by simp)
  generalize v35.alloc _ = v36 at *
  replace hw := hw.below hb
  replace lw := lw.below hb
  replace rgw := rgw.below hb
  replace hN7 := hN7.below hb
  replace hY := hY.trans (hb.mono hY.size)
  replace hY5 := hY5.trans (hb.mono hY5.size)
  replace hX := hX.trans (hb.mono hX.size)
  repeat (((apply st hF); (exact d_build (vs := [(0, .int .i64 (-1))]) (cells := (RowV.cells ⟨-1, ⟨#[]⟩⟩).toArray) (by kernel_rfl) ⟨rfl, rfl, trivial⟩); clear hF; clear a; intro a hF))
  have holmlr := lt_at lm
  have hwlr := hX.size
  have hwhYlr := hY.size
  have hwhY5lr := hY5.size
  refine st hF (d_buildSS [(RowV.cells (⟨-1, ⟨#[]⟩⟩)).toArray] (und _ _ rfl) inf116 (by decide) (by decide) (by decide) rfl (by simp [RowV.cells]) ⟨rfl, rfl, trivial⟩) rfl (fun a hF => ?_)
  have hb := below_alloc v36 (.cells (([(RowV.cells (⟨-1, ⟨#[]⟩⟩)).toArray]).flatMap fun u => u.toList).toArray 116)
  have lr : BkAt v36.heap.size ([⟨-1, ⟨#[]⟩⟩].flatMap RowV.cells) 116 _ := bk_alloc v36 RowV.cells [⟨-1, ⟨#[]⟩⟩] 116 (([(RowV.cells (⟨-1, ⟨#[]⟩⟩)).toArray]).flatMap fun u => u.toList).toArray (by simp)
  generalize v36.alloc _ = v37 at *
  replace hw := hw.below hb
  replace lw := lw.below hb
  replace lm := lm.below hb
  replace rgw := rgw.below hb
  replace hN7 := hN7.below hb
  replace hY := hY.trans (hb.mono hY.size)
  replace hY5 := hY5.trans (hb.mono hY5.size)
  replace hX := hX.trans (hb.mono hX.size)
  repeat (((apply st hF); (exact d_build (vs := [(1, .int .u32 5), (3, .string ⟨#[119]⟩), (4, .slice (some ⟨v36.heap.size, 0, none⟩) 1 1)]) (cells := (Tab.cells (tbN false ⟨#[119]⟩ (some ⟨v36.heap.size, 0, none⟩) 1 1)).toArray) (by kernel_rfl) ⟨rfl, rfl, rfl, rfl, rfl, rfl, trivial⟩); clear hF; clear a; intro a hF))
  have holrlt := lt_at lr
  have hwlt := hX.size
  have hwhYlt := hY.size
  have hwhY5lt := hY5.size
  refine st hF (d_buildSS [(Tab.cells (tbN false ⟨#[119]⟩ (some ⟨v36.heap.size, 0, none⟩) 1 1)).toArray] (und _ _ rfl) inf67 (by decide) (by decide) (by decide) rfl (by simp [Tab.cells]) ⟨rfl, rfl, trivial⟩) rfl (fun a hF => ?_)
  have hb := below_alloc v37 (.cells (([(Tab.cells (tbN false ⟨#[119]⟩ (some ⟨v36.heap.size, 0, none⟩) 1 1)).toArray]).flatMap fun u => u.toList).toArray 67)
  have lt : BkAt v37.heap.size ([tbN false ⟨#[119]⟩ (some ⟨v36.heap.size, 0, none⟩) 1 1].flatMap Tab.cells) 67 _ := bk_alloc v37 Tab.cells [tbN false ⟨#[119]⟩ (some ⟨v36.heap.size, 0, none⟩) 1 1] 67 (([(Tab.cells (tbN false ⟨#[119]⟩ (some ⟨v36.heap.size, 0, none⟩) 1 1)).toArray]).flatMap fun u => u.toList).toArray (by simp)
  generalize v37.alloc _ = v38 at *
  replace hw := hw.below hb
  replace lw := lw.below hb
  replace lm := lm.below hb
  replace lr := lr.below hb
  replace rgw := rgw.below hb
  replace hN7 := hN7.below hb
  replace hY := hY.trans (hb.mono hY.size)
  replace hY5 := hY5.trans (hb.mono hY5.size)
  replace hX := hX.trans (hb.mono hX.size)
  repeat (((apply st hF); (exact d_build (vs := [(2, .agg #[.int .i64 0, .int .i64 0, .slice (some ⟨v34.heap.size, 0, none⟩) 1 1]), (3, .slice (some ⟨v35.heap.size, 0, none⟩) 1 1), (4, .slice (some ⟨v37.heap.size, 0, none⟩) 1 1)]) (cells := (Db.cells (dbN (v34.heap.size) (some ⟨v35.heap.size, 0, none⟩) 1 1 (some ⟨v37.heap.size, 0, none⟩) 1 1)).toArray) (by kernel_rfl) ⟨rfl, rfl, rfl, rfl, rfl, rfl, trivial⟩); clear hF; clear a; intro a hF))
  have holtd7 := lt_at lt
  have hwd7 := hX.size
  have hwhYd7 := hY.size
  have hwhY5d7 := hY5.size
  refine st_alloc hF inf62 (k := fun a v39 hg1 hgr1 hsz1 hF => ?_)
  refine st_storeAgg hF (cs := (Db.cells (dbN (v34.heap.size) (some ⟨v35.heap.size, 0, none⟩) 1 1 (some ⟨v37.heap.size, 0, none⟩) 1 1)).toArray) (isz _ _ rfl) rfl rfl hg1 (db_cells _) (k := fun a v40 hg2 hgr2 hsz2 hF => ?_)
  have hb2 : Below v38.heap.size v38 v40 := ((Below.refl _ v38).grown hgr1 (Nat.le_refl _) (fun k hk => by cases hk)).grown hgr2 (by omega) (fun k hk => by cases hk; exact Nat.le_refl _)
  have d7 : DgAt v38.heap.size (dbN (v34.heap.size) (some ⟨v35.heap.size, 0, none⟩) 1 1 (some ⟨v37.heap.size, 0, none⟩) 1 1) v40 := hg2
  replace hw := hw.below hb2
  replace lw := lw.below hb2
  replace lm := lm.below hb2
  replace lr := lr.below hb2
  replace lt := lt.below hb2
  replace rgw := rgw.below hb2
  replace hN7 := hN7.below hb2
  replace hY := hY.trans (hb2.mono hY.size)
  replace hY5 := hY5.trans (hb2.mono hY5.size)
  replace hX := hX.trans (hb2.mono hX.size)
  clear hg1 hg2 hgr1 hgr2 hb2 hsz1 hsz2
  have hMw : MsgIn v40 ({ twoM (some ⟨v32.heap.size, 0, none⟩) 1 1 with size := 8 }) [(oneS ⟨#[119]⟩ 0 64 gw, txA)] := msg_mk (n := 1) rfl rfl rfl rfl (by decide) (lw.rdS (enc := Sig.cells) (xs := [oneS ⟨#[119]⟩ 0 64 gw]) sigc_len (by simp)) (by intro p hp; simp only [List.mem_cons, List.not_mem_nil, or_false] at hp; rcases hp with rfl; exact sig_in1 rgw rfl rfl rfl)
  have hD7 : DbIn v40 (dbN (v34.heap.size) (some ⟨v35.heap.size, 0, none⟩) 1 1 (some ⟨v37.heap.size, 0, none⟩) 1 1) txA [({ twoM (some ⟨v32.heap.size, 0, none⟩) 1 1 with size := 8 }, [(oneS ⟨#[119]⟩ 0 64 gw, txA)])] [(tbN false ⟨#[119]⟩ (some ⟨v36.heap.size, 0, none⟩) 1 1, [⟨-1, ⟨#[]⟩⟩])] := dbN_in hN7 (msgs_bk (ms := [({ twoM (some ⟨v32.heap.size, 0, none⟩) 1 1 with size := 8 }, [(oneS ⟨#[119]⟩ 0 64 gw, txA)])]) lm rfl (by decide) (by intro p hp; simp only [List.mem_cons, List.not_mem_nil, or_false] at hp; rcases hp with rfl; exact hMw) (by intro p hp; simp only [List.mem_cons, List.not_mem_nil, or_false] at hp; rcases hp with rfl; exact ⟨(by intro q hq; simp only [List.mem_cons, List.not_mem_nil, or_false] at hq; subst hq; constructor <;> (dsimp only [oneS]; omega)), by dsimp only [twoM]; omega, by dsimp only [twoM]; omega⟩)) (tabs_bk (ts := [(tbN false ⟨#[119]⟩ (some ⟨v36.heap.size, 0, none⟩) 1 1, [⟨-1, ⟨#[]⟩⟩])]) lt rfl (by decide) (by intro p hp; simp only [List.mem_cons, List.not_mem_nil, or_false] at hp; rcases hp with rfl; exact rows_bk (n := 1) (rs := [⟨-1, ⟨#[]⟩⟩]) rfl rfl rfl lr rfl (by decide) (by intro r hr; simp only [List.mem_cons, List.not_mem_nil, or_false] at hr; rcases hr with rfl; constructor <;> (dsimp only; omega))) (by intro p hp; simp only [List.mem_cons, List.not_mem_nil, or_false] at hp; rcases hp with rfl; exact ⟨⟨by dsimp only [tbN]; omega, by dsimp only [tbN]; omega⟩, by dsimp only [tbN]; decide⟩))
  have d70 := d7
  have hY7 : Below v40.heap.size v40 v40 := Below.refl _ _
  clear d7
  clear lt
  clear lr
  clear lm
  clear hN7
  clear hw
  clear lw
  clear rgw
  repeat (first | refine c_seq ?_ | refine c_region _ ?_ | refine wpList_nil ?_ | refine c_then ?_ | ((apply st hF); (exact d_loadAgg (agg _ rfl) (isz _ _ rfl) rfl (cells_at (d70.below hY7))); clear hF; clear a; intro a hF))
  have hwc0 := hX.size
  have hwc1 := hY.size
  have hwc2 := hY5.size
  have hwc3 := hY7.size
  refine stc hF (copy_db v40 (dbN (v34.heap.size) (some ⟨v35.heap.size, 0, none⟩) 1 1 (some ⟨v37.heap.size, 0, none⟩) 1 1) txA [({ twoM (some ⟨v32.heap.size, 0, none⟩) 1 1 with size := 8 }, [(oneS ⟨#[119]⟩ 0 64 gw, txA)])] [(tbN false ⟨#[119]⟩ (some ⟨v36.heap.size, 0, none⟩) 1 1, [⟨-1, ⟨#[]⟩⟩])] (hD7.below hY7)) cal22 ⟨rfl, trivial⟩ (k := fun a v v41 hR hF => ?_)
  obtain ⟨a1, c1, lm, a2, c2, lt, a3, c3, rfl, hC, hb⟩ := hR
  replace hY := hY.trans (hb.mono hY.size)
  replace hY5 := hY5.trans (hb.mono hY5.size)
  replace hY7 := hY7.trans (hb.mono hY7.size)
  replace hX := hX.trans (hb.mono hX.size)
  have hwd8 := hX.size
  have hwhYd8 := hY.size
  have hwhY5d8 := hY5.size
  have hwhY7d8 := hY7.size
  refine st_alloc hF inf62 (k := fun a v42 hg1 hgr1 hsz1 hF => ?_)
  refine st_storeAgg hF (cs := (Db.cells ((dbN (v34.heap.size) (some ⟨v35.heap.size, 0, none⟩) 1 1 (some ⟨v37.heap.size, 0, none⟩) 1 1).cp a1 c1 a2 c2 a3 c3)).toArray) (isz _ _ rfl) rfl rfl hg1 (db_cells _) (k := fun a v43 hg2 hgr2 hsz2 hF => ?_)
  have hb2 : Below v41.heap.size v41 v43 := ((Below.refl _ v41).grown hgr1 (Nat.le_refl _) (fun k hk => by cases hk)).grown hgr2 (by omega) (fun k hk => by cases hk; exact Nat.le_refl _)
  have d8 : DgAt v41.heap.size ((dbN (v34.heap.size) (some ⟨v35.heap.size, 0, none⟩) 1 1 (some ⟨v37.heap.size, 0, none⟩) 1 1).cp a1 c1 a2 c2 a3 c3) v43 := hg2
  replace hY := hY.trans (hb2.mono hY.size)
  replace hY5 := hY5.trans (hb2.mono hY5.size)
  replace hY7 := hY7.trans (hb2.mono hY7.size)
  replace hX := hX.trans (hb2.mono hX.size)
  replace hC := hC.below hb2
  clear hg1 hg2 hgr1 hgr2 hb2 hsz1 hsz2
  obtain ⟨p, at', ct', hp1, hp2, hcr⟩ := hC.tabs.ok 0 (by show 0 < 1; decide)
  obtain rfl : (tbN false ⟨#[119]⟩ (some ⟨v36.heap.size, 0, none⟩) 1 1, [⟨-1, ⟨#[]⟩⟩]) = p := Option.some.inj hp1
  have hll := hC.tabs.len
  obtain rfl : lt = [(tbN false ⟨#[119]⟩ (some ⟨v36.heap.size, 0, none⟩) 1 1).cp at' ct'] := by
    cases lt with
    | nil => cases hll
    | cons x l =>
      have h1 : x = _ := Option.some.inj hp2
      have h2 : l = [] := by simpa using hll
      rw [h1, h2]
  have hto := hC.tabs.own
  obtain ⟨gt, hgt, _⟩ := own_some hto (by show 0 < 1; decide)
  obtain ⟨gr, hgr', _⟩ := own_some hcr (by show 0 < 1; decide)
  subst hgt
  subst hgr'
  have hRt := own_rdS (enc := Tab.cells) (xs := [(tbN false ⟨#[119]⟩ (some ⟨v36.heap.size, 0, none⟩) 1 1).cp (some ⟨gr, 0, none⟩) ct']) (n := 1) tabc_len hto rfl
  obtain ⟨b1, o1, e1, hct⟩ := hRt 0 (by simp)
  cases e1
  have c8 : v43.cell? ⟨v41.heap.size, 0 + 8, none⟩ = some (.slice (some ⟨gt, 0, none⟩) 1 c2) := d8.c 8 _ rfl
  have c5 : v43.cell? ⟨gt, 0 + 0 * 6 + 5, none⟩ = some (.slice (some ⟨gr, 0, none⟩) 1 ct') := hct 5 _ rfl
  have hcr2 : v43.ownsRow _ 116 2 (.slice (some ⟨gr, 0, none⟩) 1 ct') 1 _ := hcr
  repeat (first | refine c_seq ?_ | refine c_region _ ?_ | refine wpList_nil ?_ | refine c_then ?_ | ((apply st hF); (first | exact d_fieldAddr (fld _ _ _ _ rfl) (isz _ _ rfl) | exact d_indexAddrS (und _ _ rfl) (isz _ _ rfl) (j := 0) | exact d_load (und _ _ rfl) c8 | exact d_load (und _ _ rfl) c5); clear hF; clear a; intro a hF))
  have hgb := own_base' hcr2
  have hgtb := own_base' hto
  rcases hcr2.2 with ⟨h0, _⟩ | ⟨gr', cp', cur, h0, _, hgx, _⟩
  · cases h0
  obtain ⟨rfl, rfl⟩ : gr = gr' ∧ ct' = cp' := by cases h0; exact ⟨rfl, rfl⟩
  refine st_storeRowC (o := 0 + 0 * 2 + 0) hF (isz _ _ rfl) (by decide) hcr2 rfl rfl rfl (k := fun a v44 hO2 hgr hsz hF => ?_)
  replace d8 : DgAt v41.heap.size ((dbN (v34.heap.size) (some ⟨v35.heap.size, 0, none⟩) 1 1 (some ⟨v37.heap.size, 0, none⟩) 1 1).cp a1 c1 (some ⟨gt, 0, none⟩) c2 a3 c3) v44 := blk_kept d8 hgr (own_ne hcr2 d8 (by decide))
  have hO : v44.ownsRow _ 116 2 (.slice (some ⟨gr, 0, none⟩) 1 ct') 1 ([maxR].flatMap RowV.cells) := hO2
  have q1 := own_keptT hC.mown hgx (by decide) hgr
  have q2 : ∀ i, i < 1 → CopyMOk _ v44 [({ twoM (some ⟨v32.heap.size, 0, none⟩) 1 1 with size := 8 }, [(oneS ⟨#[119]⟩ 0 64 gw, txA)])] lm i := fun i hi => (hC.mok i hi).keptT hgx (by decide) (by decide) hgr
  have q3 := own_keptT hC.sta hgx (by decide) hgr
  have q4 := own_keptT hto hgx (by decide) hgr
  have hzX := hY7.size
  replace hX := hX.grown hgr hX.size (fun k hk => by cases hk; have := hX.size; have := hY.size; have := hY5.size; omega)
  replace hY := hY.grown hgr hY.size (fun k hk => by cases hk; have := hX.size; have := hY.size; have := hY5.size; omega)
  replace hY5 := hY5.grown hgr hY5.size (fun k hk => by cases hk; have := hX.size; have := hY.size; have := hY5.size; omega)
  replace hY7 := hY7.grown hgr hY7.size (fun k hk => by cases hk; have := hX.size; have := hY.size; have := hY5.size; omega)
  obtain ⟨ms', hl1, hms', hs1⟩ := copym_in hC.ml q1 q2 hD7.msgs hY7
  have hrows : RowsIn v44 ((tbN false ⟨#[119]⟩ (some ⟨v36.heap.size, 0, none⟩) 1 1).cp (some ⟨gr, 0, none⟩) ct') [maxR] := ⟨rfl, own_rdS (enc := RowV.cells) (xs := [maxR]) (n := 1) rowc_len hO rfl, (own_cap' hO).1, (by show 1 * 24 ≤ 140737488351232; decide), (by intro r hr; simp only [List.mem_cons, List.not_mem_nil, or_false] at hr; rcases hr with rfl; constructor <;> decide)⟩
  have htabs : TabsIn v44 (some ⟨gt, 0, none⟩) 1 c2 [((tbN false ⟨#[119]⟩ (some ⟨v36.heap.size, 0, none⟩) 1 1).cp (some ⟨gr, 0, none⟩) ct', [maxR])] := ⟨rfl, own_rdS (enc := Tab.cells) (xs := [(tbN false ⟨#[119]⟩ (some ⟨v36.heap.size, 0, none⟩) 1 1).cp (some ⟨gr, 0, none⟩) ct']) (n := 1) tabc_len q4 rfl, (by intro p hp; simp only [List.mem_cons, List.not_mem_nil, or_false] at hp; rcases hp with rfl; exact hrows), (by intro p hp; simp only [List.mem_cons, List.not_mem_nil, or_false] at hp; rcases hp with rfl; exact ⟨⟨by dsimp only [tbN, Tab.cp]; omega, by dsimp only [tbN, Tab.cp]; omega⟩, by dsimp only [tbN, Tab.cp]; decide⟩), (own_cap' q4).1, (by decide)⟩
  have hsta : v44.ownsRow _ 9 1 (.slice a3 1 c3) 1 (txA.map Value.string) := q3
  have hD8 : DbIn v44 ((dbN (v34.heap.size) (some ⟨v35.heap.size, 0, none⟩) 1 1 (some ⟨v37.heap.size, 0, none⟩) 1 1).cp a1 c1 (some ⟨gt, 0, none⟩) c2 a3 c3) txA ms' [((tbN false ⟨#[119]⟩ (some ⟨v36.heap.size, 0, none⟩) 1 1).cp (some ⟨gr, 0, none⟩) ct', [maxR])] := ⟨rfl, (own_rd hsta).2, (own_cap' hsta).1, (by show 1 * 16 ≤ 140737488351232; decide), hms', htabs⟩
  have hgood : DbGood (dbN (v34.heap.size) (some ⟨v35.heap.size, 0, none⟩) 1 1 (some ⟨v37.heap.size, 0, none⟩) 1 1) txA [({ twoM (some ⟨v32.heap.size, 0, none⟩) 1 1 with size := 8 }, [(oneS ⟨#[119]⟩ 0 64 gw, txA)])] [(tbN false ⟨#[119]⟩ (some ⟨v36.heap.size, 0, none⟩) 1 1, [maxR])] := max_good ((db_C rfl (ids_mem (by intro p hp; simp only [List.mem_cons, List.not_mem_nil, or_false] at hp; rcases hp with rfl; exact ⟨by dsimp only [twoM]; omega, by dsimp only [twoM]; omega⟩)) (units_mem (by intro p hp; simp only [List.mem_cons, List.not_mem_nil, or_false] at hp; rcases hp with rfl; intro q hq; simp only [List.mem_cons, List.not_mem_nil, or_false] at hq; rcases hq with rfl; rfl)) (texts_mem (by intro p hp; simp only [List.mem_cons, List.not_mem_nil, or_false] at hp; rcases hp with rfl; intro r hr; simp only [List.mem_cons, List.not_mem_nil, or_false] at hr; rcases hr with rfl; exact textE_empty))).trans (by kernel_rfl))
  have hE8 : dbE ((dbN (v34.heap.size) (some ⟨v35.heap.size, 0, none⟩) 1 1 (some ⟨v37.heap.size, 0, none⟩) 1 1).cp a1 c1 (some ⟨gt, 0, none⟩) c2 a3 c3) txA ms' [((tbN false ⟨#[119]⟩ (some ⟨v36.heap.size, 0, none⟩) 1 1).cp (some ⟨gr, 0, none⟩) ct', [maxR])] = okE := dbE_good (good_fewer (fun i => i) hgood (ids_mem (by intro p hp; simp only [List.mem_cons, List.not_mem_nil, or_false] at hp; rcases hp with rfl; exact ⟨by dsimp only [twoM]; omega, by dsimp only [twoM]; omega⟩)) ⟨rfl, rfl⟩ (by rw [hl1]; exact Nat.le_refl _) (fun i hi => hs1 i (by rw [← hl1]; exact hi)) (fun i j h => h) (fun i hi => by
      obtain rfl : i = 0 := by have : i < 1 := hi; omega
      exact ⟨by show 0 < 1; decide, rfl, rfl, rfl, rfl⟩) (fun i hi j h1 h2 => by rw [hl1] at h1; omega))
  clear hC hcr hto hRt hct c8 c5 hcr2 hgx hO2 hO q1 q2 q3 q4 hms' hrows htabs hsta hgood hp1 hp2 hs1
  have hY8 : Below v44.heap.size v44 v44 := Below.refl _ _
  have d80 := d8
  repeat (first | refine c_seq ?_ | refine c_region _ ?_ | refine wpList_nil ?_ | refine c_then ?_ | ((apply st hF); (exact d_loadAgg (agg _ rfl) (isz _ _ rfl) rfl (cells_at (sa0.below hY))); clear hF; clear a; intro a hF))
  refine stc hF (csig_k v44 ({ oneS ⟨#[97]⟩ 0 1 ga with xn := 2, xd := 4 }) txA 1 1 (sig_in1 (rga0.below hY) rfl rfl rfl) (by constructor <;> (dsimp only [oneS]; omega)) (hT.below hX) ((alone_C 0 textE_empty).trans (by kernel_rfl)) (by decide)) cal18 ⟨rfl, rfl, trivial⟩ (k := fun a v v45 hR hF => ?_)
  obtain ⟨rfl, hb⟩ := hR
  replace hY := hY.trans (hb.mono hY.size)
  replace hY5 := hY5.trans (hb.mono hY5.size)
  replace hY7 := hY7.trans (hb.mono hY7.size)
  replace hY8 := hY8.trans (hb.mono hY8.size)
  replace hX := hX.trans (hb.mono hX.size)
  refine stc hF (no_is v45 1 0 0 (by decide) (by decide)) cal57 ⟨rfl, rfl, trivial⟩ (k := fun a v v46 hR hF => ?_)
  obtain ⟨rfl, hb⟩ := hR
  replace hY := hY.trans (hb.mono hY.size)
  replace hY5 := hY5.trans (hb.mono hY5.size)
  replace hY7 := hY7.trans (hb.mono hY7.size)
  replace hY8 := hY8.trans (hb.mono hY8.size)
  replace hX := hX.trans (hb.mono hX.size)
  repeat (((first | apply st hF | apply stg hF); (first | exact d_move | exact d_loadAgg (agg _ rfl) (isz _ _ rfl) rfl (cells_at (hm0.below hY))); clear hF; clear a; intro a hF))
  refine stcg hF (cmsg_k v46 ({ twoM (some ⟨bl, 0, none⟩) 3 3 with size := 8 }) [({ oneS ⟨#[120]⟩ 0 2 gx with role := 1 }, txA), ({ oneS ⟨#[98]⟩ 4 2 gb with role := 2, branch := 1 }, txA), (oneS ⟨#[112]⟩ 5 1 gp, txA)] (SigsIn.below hps0 hY) (by intro p hp; simp only [List.mem_cons, List.not_mem_nil, or_false] at hp; rcases hp with rfl | rfl | rfl <;> constructor <;> (dsimp only [oneS]; omega)) (hT.below hX) 17 (some 2) ((msg_C (unit_mem (by intro p hp; simp only [List.mem_cons, List.not_mem_nil, or_false] at hp; rcases hp with rfl | rfl | rfl <;> rfl))).trans (by kernel_rfl)) (by decide)) cal10 ⟨rfl, trivial⟩ (k := fun a v v47 hR hF => ?_)
  obtain ⟨rfl, hb⟩ := hR
  replace hY := hY.trans (hb.mono hY.size)
  replace hY5 := hY5.trans (hb.mono hY5.size)
  replace hY7 := hY7.trans (hb.mono hY7.size)
  replace hY8 := hY8.trans (hb.mono hY8.size)
  replace hX := hX.trans (hb.mono hX.size)
  refine stcg hF (no_is v47 17 0 0 (by decide) (by decide)) cal57 ⟨rfl, rfl, trivial⟩ (k := fun a v v48 hR hF => ?_)
  obtain ⟨rfl, hb⟩ := hR
  replace hY := hY.trans (hb.mono hY.size)
  replace hY5 := hY5.trans (hb.mono hY5.size)
  replace hY7 := hY7.trans (hb.mono hY7.size)
  replace hY8 := hY8.trans (hb.mono hY8.size)
  replace hX := hX.trans (hb.mono hX.size)
  repeat (((first | apply st hF | apply stg hF); (first | exact d_move | exact d_pickT | exact d_loadAgg (agg _ rfl) (isz _ _ rfl) rfl (cells_at (d50.below hY5))); clear hF; clear a; intro a hF))
  refine stcg hF (cdb_k v48 (dbN (v26.heap.size) none 0 0 none 0 0) [⟨#[86, 101, 99, 116, 111, 114, 95, 95, 88, 88, 88]⟩] [] [] (dbN_in (hN50.below hY5) (msgs_nil _) (tabs_nil _)) (hT.below hX) 11 0 0 ((db_C rfl (ids_mem (by intro p hp; cases hp)) (units_mem (by intro p hp; cases hp)) (texts_mem (by intro p hp; cases hp))).trans (by kernel_rfl)) (by decide)) cal21 ⟨rfl, trivial⟩ (k := fun a v v49 hR hF => ?_)
  obtain ⟨rfl, hb⟩ := hR
  replace hY := hY.trans (hb.mono hY.size)
  replace hY5 := hY5.trans (hb.mono hY5.size)
  replace hY7 := hY7.trans (hb.mono hY7.size)
  replace hY8 := hY8.trans (hb.mono hY8.size)
  replace hX := hX.trans (hb.mono hX.size)
  refine stcg hF (no_is v49 11 0 0 (by decide) (by decide)) cal57 ⟨rfl, rfl, trivial⟩ (k := fun a v v50 hR hF => ?_)
  obtain ⟨rfl, hb⟩ := hR
  replace hY := hY.trans (hb.mono hY.size)
  replace hY5 := hY5.trans (hb.mono hY5.size)
  replace hY7 := hY7.trans (hb.mono hY7.size)
  replace hY8 := hY8.trans (hb.mono hY8.size)
  replace hX := hX.trans (hb.mono hX.size)
  repeat (((first | apply st hF | apply stg hF); (first | exact d_move | exact d_pickT | exact d_loadAgg (agg _ rfl) (isz _ _ rfl) rfl (cells_at (d70.below hY7))); clear hF; clear a; intro a hF))
  refine stcg hF (cdb_k v50 (dbN (v34.heap.size) (some ⟨v35.heap.size, 0, none⟩) 1 1 (some ⟨v37.heap.size, 0, none⟩) 1 1) txA [({ twoM (some ⟨v32.heap.size, 0, none⟩) 1 1 with size := 8 }, [(oneS ⟨#[119]⟩ 0 64 gw, txA)])] [(tbN false ⟨#[119]⟩ (some ⟨v36.heap.size, 0, none⟩) 1 1, [⟨-1, ⟨#[]⟩⟩])] (hD7.below hY7) (hT.below hX) 19 0 0 ((db_C rfl (ids_mem (by intro p hp; simp only [List.mem_cons, List.not_mem_nil, or_false] at hp; rcases hp with rfl; exact ⟨by dsimp only [twoM]; omega, by dsimp only [twoM]; omega⟩)) (units_mem (by intro p hp; simp only [List.mem_cons, List.not_mem_nil, or_false] at hp; rcases hp with rfl; intro q hq; simp only [List.mem_cons, List.not_mem_nil, or_false] at hq; rcases hq with rfl; rfl)) (texts_mem (by intro p hp; simp only [List.mem_cons, List.not_mem_nil, or_false] at hp; rcases hp with rfl; intro r hr; simp only [List.mem_cons, List.not_mem_nil, or_false] at hr; rcases hr with rfl; exact textE_empty))).trans (by kernel_rfl)) (by decide)) cal21 ⟨rfl, trivial⟩ (k := fun a v v51 hR hF => ?_)
  obtain ⟨rfl, hb⟩ := hR
  replace hY := hY.trans (hb.mono hY.size)
  replace hY5 := hY5.trans (hb.mono hY5.size)
  replace hY7 := hY7.trans (hb.mono hY7.size)
  replace hY8 := hY8.trans (hb.mono hY8.size)
  replace hX := hX.trans (hb.mono hX.size)
  refine stcg hF (no_is v51 19 0 0 (by decide) (by decide)) cal57 ⟨rfl, rfl, trivial⟩ (k := fun a v v52 hR hF => ?_)
  obtain ⟨rfl, hb⟩ := hR
  replace hY := hY.trans (hb.mono hY.size)
  replace hY5 := hY5.trans (hb.mono hY5.size)
  replace hY7 := hY7.trans (hb.mono hY7.size)
  replace hY8 := hY8.trans (hb.mono hY8.size)
  replace hX := hX.trans (hb.mono hX.size)
  repeat (((first | apply st hF | apply stg hF); (first | exact d_move | exact d_pickT | exact d_loadAgg (agg _ rfl) (isz _ _ rfl) rfl (cells_at (d80.below hY8))); clear hF; clear a; intro a hF))
  refine stcg hF (cdb_0 v52 ((dbN (v34.heap.size) (some ⟨v35.heap.size, 0, none⟩) 1 1 (some ⟨v37.heap.size, 0, none⟩) 1 1).cp a1 c1 (some ⟨gt, 0, none⟩) c2 a3 c3) txA ms' [((tbN false ⟨#[119]⟩ (some ⟨v36.heap.size, 0, none⟩) 1 1).cp (some ⟨gr, 0, none⟩) ct', [maxR])] (hD8.below hY8) (hT.below hX) hE8) cal21 ⟨rfl, trivial⟩ (k := fun a v v53 hR hF => ?_)
  obtain ⟨rfl, hb⟩ := hR
  replace hY := hY.trans (hb.mono hY.size)
  replace hY5 := hY5.trans (hb.mono hY5.size)
  replace hY7 := hY7.trans (hb.mono hY7.size)
  replace hY8 := hY8.trans (hb.mono hY8.size)
  replace hX := hX.trans (hb.mono hX.size)
  repeat (first | refine wpList_nil ?_ | refine c_then ?_ | refine wp_ret ?_ | ((first | apply st hF | apply stg hF); (first | exact d_assign | exact d_pickT | exact d_eqN (ifc _ rfl)); clear hF; clear a; intro a hF))
  exact ret1 hF rfl rfl ⟨rfl, hX⟩
end Go.Proofs.YtjomihhpglojpaaDoor
end
