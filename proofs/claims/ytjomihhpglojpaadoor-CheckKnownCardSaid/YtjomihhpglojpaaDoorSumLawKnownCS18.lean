/- Laid together by a program of mine: KnSig. -/
import Derived.Test.YtjomihhpglojpaaDoorSumLawKnownCS17
set_option linter.unusedSimpArgs false
set_option linter.unusedVariables false
section
/- busbarlaw09.signals, walked. (Printed by tools/knsig.py.) -/
namespace Go.Proofs.YtjomihhpglojpaaDoor
open Go.RowKit
set_option linter.unusedSimpArgs false
set_option linter.unusedVariables false
attribute [local irreducible] wpList wpQuiet wpStill Code.wp Exit.then Exit.inBlock bodyPost Calls Does Does0
set_option maxRecDepth 100000
theorem sig_in1 {w : World} {s : Sig} {g : Nat} (h : Rd w (some ⟨g, 0, none⟩) .string txA) (e1 : s.toA = some ⟨g, 0, none⟩) (e2 : s.toN = 1) (e3 : s.toC = 1) : SigIn w s txA :=
  ⟨by rw [e2]; rfl, by rw [e1]; exact h, by omega, by rw [e2]; decide⟩
theorem one_bad {name : ByteArray} {st sz n : Int} {g : Nat} {ss : List ByteArray} (h : wordB name = false) : aloneE (oneS name st sz g) ss n = 11 := by unfold aloneE; exact if_pos h
def kwL : List ByteArray := [⟨#[86, 69, 82, 83, 73, 79, 78]⟩, ⟨#[66, 85, 95]⟩, ⟨#[83, 71, 95]⟩, ⟨#[86, 65, 76, 95]⟩, ⟨#[67, 77, 95]⟩]
theorem kwL_bad : ∀ i (h : i < kwL.length), wordB kwL[i] = false := by
  have h : kwL.all (fun s => !wordB s) = true := by kernel_rfl
  intro i hi
  have := List.all_eq_true.1 h _ (List.getElem_mem hi)
  simpa using this
set_option maxHeartbeats 64000000 in
theorem signals_ok (w : World) (hT : Tabs w) : Ret Tryd.prog 24 #[] w (fun v w' => v = .bool true ∧ Below w.heap.size w w') := by
  refine enter0 Tryd.func24 rfl 113 rfl 113 rfl (fun a hF => ?_)
  have hX : Below w.heap.size w w := Below.refl _ w
  have hw0 := hX.size
  repeat (first | refine c_seq ?_ | refine c_region _ ?_ | refine wpList_nil ?_ | refine c_then ?_ | ((apply st hF); (exact d_assign); clear hF; clear a; intro a hF))
  refine stc hF (one_ok w ⟨#[97]⟩ 0 8) cal30 ⟨rfl, rfl, rfl, trivial⟩ (k := fun a v v1 hR hF => ?_)
  obtain ⟨⟨g, rfl, rg⟩, hb⟩ := hR
  replace hX := hX.trans (hb.mono hX.size)
  obtain ⟨S, hSe⟩ : ∃ x, x = oneS ⟨#[97]⟩ 0 8 g := ⟨_, rfl⟩
  have hX0 := hX
  have hY : Below v1.heap.size v1 v1 := Below.refl _ _
  rw [← hSe] at hF
  refine st_alloc hF inf38 (k := fun a v2 hg1 hgr1 hsz1 hF => ?_)
  refine st_storeAgg hF (cs := (Sig.cells S).toArray) (isz _ _ rfl) rfl rfl hg1 (sig_cells _) (k := fun a v3 hg2 hgr2 hsz2 hF => ?_)
  have hb2 : Below v1.heap.size v1 v3 := ((Below.refl _ v1).grown hgr1 (Nat.le_refl _) (fun k hk => by cases hk)).grown hgr2 (by omega) (fun k hk => by cases hk; exact Nat.le_refl _)
  have hS : SgAt v1.heap.size S v3 := hg2
  replace hX := hX.trans (hb2.mono hX.size)
  replace hY := hb2
  have r0 := rg
  subst hSe
  clear hg1 hg2 hgr1 hgr2 hb2 rg
  repeat (first | refine c_seq ?_ | refine c_region _ ?_ | refine wpList_nil ?_ | refine c_then ?_ | ((apply st hF); (exact d_loadAgg (agg _ rfl) (isz _ _ rfl) rfl (cells_at hS)); clear hF; clear a; intro a hF))
  refine stc hF (csig_0 v3 (oneS ⟨#[97]⟩ 0 8 g) txA 2 (sig_in1 (r0.below hY) rfl rfl rfl) (by constructor <;> (dsimp only [oneS]; omega)) (hT.below hX) ((alone_C 0 textE_empty).trans (by kernel_rfl))) cal18 ⟨rfl, rfl, trivial⟩ (k := fun a v v4 hR hF => ?_)
  obtain ⟨rfl, hb⟩ := hR
  replace hS := hS.below hb
  replace hX := hX.trans (hb.mono hX.size)
  replace hY := hY.trans (hb.mono hY.size)
  repeat (((first | apply st hF | apply stg hF); (first | exact d_move | exact d_neN (ifc _ rfl)); clear hF; clear a; intro a hF))
  refine stcg hF (one_ok v4 ⟨#[97]⟩ 8 8) cal30 ⟨rfl, rfl, rfl, trivial⟩ (k := fun a v v5 hR hF => ?_)
  obtain ⟨⟨g2, rfl, rg2⟩, hb⟩ := hR
  replace hS := hS.below hb
  replace hX := hX.trans (hb.mono hX.size)
  replace hY := hY.trans (hb.mono hY.size)
  refine stcg hF (csig_0 v5 (oneS ⟨#[97]⟩ 8 8 g2) txA 2 (sig_in1 rg2 rfl rfl rfl) (by constructor <;> (dsimp only [oneS]; omega)) (hT.below hX) ((alone_C 0 textE_empty).trans (by kernel_rfl))) cal18 ⟨rfl, rfl, trivial⟩ (k := fun a v v6 hR hF => ?_)
  obtain ⟨rfl, hb⟩ := hR
  replace hS := hS.below hb
  replace hX := hX.trans (hb.mono hX.size)
  replace hY := hY.trans (hb.mono hY.size)
  repeat (((first | apply st hF | apply stg hF); (first | exact d_move | exact d_pickF | exact d_neN (ifc _ rfl)); clear hF; clear a; intro a hF))
  refine stcg hF (one_ok v6 ⟨#[97]⟩ 9 8) cal30 ⟨rfl, rfl, rfl, trivial⟩ (k := fun a v v7 hR hF => ?_)
  obtain ⟨⟨g3, rfl, rg3⟩, hb⟩ := hR
  replace hS := hS.below hb
  replace hX := hX.trans (hb.mono hX.size)
  replace hY := hY.trans (hb.mono hY.size)
  refine stcg hF (csig_k v7 (oneS ⟨#[97]⟩ 9 8 g3) txA 2 16 (sig_in1 rg3 rfl rfl rfl) (by constructor <;> (dsimp only [oneS]; omega)) (hT.below hX) ((alone_C 0 textE_empty).trans (by kernel_rfl)) (by decide)) cal18 ⟨rfl, rfl, trivial⟩ (k := fun a v v8 hR hF => ?_)
  obtain ⟨rfl, hb⟩ := hR
  replace hS := hS.below hb
  replace hX := hX.trans (hb.mono hX.size)
  replace hY := hY.trans (hb.mono hY.size)
  refine stcg hF (no_is v8 16 0 0 (by decide) (by decide)) cal57 ⟨rfl, rfl, trivial⟩ (k := fun a v v9 hR hF => ?_)
  obtain ⟨rfl, hb⟩ := hR
  replace hS := hS.below hb
  replace hX := hX.trans (hb.mono hX.size)
  replace hY := hY.trans (hb.mono hY.size)
  repeat (((first | apply st hF | apply stg hF); (first | exact d_move | exact d_not | exact d_pickF); clear hF; clear a; intro a hF))
  refine stcg hF (one_ok v9 ⟨#[97]⟩ 60 8) cal30 ⟨rfl, rfl, rfl, trivial⟩ (k := fun a v v10 hR hF => ?_)
  obtain ⟨⟨g4, rfl, rg4⟩, hb⟩ := hR
  replace hS := hS.below hb
  replace hX := hX.trans (hb.mono hX.size)
  replace hY := hY.trans (hb.mono hY.size)
  refine stcg hF (csig_k v10 (oneS ⟨#[97]⟩ 60 8 g4) txA 8 16 (sig_in1 rg4 rfl rfl rfl) (by constructor <;> (dsimp only [oneS]; omega)) (hT.below hX) ((alone_C 0 textE_empty).trans (by kernel_rfl)) (by decide)) cal18 ⟨rfl, rfl, trivial⟩ (k := fun a v v11 hR hF => ?_)
  obtain ⟨rfl, hb⟩ := hR
  replace hS := hS.below hb
  replace hX := hX.trans (hb.mono hX.size)
  replace hY := hY.trans (hb.mono hY.size)
  refine stcg hF (no_is v11 16 0 0 (by decide) (by decide)) cal57 ⟨rfl, rfl, trivial⟩ (k := fun a v v12 hR hF => ?_)
  obtain ⟨rfl, hb⟩ := hR
  replace hS := hS.below hb
  replace hX := hX.trans (hb.mono hX.size)
  replace hY := hY.trans (hb.mono hY.size)
  repeat (((first | apply st hF | apply stg hF); (first | exact d_move | exact d_not | exact d_pickF); clear hF; clear a; intro a hF))
  refine stcg hF (one_ok v12 ⟨#[66, 79, 95]⟩ 0 8) cal30 ⟨rfl, rfl, rfl, trivial⟩ (k := fun a v v13 hR hF => ?_)
  obtain ⟨⟨g5, rfl, rg5⟩, hb⟩ := hR
  replace hS := hS.below hb
  replace hX := hX.trans (hb.mono hX.size)
  replace hY := hY.trans (hb.mono hY.size)
  refine stcg hF (csig_k v13 (oneS ⟨#[66, 79, 95]⟩ 0 8 g5) txA 2 11 (sig_in1 rg5 rfl rfl rfl) (by constructor <;> (dsimp only [oneS]; omega)) (hT.below hX) ((alone_C 0 textE_empty).trans (by kernel_rfl)) (by decide)) cal18 ⟨rfl, rfl, trivial⟩ (k := fun a v v14 hR hF => ?_)
  obtain ⟨rfl, hb⟩ := hR
  replace hS := hS.below hb
  replace hX := hX.trans (hb.mono hX.size)
  replace hY := hY.trans (hb.mono hY.size)
  refine stcg hF (no_is v14 11 0 0 (by decide) (by decide)) cal57 ⟨rfl, rfl, trivial⟩ (k := fun a v v15 hR hF => ?_)
  obtain ⟨rfl, hb⟩ := hR
  replace hS := hS.below hb
  replace hX := hX.trans (hb.mono hX.size)
  replace hY := hY.trans (hb.mono hY.size)
  repeat (((first | apply st hF | apply stg hF); (first | exact d_move | exact d_not | exact d_pickF); clear hF; clear a; intro a hF))
  refine stcg hF (one_ok v15 ⟨#[97]⟩ 0 0) cal30 ⟨rfl, rfl, rfl, trivial⟩ (k := fun a v v16 hR hF => ?_)
  obtain ⟨⟨g6, rfl, rg6⟩, hb⟩ := hR
  replace hS := hS.below hb
  replace hX := hX.trans (hb.mono hX.size)
  replace hY := hY.trans (hb.mono hY.size)
  refine stcg hF (csig_k v16 (oneS ⟨#[97]⟩ 0 0 g6) txA 2 15 (sig_in1 rg6 rfl rfl rfl) (by constructor <;> (dsimp only [oneS]; omega)) (hT.below hX) ((alone_C 0 textE_empty).trans (by kernel_rfl)) (by decide)) cal18 ⟨rfl, rfl, trivial⟩ (k := fun a v v17 hR hF => ?_)
  obtain ⟨rfl, hb⟩ := hR
  replace hS := hS.below hb
  replace hX := hX.trans (hb.mono hX.size)
  replace hY := hY.trans (hb.mono hY.size)
  refine stcg hF (no_is v17 15 0 0 (by decide) (by decide)) cal57 ⟨rfl, rfl, trivial⟩ (k := fun a v v18 hR hF => ?_)
  obtain ⟨rfl, hb⟩ := hR
  replace hS := hS.below hb
  replace hX := hX.trans (hb.mono hX.size)
  replace hY := hY.trans (hb.mono hY.size)
  repeat (first | refine c_seq ?_ | refine c_region _ ?_ | refine wpList_nil ?_ | refine c_then ?_ | refine wp_skip ?_ | ((first | apply st hF | apply stg hF); (first | exact d_not | exact d_pickF); clear hF; clear a; intro a hF) | (apply c_cond_f hF; exact rfl; first | exact rfl | assumption))
  refine st_buildR hF Value.string kwL [(0, .string ⟨#[86, 69, 82, 83, 73, 79, 78]⟩), (1, .string ⟨#[66, 85, 95]⟩), (2, .string ⟨#[83, 71, 95]⟩), (3, .string ⟨#[86, 65, 76, 95]⟩), (4, .string ⟨#[67, 77, 95]⟩)] (und _ _ rfl) inf9 rfl (by kernel_rfl) ⟨rfl, rfl, rfl, rfl, rfl, rfl, rfl, rfl, rfl, rfl, trivial⟩ (k := fun a v19 hgr6 hb hW hF => ?_)
  replace hS := hS.below hb
  replace hX := hX.trans (hb.mono hX.size)
  replace hY := hY.trans (hb.mono hY.size)
  clear hgr6
  clear rg2 rg3 rg4 rg5 rg6 hb
  repeat (first | refine c_seq ?_ | refine c_block ?_ | refine c_region _ ?_ | refine wpList_nil ?_ | refine c_then ?_ | ((apply st hF); (exact d_assign); clear hF; clear a; intro a hF))
  refine c_loop (fun q a wr => ∃ k : Nat, k ≤ 5 ∧ q = 5 - k ∧ Fr 113 [(1, .pointer (some ⟨v1.heap.size, 0, none⟩)), (2, .slice (some ⟨v18.heap.size, 0, none⟩) 5 5), (3, .int .i64 (k : Nat))] a ∧ SgAt v1.heap.size (oneS ⟨#[97]⟩ 0 8 g) wr ∧ Rd wr (some ⟨v18.heap.size, 0, none⟩) .string kwL ∧ Below w.heap.size w wr ∧ Below v1.heap.size v1 wr) 5
    ⟨0, Nat.zero_le _, rfl, hF.keep' ⟨rfl, rfl, rfl, trivial⟩, hS, hW, hX, hY⟩ ?_
  clear hF a hS hW hX hY
  rintro q a v20 ⟨k, hk, rfl, hF, hS, hW, hX, hY⟩
  by_cases hlt : k < 5
  case pos =>
    obtain ⟨b1, o1, e1, hc⟩ := hW k hlt
    cases e1
    have hbad := kwL_bad k hlt
    obtain ⟨kw, hkw⟩ : ∃ x, x = kwL[k] := ⟨_, rfl⟩
    rw [← hkw] at hc hbad
    repeat (first | refine c_seq ?_ | refine c_block ?_ | refine c_region _ ?_ | refine wpList_nil ?_ | refine c_then ?_ | refine wp_skip ?_ | ((apply st hF); (first | exact d_move | exact d_cmpT | exact d_len (und _ _ rfl) | exact d_indexAddr1 (und _ _ rfl) (isz _ _ rfl) | exact d_load (und _ _ rfl) hc); clear hF; clear a; intro a hF) | (apply c_cond_t hF; exact rfl; first | exact rfl | assumption))
    refine stc hF (one_ok v20 kw 0 8) cal30 ⟨rfl, rfl, rfl, trivial⟩ (k := fun a v v21 hR hF => ?_)
    obtain ⟨⟨g7, rfl, rg7⟩, hb⟩ := hR
    replace hS := hS.below hb
    replace hW := hW.below hb
    replace hX := hX.trans (hb.mono hX.size)
    replace hY := hY.trans (hb.mono hY.size)
    refine stc hF (csig_k v21 (oneS kw 0 8 g7) txA 2 11 (sig_in1 rg7 rfl rfl rfl) (by constructor <;> (dsimp only [oneS]; omega)) (hT.below hX) (one_bad hbad) (by decide)) cal18 ⟨rfl, rfl, trivial⟩ (k := fun a v v22 hR hF => ?_)
    obtain ⟨rfl, hb⟩ := hR
    replace hS := hS.below hb
    replace hW := hW.below hb
    replace hX := hX.trans (hb.mono hX.size)
    replace hY := hY.trans (hb.mono hY.size)
    refine stc hF (no_is v22 11 0 0 (by decide) (by decide)) cal57 ⟨rfl, rfl, trivial⟩ (k := fun a v v23 hR hF => ?_)
    obtain ⟨rfl, hb⟩ := hR
    replace hS := hS.below hb
    replace hW := hW.below hb
    replace hX := hX.trans (hb.mono hX.size)
    replace hY := hY.trans (hb.mono hY.size)
    repeat (first | refine c_region _ ?_ | refine wpList_nil ?_ | refine c_then ?_ | refine c_in ?_ | refine wp_skip ?_ | ((apply st hF); (first | exact d_move | exact d_assign | exact d_not | exact d_add); clear hF; clear a; intro a hF) | (apply c_cond_f hF; exact rfl; first | exact rfl | assumption))
    exact ⟨5 - (k + 1), by omega, k + 1, by omega, rfl, hF.keep' ⟨rfl, rfl, rfl, trivial⟩, hS, hW, hX, hY⟩
  have hoB0 := lt_at hS
  obtain rfl : k = 5 := by omega
  clear hW
  repeat (first | refine c_seq ?_ | refine c_region _ ?_ | refine wpList_nil ?_ | refine c_then ?_ | refine c_then_exit ?_ | refine c_in_hit ?_ | refine wp_exit ?_ | ((apply st hF); (first | exact d_move | exact d_cmpF | exact d_len (und _ _ rfl) | exact d_loadAgg (agg _ rfl) (isz _ _ rfl) rfl (cells_at hS)); clear hF; clear a; intro a hF) | (apply c_cond_f hF; exact rfl; first | exact rfl | assumption))
  refine st_alloc hF inf38 (k := fun a v22 hg1 hgr1 hsz1 hF => ?_)
  refine st_storeAgg hF (cs := (Sig.cells (oneS ⟨#[97]⟩ 0 8 g)).toArray) (isz _ _ rfl) rfl rfl hg1 (sig_cells _) (k := fun a v23 hg2 hgr2 hsz2 hF => ?_)
  have hb2 : Below v20.heap.size v20 v23 := ((Below.refl _ v20).grown hgr1 (Nat.le_refl _) (fun k hk => by cases hk)).grown hgr2 (by omega) (fun k hk => by cases hk; exact Nat.le_refl _)
  have hx : SgAt v20.heap.size (oneS ⟨#[97]⟩ 0 8 g) v23 := hg2
  replace hS := hS.below hb2
  replace hX := hX.trans (hb2.mono hX.size)
  replace hY := hY.trans (hb2.mono hY.size)
  clear hg1 hg2 hgr1 hgr2 hb2 hsz1 hsz2
  have hoB : v1.heap.size < v20.heap.size := hoB0
  have hwB : w.heap.size ≤ v1.heap.size := hX0.size
  repeat (first | refine c_seq ?_ | refine c_region _ ?_ | refine wpList_nil ?_ | refine c_then ?_ | ((apply st hF); (exact d_fieldAddr (fld _ _ _ _ rfl) (isz _ _ rfl)); clear hF; clear a; intro a hF))
  refine st_store hF (isz _ _ rfl) hx (i := 0 + 3) (by show 0 + 3 < 19; decide) rfl rfl rfl (k := fun a v24 hg hgr hsz hF => ?_)
  replace hx : SgAt v20.heap.size ({ oneS ⟨#[97]⟩ 0 8 g with role := 3 }) v24 := hg
  replace hS : SgAt v1.heap.size (oneS ⟨#[97]⟩ 0 8 g) v24 := blk_kept hS hgr (by simp; omega)
  replace hX := hX.grown hgr hX.size (fun k hk => by cases hk; omega)
  replace hY := hY.grown hgr hY.size (fun k hk => by cases hk; omega)
  clear hg hgr hsz
  repeat (first | refine c_seq ?_ | refine c_region _ ?_ | refine wpList_nil ?_ | refine c_then ?_ | ((apply st hF); (exact d_loadAgg (agg _ rfl) (isz _ _ rfl) rfl (cells_at hx)); clear hF; clear a; intro a hF))
  refine stc hF (csig_k v24 ({ oneS ⟨#[97]⟩ 0 8 g with role := 3 }) txA 2 14 (sig_in1 (r0.below hY) rfl rfl rfl) (by constructor <;> (dsimp only [oneS]; omega)) (hT.below hX) ((alone_C 0 textE_empty).trans (by kernel_rfl)) (by decide)) cal18 ⟨rfl, rfl, trivial⟩ (k := fun a v v25 hR hF => ?_)
  obtain ⟨rfl, hb⟩ := hR
  replace hS := hS.below hb
  replace hx := hx.below hb
  replace hX := hX.trans (hb.mono hX.size)
  replace hY := hY.trans (hb.mono hY.size)
  refine stc hF (no_is v25 14 0 0 (by decide) (by decide)) cal57 ⟨rfl, rfl, trivial⟩ (k := fun a v v26 hR hF => ?_)
  obtain ⟨rfl, hb⟩ := hR
  replace hS := hS.below hb
  replace hx := hx.below hb
  replace hX := hX.trans (hb.mono hX.size)
  replace hY := hY.trans (hb.mono hY.size)
  repeat (first | refine c_seq ?_ | refine c_region _ ?_ | refine wpList_nil ?_ | refine c_then ?_ | refine wp_skip ?_ | ((apply st hF); (first | exact d_not | exact d_loadAgg (agg _ rfl) (isz _ _ rfl) rfl (cells_at hS)); clear hF; clear a; intro a hF) | (apply c_cond_f hF; exact rfl; first | exact rfl | assumption))
  refine st_storeAgg hF (cs := (Sig.cells (oneS ⟨#[97]⟩ 0 8 g)).toArray) (isz _ _ rfl) rfl rfl hx (sig_cells _) (k := fun a v27 hg hgr hsz hF => ?_)
  replace hx : SgAt v20.heap.size (oneS ⟨#[97]⟩ 0 8 g) v27 := hg
  replace hS : SgAt v1.heap.size (oneS ⟨#[97]⟩ 0 8 g) v27 := blk_kept hS hgr (by simp; omega)
  replace hX := hX.grown hgr hX.size (fun k hk => by cases hk; omega)
  replace hY := hY.grown hgr hY.size (fun k hk => by cases hk; omega)
  clear hg hgr hsz
  repeat (first | refine c_seq ?_ | refine c_region _ ?_ | refine wpList_nil ?_ | refine c_then ?_ | ((apply st hF); (exact d_fieldAddr (fld _ _ _ _ rfl) (isz _ _ rfl)); clear hF; clear a; intro a hF))
  refine st_store hF (isz _ _ rfl) hx (i := 0 + 4) (by show 0 + 4 < 19; decide) rfl rfl rfl (k := fun a v28 hg hgr hsz hF => ?_)
  replace hx : SgAt v20.heap.size ({ oneS ⟨#[97]⟩ 0 8 g with branch := 1 }) v28 := hg
  replace hS : SgAt v1.heap.size (oneS ⟨#[97]⟩ 0 8 g) v28 := blk_kept hS hgr (by simp; omega)
  replace hX := hX.grown hgr hX.size (fun k hk => by cases hk; omega)
  replace hY := hY.grown hgr hY.size (fun k hk => by cases hk; omega)
  clear hg hgr hsz
  repeat (first | refine c_seq ?_ | refine c_region _ ?_ | refine wpList_nil ?_ | refine c_then ?_ | ((apply st hF); (exact d_loadAgg (agg _ rfl) (isz _ _ rfl) rfl (cells_at hx)); clear hF; clear a; intro a hF))
  refine stc hF (csig_k v28 ({ oneS ⟨#[97]⟩ 0 8 g with branch := 1 }) txA 2 14 (sig_in1 (r0.below hY) rfl rfl rfl) (by constructor <;> (dsimp only [oneS]; omega)) (hT.below hX) ((alone_C 0 textE_empty).trans (by kernel_rfl)) (by decide)) cal18 ⟨rfl, rfl, trivial⟩ (k := fun a v v29 hR hF => ?_)
  obtain ⟨rfl, hb⟩ := hR
  replace hS := hS.below hb
  replace hx := hx.below hb
  replace hX := hX.trans (hb.mono hX.size)
  replace hY := hY.trans (hb.mono hY.size)
  refine stc hF (no_is v29 14 0 0 (by decide) (by decide)) cal57 ⟨rfl, rfl, trivial⟩ (k := fun a v v30 hR hF => ?_)
  obtain ⟨rfl, hb⟩ := hR
  replace hS := hS.below hb
  replace hx := hx.below hb
  replace hX := hX.trans (hb.mono hX.size)
  replace hY := hY.trans (hb.mono hY.size)
  repeat (first | refine c_seq ?_ | refine c_region _ ?_ | refine wpList_nil ?_ | refine c_then ?_ | refine wp_skip ?_ | ((apply st hF); (first | exact d_not | exact d_loadAgg (agg _ rfl) (isz _ _ rfl) rfl (cells_at hS)); clear hF; clear a; intro a hF) | (apply c_cond_f hF; exact rfl; first | exact rfl | assumption))
  refine st_storeAgg hF (cs := (Sig.cells (oneS ⟨#[97]⟩ 0 8 g)).toArray) (isz _ _ rfl) rfl rfl hx (sig_cells _) (k := fun a v31 hg hgr hsz hF => ?_)
  replace hx : SgAt v20.heap.size (oneS ⟨#[97]⟩ 0 8 g) v31 := hg
  replace hS : SgAt v1.heap.size (oneS ⟨#[97]⟩ 0 8 g) v31 := blk_kept hS hgr (by simp; omega)
  replace hX := hX.grown hgr hX.size (fun k hk => by cases hk; omega)
  replace hY := hY.grown hgr hY.size (fun k hk => by cases hk; omega)
  clear hg hgr hsz
  repeat (first | refine c_seq ?_ | refine c_region _ ?_ | refine wpList_nil ?_ | refine c_then ?_ | ((apply st hF); (first | exact d_fieldAddr (fld _ _ _ _ rfl) (isz _ _ rfl) | exact d_build (vs := [(1, .int .i64 1)]) (cells := #[.int .i64 0, .int .i64 1]) (by kernel_rfl) ⟨rfl, rfl, trivial⟩); clear hF; clear a; intro a hF))
  refine st_storePart hF (cs := #[.int .i64 0, .int .i64 1]) (o := 0 + 9) (isz _ _ rfl) rfl (by show 0 + 9 + 2 ≤ 19; decide) hx (by simp [Value.oneCell']) (k := fun a v32 hg hgr hsz hF => ?_)
  replace hx : SgAt v20.heap.size ({ oneS ⟨#[97]⟩ 0 8 g with sn := 0, sd := 1 }) v32 := hg
  replace hS : SgAt v1.heap.size (oneS ⟨#[97]⟩ 0 8 g) v32 := blk_kept hS hgr (by simp; omega)
  replace hX := hX.grown hgr hX.size (fun k hk => by cases hk; omega)
  replace hY := hY.grown hgr hY.size (fun k hk => by cases hk; omega)
  clear hg hgr hsz
  repeat (first | refine c_seq ?_ | refine c_region _ ?_ | refine wpList_nil ?_ | refine c_then ?_ | ((apply st hF); (exact d_loadAgg (agg _ rfl) (isz _ _ rfl) rfl (cells_at hx)); clear hF; clear a; intro a hF))
  refine stc hF (csig_k v32 ({ oneS ⟨#[97]⟩ 0 8 g with sn := 0, sd := 1 }) txA 2 10 (sig_in1 (r0.below hY) rfl rfl rfl) (by constructor <;> (dsimp only [oneS]; omega)) (hT.below hX) ((alone_C 0 textE_empty).trans (by kernel_rfl)) (by decide)) cal18 ⟨rfl, rfl, trivial⟩ (k := fun a v v33 hR hF => ?_)
  obtain ⟨rfl, hb⟩ := hR
  replace hS := hS.below hb
  replace hx := hx.below hb
  replace hX := hX.trans (hb.mono hX.size)
  replace hY := hY.trans (hb.mono hY.size)
  refine stc hF (no_is v33 10 0 0 (by decide) (by decide)) cal57 ⟨rfl, rfl, trivial⟩ (k := fun a v v34 hR hF => ?_)
  obtain ⟨rfl, hb⟩ := hR
  replace hS := hS.below hb
  replace hx := hx.below hb
  replace hX := hX.trans (hb.mono hX.size)
  replace hY := hY.trans (hb.mono hY.size)
  repeat (first | refine c_seq ?_ | refine c_region _ ?_ | refine wpList_nil ?_ | refine c_then ?_ | refine wp_skip ?_ | ((apply st hF); (first | exact d_not | exact d_loadAgg (agg _ rfl) (isz _ _ rfl) rfl (cells_at hS)); clear hF; clear a; intro a hF) | (apply c_cond_f hF; exact rfl; first | exact rfl | assumption))
  refine st_storeAgg hF (cs := (Sig.cells (oneS ⟨#[97]⟩ 0 8 g)).toArray) (isz _ _ rfl) rfl rfl hx (sig_cells _) (k := fun a v35 hg hgr hsz hF => ?_)
  replace hx : SgAt v20.heap.size (oneS ⟨#[97]⟩ 0 8 g) v35 := hg
  replace hS : SgAt v1.heap.size (oneS ⟨#[97]⟩ 0 8 g) v35 := blk_kept hS hgr (by simp; omega)
  replace hX := hX.grown hgr hX.size (fun k hk => by cases hk; omega)
  replace hY := hY.grown hgr hY.size (fun k hk => by cases hk; omega)
  clear hg hgr hsz
  repeat (first | refine c_seq ?_ | refine c_region _ ?_ | refine wpList_nil ?_ | refine c_then ?_ | ((apply st hF); (first | exact d_fieldAddr (fld _ _ _ _ rfl) (isz _ _ rfl) | exact d_build (vs := [(0, .int .i64 2), (1, .int .i64 4)]) (cells := #[.int .i64 2, .int .i64 4]) (by kernel_rfl) ⟨rfl, rfl, rfl, rfl, trivial⟩); clear hF; clear a; intro a hF))
  refine st_storePart hF (cs := #[.int .i64 2, .int .i64 4]) (o := 0 + 11) (isz _ _ rfl) rfl (by show 0 + 11 + 2 ≤ 19; decide) hx (by simp [Value.oneCell']) (k := fun a v36 hg hgr hsz hF => ?_)
  replace hx : SgAt v20.heap.size ({ oneS ⟨#[97]⟩ 0 8 g with fn := 2, fd := 4 }) v36 := hg
  replace hS : SgAt v1.heap.size (oneS ⟨#[97]⟩ 0 8 g) v36 := blk_kept hS hgr (by simp; omega)
  replace hX := hX.grown hgr hX.size (fun k hk => by cases hk; omega)
  replace hY := hY.grown hgr hY.size (fun k hk => by cases hk; omega)
  clear hg hgr hsz
  repeat (first | refine c_seq ?_ | refine c_region _ ?_ | refine wpList_nil ?_ | refine c_then ?_ | ((apply st hF); (exact d_loadAgg (agg _ rfl) (isz _ _ rfl) rfl (cells_at hx)); clear hF; clear a; intro a hF))
  refine stc hF (csig_k v36 ({ oneS ⟨#[97]⟩ 0 8 g with fn := 2, fd := 4 }) txA 2 1 (sig_in1 (r0.below hY) rfl rfl rfl) (by constructor <;> (dsimp only [oneS]; omega)) (hT.below hX) ((alone_C 0 textE_empty).trans (by kernel_rfl)) (by decide)) cal18 ⟨rfl, rfl, trivial⟩ (k := fun a v v37 hR hF => ?_)
  obtain ⟨rfl, hb⟩ := hR
  replace hS := hS.below hb
  replace hx := hx.below hb
  replace hX := hX.trans (hb.mono hX.size)
  replace hY := hY.trans (hb.mono hY.size)
  refine stc hF (no_is v37 1 0 0 (by decide) (by decide)) cal57 ⟨rfl, rfl, trivial⟩ (k := fun a v v38 hR hF => ?_)
  obtain ⟨rfl, hb⟩ := hR
  replace hS := hS.below hb
  replace hx := hx.below hb
  replace hX := hX.trans (hb.mono hX.size)
  replace hY := hY.trans (hb.mono hY.size)
  repeat (first | refine c_seq ?_ | refine c_region _ ?_ | refine wpList_nil ?_ | refine c_then ?_ | refine wp_skip ?_ | ((apply st hF); (first | exact d_not | exact d_loadAgg (agg _ rfl) (isz _ _ rfl) rfl (cells_at hS)); clear hF; clear a; intro a hF) | (apply c_cond_f hF; exact rfl; first | exact rfl | assumption))
  refine st_storeAgg hF (cs := (Sig.cells (oneS ⟨#[97]⟩ 0 8 g)).toArray) (isz _ _ rfl) rfl rfl hx (sig_cells _) (k := fun a v39 hg hgr hsz hF => ?_)
  replace hx : SgAt v20.heap.size (oneS ⟨#[97]⟩ 0 8 g) v39 := hg
  replace hS : SgAt v1.heap.size (oneS ⟨#[97]⟩ 0 8 g) v39 := blk_kept hS hgr (by simp; omega)
  replace hX := hX.grown hgr hX.size (fun k hk => by cases hk; omega)
  replace hY := hY.grown hgr hY.size (fun k hk => by cases hk; omega)
  clear hg hgr hsz
  repeat (first | refine c_seq ?_ | refine c_region _ ?_ | refine wpList_nil ?_ | refine c_then ?_ | ((apply st hF); (first | exact d_fieldAddr (fld _ _ _ _ rfl) (isz _ _ rfl) | exact d_build (vs := [(0, .int .i64 1), (1, .int .i64 1)]) (cells := #[.int .i64 1, .int .i64 1]) (by kernel_rfl) ⟨rfl, rfl, rfl, rfl, trivial⟩); clear hF; clear a; intro a hF))
  refine st_storePart hF (cs := #[.int .i64 1, .int .i64 1]) (o := 0 + 13) (isz _ _ rfl) rfl (by show 0 + 13 + 2 ≤ 19; decide) hx (by simp [Value.oneCell']) (k := fun a v40 hg hgr hsz hF => ?_)
  replace hx : SgAt v20.heap.size ({ oneS ⟨#[97]⟩ 0 8 g with mn := 1, md := 1 }) v40 := hg
  replace hS : SgAt v1.heap.size (oneS ⟨#[97]⟩ 0 8 g) v40 := blk_kept hS hgr (by simp; omega)
  replace hX := hX.grown hgr hX.size (fun k hk => by cases hk; omega)
  replace hY := hY.grown hgr hY.size (fun k hk => by cases hk; omega)
  clear hg hgr hsz
  repeat (first | refine c_seq ?_ | refine c_region _ ?_ | refine wpList_nil ?_ | refine c_then ?_ | ((apply st hF); (exact d_loadAgg (agg _ rfl) (isz _ _ rfl) rfl (cells_at hx)); clear hF; clear a; intro a hF))
  refine stc hF (csig_k v40 ({ oneS ⟨#[97]⟩ 0 8 g with mn := 1, md := 1 }) txA 2 18 (sig_in1 (r0.below hY) rfl rfl rfl) (by constructor <;> (dsimp only [oneS]; omega)) (hT.below hX) ((alone_C 0 textE_empty).trans (by kernel_rfl)) (by decide)) cal18 ⟨rfl, rfl, trivial⟩ (k := fun a v v41 hR hF => ?_)
  obtain ⟨rfl, hb⟩ := hR
  replace hS := hS.below hb
  replace hx := hx.below hb
  replace hX := hX.trans (hb.mono hX.size)
  replace hY := hY.trans (hb.mono hY.size)
  refine stc hF (no_is v41 18 0 0 (by decide) (by decide)) cal57 ⟨rfl, rfl, trivial⟩ (k := fun a v v42 hR hF => ?_)
  obtain ⟨rfl, hb⟩ := hR
  replace hS := hS.below hb
  replace hx := hx.below hb
  replace hX := hX.trans (hb.mono hX.size)
  replace hY := hY.trans (hb.mono hY.size)
  repeat (first | refine c_seq ?_ | refine c_region _ ?_ | refine wpList_nil ?_ | refine c_then ?_ | refine wp_skip ?_ | ((apply st hF); (first | exact d_not | exact d_loadAgg (agg _ rfl) (isz _ _ rfl) rfl (cells_at hS)); clear hF; clear a; intro a hF) | (apply c_cond_f hF; exact rfl; first | exact rfl | assumption))
  refine st_storeAgg hF (cs := (Sig.cells (oneS ⟨#[97]⟩ 0 8 g)).toArray) (isz _ _ rfl) rfl rfl hx (sig_cells _) (k := fun a v43 hg hgr hsz hF => ?_)
  replace hx : SgAt v20.heap.size (oneS ⟨#[97]⟩ 0 8 g) v43 := hg
  replace hS : SgAt v1.heap.size (oneS ⟨#[97]⟩ 0 8 g) v43 := blk_kept hS hgr (by simp; omega)
  replace hX := hX.grown hgr hX.size (fun k hk => by cases hk; omega)
  replace hY := hY.grown hgr hY.size (fun k hk => by cases hk; omega)
  clear hg hgr hsz
  repeat (first | refine c_seq ?_ | refine c_region _ ?_ | refine wpList_nil ?_ | refine c_then ?_ | ((apply st hF); (exact d_fieldAddr (fld _ _ _ _ rfl) (isz _ _ rfl)); clear hF; clear a; intro a hF))
  refine st_store hF (isz _ _ rfl) hx (i := 0 + 17) (by show 0 + 17 < 19; decide) rfl rfl rfl (k := fun a v44 hg hgr hsz hF => ?_)
  replace hx : SgAt v20.heap.size ({ oneS ⟨#[97]⟩ 0 8 g with unit := ⟨#[10]⟩ }) v44 := hg
  replace hS : SgAt v1.heap.size (oneS ⟨#[97]⟩ 0 8 g) v44 := blk_kept hS hgr (by simp; omega)
  replace hX := hX.grown hgr hX.size (fun k hk => by cases hk; omega)
  replace hY := hY.grown hgr hY.size (fun k hk => by cases hk; omega)
  clear hg hgr hsz
  repeat (first | refine c_seq ?_ | refine c_region _ ?_ | refine wpList_nil ?_ | refine c_then ?_ | ((apply st hF); (exact d_loadAgg (agg _ rfl) (isz _ _ rfl) rfl (cells_at hx)); clear hF; clear a; intro a hF))
  refine stc hF (csig_k v44 ({ oneS ⟨#[97]⟩ 0 8 g with unit := ⟨#[10]⟩ }) txA 2 6 (sig_in1 (r0.below hY) rfl rfl rfl) (by constructor <;> (dsimp only [oneS]; omega)) (hT.below hX) ((alone_C 6 textE_nl).trans (by kernel_rfl)) (by decide)) cal18 ⟨rfl, rfl, trivial⟩ (k := fun a v v45 hR hF => ?_)
  obtain ⟨rfl, hb⟩ := hR
  replace hS := hS.below hb
  replace hx := hx.below hb
  replace hX := hX.trans (hb.mono hX.size)
  replace hY := hY.trans (hb.mono hY.size)
  refine stc hF (no_is v45 6 0 0 (by decide) (by decide)) cal57 ⟨rfl, rfl, trivial⟩ (k := fun a v v46 hR hF => ?_)
  obtain ⟨rfl, hb⟩ := hR
  replace hS := hS.below hb
  replace hx := hx.below hb
  replace hX := hX.trans (hb.mono hX.size)
  replace hY := hY.trans (hb.mono hY.size)
  repeat (first | refine c_seq ?_ | refine c_region _ ?_ | refine wpList_nil ?_ | refine c_then ?_ | refine wp_skip ?_ | ((apply st hF); (first | exact d_not | exact d_loadAgg (agg _ rfl) (isz _ _ rfl) rfl (cells_at hS)); clear hF; clear a; intro a hF) | (apply c_cond_f hF; exact rfl; first | exact rfl | assumption))
  refine st_storeAgg hF (cs := (Sig.cells (oneS ⟨#[97]⟩ 0 8 g)).toArray) (isz _ _ rfl) rfl rfl hx (sig_cells _) (k := fun a v47 hg hgr hsz hF => ?_)
  replace hx : SgAt v20.heap.size (oneS ⟨#[97]⟩ 0 8 g) v47 := hg
  replace hS : SgAt v1.heap.size (oneS ⟨#[97]⟩ 0 8 g) v47 := blk_kept hS hgr (by simp; omega)
  replace hX := hX.grown hgr hX.size (fun k hk => by cases hk; omega)
  replace hY := hY.grown hgr hY.size (fun k hk => by cases hk; omega)
  clear hg hgr hsz
  repeat (first | refine c_seq ?_ | refine c_region _ ?_ | refine wpList_nil ?_ | refine c_then ?_ | ((apply st hF); (exact d_fieldAddr (fld _ _ _ _ rfl) (isz _ _ rfl)); clear hF; clear a; intro a hF))
  refine st_store hF (isz _ _ rfl) hx (i := 0 + 18) (by show 0 + 18 < 19; decide) rfl rfl rfl (k := fun a v48 hg hgr hsz hF => ?_)
  replace hx : SgAt v20.heap.size ({ oneS ⟨#[97]⟩ 0 8 g with toA := none, toN := 0, toC := 0 }) v48 := hg
  replace hS : SgAt v1.heap.size (oneS ⟨#[97]⟩ 0 8 g) v48 := blk_kept hS hgr (by simp; omega)
  replace hX := hX.grown hgr hX.size (fun k hk => by cases hk; omega)
  replace hY := hY.grown hgr hY.size (fun k hk => by cases hk; omega)
  clear hg hgr hsz
  repeat (first | refine c_seq ?_ | refine c_region _ ?_ | refine wpList_nil ?_ | refine c_then ?_ | ((apply st hF); (exact d_loadAgg (agg _ rfl) (isz _ _ rfl) rfl (cells_at hx)); clear hF; clear a; intro a hF))
  refine stc hF (csig_k v48 ({ oneS ⟨#[97]⟩ 0 8 g with toA := none, toN := 0, toC := 0 }) [] 2 2 (⟨rfl, fun i hi => absurd hi (Nat.not_lt_zero _), Nat.le_refl 0, (by show 0 * 16 ≤ 140737488351232; decide)⟩) (by constructor <;> (dsimp only [oneS]; omega)) (hT.below hX) ((alone_C 0 textE_empty).trans (by kernel_rfl)) (by decide)) cal18 ⟨rfl, rfl, trivial⟩ (k := fun a v v49 hR hF => ?_)
  obtain ⟨rfl, hb⟩ := hR
  replace hS := hS.below hb
  replace hx := hx.below hb
  replace hX := hX.trans (hb.mono hX.size)
  replace hY := hY.trans (hb.mono hY.size)
  refine stc hF (no_is v49 2 0 0 (by decide) (by decide)) cal57 ⟨rfl, rfl, trivial⟩ (k := fun a v v50 hR hF => ?_)
  obtain ⟨rfl, hb⟩ := hR
  replace hS := hS.below hb
  replace hx := hx.below hb
  replace hX := hX.trans (hb.mono hX.size)
  replace hY := hY.trans (hb.mono hY.size)
  repeat (first | refine c_seq ?_ | refine c_region _ ?_ | refine wpList_nil ?_ | refine c_then ?_ | refine wp_skip ?_ | ((apply st hF); (exact d_not); clear hF; clear a; intro a hF) | (apply c_cond_f hF; exact rfl; first | exact rfl | assumption))
  have hlx0 := lt_at hx
  refine st_buildR hF Value.string [⟨#[65]⟩, ⟨#[65]⟩] [(0, .string ⟨#[65]⟩), (1, .string ⟨#[65]⟩)] (und _ _ rfl) inf9 rfl (by kernel_rfl) ⟨rfl, rfl, rfl, rfl, trivial⟩ (k := fun a v51 hgr6 hb hW hF => ?_)
  replace hS := hS.below hb
  replace hx := hx.below hb
  replace hX := hX.trans (hb.mono hX.size)
  replace hY := hY.trans (hb.mono hY.size)
  have hV : Below v51.heap.size v51 v51 := Below.refl _ _
  have hlx := lt_at hx
  have hzb := hb.size
  repeat (((apply st hF); (exact d_fieldAddr (fld _ _ _ _ rfl) (isz _ _ rfl)); clear hF; clear a; intro a hF))
  refine st_store hF (isz _ _ rfl) hx (i := 0 + 18) (by show 0 + 18 < 19; decide) rfl rfl rfl (k := fun a v52 hg hgr hsz hF => ?_)
  replace hx : SgAt v20.heap.size ({ oneS ⟨#[97]⟩ 0 8 g with toA := some ⟨v50.heap.size, 0, none⟩, toN := 2, toC := 2 }) v52 := hg
  replace hS : SgAt v1.heap.size (oneS ⟨#[97]⟩ 0 8 g) v52 := blk_kept hS hgr (by simp; omega)
  replace hX := hX.grown hgr hX.size (fun k hk => by cases hk; omega)
  replace hY := hY.grown hgr hY.size (fun k hk => by cases hk; omega)
  replace hW : Rd v52 (some ⟨v50.heap.size, 0, none⟩) .string [⟨#[65]⟩, ⟨#[65]⟩] := fun i hi => by
    obtain ⟨b1, o1, e1, hc⟩ := hW i hi
    cases e1
    refine ⟨_, _, rfl, ?_⟩
    rw [← hc]
    unfold World.cell?
    dsimp only
    rw [hgr.block _ (World.block_lt_of_cell? v51 _ hc) (by simp; omega)]
  clear hg hgr hsz hV
  repeat (first | refine c_seq ?_ | refine c_region _ ?_ | refine wpList_nil ?_ | refine c_then ?_ | ((apply st hF); (exact d_loadAgg (agg _ rfl) (isz _ _ rfl) rfl (cells_at hx)); clear hF; clear a; intro a hF))
  refine stc hF (csig_k v52 ({ oneS ⟨#[97]⟩ 0 8 g with toA := some ⟨v50.heap.size, 0, none⟩, toN := 2, toC := 2 }) [⟨#[65]⟩, ⟨#[65]⟩] 2 12 (⟨rfl, hW, Nat.le_refl 2, (by show 2 * 16 ≤ 140737488351232; decide)⟩) (by constructor <;> (dsimp only [oneS]; omega)) (hT.below hX) ((alone_C 0 textE_empty).trans (by kernel_rfl)) (by decide)) cal18 ⟨rfl, rfl, trivial⟩ (k := fun a v v53 hR hF => ?_)
  obtain ⟨rfl, hb⟩ := hR
  replace hS := hS.below hb
  replace hx := hx.below hb
  replace hX := hX.trans (hb.mono hX.size)
  replace hY := hY.trans (hb.mono hY.size)
  refine stc hF (no_is v53 12 0 0 (by decide) (by decide)) cal57 ⟨rfl, rfl, trivial⟩ (k := fun a v v54 hR hF => ?_)
  obtain ⟨rfl, hb⟩ := hR
  replace hS := hS.below hb
  replace hx := hx.below hb
  replace hX := hX.trans (hb.mono hX.size)
  replace hY := hY.trans (hb.mono hY.size)
  repeat (((first | apply st hF | apply stg hF); (first | exact d_move | exact d_loadAgg (agg _ rfl) (isz _ _ rfl) rfl (cells_at hS)); clear hF; clear a; intro a hF))
  refine stcg hF (csig_k v54 (oneS ⟨#[97]⟩ 0 8 g) txA (-1) 16 (sig_in1 (r0.below hY) rfl rfl rfl) (by constructor <;> (dsimp only [oneS]; omega)) (hT.below hX) ((alone_C 0 textE_empty).trans (by kernel_rfl)) (by decide)) cal18 ⟨rfl, rfl, trivial⟩ (k := fun a v v55 hR hF => ?_)
  obtain ⟨rfl, hb⟩ := hR
  replace hS := hS.below hb
  replace hx := hx.below hb
  replace hX := hX.trans (hb.mono hX.size)
  replace hY := hY.trans (hb.mono hY.size)
  refine stcg hF (no_is v55 16 0 0 (by decide) (by decide)) cal57 ⟨rfl, rfl, trivial⟩ (k := fun a v v56 hR hF => ?_)
  obtain ⟨rfl, hb⟩ := hR
  replace hS := hS.below hb
  replace hx := hx.below hb
  replace hX := hX.trans (hb.mono hX.size)
  replace hY := hY.trans (hb.mono hY.size)
  repeat (((first | apply st hF | apply stg hF); (first | exact d_move | exact d_pickT); clear hF; clear a; intro a hF))
  refine stcg hF (one_ok v56 ⟨#[97]⟩ 0 64) cal30 ⟨rfl, rfl, rfl, trivial⟩ (k := fun a v v57 hR hF => ?_)
  obtain ⟨⟨g8, rfl, rg8⟩, hb⟩ := hR
  replace hS := hS.below hb
  replace hx := hx.below hb
  replace hX := hX.trans (hb.mono hX.size)
  replace hY := hY.trans (hb.mono hY.size)
  refine stcg hF (csig_0 v57 (oneS ⟨#[97]⟩ 0 64 g8) txA 99 (sig_in1 rg8 rfl rfl rfl) (by constructor <;> (dsimp only [oneS]; omega)) (hT.below hX) ((alone_C 0 textE_empty).trans (by kernel_rfl))) cal18 ⟨rfl, rfl, trivial⟩ (k := fun a v v58 hR hF => ?_)
  obtain ⟨rfl, hb⟩ := hR
  replace hS := hS.below hb
  replace hx := hx.below hb
  replace hX := hX.trans (hb.mono hX.size)
  replace hY := hY.trans (hb.mono hY.size)
  repeat (first | refine wpList_nil ?_ | refine c_then ?_ | refine wp_ret ?_ | ((first | apply st hF | apply stg hF); (first | exact d_assign | exact d_pickT | exact d_eqN (ifc _ rfl)); clear hF; clear a; intro a hF))
  exact ret1 hF rfl rfl ⟨rfl, hX⟩
end Go.Proofs.YtjomihhpglojpaaDoor
end
