/- Laid together by a program of mine: KnTab. -/
import Derived.Test.YtjomihhpglojpaaDoorSumLawKnownCS21
set_option linter.unusedSimpArgs false
set_option linter.unusedVariables false
section
/- busbarlaw09.tables, walked. (Printed by tools/kntab.py.) -/
namespace Go.Proofs.YtjomihhpglojpaaDoor
open Go.RowKit
set_option linter.unusedSimpArgs false
set_option linter.unusedVariables false
attribute [local irreducible] wpList wpQuiet wpStill Code.wp Exit.then Exit.inBlock bodyPost Calls Does Does0
set_option maxRecDepth 100000
theorem rd_far {α : Type} {w w' : World} {g B : Nat} {enc : α → Value} {xs : List α} {v : Value} (h : Rd w (some ⟨g, 0, none⟩) enc xs) (i : Nat) (hi : i < xs.length) (hv : w.cell? ⟨B, 0 + i, none⟩ = some v) (hne : v ≠ enc xs[i]) (hgr : w.grownBy w' (some B)) : Rd w' (some ⟨g, 0, none⟩) enc xs := by
  have hgB : g ≠ B := by
    rintro rfl
    obtain ⟨b, o, e, hc⟩ := h i hi
    cases e
    rw [hv] at hc
    exact hne (Option.some.inj hc)
  intro j hj
  obtain ⟨b, o, e, hc⟩ := h j hj
  cases e
  refine ⟨_, _, rfl, ?_⟩
  rw [← hc]
  unfold World.cell?
  dsimp only
  rw [hgr.block _ (World.block_lt_of_cell? w _ hc) (by simpa using hgB)]
def val4 : List Int := [256, -1, 0, 255]
def want4 : List Int := [19, 19, 12, 0]
theorem rd_keptD {w w' : World} {B g : Nat} {d : Db} {xs : List Int} (h : Rd w (some ⟨g, 0, none⟩) (Value.int .i64) xs) (hx : DgAt B d w) (hgr : w.grownBy w' (some B)) (hp : 0 < xs.length := by decide) : Rd w' (some ⟨g, 0, none⟩) (Value.int .i64) xs :=
  rd_far h 0 hp (by rw [Nat.zero_add]; exact hx.c 0 _ rfl) (fun e => by cases e) hgr
theorem rd_keptT {w w' : World} {B g : Nat} {t : Tab} {xs : List Int} (h : Rd w (some ⟨g, 0, none⟩) (Value.int .i64) xs) (hx : TgAt B t w) (hgr : w.grownBy w' (some B)) (hp : 3 < xs.length := by decide) : Rd w' (some ⟨g, 0, none⟩) (Value.int .i64) xs :=
  rd_far h 3 hp (hx.c 3 _ rfl) (fun e => by cases e) hgr
theorem rd_keptM {w w' : World} {B g : Nat} {m : Msg} {xs : List ByteArray} (h : Rd w (some ⟨g, 0, none⟩) .string xs) (hx : MgAt B m w) (hgr : w.grownBy w' (some B)) (hp : 0 < xs.length := by decide) : Rd w' (some ⟨g, 0, none⟩) .string xs :=
  rd_far h 0 hp (hx.c 0 _ rfl) (fun e => by cases e) hgr
set_option maxHeartbeats 64000000 in
theorem tables_ok (w : World) (hT : Tabs w) : Ret Tryd.prog 26 #[] w (fun v w' => v = .bool true ∧ Below w.heap.size w w') := by
  refine enter0 Tryd.func26 rfl 138 rfl 138 rfl (fun a hF => ?_)
  have hX : Below w.heap.size w w := Below.refl _ w
  repeat (first | refine c_seq ?_ | refine c_region _ ?_ | refine wpList_nil ?_ | refine c_then ?_ | ((apply st hF); (exact d_assign); clear hF; clear a; intro a hF))
  refine st_buildR hF (Value.string) [⟨#[65]⟩] [(0, .string ⟨#[65]⟩)] (und _ _ rfl) inf9 rfl (by kernel_rfl) ⟨rfl, rfl, trivial⟩ (k := fun a v1 hgr6 hb hN hF => ?_)
  clear hgr6
  replace hX := hX.trans (hb.mono hX.size)
  repeat (((apply st hF); (exact d_build (vs := [(1, .slice (some ⟨w.heap.size, 0, none⟩) 1 1)]) (cells := #[.int .i64 0, .int .i64 0, .slice (some ⟨w.heap.size, 0, none⟩) 1 1]) (by kernel_rfl) ⟨rfl, rfl, trivial⟩); clear hF; clear a; intro a hF))
  refine stc hF (one_ok v1 ⟨#[97]⟩ 0 8) cal30 ⟨rfl, rfl, rfl, trivial⟩ (k := fun a v v2 hR hF => ?_)
  obtain ⟨⟨g, rfl, rg⟩, hb⟩ := hR
  replace hN := hN.below hb
  replace hX := hX.trans (hb.mono hX.size)
  have hwls := hX.size
  refine st hF (d_buildSS [(Sig.cells (oneS ⟨#[97]⟩ 0 8 g)).toArray] (und _ _ rfl) inf38 (by decide) (by decide) (by decide) rfl (by simp [Sig.cells]) ⟨rfl, rfl, trivial⟩) rfl (fun a hF => ?_)
  have hb := below_alloc v2 (.cells (([(Sig.cells (oneS ⟨#[97]⟩ 0 8 g)).toArray]).flatMap fun u => u.toList).toArray 38)
  have ls : BkAt v2.heap.size ([oneS ⟨#[97]⟩ 0 8 g].flatMap Sig.cells) 38 _ := bk_alloc v2 Sig.cells [oneS ⟨#[97]⟩ 0 8 g] 38 (([(Sig.cells (oneS ⟨#[97]⟩ 0 8 g)).toArray]).flatMap fun u => u.toList).toArray (by simp)
  generalize v2.alloc _ = v3 at *
  replace hN := hN.below hb
  replace rg := rg.below hb
  replace hX := hX.trans (hb.mono hX.size)
  refine stc hF (two_ok v3 _ 1 1) cal29 ⟨rfl, trivial⟩ (k := fun a v v4 hR hF => ?_)
  obtain ⟨rfl, hb⟩ := hR
  replace ls := ls.below hb
  replace hN := hN.below hb
  replace rg := rg.below hb
  replace hX := hX.trans (hb.mono hX.size)
  have hXb := hX.size
  have hM0 : MsgIn v4 (twoM (some ⟨v2.heap.size, 0, none⟩) 1 1) [(oneS ⟨#[97]⟩ 0 8 g, txA)] := msg_mk (n := 1) rfl rfl rfl rfl (by decide) (ls.rdS (enc := Sig.cells) (xs := [oneS ⟨#[97]⟩ 0 8 g]) sigc_len (by simp)) (fun p hp => by
      simp only [List.mem_cons, List.not_mem_nil, or_false] at hp
      subst hp
      exact sig_in1 rg rfl rfl rfl)
  have hN0 := hN
  have hY : Below v4.heap.size v4 v4 := Below.refl _ _
  clear ls
  clear rg
  clear hN
  have hwlm := hX.size
  have hwhYlm := hY.size
  refine st hF (d_buildSS [(Msg.cells (twoM (some ⟨v2.heap.size, 0, none⟩) 1 1)).toArray] (und _ _ rfl) inf27 (by decide) (by decide) (by decide) rfl (by simp [Msg.cells]) ⟨rfl, rfl, trivial⟩) rfl (fun a hF => ?_)
  have hb := below_alloc v4 (.cells (([(Msg.cells (twoM (some ⟨v2.heap.size, 0, none⟩) 1 1)).toArray]).flatMap fun u => u.toList).toArray 27)
  have lm : BkAt v4.heap.size ([twoM (some ⟨v2.heap.size, 0, none⟩) 1 1].flatMap Msg.cells) 27 _ := bk_alloc v4 Msg.cells [twoM (some ⟨v2.heap.size, 0, none⟩) 1 1] 27 (([(Msg.cells (twoM (some ⟨v2.heap.size, 0, none⟩) 1 1)).toArray]).flatMap fun u => u.toList).toArray (by simp)
  generalize v4.alloc _ = v5 at *
  replace hY := hY.trans (hb.mono hY.size)
  replace hX := hX.trans (hb.mono hX.size)
  repeat (((apply st hF); (exact d_build (vs := [(2, .agg #[.int .i64 0, .int .i64 0, .slice (some ⟨w.heap.size, 0, none⟩) 1 1]), (3, .slice (some ⟨v4.heap.size, 0, none⟩) 1 1)]) (cells := (Db.cells (dbN (w.heap.size) (some ⟨v4.heap.size, 0, none⟩) 1 1 none 0 0)).toArray) (by kernel_rfl) ⟨rfl, rfl, rfl, rfl, trivial⟩); clear hF; clear a; intro a hF))
  have holmhd := lt_at lm
  have hwhd := hX.size
  have hwhYhd := hY.size
  refine st_alloc hF inf62 (k := fun a v6 hg1 hgr1 hsz1 hF => ?_)
  refine st_storeAgg hF (cs := (Db.cells (dbN (w.heap.size) (some ⟨v4.heap.size, 0, none⟩) 1 1 none 0 0)).toArray) (isz _ _ rfl) rfl rfl hg1 (db_cells _) (k := fun a v7 hg2 hgr2 hsz2 hF => ?_)
  have hb2 : Below v5.heap.size v5 v7 := ((Below.refl _ v5).grown hgr1 (Nat.le_refl _) (fun k hk => by cases hk)).grown hgr2 (by omega) (fun k hk => by cases hk; exact Nat.le_refl _)
  have hd : DgAt v5.heap.size (dbN (w.heap.size) (some ⟨v4.heap.size, 0, none⟩) 1 1 none 0 0) v7 := hg2
  replace lm := lm.below hb2
  replace hY := hY.trans (hb2.mono hY.size)
  replace hX := hX.trans (hb2.mono hX.size)
  clear hg1 hg2 hgr1 hgr2 hb2 hsz1 hsz2
  repeat (first | refine c_seq ?_ | refine c_region _ ?_ | refine wpList_nil ?_ | refine c_then ?_ | ((apply st hF); (first | exact d_build (vs := [(0, .int .i64 0), (1, .string ⟨#[111, 102, 102]⟩)]) (cells := (RowV.cells ⟨0, ⟨#[111, 102, 102]⟩⟩).toArray) (by kernel_rfl) ⟨rfl, rfl, rfl, rfl, trivial⟩ | exact d_build (vs := [(0, .int .i64 1), (1, .string ⟨#[111, 110]⟩)]) (cells := (RowV.cells ⟨1, ⟨#[111, 110]⟩⟩).toArray) (by kernel_rfl) ⟨rfl, rfl, rfl, rfl, trivial⟩); clear hF; clear a; intro a hF))
  have hohdlr := lt_at hd
  have hwlr := hX.size
  have hwhYlr := hY.size
  refine st hF (d_buildSS [(RowV.cells (⟨0, ⟨#[111, 102, 102]⟩⟩)).toArray, (RowV.cells (⟨1, ⟨#[111, 110]⟩⟩)).toArray] (und _ _ rfl) inf116 (by decide) (by decide) (by decide) rfl (by simp [RowV.cells]) ⟨rfl, rfl, rfl, rfl, trivial⟩) rfl (fun a hF => ?_)
  have hb := below_alloc v7 (.cells (([(RowV.cells (⟨0, ⟨#[111, 102, 102]⟩⟩)).toArray, (RowV.cells (⟨1, ⟨#[111, 110]⟩⟩)).toArray]).flatMap fun u => u.toList).toArray 116)
  have lr : BkAt v7.heap.size ([⟨0, ⟨#[111, 102, 102]⟩⟩, ⟨1, ⟨#[111, 110]⟩⟩].flatMap RowV.cells) 116 _ := bk_alloc v7 RowV.cells [⟨0, ⟨#[111, 102, 102]⟩⟩, ⟨1, ⟨#[111, 110]⟩⟩] 116 (([(RowV.cells (⟨0, ⟨#[111, 102, 102]⟩⟩)).toArray, (RowV.cells (⟨1, ⟨#[111, 110]⟩⟩)).toArray]).flatMap fun u => u.toList).toArray (by simp)
  generalize v7.alloc _ = v8 at *
  replace lm := lm.below hb
  replace hd := hd.below hb
  replace hY := hY.trans (hb.mono hY.size)
  replace hX := hX.trans (hb.mono hX.size)
  repeat (first | refine c_seq ?_ | refine c_region _ ?_ | refine wpList_nil ?_ | refine c_then ?_ | ((apply st hF); (first | exact d_move | exact d_assign | exact d_build (vs := [(1, .int .u32 5), (3, .string ⟨#[97]⟩), (4, .slice (some ⟨v7.heap.size, 0, none⟩) 2 2)]) (cells := (Tab.cells (tbN false ⟨#[97]⟩ (some ⟨v7.heap.size, 0, none⟩) 2 2)).toArray) (by kernel_rfl) ⟨rfl, rfl, rfl, rfl, rfl, rfl, trivial⟩); clear hF; clear a; intro a hF))
  have holrht := lt_at lr
  have hwht := hX.size
  have hwhYht := hY.size
  refine st_alloc hF inf67 (k := fun a v9 hg1 hgr1 hsz1 hF => ?_)
  refine st_storeAgg hF (cs := (Tab.cells (tbN false ⟨#[97]⟩ (some ⟨v7.heap.size, 0, none⟩) 2 2)).toArray) (isz _ _ rfl) rfl rfl hg1 (tab_cells _) (k := fun a v10 hg2 hgr2 hsz2 hF => ?_)
  have hb2 : Below v8.heap.size v8 v10 := ((Below.refl _ v8).grown hgr1 (Nat.le_refl _) (fun k hk => by cases hk)).grown hgr2 (by omega) (fun k hk => by cases hk; exact Nat.le_refl _)
  have ht : TgAt v8.heap.size (tbN false ⟨#[97]⟩ (some ⟨v7.heap.size, 0, none⟩) 2 2) v10 := hg2
  replace lm := lm.below hb2
  replace hd := hd.below hb2
  replace lr := lr.below hb2
  replace hY := hY.trans (hb2.mono hY.size)
  replace hX := hX.trans (hb2.mono hX.size)
  clear hg1 hg2 hgr1 hgr2 hb2 hsz1 hsz2
  repeat (first | refine c_seq ?_ | refine c_region _ ?_ | refine wpList_nil ?_ | refine c_then ?_ | ((apply st hF); (exact d_loadAgg (agg _ rfl) (isz _ _ rfl) rfl (cells_at ht)); clear hF; clear a; intro a hF))
  have hohtlt := lt_at ht
  have hwlt := hX.size
  have hwhYlt := hY.size
  refine st hF (d_buildSS [(Tab.cells (tbN false ⟨#[97]⟩ (some ⟨v7.heap.size, 0, none⟩) 2 2)).toArray] (und _ _ rfl) inf67 (by decide) (by decide) (by decide) rfl (by simp [Tab.cells]) ⟨rfl, rfl, trivial⟩) rfl (fun a hF => ?_)
  have hb := below_alloc v10 (.cells (([(Tab.cells (tbN false ⟨#[97]⟩ (some ⟨v7.heap.size, 0, none⟩) 2 2)).toArray]).flatMap fun u => u.toList).toArray 67)
  have lt : BkAt v10.heap.size ([tbN false ⟨#[97]⟩ (some ⟨v7.heap.size, 0, none⟩) 2 2].flatMap Tab.cells) 67 _ := bk_alloc v10 Tab.cells [tbN false ⟨#[97]⟩ (some ⟨v7.heap.size, 0, none⟩) 2 2] 67 (([(Tab.cells (tbN false ⟨#[97]⟩ (some ⟨v7.heap.size, 0, none⟩) 2 2)).toArray]).flatMap fun u => u.toList).toArray (by simp)
  generalize v10.alloc _ = v11 at *
  replace lm := lm.below hb
  replace hd := hd.below hb
  replace lr := lr.below hb
  replace ht := ht.below hb
  replace hY := hY.trans (hb.mono hY.size)
  replace hX := hX.trans (hb.mono hX.size)
  repeat (((apply st hF); (exact d_fieldAddr (fld _ _ _ _ rfl) (isz _ _ rfl)); clear hF; clear a; intro a hF))
  refine st_store hF (isz _ _ rfl) hd (i := 0 + 8) (by show 0 + 8 < 9; decide) rfl rfl rfl (k := fun a v12 hg hgr hsz hF => ?_)
  replace hd : DgAt v5.heap.size (dbN (w.heap.size) (some ⟨v4.heap.size, 0, none⟩) 1 1 (some ⟨v10.heap.size, 0, none⟩) 1 1) v12 := hg
  replace lm : BkAt v4.heap.size ([twoM (some ⟨v2.heap.size, 0, none⟩) 1 1].flatMap Msg.cells) 27 v12 := blk_kept lm hgr (by simp; omega)
  replace lr : BkAt v7.heap.size ([⟨0, ⟨#[111, 102, 102]⟩⟩, ⟨1, ⟨#[111, 110]⟩⟩].flatMap RowV.cells) 116 v12 := blk_kept lr hgr (by simp; omega)
  replace ht : TgAt v8.heap.size (tbN false ⟨#[97]⟩ (some ⟨v7.heap.size, 0, none⟩) 2 2) v12 := blk_kept ht hgr (by simp; omega)
  replace lt : BkAt v10.heap.size ([tbN false ⟨#[97]⟩ (some ⟨v7.heap.size, 0, none⟩) 2 2].flatMap Tab.cells) 67 v12 := blk_kept lt hgr (by simp; omega)
  replace hY := hY.grown hgr hY.size (fun k hk => by cases hk; omega)
  replace hX := hX.grown hgr hX.size (fun k hk => by cases hk; omega)
  clear hg hgr hsz
  repeat (first | refine c_seq ?_ | refine c_region _ ?_ | refine wpList_nil ?_ | refine c_then ?_ | ((apply st hF); (exact d_loadAgg (agg _ rfl) (isz _ _ rfl) rfl (cells_at hd)); clear hF; clear a; intro a hF))
  refine stc hF (cdb_0 v12 (dbN (w.heap.size) (some ⟨v4.heap.size, 0, none⟩) 1 1 (some ⟨v10.heap.size, 0, none⟩) 1 1) [⟨#[65]⟩] [(twoM (some ⟨v2.heap.size, 0, none⟩) 1 1, [(oneS ⟨#[97]⟩ 0 8 g, txA)])] [(tbN false ⟨#[97]⟩ (some ⟨v7.heap.size, 0, none⟩) 2 2, [⟨0, ⟨#[111, 102, 102]⟩⟩, ⟨1, ⟨#[111, 110]⟩⟩])] (dbN_in (hN0.below hY) (msgs_bk (ms := [(twoM (some ⟨v2.heap.size, 0, none⟩) 1 1, [(oneS ⟨#[97]⟩ 0 8 g, txA)])]) lm rfl (by decide) (by intro p hp; simp only [List.mem_cons, List.not_mem_nil, or_false] at hp; rcases hp with rfl; exact SigsIn.below hM0 hY) (by intro p hp; simp only [List.mem_cons, List.not_mem_nil, or_false] at hp; rcases hp with rfl; exact ⟨(by intro q hq; simp only [List.mem_cons, List.not_mem_nil, or_false] at hq; rcases hq with rfl; constructor <;> (dsimp only [oneS]; omega)), by dsimp only [twoM]; omega, by dsimp only [twoM]; omega⟩)) (tabs_bk (ts := [(tbN false ⟨#[97]⟩ (some ⟨v7.heap.size, 0, none⟩) 2 2, [⟨0, ⟨#[111, 102, 102]⟩⟩, ⟨1, ⟨#[111, 110]⟩⟩])]) lt rfl (by decide) (by intro p hp; simp only [List.mem_cons, List.not_mem_nil, or_false] at hp; rcases hp with rfl <;> exact rows_bk (n := 2) rfl rfl rfl (rs := [⟨0, ⟨#[111, 102, 102]⟩⟩, ⟨1, ⟨#[111, 110]⟩⟩]) lr rfl (by decide) (by intro r hr; simp only [List.mem_cons, List.not_mem_nil, or_false] at hr; rcases hr with rfl | rfl <;> constructor <;> (dsimp only; omega))) (by intro p hp; simp only [List.mem_cons, List.not_mem_nil, or_false] at hp; rcases hp with rfl <;> exact ⟨⟨by dsimp only [tbN]; omega, by dsimp only [tbN]; omega⟩, by dsimp only [tbN]; decide⟩))) (hT.below hX) ((db_C rfl (ids_mem (by intro p hp; simp only [List.mem_cons, List.not_mem_nil, or_false] at hp; rcases hp with rfl; exact ⟨by dsimp only [twoM]; omega, by dsimp only [twoM]; omega⟩)) (units_mem (by intro p hp; simp only [List.mem_cons, List.not_mem_nil, or_false] at hp; rcases hp with rfl; intro q hq; simp only [List.mem_cons, List.not_mem_nil, or_false] at hq; rcases hq with rfl; rfl)) (texts_mem (by intro p hp; simp only [List.mem_cons, List.not_mem_nil, or_false] at hp; rcases hp with rfl <;> (intro r hr; simp only [List.mem_cons, List.not_mem_nil, or_false] at hr; rcases hr with rfl | rfl) <;> first | exact textE_off | exact textE_on))).trans (by kernel_rfl))) cal21 ⟨rfl, trivial⟩ (k := fun a v v13 hR hF => ?_)
  obtain ⟨rfl, hb⟩ := hR
  replace lm := lm.below hb
  replace hd := hd.below hb
  replace lr := lr.below hb
  replace ht := ht.below hb
  replace lt := lt.below hb
  replace hY := hY.trans (hb.mono hY.size)
  replace hX := hX.trans (hb.mono hX.size)
  clear lt
  repeat (first | refine c_seq ?_ | refine c_region _ ?_ | refine wpList_nil ?_ | refine c_then ?_ | refine wp_skip ?_ | ((apply st hF); (exact d_neN (ifc _ rfl)); clear hF; clear a; intro a hF) | (apply c_cond_f hF; exact rfl; first | exact rfl | assumption))
  refine st_buildR hF (Value.int .i64) val4 [(0, .int .i64 256), (1, .int .i64 (-1)), (2, .int .i64 0), (3, .int .i64 255)] (und _ _ rfl) inf2 rfl (by kernel_rfl) ⟨rfl, rfl, rfl, rfl, rfl, rfl, rfl, rfl, trivial⟩ (k := fun a v14 hgr6 hb hV hF => ?_)
  clear hgr6
  replace lm := lm.below hb
  replace hd := hd.below hb
  replace lr := lr.below hb
  replace ht := ht.below hb
  replace hY := hY.trans (hb.mono hY.size)
  replace hX := hX.trans (hb.mono hX.size)
  repeat (first | refine c_seq ?_ | refine c_region _ ?_ | refine wpList_nil ?_ | refine c_then ?_ | ((apply st hF); (exact d_assign); clear hF; clear a; intro a hF))
  refine st_buildR hF (Value.int .i64) want4 [(0, .int .i64 19), (1, .int .i64 19), (2, .int .i64 12), (3, .int .i64 0)] (und _ _ rfl) inf3 rfl (by kernel_rfl) ⟨rfl, rfl, rfl, rfl, rfl, rfl, rfl, rfl, trivial⟩ (k := fun a v15 hgr6 hb hW hF => ?_)
  clear hgr6
  replace lm := lm.below hb
  replace hd := hd.below hb
  replace lr := lr.below hb
  replace ht := ht.below hb
  replace hV := hV.below hb
  replace hY := hY.trans (hb.mono hY.size)
  replace hX := hX.trans (hb.mono hX.size)
  repeat (first | refine c_seq ?_ | refine c_block ?_ | refine c_region _ ?_ | refine wpList_nil ?_ | refine c_then ?_ | ((apply st hF); (exact d_assign); clear hF; clear a; intro a hF))
  refine c_loop (fun q a wr => ∃ k x : Nat, k ≤ 4 ∧ q = 4 - k ∧ Fr 138 [(1, .pointer (some ⟨v5.heap.size, 0, none⟩)), (3, .pointer (some ⟨v8.heap.size, 0, none⟩)), (4, .slice (some ⟨v13.heap.size, 0, none⟩) 4 4), (5, .slice (some ⟨v14.heap.size, 0, none⟩) 4 4), (6, .int .i64 (k : Nat))] a ∧ DgAt v5.heap.size (dbN (w.heap.size) (some ⟨v4.heap.size, 0, none⟩) 1 1 (some ⟨x, 0, none⟩) 1 1) wr ∧ TgAt v8.heap.size (tbN false ⟨#[97]⟩ (some ⟨v7.heap.size, 0, none⟩) 2 2) wr ∧ BkAt v4.heap.size ([twoM (some ⟨v2.heap.size, 0, none⟩) 1 1].flatMap Msg.cells) 27 wr ∧ BkAt v7.heap.size ([⟨0, ⟨#[111, 102, 102]⟩⟩, ⟨1, ⟨#[111, 110]⟩⟩].flatMap RowV.cells) 116 wr ∧ Rd wr (some ⟨v13.heap.size, 0, none⟩) (Value.int .i64) val4 ∧ Rd wr (some ⟨v14.heap.size, 0, none⟩) (Value.int .i64) want4 ∧ Below w.heap.size w wr ∧ Below v4.heap.size v4 wr) 4
    ⟨0, _, Nat.zero_le _, rfl, hF.keep' ⟨rfl, rfl, rfl, rfl, rfl, trivial⟩, hd, ht, lm, lr, hV, hW, hX, hY⟩ ?_
  clear hF a hd ht lm lr hV hW hX hY
  rintro q a v16 ⟨k, x, hk, rfl, hF, hd, ht, lm, lr, hV, hW, hX, hY⟩
  by_cases hlt : k < 4
  case pos =>
    rcases (show k = 0 ∨ k = 1 ∨ k = 2 ∨ k = 3 by omega) with rfl | rfl | rfl | rfl
    · have hid0 := 0
      repeat (first | refine c_seq ?_ | refine c_block ?_ | refine c_region _ ?_ | refine wpList_nil ?_ | refine c_then ?_ | refine wp_skip ?_ | ((apply st hF); (first | exact d_move | exact d_cmpT | exact d_len (und _ _ rfl) | exact d_loadAgg (agg _ rfl) (isz _ _ rfl) rfl (cells_at ht)); clear hF; clear a; intro a hF) | (apply c_cond_t hF; exact rfl; first | exact rfl | assumption))
      have hohthu := lt_at ht
      have hwhu := hX.size
      have hwhYhu := hY.size
      refine st_alloc hF inf67 (k := fun a v17 hg1 hgr1 hsz1 hF => ?_)
      refine st_storeAgg hF (cs := (Tab.cells (tbN false ⟨#[97]⟩ (some ⟨v7.heap.size, 0, none⟩) 2 2)).toArray) (isz _ _ rfl) rfl rfl hg1 (tab_cells _) (k := fun a v18 hg2 hgr2 hsz2 hF => ?_)
      have hb2 : Below v16.heap.size v16 v18 := ((Below.refl _ v16).grown hgr1 (Nat.le_refl _) (fun k hk => by cases hk)).grown hgr2 (by omega) (fun k hk => by cases hk; exact Nat.le_refl _)
      have hu : TgAt v16.heap.size (tbN false ⟨#[97]⟩ (some ⟨v7.heap.size, 0, none⟩) 2 2) v18 := hg2
      replace lm := lm.below hb2
      replace hd := hd.below hb2
      replace lr := lr.below hb2
      replace ht := ht.below hb2
      replace hV := hV.below hb2
      replace hW := hW.below hb2
      replace hY := hY.trans (hb2.mono hY.size)
      replace hX := hX.trans (hb2.mono hX.size)
      clear hg1 hg2 hgr1 hgr2 hb2 hsz1 hsz2
      have hcv : v18.cell? ⟨v13.heap.size, 0 + 0, none⟩ = some (.int .i64 256) := by
        obtain ⟨b1, o1, e1, h1⟩ := hV 0 (by decide)
        cases e1
        exact h1
      repeat (first | refine c_seq ?_ | refine c_region _ ?_ | refine wpList_nil ?_ | refine c_then ?_ | ((apply st hF); (first | exact d_move | exact d_indexAddr1 (und _ _ rfl) (isz _ _ rfl) | exact d_build (vs := [(0, .int .i64 0), (1, .string ⟨#[111, 102, 102]⟩)]) (cells := (RowV.cells ⟨0, ⟨#[111, 102, 102]⟩⟩).toArray) (by kernel_rfl) ⟨rfl, rfl, rfl, rfl, trivial⟩ | exact d_build (vs := [(0, .int .i64 256), (1, .string ⟨#[111, 110]⟩)]) (cells := (RowV.cells ⟨256, ⟨#[111, 110]⟩⟩).toArray) (by kernel_rfl) ⟨rfl, rfl, rfl, rfl, trivial⟩ | exact d_load (und _ _ rfl) hcv); clear hF; clear a; intro a hF))
      have hohulq := lt_at hu
      have hwlq := hX.size
      have hwhYlq := hY.size
      refine st hF (d_buildSS [(RowV.cells (⟨0, ⟨#[111, 102, 102]⟩⟩)).toArray, (RowV.cells (⟨256, ⟨#[111, 110]⟩⟩)).toArray] (und _ _ rfl) inf116 (by decide) (by decide) (by decide) rfl (by simp [RowV.cells]) ⟨rfl, rfl, rfl, rfl, trivial⟩) rfl (fun a hF => ?_)
      have hb := below_alloc v18 (.cells (([(RowV.cells (⟨0, ⟨#[111, 102, 102]⟩⟩)).toArray, (RowV.cells (⟨256, ⟨#[111, 110]⟩⟩)).toArray]).flatMap fun u => u.toList).toArray 116)
      have lq : BkAt v18.heap.size ([⟨0, ⟨#[111, 102, 102]⟩⟩, ⟨256, ⟨#[111, 110]⟩⟩].flatMap RowV.cells) 116 _ := bk_alloc v18 RowV.cells [⟨0, ⟨#[111, 102, 102]⟩⟩, ⟨256, ⟨#[111, 110]⟩⟩] 116 (([(RowV.cells (⟨0, ⟨#[111, 102, 102]⟩⟩)).toArray, (RowV.cells (⟨256, ⟨#[111, 110]⟩⟩)).toArray]).flatMap fun u => u.toList).toArray (by simp)
      generalize v18.alloc _ = v19 at *
      replace lm := lm.below hb
      replace hd := hd.below hb
      replace lr := lr.below hb
      replace ht := ht.below hb
      replace hu := hu.below hb
      replace hV := hV.below hb
      replace hW := hW.below hb
      replace hY := hY.trans (hb.mono hY.size)
      replace hX := hX.trans (hb.mono hX.size)
      repeat (((apply st hF); (exact d_fieldAddr (fld _ _ _ _ rfl) (isz _ _ rfl)); clear hF; clear a; intro a hF))
      refine st_store hF (isz _ _ rfl) hu (i := 0 + 5) (by show 0 + 5 < 6; decide) rfl rfl rfl (k := fun a v20 hg hgr hsz hF => ?_)
      replace hV := rd_keptT hV hu hgr
      replace hW := rd_keptT hW hu hgr
      replace hu : TgAt v16.heap.size (tbN false ⟨#[97]⟩ (some ⟨v18.heap.size, 0, none⟩) 2 2) v20 := hg
      replace lm : BkAt v4.heap.size ([twoM (some ⟨v2.heap.size, 0, none⟩) 1 1].flatMap Msg.cells) 27 v20 := blk_kept lm hgr (by simp; omega)
      replace hd : DgAt v5.heap.size (dbN (w.heap.size) (some ⟨v4.heap.size, 0, none⟩) 1 1 (some ⟨x, 0, none⟩) 1 1) v20 := blk_kept hd hgr (by simp; omega)
      replace lr : BkAt v7.heap.size ([⟨0, ⟨#[111, 102, 102]⟩⟩, ⟨1, ⟨#[111, 110]⟩⟩].flatMap RowV.cells) 116 v20 := blk_kept lr hgr (by simp; omega)
      replace ht : TgAt v8.heap.size (tbN false ⟨#[97]⟩ (some ⟨v7.heap.size, 0, none⟩) 2 2) v20 := blk_kept ht hgr (by simp; omega)
      replace lq : BkAt v18.heap.size ([⟨0, ⟨#[111, 102, 102]⟩⟩, ⟨256, ⟨#[111, 110]⟩⟩].flatMap RowV.cells) 116 v20 := blk_kept lq hgr (by simp; omega)
      replace hY := hY.grown hgr hY.size (fun k hk => by cases hk; omega)
      replace hX := hX.grown hgr hX.size (fun k hk => by cases hk; omega)
      clear hg hgr hsz
      repeat (first | refine c_seq ?_ | refine c_region _ ?_ | refine wpList_nil ?_ | refine c_then ?_ | ((apply st hF); (exact d_loadAgg (agg _ rfl) (isz _ _ rfl) rfl (cells_at hu)); clear hF; clear a; intro a hF))
      have holqlx := lt_at lq
      have hwlx := hX.size
      have hwhYlx := hY.size
      refine st hF (d_buildSS [(Tab.cells (tbN false ⟨#[97]⟩ (some ⟨v18.heap.size, 0, none⟩) 2 2)).toArray] (und _ _ rfl) inf67 (by decide) (by decide) (by decide) rfl (by simp [Tab.cells]) ⟨rfl, rfl, trivial⟩) rfl (fun a hF => ?_)
      have hb := below_alloc v20 (.cells (([(Tab.cells (tbN false ⟨#[97]⟩ (some ⟨v18.heap.size, 0, none⟩) 2 2)).toArray]).flatMap fun u => u.toList).toArray 67)
      have lx : BkAt v20.heap.size ([tbN false ⟨#[97]⟩ (some ⟨v18.heap.size, 0, none⟩) 2 2].flatMap Tab.cells) 67 _ := bk_alloc v20 Tab.cells [tbN false ⟨#[97]⟩ (some ⟨v18.heap.size, 0, none⟩) 2 2] 67 (([(Tab.cells (tbN false ⟨#[97]⟩ (some ⟨v18.heap.size, 0, none⟩) 2 2)).toArray]).flatMap fun u => u.toList).toArray (by simp)
      generalize v20.alloc _ = v21 at *
      replace lm := lm.below hb
      replace hd := hd.below hb
      replace lr := lr.below hb
      replace ht := ht.below hb
      replace hu := hu.below hb
      replace lq := lq.below hb
      replace hV := hV.below hb
      replace hW := hW.below hb
      replace hY := hY.trans (hb.mono hY.size)
      replace hX := hX.trans (hb.mono hX.size)
      repeat (((apply st hF); (exact d_fieldAddr (fld _ _ _ _ rfl) (isz _ _ rfl)); clear hF; clear a; intro a hF))
      refine st_store hF (isz _ _ rfl) hd (i := 0 + 8) (by show 0 + 8 < 9; decide) rfl rfl rfl (k := fun a v22 hg hgr hsz hF => ?_)
      replace hV := rd_keptD hV hd hgr
      replace hW := rd_keptD hW hd hgr
      replace hd : DgAt v5.heap.size (dbN (w.heap.size) (some ⟨v4.heap.size, 0, none⟩) 1 1 (some ⟨v20.heap.size, 0, none⟩) 1 1) v22 := hg
      replace lm : BkAt v4.heap.size ([twoM (some ⟨v2.heap.size, 0, none⟩) 1 1].flatMap Msg.cells) 27 v22 := blk_kept lm hgr (by simp; omega)
      replace lr : BkAt v7.heap.size ([⟨0, ⟨#[111, 102, 102]⟩⟩, ⟨1, ⟨#[111, 110]⟩⟩].flatMap RowV.cells) 116 v22 := blk_kept lr hgr (by simp; omega)
      replace ht : TgAt v8.heap.size (tbN false ⟨#[97]⟩ (some ⟨v7.heap.size, 0, none⟩) 2 2) v22 := blk_kept ht hgr (by simp; omega)
      replace hu : TgAt v16.heap.size (tbN false ⟨#[97]⟩ (some ⟨v18.heap.size, 0, none⟩) 2 2) v22 := blk_kept hu hgr (by simp; omega)
      replace lq : BkAt v18.heap.size ([⟨0, ⟨#[111, 102, 102]⟩⟩, ⟨256, ⟨#[111, 110]⟩⟩].flatMap RowV.cells) 116 v22 := blk_kept lq hgr (by simp; omega)
      replace lx : BkAt v20.heap.size ([tbN false ⟨#[97]⟩ (some ⟨v18.heap.size, 0, none⟩) 2 2].flatMap Tab.cells) 67 v22 := blk_kept lx hgr (by simp; omega)
      replace hY := hY.grown hgr hY.size (fun k hk => by cases hk; omega)
      replace hX := hX.grown hgr hX.size (fun k hk => by cases hk; omega)
      clear hg hgr hsz
      have hcw : v22.cell? ⟨v14.heap.size, 0 + 0, none⟩ = some (.int .i64 19) := by
        obtain ⟨b1, o1, e1, h1⟩ := hW 0 (by decide)
        cases e1
        exact h1
      repeat (first | (refine c_region_mix (fun wq => Below v22.heap.size v22 wq) [(0, true), (2, true), (3, true), (4, true), (5, true), (1, false), (6, false), (7, true)] 15 mixed (by kernel_rfl) (below_more (Below.refl _ v22) 1) ?_; simp only [pickX, List.filterMap_cons, List.getElem?_cons_zero, List.getElem?_cons_succ, List.filterMap_nil, Option.map_some]) | refine c_seq ?_ | refine wpList_nil ?_ | refine c_then ?_)
      have hZ : Below v22.heap.size v22 (v22.drewN 1) := below_more (Below.refl _ v22) 1
      have hdc := hd
      generalize v22.drewN 1 = v23 at *
      replace lm := lm.below hZ
      replace hd := hd.below hZ
      replace lr := lr.below hZ
      replace ht := ht.below hZ
      replace hu := hu.below hZ
      replace lq := lq.below hZ
      replace lx := lx.below hZ
      replace hV := hV.below hZ
      replace hW := hW.below hZ
      replace hY := hY.trans (hZ.mono hY.size)
      replace hX := hX.trans (hZ.mono hX.size)
      repeat (((apply x_step hF); intro wq hwq; (first | exact d_move | exact d_indexAddr1 (und _ _ rfl) (isz _ _ rfl) | exact d_loadAgg (agg _ rfl) (isz _ _ rfl) rfl (cells_at (hdc.below hwq)) | exact d_load (und _ _ rfl) ((keep_c hcw hwq))); clear hF; clear a; intro a hF))
      refine x_one ?_
      refine stc hF (cdb_k v23 (dbN (w.heap.size) (some ⟨v4.heap.size, 0, none⟩) 1 1 (some ⟨v20.heap.size, 0, none⟩) 1 1) [⟨#[65]⟩] [(twoM (some ⟨v2.heap.size, 0, none⟩) 1 1, [(oneS ⟨#[97]⟩ 0 8 g, txA)])] [(tbN false ⟨#[97]⟩ (some ⟨v18.heap.size, 0, none⟩) 2 2, [⟨0, ⟨#[111, 102, 102]⟩⟩, ⟨256, ⟨#[111, 110]⟩⟩])] (dbN_in (hN0.below hY) (msgs_bk (ms := [(twoM (some ⟨v2.heap.size, 0, none⟩) 1 1, [(oneS ⟨#[97]⟩ 0 8 g, txA)])]) lm rfl (by decide) (by intro p hp; simp only [List.mem_cons, List.not_mem_nil, or_false] at hp; rcases hp with rfl; exact SigsIn.below hM0 hY) (by intro p hp; simp only [List.mem_cons, List.not_mem_nil, or_false] at hp; rcases hp with rfl; exact ⟨(by intro q hq; simp only [List.mem_cons, List.not_mem_nil, or_false] at hq; rcases hq with rfl; constructor <;> (dsimp only [oneS]; omega)), by dsimp only [twoM]; omega, by dsimp only [twoM]; omega⟩)) (tabs_bk (ts := [(tbN false ⟨#[97]⟩ (some ⟨v18.heap.size, 0, none⟩) 2 2, [⟨0, ⟨#[111, 102, 102]⟩⟩, ⟨256, ⟨#[111, 110]⟩⟩])]) lx rfl (by decide) (by intro p hp; simp only [List.mem_cons, List.not_mem_nil, or_false] at hp; rcases hp with rfl <;> exact rows_bk (n := 2) rfl rfl rfl (rs := [⟨0, ⟨#[111, 102, 102]⟩⟩, ⟨256, ⟨#[111, 110]⟩⟩]) lq rfl (by decide) (by intro r hr; simp only [List.mem_cons, List.not_mem_nil, or_false] at hr; rcases hr with rfl | rfl <;> constructor <;> (dsimp only; omega))) (by intro p hp; simp only [List.mem_cons, List.not_mem_nil, or_false] at hp; rcases hp with rfl <;> exact ⟨⟨by dsimp only [tbN]; omega, by dsimp only [tbN]; omega⟩, by dsimp only [tbN]; decide⟩))) (hT.below hX) 19 0 0 ((db_C rfl (ids_mem (by intro p hp; simp only [List.mem_cons, List.not_mem_nil, or_false] at hp; rcases hp with rfl; exact ⟨by dsimp only [twoM]; omega, by dsimp only [twoM]; omega⟩)) (units_mem (by intro p hp; simp only [List.mem_cons, List.not_mem_nil, or_false] at hp; rcases hp with rfl; intro q hq; simp only [List.mem_cons, List.not_mem_nil, or_false] at hq; rcases hq with rfl; rfl)) (texts_mem (by intro p hp; simp only [List.mem_cons, List.not_mem_nil, or_false] at hp; rcases hp with rfl <;> (intro r hr; simp only [List.mem_cons, List.not_mem_nil, or_false] at hr; rcases hr with rfl | rfl) <;> first | exact textE_off | exact textE_on))).trans (by kernel_rfl)) (by decide)) cal21 ⟨rfl, trivial⟩ (k := fun a v v24 hR hF => ?_)
      obtain ⟨rfl, hb⟩ := hR
      replace lm := lm.below hb
      replace hd := hd.below hb
      replace lr := lr.below hb
      replace ht := ht.below hb
      replace hu := hu.below hb
      replace lq := lq.below hb
      replace lx := lx.below hb
      replace hV := hV.below hb
      replace hW := hW.below hb
      replace hY := hY.trans (hb.mono hY.size)
      replace hX := hX.trans (hb.mono hX.size)
      replace hZ := hZ.trans (hb.mono hZ.size)
      refine wpList_nil ⟨rfl, hZ, x_one ?_⟩
      refine stc hF (no_is v24 19 0 0 (by decide) (by decide)) cal57 ⟨rfl, rfl, trivial⟩ (k := fun a v v25 hR hF => ?_)
      obtain ⟨rfl, hb⟩ := hR
      replace lm := lm.below hb
      replace hd := hd.below hb
      replace lr := lr.below hb
      replace ht := ht.below hb
      replace hu := hu.below hb
      replace lq := lq.below hb
      replace lx := lx.below hb
      replace hV := hV.below hb
      replace hW := hW.below hb
      replace hY := hY.trans (hb.mono hY.size)
      replace hX := hX.trans (hb.mono hX.size)
      replace hZ := hZ.trans (hb.mono hZ.size)
      refine wpList_nil ⟨rfl, hZ, ?_⟩
      repeat (((apply x_step hF); intro wq hwq; (exact d_not); clear hF; clear a; intro a hF))
      refine x_nil ?_
      repeat (first | refine c_region _ ?_ | refine wpList_nil ?_ | refine c_then ?_ | refine c_in ?_ | refine wp_skip ?_ | ((apply st hF); (first | exact d_move | exact d_assign | exact d_add); clear hF; clear a; intro a hF) | (apply c_cond_f hF; exact rfl; first | exact rfl | assumption))
      exact ⟨3, by decide, 1, _, by decide, rfl, hF.keep' ⟨rfl, rfl, rfl, rfl, rfl, trivial⟩, hd, ht, lm, lr, hV, hW, hX, hY⟩
    · have hid0 := 0
      repeat (first | refine c_seq ?_ | refine c_block ?_ | refine c_region _ ?_ | refine wpList_nil ?_ | refine c_then ?_ | refine wp_skip ?_ | ((apply st hF); (first | exact d_move | exact d_cmpT | exact d_len (und _ _ rfl) | exact d_loadAgg (agg _ rfl) (isz _ _ rfl) rfl (cells_at ht)); clear hF; clear a; intro a hF) | (apply c_cond_t hF; exact rfl; first | exact rfl | assumption))
      have hohthu := lt_at ht
      have hwhu := hX.size
      have hwhYhu := hY.size
      refine st_alloc hF inf67 (k := fun a v26 hg1 hgr1 hsz1 hF => ?_)
      refine st_storeAgg hF (cs := (Tab.cells (tbN false ⟨#[97]⟩ (some ⟨v7.heap.size, 0, none⟩) 2 2)).toArray) (isz _ _ rfl) rfl rfl hg1 (tab_cells _) (k := fun a v27 hg2 hgr2 hsz2 hF => ?_)
      have hb2 : Below v16.heap.size v16 v27 := ((Below.refl _ v16).grown hgr1 (Nat.le_refl _) (fun k hk => by cases hk)).grown hgr2 (by omega) (fun k hk => by cases hk; exact Nat.le_refl _)
      have hu : TgAt v16.heap.size (tbN false ⟨#[97]⟩ (some ⟨v7.heap.size, 0, none⟩) 2 2) v27 := hg2
      replace lm := lm.below hb2
      replace hd := hd.below hb2
      replace lr := lr.below hb2
      replace ht := ht.below hb2
      replace hV := hV.below hb2
      replace hW := hW.below hb2
      replace hY := hY.trans (hb2.mono hY.size)
      replace hX := hX.trans (hb2.mono hX.size)
      clear hg1 hg2 hgr1 hgr2 hb2 hsz1 hsz2
      have hcv : v27.cell? ⟨v13.heap.size, 0 + 1, none⟩ = some (.int .i64 (-1)) := by
        obtain ⟨b1, o1, e1, h1⟩ := hV 1 (by decide)
        cases e1
        exact h1
      repeat (first | refine c_seq ?_ | refine c_region _ ?_ | refine wpList_nil ?_ | refine c_then ?_ | ((apply st hF); (first | exact d_move | exact d_indexAddr1 (und _ _ rfl) (isz _ _ rfl) | exact d_build (vs := [(0, .int .i64 0), (1, .string ⟨#[111, 102, 102]⟩)]) (cells := (RowV.cells ⟨0, ⟨#[111, 102, 102]⟩⟩).toArray) (by kernel_rfl) ⟨rfl, rfl, rfl, rfl, trivial⟩ | exact d_build (vs := [(0, .int .i64 (-1)), (1, .string ⟨#[111, 110]⟩)]) (cells := (RowV.cells ⟨(-1), ⟨#[111, 110]⟩⟩).toArray) (by kernel_rfl) ⟨rfl, rfl, rfl, rfl, trivial⟩ | exact d_load (und _ _ rfl) hcv); clear hF; clear a; intro a hF))
      have hohulq := lt_at hu
      have hwlq := hX.size
      have hwhYlq := hY.size
      refine st hF (d_buildSS [(RowV.cells (⟨0, ⟨#[111, 102, 102]⟩⟩)).toArray, (RowV.cells (⟨(-1), ⟨#[111, 110]⟩⟩)).toArray] (und _ _ rfl) inf116 (by decide) (by decide) (by decide) rfl (by simp [RowV.cells]) ⟨rfl, rfl, rfl, rfl, trivial⟩) rfl (fun a hF => ?_)
      have hb := below_alloc v27 (.cells (([(RowV.cells (⟨0, ⟨#[111, 102, 102]⟩⟩)).toArray, (RowV.cells (⟨(-1), ⟨#[111, 110]⟩⟩)).toArray]).flatMap fun u => u.toList).toArray 116)
      have lq : BkAt v27.heap.size ([⟨0, ⟨#[111, 102, 102]⟩⟩, ⟨(-1), ⟨#[111, 110]⟩⟩].flatMap RowV.cells) 116 _ := bk_alloc v27 RowV.cells [⟨0, ⟨#[111, 102, 102]⟩⟩, ⟨(-1), ⟨#[111, 110]⟩⟩] 116 (([(RowV.cells (⟨0, ⟨#[111, 102, 102]⟩⟩)).toArray, (RowV.cells (⟨(-1), ⟨#[111, 110]⟩⟩)).toArray]).flatMap fun u => u.toList).toArray (by simp)
      generalize v27.alloc _ = v28 at *
      replace lm := lm.below hb
      replace hd := hd.below hb
      replace lr := lr.below hb
      replace ht := ht.below hb
      replace hu := hu.below hb
      replace hV := hV.below hb
      replace hW := hW.below hb
      replace hY := hY.trans (hb.mono hY.size)
      replace hX := hX.trans (hb.mono hX.size)
      repeat (((apply st hF); (exact d_fieldAddr (fld _ _ _ _ rfl) (isz _ _ rfl)); clear hF; clear a; intro a hF))
      refine st_store hF (isz _ _ rfl) hu (i := 0 + 5) (by show 0 + 5 < 6; decide) rfl rfl rfl (k := fun a v29 hg hgr hsz hF => ?_)
      replace hV := rd_keptT hV hu hgr
      replace hW := rd_keptT hW hu hgr
      replace hu : TgAt v16.heap.size (tbN false ⟨#[97]⟩ (some ⟨v27.heap.size, 0, none⟩) 2 2) v29 := hg
      replace lm : BkAt v4.heap.size ([twoM (some ⟨v2.heap.size, 0, none⟩) 1 1].flatMap Msg.cells) 27 v29 := blk_kept lm hgr (by simp; omega)
      replace hd : DgAt v5.heap.size (dbN (w.heap.size) (some ⟨v4.heap.size, 0, none⟩) 1 1 (some ⟨x, 0, none⟩) 1 1) v29 := blk_kept hd hgr (by simp; omega)
      replace lr : BkAt v7.heap.size ([⟨0, ⟨#[111, 102, 102]⟩⟩, ⟨1, ⟨#[111, 110]⟩⟩].flatMap RowV.cells) 116 v29 := blk_kept lr hgr (by simp; omega)
      replace ht : TgAt v8.heap.size (tbN false ⟨#[97]⟩ (some ⟨v7.heap.size, 0, none⟩) 2 2) v29 := blk_kept ht hgr (by simp; omega)
      replace lq : BkAt v27.heap.size ([⟨0, ⟨#[111, 102, 102]⟩⟩, ⟨(-1), ⟨#[111, 110]⟩⟩].flatMap RowV.cells) 116 v29 := blk_kept lq hgr (by simp; omega)
      replace hY := hY.grown hgr hY.size (fun k hk => by cases hk; omega)
      replace hX := hX.grown hgr hX.size (fun k hk => by cases hk; omega)
      clear hg hgr hsz
      repeat (first | refine c_seq ?_ | refine c_region _ ?_ | refine wpList_nil ?_ | refine c_then ?_ | ((apply st hF); (exact d_loadAgg (agg _ rfl) (isz _ _ rfl) rfl (cells_at hu)); clear hF; clear a; intro a hF))
      have holqlx := lt_at lq
      have hwlx := hX.size
      have hwhYlx := hY.size
      refine st hF (d_buildSS [(Tab.cells (tbN false ⟨#[97]⟩ (some ⟨v27.heap.size, 0, none⟩) 2 2)).toArray] (und _ _ rfl) inf67 (by decide) (by decide) (by decide) rfl (by simp [Tab.cells]) ⟨rfl, rfl, trivial⟩) rfl (fun a hF => ?_)
      have hb := below_alloc v29 (.cells (([(Tab.cells (tbN false ⟨#[97]⟩ (some ⟨v27.heap.size, 0, none⟩) 2 2)).toArray]).flatMap fun u => u.toList).toArray 67)
      have lx : BkAt v29.heap.size ([tbN false ⟨#[97]⟩ (some ⟨v27.heap.size, 0, none⟩) 2 2].flatMap Tab.cells) 67 _ := bk_alloc v29 Tab.cells [tbN false ⟨#[97]⟩ (some ⟨v27.heap.size, 0, none⟩) 2 2] 67 (([(Tab.cells (tbN false ⟨#[97]⟩ (some ⟨v27.heap.size, 0, none⟩) 2 2)).toArray]).flatMap fun u => u.toList).toArray (by simp)
      generalize v29.alloc _ = v30 at *
      replace lm := lm.below hb
      replace hd := hd.below hb
      replace lr := lr.below hb
      replace ht := ht.below hb
      replace hu := hu.below hb
      replace lq := lq.below hb
      replace hV := hV.below hb
      replace hW := hW.below hb
      replace hY := hY.trans (hb.mono hY.size)
      replace hX := hX.trans (hb.mono hX.size)
      repeat (((apply st hF); (exact d_fieldAddr (fld _ _ _ _ rfl) (isz _ _ rfl)); clear hF; clear a; intro a hF))
      refine st_store hF (isz _ _ rfl) hd (i := 0 + 8) (by show 0 + 8 < 9; decide) rfl rfl rfl (k := fun a v31 hg hgr hsz hF => ?_)
      replace hV := rd_keptD hV hd hgr
      replace hW := rd_keptD hW hd hgr
      replace hd : DgAt v5.heap.size (dbN (w.heap.size) (some ⟨v4.heap.size, 0, none⟩) 1 1 (some ⟨v29.heap.size, 0, none⟩) 1 1) v31 := hg
      replace lm : BkAt v4.heap.size ([twoM (some ⟨v2.heap.size, 0, none⟩) 1 1].flatMap Msg.cells) 27 v31 := blk_kept lm hgr (by simp; omega)
      replace lr : BkAt v7.heap.size ([⟨0, ⟨#[111, 102, 102]⟩⟩, ⟨1, ⟨#[111, 110]⟩⟩].flatMap RowV.cells) 116 v31 := blk_kept lr hgr (by simp; omega)
      replace ht : TgAt v8.heap.size (tbN false ⟨#[97]⟩ (some ⟨v7.heap.size, 0, none⟩) 2 2) v31 := blk_kept ht hgr (by simp; omega)
      replace hu : TgAt v16.heap.size (tbN false ⟨#[97]⟩ (some ⟨v27.heap.size, 0, none⟩) 2 2) v31 := blk_kept hu hgr (by simp; omega)
      replace lq : BkAt v27.heap.size ([⟨0, ⟨#[111, 102, 102]⟩⟩, ⟨(-1), ⟨#[111, 110]⟩⟩].flatMap RowV.cells) 116 v31 := blk_kept lq hgr (by simp; omega)
      replace lx : BkAt v29.heap.size ([tbN false ⟨#[97]⟩ (some ⟨v27.heap.size, 0, none⟩) 2 2].flatMap Tab.cells) 67 v31 := blk_kept lx hgr (by simp; omega)
      replace hY := hY.grown hgr hY.size (fun k hk => by cases hk; omega)
      replace hX := hX.grown hgr hX.size (fun k hk => by cases hk; omega)
      clear hg hgr hsz
      have hcw : v31.cell? ⟨v14.heap.size, 0 + 1, none⟩ = some (.int .i64 19) := by
        obtain ⟨b1, o1, e1, h1⟩ := hW 1 (by decide)
        cases e1
        exact h1
      repeat (first | (refine c_region_mix (fun wq => Below v31.heap.size v31 wq) [(0, true), (2, true), (3, true), (4, true), (5, true), (1, false), (6, false), (7, true)] 15 mixed (by kernel_rfl) (below_more (Below.refl _ v31) 1) ?_; simp only [pickX, List.filterMap_cons, List.getElem?_cons_zero, List.getElem?_cons_succ, List.filterMap_nil, Option.map_some]) | refine c_seq ?_ | refine wpList_nil ?_ | refine c_then ?_)
      have hZ : Below v31.heap.size v31 (v31.drewN 1) := below_more (Below.refl _ v31) 1
      have hdc := hd
      generalize v31.drewN 1 = v32 at *
      replace lm := lm.below hZ
      replace hd := hd.below hZ
      replace lr := lr.below hZ
      replace ht := ht.below hZ
      replace hu := hu.below hZ
      replace lq := lq.below hZ
      replace lx := lx.below hZ
      replace hV := hV.below hZ
      replace hW := hW.below hZ
      replace hY := hY.trans (hZ.mono hY.size)
      replace hX := hX.trans (hZ.mono hX.size)
      repeat (((apply x_step hF); intro wq hwq; (first | exact d_move | exact d_indexAddr1 (und _ _ rfl) (isz _ _ rfl) | exact d_loadAgg (agg _ rfl) (isz _ _ rfl) rfl (cells_at (hdc.below hwq)) | exact d_load (und _ _ rfl) ((keep_c hcw hwq))); clear hF; clear a; intro a hF))
      refine x_one ?_
      refine stc hF (cdb_k v32 (dbN (w.heap.size) (some ⟨v4.heap.size, 0, none⟩) 1 1 (some ⟨v29.heap.size, 0, none⟩) 1 1) [⟨#[65]⟩] [(twoM (some ⟨v2.heap.size, 0, none⟩) 1 1, [(oneS ⟨#[97]⟩ 0 8 g, txA)])] [(tbN false ⟨#[97]⟩ (some ⟨v27.heap.size, 0, none⟩) 2 2, [⟨0, ⟨#[111, 102, 102]⟩⟩, ⟨(-1), ⟨#[111, 110]⟩⟩])] (dbN_in (hN0.below hY) (msgs_bk (ms := [(twoM (some ⟨v2.heap.size, 0, none⟩) 1 1, [(oneS ⟨#[97]⟩ 0 8 g, txA)])]) lm rfl (by decide) (by intro p hp; simp only [List.mem_cons, List.not_mem_nil, or_false] at hp; rcases hp with rfl; exact SigsIn.below hM0 hY) (by intro p hp; simp only [List.mem_cons, List.not_mem_nil, or_false] at hp; rcases hp with rfl; exact ⟨(by intro q hq; simp only [List.mem_cons, List.not_mem_nil, or_false] at hq; rcases hq with rfl; constructor <;> (dsimp only [oneS]; omega)), by dsimp only [twoM]; omega, by dsimp only [twoM]; omega⟩)) (tabs_bk (ts := [(tbN false ⟨#[97]⟩ (some ⟨v27.heap.size, 0, none⟩) 2 2, [⟨0, ⟨#[111, 102, 102]⟩⟩, ⟨(-1), ⟨#[111, 110]⟩⟩])]) lx rfl (by decide) (by intro p hp; simp only [List.mem_cons, List.not_mem_nil, or_false] at hp; rcases hp with rfl <;> exact rows_bk (n := 2) rfl rfl rfl (rs := [⟨0, ⟨#[111, 102, 102]⟩⟩, ⟨(-1), ⟨#[111, 110]⟩⟩]) lq rfl (by decide) (by intro r hr; simp only [List.mem_cons, List.not_mem_nil, or_false] at hr; rcases hr with rfl | rfl <;> constructor <;> (dsimp only; omega))) (by intro p hp; simp only [List.mem_cons, List.not_mem_nil, or_false] at hp; rcases hp with rfl <;> exact ⟨⟨by dsimp only [tbN]; omega, by dsimp only [tbN]; omega⟩, by dsimp only [tbN]; decide⟩))) (hT.below hX) 19 0 0 ((db_C rfl (ids_mem (by intro p hp; simp only [List.mem_cons, List.not_mem_nil, or_false] at hp; rcases hp with rfl; exact ⟨by dsimp only [twoM]; omega, by dsimp only [twoM]; omega⟩)) (units_mem (by intro p hp; simp only [List.mem_cons, List.not_mem_nil, or_false] at hp; rcases hp with rfl; intro q hq; simp only [List.mem_cons, List.not_mem_nil, or_false] at hq; rcases hq with rfl; rfl)) (texts_mem (by intro p hp; simp only [List.mem_cons, List.not_mem_nil, or_false] at hp; rcases hp with rfl <;> (intro r hr; simp only [List.mem_cons, List.not_mem_nil, or_false] at hr; rcases hr with rfl | rfl) <;> first | exact textE_off | exact textE_on))).trans (by kernel_rfl)) (by decide)) cal21 ⟨rfl, trivial⟩ (k := fun a v v33 hR hF => ?_)
      obtain ⟨rfl, hb⟩ := hR
      replace lm := lm.below hb
      replace hd := hd.below hb
      replace lr := lr.below hb
      replace ht := ht.below hb
      replace hu := hu.below hb
      replace lq := lq.below hb
      replace lx := lx.below hb
      replace hV := hV.below hb
      replace hW := hW.below hb
      replace hY := hY.trans (hb.mono hY.size)
      replace hX := hX.trans (hb.mono hX.size)
      replace hZ := hZ.trans (hb.mono hZ.size)
      refine wpList_nil ⟨rfl, hZ, x_one ?_⟩
      refine stc hF (no_is v33 19 0 0 (by decide) (by decide)) cal57 ⟨rfl, rfl, trivial⟩ (k := fun a v v34 hR hF => ?_)
      obtain ⟨rfl, hb⟩ := hR
      replace lm := lm.below hb
      replace hd := hd.below hb
      replace lr := lr.below hb
      replace ht := ht.below hb
      replace hu := hu.below hb
      replace lq := lq.below hb
      replace lx := lx.below hb
      replace hV := hV.below hb
      replace hW := hW.below hb
      replace hY := hY.trans (hb.mono hY.size)
      replace hX := hX.trans (hb.mono hX.size)
      replace hZ := hZ.trans (hb.mono hZ.size)
      refine wpList_nil ⟨rfl, hZ, ?_⟩
      repeat (((apply x_step hF); intro wq hwq; (exact d_not); clear hF; clear a; intro a hF))
      refine x_nil ?_
      repeat (first | refine c_region _ ?_ | refine wpList_nil ?_ | refine c_then ?_ | refine c_in ?_ | refine wp_skip ?_ | ((apply st hF); (first | exact d_move | exact d_assign | exact d_add); clear hF; clear a; intro a hF) | (apply c_cond_f hF; exact rfl; first | exact rfl | assumption))
      exact ⟨2, by decide, 2, _, by decide, rfl, hF.keep' ⟨rfl, rfl, rfl, rfl, rfl, trivial⟩, hd, ht, lm, lr, hV, hW, hX, hY⟩
    · have hid0 := 0
      repeat (first | refine c_seq ?_ | refine c_block ?_ | refine c_region _ ?_ | refine wpList_nil ?_ | refine c_then ?_ | refine wp_skip ?_ | ((apply st hF); (first | exact d_move | exact d_cmpT | exact d_len (und _ _ rfl) | exact d_loadAgg (agg _ rfl) (isz _ _ rfl) rfl (cells_at ht)); clear hF; clear a; intro a hF) | (apply c_cond_t hF; exact rfl; first | exact rfl | assumption))
      have hohthu := lt_at ht
      have hwhu := hX.size
      have hwhYhu := hY.size
      refine st_alloc hF inf67 (k := fun a v35 hg1 hgr1 hsz1 hF => ?_)
      refine st_storeAgg hF (cs := (Tab.cells (tbN false ⟨#[97]⟩ (some ⟨v7.heap.size, 0, none⟩) 2 2)).toArray) (isz _ _ rfl) rfl rfl hg1 (tab_cells _) (k := fun a v36 hg2 hgr2 hsz2 hF => ?_)
      have hb2 : Below v16.heap.size v16 v36 := ((Below.refl _ v16).grown hgr1 (Nat.le_refl _) (fun k hk => by cases hk)).grown hgr2 (by omega) (fun k hk => by cases hk; exact Nat.le_refl _)
      have hu : TgAt v16.heap.size (tbN false ⟨#[97]⟩ (some ⟨v7.heap.size, 0, none⟩) 2 2) v36 := hg2
      replace lm := lm.below hb2
      replace hd := hd.below hb2
      replace lr := lr.below hb2
      replace ht := ht.below hb2
      replace hV := hV.below hb2
      replace hW := hW.below hb2
      replace hY := hY.trans (hb2.mono hY.size)
      replace hX := hX.trans (hb2.mono hX.size)
      clear hg1 hg2 hgr1 hgr2 hb2 hsz1 hsz2
      have hcv : v36.cell? ⟨v13.heap.size, 0 + 2, none⟩ = some (.int .i64 0) := by
        obtain ⟨b1, o1, e1, h1⟩ := hV 2 (by decide)
        cases e1
        exact h1
      repeat (first | refine c_seq ?_ | refine c_region _ ?_ | refine wpList_nil ?_ | refine c_then ?_ | ((apply st hF); (first | exact d_move | exact d_indexAddr1 (und _ _ rfl) (isz _ _ rfl) | exact d_build (vs := [(0, .int .i64 0), (1, .string ⟨#[111, 102, 102]⟩)]) (cells := (RowV.cells ⟨0, ⟨#[111, 102, 102]⟩⟩).toArray) (by kernel_rfl) ⟨rfl, rfl, rfl, rfl, trivial⟩ | exact d_build (vs := [(0, .int .i64 0), (1, .string ⟨#[111, 110]⟩)]) (cells := (RowV.cells ⟨0, ⟨#[111, 110]⟩⟩).toArray) (by kernel_rfl) ⟨rfl, rfl, rfl, rfl, trivial⟩ | exact d_load (und _ _ rfl) hcv); clear hF; clear a; intro a hF))
      have hohulq := lt_at hu
      have hwlq := hX.size
      have hwhYlq := hY.size
      refine st hF (d_buildSS [(RowV.cells (⟨0, ⟨#[111, 102, 102]⟩⟩)).toArray, (RowV.cells (⟨0, ⟨#[111, 110]⟩⟩)).toArray] (und _ _ rfl) inf116 (by decide) (by decide) (by decide) rfl (by simp [RowV.cells]) ⟨rfl, rfl, rfl, rfl, trivial⟩) rfl (fun a hF => ?_)
      have hb := below_alloc v36 (.cells (([(RowV.cells (⟨0, ⟨#[111, 102, 102]⟩⟩)).toArray, (RowV.cells (⟨0, ⟨#[111, 110]⟩⟩)).toArray]).flatMap fun u => u.toList).toArray 116)
      have lq : BkAt v36.heap.size ([⟨0, ⟨#[111, 102, 102]⟩⟩, ⟨0, ⟨#[111, 110]⟩⟩].flatMap RowV.cells) 116 _ := bk_alloc v36 RowV.cells [⟨0, ⟨#[111, 102, 102]⟩⟩, ⟨0, ⟨#[111, 110]⟩⟩] 116 (([(RowV.cells (⟨0, ⟨#[111, 102, 102]⟩⟩)).toArray, (RowV.cells (⟨0, ⟨#[111, 110]⟩⟩)).toArray]).flatMap fun u => u.toList).toArray (by simp)
      generalize v36.alloc _ = v37 at *
      replace lm := lm.below hb
      replace hd := hd.below hb
      replace lr := lr.below hb
      replace ht := ht.below hb
      replace hu := hu.below hb
      replace hV := hV.below hb
      replace hW := hW.below hb
      replace hY := hY.trans (hb.mono hY.size)
      replace hX := hX.trans (hb.mono hX.size)
      repeat (((apply st hF); (exact d_fieldAddr (fld _ _ _ _ rfl) (isz _ _ rfl)); clear hF; clear a; intro a hF))
      refine st_store hF (isz _ _ rfl) hu (i := 0 + 5) (by show 0 + 5 < 6; decide) rfl rfl rfl (k := fun a v38 hg hgr hsz hF => ?_)
      replace hV := rd_keptT hV hu hgr
      replace hW := rd_keptT hW hu hgr
      replace hu : TgAt v16.heap.size (tbN false ⟨#[97]⟩ (some ⟨v36.heap.size, 0, none⟩) 2 2) v38 := hg
      replace lm : BkAt v4.heap.size ([twoM (some ⟨v2.heap.size, 0, none⟩) 1 1].flatMap Msg.cells) 27 v38 := blk_kept lm hgr (by simp; omega)
      replace hd : DgAt v5.heap.size (dbN (w.heap.size) (some ⟨v4.heap.size, 0, none⟩) 1 1 (some ⟨x, 0, none⟩) 1 1) v38 := blk_kept hd hgr (by simp; omega)
      replace lr : BkAt v7.heap.size ([⟨0, ⟨#[111, 102, 102]⟩⟩, ⟨1, ⟨#[111, 110]⟩⟩].flatMap RowV.cells) 116 v38 := blk_kept lr hgr (by simp; omega)
      replace ht : TgAt v8.heap.size (tbN false ⟨#[97]⟩ (some ⟨v7.heap.size, 0, none⟩) 2 2) v38 := blk_kept ht hgr (by simp; omega)
      replace lq : BkAt v36.heap.size ([⟨0, ⟨#[111, 102, 102]⟩⟩, ⟨0, ⟨#[111, 110]⟩⟩].flatMap RowV.cells) 116 v38 := blk_kept lq hgr (by simp; omega)
      replace hY := hY.grown hgr hY.size (fun k hk => by cases hk; omega)
      replace hX := hX.grown hgr hX.size (fun k hk => by cases hk; omega)
      clear hg hgr hsz
      repeat (first | refine c_seq ?_ | refine c_region _ ?_ | refine wpList_nil ?_ | refine c_then ?_ | ((apply st hF); (exact d_loadAgg (agg _ rfl) (isz _ _ rfl) rfl (cells_at hu)); clear hF; clear a; intro a hF))
      have holqlx := lt_at lq
      have hwlx := hX.size
      have hwhYlx := hY.size
      refine st hF (d_buildSS [(Tab.cells (tbN false ⟨#[97]⟩ (some ⟨v36.heap.size, 0, none⟩) 2 2)).toArray] (und _ _ rfl) inf67 (by decide) (by decide) (by decide) rfl (by simp [Tab.cells]) ⟨rfl, rfl, trivial⟩) rfl (fun a hF => ?_)
      have hb := below_alloc v38 (.cells (([(Tab.cells (tbN false ⟨#[97]⟩ (some ⟨v36.heap.size, 0, none⟩) 2 2)).toArray]).flatMap fun u => u.toList).toArray 67)
      have lx : BkAt v38.heap.size ([tbN false ⟨#[97]⟩ (some ⟨v36.heap.size, 0, none⟩) 2 2].flatMap Tab.cells) 67 _ := bk_alloc v38 Tab.cells [tbN false ⟨#[97]⟩ (some ⟨v36.heap.size, 0, none⟩) 2 2] 67 (([(Tab.cells (tbN false ⟨#[97]⟩ (some ⟨v36.heap.size, 0, none⟩) 2 2)).toArray]).flatMap fun u => u.toList).toArray (by simp)
      generalize v38.alloc _ = v39 at *
      replace lm := lm.below hb
      replace hd := hd.below hb
      replace lr := lr.below hb
      replace ht := ht.below hb
      replace hu := hu.below hb
      replace lq := lq.below hb
      replace hV := hV.below hb
      replace hW := hW.below hb
      replace hY := hY.trans (hb.mono hY.size)
      replace hX := hX.trans (hb.mono hX.size)
      repeat (((apply st hF); (exact d_fieldAddr (fld _ _ _ _ rfl) (isz _ _ rfl)); clear hF; clear a; intro a hF))
      refine st_store hF (isz _ _ rfl) hd (i := 0 + 8) (by show 0 + 8 < 9; decide) rfl rfl rfl (k := fun a v40 hg hgr hsz hF => ?_)
      replace hV := rd_keptD hV hd hgr
      replace hW := rd_keptD hW hd hgr
      replace hd : DgAt v5.heap.size (dbN (w.heap.size) (some ⟨v4.heap.size, 0, none⟩) 1 1 (some ⟨v38.heap.size, 0, none⟩) 1 1) v40 := hg
      replace lm : BkAt v4.heap.size ([twoM (some ⟨v2.heap.size, 0, none⟩) 1 1].flatMap Msg.cells) 27 v40 := blk_kept lm hgr (by simp; omega)
      replace lr : BkAt v7.heap.size ([⟨0, ⟨#[111, 102, 102]⟩⟩, ⟨1, ⟨#[111, 110]⟩⟩].flatMap RowV.cells) 116 v40 := blk_kept lr hgr (by simp; omega)
      replace ht : TgAt v8.heap.size (tbN false ⟨#[97]⟩ (some ⟨v7.heap.size, 0, none⟩) 2 2) v40 := blk_kept ht hgr (by simp; omega)
      replace hu : TgAt v16.heap.size (tbN false ⟨#[97]⟩ (some ⟨v36.heap.size, 0, none⟩) 2 2) v40 := blk_kept hu hgr (by simp; omega)
      replace lq : BkAt v36.heap.size ([⟨0, ⟨#[111, 102, 102]⟩⟩, ⟨0, ⟨#[111, 110]⟩⟩].flatMap RowV.cells) 116 v40 := blk_kept lq hgr (by simp; omega)
      replace lx : BkAt v38.heap.size ([tbN false ⟨#[97]⟩ (some ⟨v36.heap.size, 0, none⟩) 2 2].flatMap Tab.cells) 67 v40 := blk_kept lx hgr (by simp; omega)
      replace hY := hY.grown hgr hY.size (fun k hk => by cases hk; omega)
      replace hX := hX.grown hgr hX.size (fun k hk => by cases hk; omega)
      clear hg hgr hsz
      have hcw : v40.cell? ⟨v14.heap.size, 0 + 2, none⟩ = some (.int .i64 12) := by
        obtain ⟨b1, o1, e1, h1⟩ := hW 2 (by decide)
        cases e1
        exact h1
      repeat (first | (refine c_region_mix (fun wq => Below v40.heap.size v40 wq) [(0, true), (2, true), (3, true), (4, true), (5, true), (1, false), (6, false), (7, true)] 15 mixed (by kernel_rfl) (below_more (Below.refl _ v40) 1) ?_; simp only [pickX, List.filterMap_cons, List.getElem?_cons_zero, List.getElem?_cons_succ, List.filterMap_nil, Option.map_some]) | refine c_seq ?_ | refine wpList_nil ?_ | refine c_then ?_)
      have hZ : Below v40.heap.size v40 (v40.drewN 1) := below_more (Below.refl _ v40) 1
      have hdc := hd
      generalize v40.drewN 1 = v41 at *
      replace lm := lm.below hZ
      replace hd := hd.below hZ
      replace lr := lr.below hZ
      replace ht := ht.below hZ
      replace hu := hu.below hZ
      replace lq := lq.below hZ
      replace lx := lx.below hZ
      replace hV := hV.below hZ
      replace hW := hW.below hZ
      replace hY := hY.trans (hZ.mono hY.size)
      replace hX := hX.trans (hZ.mono hX.size)
      repeat (((apply x_step hF); intro wq hwq; (first | exact d_move | exact d_indexAddr1 (und _ _ rfl) (isz _ _ rfl) | exact d_loadAgg (agg _ rfl) (isz _ _ rfl) rfl (cells_at (hdc.below hwq)) | exact d_load (und _ _ rfl) ((keep_c hcw hwq))); clear hF; clear a; intro a hF))
      refine x_one ?_
      refine stc hF (cdb_k v41 (dbN (w.heap.size) (some ⟨v4.heap.size, 0, none⟩) 1 1 (some ⟨v38.heap.size, 0, none⟩) 1 1) [⟨#[65]⟩] [(twoM (some ⟨v2.heap.size, 0, none⟩) 1 1, [(oneS ⟨#[97]⟩ 0 8 g, txA)])] [(tbN false ⟨#[97]⟩ (some ⟨v36.heap.size, 0, none⟩) 2 2, [⟨0, ⟨#[111, 102, 102]⟩⟩, ⟨0, ⟨#[111, 110]⟩⟩])] (dbN_in (hN0.below hY) (msgs_bk (ms := [(twoM (some ⟨v2.heap.size, 0, none⟩) 1 1, [(oneS ⟨#[97]⟩ 0 8 g, txA)])]) lm rfl (by decide) (by intro p hp; simp only [List.mem_cons, List.not_mem_nil, or_false] at hp; rcases hp with rfl; exact SigsIn.below hM0 hY) (by intro p hp; simp only [List.mem_cons, List.not_mem_nil, or_false] at hp; rcases hp with rfl; exact ⟨(by intro q hq; simp only [List.mem_cons, List.not_mem_nil, or_false] at hq; rcases hq with rfl; constructor <;> (dsimp only [oneS]; omega)), by dsimp only [twoM]; omega, by dsimp only [twoM]; omega⟩)) (tabs_bk (ts := [(tbN false ⟨#[97]⟩ (some ⟨v36.heap.size, 0, none⟩) 2 2, [⟨0, ⟨#[111, 102, 102]⟩⟩, ⟨0, ⟨#[111, 110]⟩⟩])]) lx rfl (by decide) (by intro p hp; simp only [List.mem_cons, List.not_mem_nil, or_false] at hp; rcases hp with rfl <;> exact rows_bk (n := 2) rfl rfl rfl (rs := [⟨0, ⟨#[111, 102, 102]⟩⟩, ⟨0, ⟨#[111, 110]⟩⟩]) lq rfl (by decide) (by intro r hr; simp only [List.mem_cons, List.not_mem_nil, or_false] at hr; rcases hr with rfl | rfl <;> constructor <;> (dsimp only; omega))) (by intro p hp; simp only [List.mem_cons, List.not_mem_nil, or_false] at hp; rcases hp with rfl <;> exact ⟨⟨by dsimp only [tbN]; omega, by dsimp only [tbN]; omega⟩, by dsimp only [tbN]; decide⟩))) (hT.below hX) 12 0 0 ((db_C rfl (ids_mem (by intro p hp; simp only [List.mem_cons, List.not_mem_nil, or_false] at hp; rcases hp with rfl; exact ⟨by dsimp only [twoM]; omega, by dsimp only [twoM]; omega⟩)) (units_mem (by intro p hp; simp only [List.mem_cons, List.not_mem_nil, or_false] at hp; rcases hp with rfl; intro q hq; simp only [List.mem_cons, List.not_mem_nil, or_false] at hq; rcases hq with rfl; rfl)) (texts_mem (by intro p hp; simp only [List.mem_cons, List.not_mem_nil, or_false] at hp; rcases hp with rfl <;> (intro r hr; simp only [List.mem_cons, List.not_mem_nil, or_false] at hr; rcases hr with rfl | rfl) <;> first | exact textE_off | exact textE_on))).trans (by kernel_rfl)) (by decide)) cal21 ⟨rfl, trivial⟩ (k := fun a v v42 hR hF => ?_)
      obtain ⟨rfl, hb⟩ := hR
      replace lm := lm.below hb
      replace hd := hd.below hb
      replace lr := lr.below hb
      replace ht := ht.below hb
      replace hu := hu.below hb
      replace lq := lq.below hb
      replace lx := lx.below hb
      replace hV := hV.below hb
      replace hW := hW.below hb
      replace hY := hY.trans (hb.mono hY.size)
      replace hX := hX.trans (hb.mono hX.size)
      replace hZ := hZ.trans (hb.mono hZ.size)
      refine wpList_nil ⟨rfl, hZ, x_one ?_⟩
      refine stc hF (no_is v42 12 0 0 (by decide) (by decide)) cal57 ⟨rfl, rfl, trivial⟩ (k := fun a v v43 hR hF => ?_)
      obtain ⟨rfl, hb⟩ := hR
      replace lm := lm.below hb
      replace hd := hd.below hb
      replace lr := lr.below hb
      replace ht := ht.below hb
      replace hu := hu.below hb
      replace lq := lq.below hb
      replace lx := lx.below hb
      replace hV := hV.below hb
      replace hW := hW.below hb
      replace hY := hY.trans (hb.mono hY.size)
      replace hX := hX.trans (hb.mono hX.size)
      replace hZ := hZ.trans (hb.mono hZ.size)
      refine wpList_nil ⟨rfl, hZ, ?_⟩
      repeat (((apply x_step hF); intro wq hwq; (exact d_not); clear hF; clear a; intro a hF))
      refine x_nil ?_
      repeat (first | refine c_region _ ?_ | refine wpList_nil ?_ | refine c_then ?_ | refine c_in ?_ | refine wp_skip ?_ | ((apply st hF); (first | exact d_move | exact d_assign | exact d_add); clear hF; clear a; intro a hF) | (apply c_cond_f hF; exact rfl; first | exact rfl | assumption))
      exact ⟨1, by decide, 3, _, by decide, rfl, hF.keep' ⟨rfl, rfl, rfl, rfl, rfl, trivial⟩, hd, ht, lm, lr, hV, hW, hX, hY⟩
    · have hid0 := 0
      repeat (first | refine c_seq ?_ | refine c_block ?_ | refine c_region _ ?_ | refine wpList_nil ?_ | refine c_then ?_ | refine wp_skip ?_ | ((apply st hF); (first | exact d_move | exact d_cmpT | exact d_len (und _ _ rfl) | exact d_loadAgg (agg _ rfl) (isz _ _ rfl) rfl (cells_at ht)); clear hF; clear a; intro a hF) | (apply c_cond_t hF; exact rfl; first | exact rfl | assumption))
      have hohthu := lt_at ht
      have hwhu := hX.size
      have hwhYhu := hY.size
      refine st_alloc hF inf67 (k := fun a v44 hg1 hgr1 hsz1 hF => ?_)
      refine st_storeAgg hF (cs := (Tab.cells (tbN false ⟨#[97]⟩ (some ⟨v7.heap.size, 0, none⟩) 2 2)).toArray) (isz _ _ rfl) rfl rfl hg1 (tab_cells _) (k := fun a v45 hg2 hgr2 hsz2 hF => ?_)
      have hb2 : Below v16.heap.size v16 v45 := ((Below.refl _ v16).grown hgr1 (Nat.le_refl _) (fun k hk => by cases hk)).grown hgr2 (by omega) (fun k hk => by cases hk; exact Nat.le_refl _)
      have hu : TgAt v16.heap.size (tbN false ⟨#[97]⟩ (some ⟨v7.heap.size, 0, none⟩) 2 2) v45 := hg2
      replace lm := lm.below hb2
      replace hd := hd.below hb2
      replace lr := lr.below hb2
      replace ht := ht.below hb2
      replace hV := hV.below hb2
      replace hW := hW.below hb2
      replace hY := hY.trans (hb2.mono hY.size)
      replace hX := hX.trans (hb2.mono hX.size)
      clear hg1 hg2 hgr1 hgr2 hb2 hsz1 hsz2
      have hcv : v45.cell? ⟨v13.heap.size, 0 + 3, none⟩ = some (.int .i64 255) := by
        obtain ⟨b1, o1, e1, h1⟩ := hV 3 (by decide)
        cases e1
        exact h1
      repeat (first | refine c_seq ?_ | refine c_region _ ?_ | refine wpList_nil ?_ | refine c_then ?_ | ((apply st hF); (first | exact d_move | exact d_indexAddr1 (und _ _ rfl) (isz _ _ rfl) | exact d_build (vs := [(0, .int .i64 0), (1, .string ⟨#[111, 102, 102]⟩)]) (cells := (RowV.cells ⟨0, ⟨#[111, 102, 102]⟩⟩).toArray) (by kernel_rfl) ⟨rfl, rfl, rfl, rfl, trivial⟩ | exact d_build (vs := [(0, .int .i64 255), (1, .string ⟨#[111, 110]⟩)]) (cells := (RowV.cells ⟨255, ⟨#[111, 110]⟩⟩).toArray) (by kernel_rfl) ⟨rfl, rfl, rfl, rfl, trivial⟩ | exact d_load (und _ _ rfl) hcv); clear hF; clear a; intro a hF))
      have hohulq := lt_at hu
      have hwlq := hX.size
      have hwhYlq := hY.size
      refine st hF (d_buildSS [(RowV.cells (⟨0, ⟨#[111, 102, 102]⟩⟩)).toArray, (RowV.cells (⟨255, ⟨#[111, 110]⟩⟩)).toArray] (und _ _ rfl) inf116 (by decide) (by decide) (by decide) rfl (by simp [RowV.cells]) ⟨rfl, rfl, rfl, rfl, trivial⟩) rfl (fun a hF => ?_)
      have hb := below_alloc v45 (.cells (([(RowV.cells (⟨0, ⟨#[111, 102, 102]⟩⟩)).toArray, (RowV.cells (⟨255, ⟨#[111, 110]⟩⟩)).toArray]).flatMap fun u => u.toList).toArray 116)
      have lq : BkAt v45.heap.size ([⟨0, ⟨#[111, 102, 102]⟩⟩, ⟨255, ⟨#[111, 110]⟩⟩].flatMap RowV.cells) 116 _ := bk_alloc v45 RowV.cells [⟨0, ⟨#[111, 102, 102]⟩⟩, ⟨255, ⟨#[111, 110]⟩⟩] 116 (([(RowV.cells (⟨0, ⟨#[111, 102, 102]⟩⟩)).toArray, (RowV.cells (⟨255, ⟨#[111, 110]⟩⟩)).toArray]).flatMap fun u => u.toList).toArray (by simp)
      generalize v45.alloc _ = v46 at *
      replace lm := lm.below hb
      replace hd := hd.below hb
      replace lr := lr.below hb
      replace ht := ht.below hb
      replace hu := hu.below hb
      replace hV := hV.below hb
      replace hW := hW.below hb
      replace hY := hY.trans (hb.mono hY.size)
      replace hX := hX.trans (hb.mono hX.size)
      repeat (((apply st hF); (exact d_fieldAddr (fld _ _ _ _ rfl) (isz _ _ rfl)); clear hF; clear a; intro a hF))
      refine st_store hF (isz _ _ rfl) hu (i := 0 + 5) (by show 0 + 5 < 6; decide) rfl rfl rfl (k := fun a v47 hg hgr hsz hF => ?_)
      replace hV := rd_keptT hV hu hgr
      replace hW := rd_keptT hW hu hgr
      replace hu : TgAt v16.heap.size (tbN false ⟨#[97]⟩ (some ⟨v45.heap.size, 0, none⟩) 2 2) v47 := hg
      replace lm : BkAt v4.heap.size ([twoM (some ⟨v2.heap.size, 0, none⟩) 1 1].flatMap Msg.cells) 27 v47 := blk_kept lm hgr (by simp; omega)
      replace hd : DgAt v5.heap.size (dbN (w.heap.size) (some ⟨v4.heap.size, 0, none⟩) 1 1 (some ⟨x, 0, none⟩) 1 1) v47 := blk_kept hd hgr (by simp; omega)
      replace lr : BkAt v7.heap.size ([⟨0, ⟨#[111, 102, 102]⟩⟩, ⟨1, ⟨#[111, 110]⟩⟩].flatMap RowV.cells) 116 v47 := blk_kept lr hgr (by simp; omega)
      replace ht : TgAt v8.heap.size (tbN false ⟨#[97]⟩ (some ⟨v7.heap.size, 0, none⟩) 2 2) v47 := blk_kept ht hgr (by simp; omega)
      replace lq : BkAt v45.heap.size ([⟨0, ⟨#[111, 102, 102]⟩⟩, ⟨255, ⟨#[111, 110]⟩⟩].flatMap RowV.cells) 116 v47 := blk_kept lq hgr (by simp; omega)
      replace hY := hY.grown hgr hY.size (fun k hk => by cases hk; omega)
      replace hX := hX.grown hgr hX.size (fun k hk => by cases hk; omega)
      clear hg hgr hsz
      repeat (first | refine c_seq ?_ | refine c_region _ ?_ | refine wpList_nil ?_ | refine c_then ?_ | ((apply st hF); (exact d_loadAgg (agg _ rfl) (isz _ _ rfl) rfl (cells_at hu)); clear hF; clear a; intro a hF))
      have holqlx := lt_at lq
      have hwlx := hX.size
      have hwhYlx := hY.size
      refine st hF (d_buildSS [(Tab.cells (tbN false ⟨#[97]⟩ (some ⟨v45.heap.size, 0, none⟩) 2 2)).toArray] (und _ _ rfl) inf67 (by decide) (by decide) (by decide) rfl (by simp [Tab.cells]) ⟨rfl, rfl, trivial⟩) rfl (fun a hF => ?_)
      have hb := below_alloc v47 (.cells (([(Tab.cells (tbN false ⟨#[97]⟩ (some ⟨v45.heap.size, 0, none⟩) 2 2)).toArray]).flatMap fun u => u.toList).toArray 67)
      have lx : BkAt v47.heap.size ([tbN false ⟨#[97]⟩ (some ⟨v45.heap.size, 0, none⟩) 2 2].flatMap Tab.cells) 67 _ := bk_alloc v47 Tab.cells [tbN false ⟨#[97]⟩ (some ⟨v45.heap.size, 0, none⟩) 2 2] 67 (([(Tab.cells (tbN false ⟨#[97]⟩ (some ⟨v45.heap.size, 0, none⟩) 2 2)).toArray]).flatMap fun u => u.toList).toArray (by simp)
      generalize v47.alloc _ = v48 at *
      replace lm := lm.below hb
      replace hd := hd.below hb
      replace lr := lr.below hb
      replace ht := ht.below hb
      replace hu := hu.below hb
      replace lq := lq.below hb
      replace hV := hV.below hb
      replace hW := hW.below hb
      replace hY := hY.trans (hb.mono hY.size)
      replace hX := hX.trans (hb.mono hX.size)
      repeat (((apply st hF); (exact d_fieldAddr (fld _ _ _ _ rfl) (isz _ _ rfl)); clear hF; clear a; intro a hF))
      refine st_store hF (isz _ _ rfl) hd (i := 0 + 8) (by show 0 + 8 < 9; decide) rfl rfl rfl (k := fun a v49 hg hgr hsz hF => ?_)
      replace hV := rd_keptD hV hd hgr
      replace hW := rd_keptD hW hd hgr
      replace hd : DgAt v5.heap.size (dbN (w.heap.size) (some ⟨v4.heap.size, 0, none⟩) 1 1 (some ⟨v47.heap.size, 0, none⟩) 1 1) v49 := hg
      replace lm : BkAt v4.heap.size ([twoM (some ⟨v2.heap.size, 0, none⟩) 1 1].flatMap Msg.cells) 27 v49 := blk_kept lm hgr (by simp; omega)
      replace lr : BkAt v7.heap.size ([⟨0, ⟨#[111, 102, 102]⟩⟩, ⟨1, ⟨#[111, 110]⟩⟩].flatMap RowV.cells) 116 v49 := blk_kept lr hgr (by simp; omega)
      replace ht : TgAt v8.heap.size (tbN false ⟨#[97]⟩ (some ⟨v7.heap.size, 0, none⟩) 2 2) v49 := blk_kept ht hgr (by simp; omega)
      replace hu : TgAt v16.heap.size (tbN false ⟨#[97]⟩ (some ⟨v45.heap.size, 0, none⟩) 2 2) v49 := blk_kept hu hgr (by simp; omega)
      replace lq : BkAt v45.heap.size ([⟨0, ⟨#[111, 102, 102]⟩⟩, ⟨255, ⟨#[111, 110]⟩⟩].flatMap RowV.cells) 116 v49 := blk_kept lq hgr (by simp; omega)
      replace lx : BkAt v47.heap.size ([tbN false ⟨#[97]⟩ (some ⟨v45.heap.size, 0, none⟩) 2 2].flatMap Tab.cells) 67 v49 := blk_kept lx hgr (by simp; omega)
      replace hY := hY.grown hgr hY.size (fun k hk => by cases hk; omega)
      replace hX := hX.grown hgr hX.size (fun k hk => by cases hk; omega)
      clear hg hgr hsz
      have hcw : v49.cell? ⟨v14.heap.size, 0 + 3, none⟩ = some (.int .i64 0) := by
        obtain ⟨b1, o1, e1, h1⟩ := hW 3 (by decide)
        cases e1
        exact h1
      repeat (first | (refine c_region_mix (fun wq => Below v49.heap.size v49 wq) [(0, true), (2, true), (3, true), (4, true), (5, true), (1, false), (6, false), (7, true)] 15 mixed (by kernel_rfl) (below_more (Below.refl _ v49) 1) ?_; simp only [pickX, List.filterMap_cons, List.getElem?_cons_zero, List.getElem?_cons_succ, List.filterMap_nil, Option.map_some]) | refine c_seq ?_ | refine wpList_nil ?_ | refine c_then ?_)
      have hZ : Below v49.heap.size v49 (v49.drewN 1) := below_more (Below.refl _ v49) 1
      have hdc := hd
      generalize v49.drewN 1 = v50 at *
      replace lm := lm.below hZ
      replace hd := hd.below hZ
      replace lr := lr.below hZ
      replace ht := ht.below hZ
      replace hu := hu.below hZ
      replace lq := lq.below hZ
      replace lx := lx.below hZ
      replace hV := hV.below hZ
      replace hW := hW.below hZ
      replace hY := hY.trans (hZ.mono hY.size)
      replace hX := hX.trans (hZ.mono hX.size)
      repeat (((apply x_step hF); intro wq hwq; (first | exact d_move | exact d_indexAddr1 (und _ _ rfl) (isz _ _ rfl) | exact d_loadAgg (agg _ rfl) (isz _ _ rfl) rfl (cells_at (hdc.below hwq)) | exact d_load (und _ _ rfl) ((keep_c hcw hwq))); clear hF; clear a; intro a hF))
      refine x_one ?_
      refine stc hF (cdb_0 v50 (dbN (w.heap.size) (some ⟨v4.heap.size, 0, none⟩) 1 1 (some ⟨v47.heap.size, 0, none⟩) 1 1) [⟨#[65]⟩] [(twoM (some ⟨v2.heap.size, 0, none⟩) 1 1, [(oneS ⟨#[97]⟩ 0 8 g, txA)])] [(tbN false ⟨#[97]⟩ (some ⟨v45.heap.size, 0, none⟩) 2 2, [⟨0, ⟨#[111, 102, 102]⟩⟩, ⟨255, ⟨#[111, 110]⟩⟩])] (dbN_in (hN0.below hY) (msgs_bk (ms := [(twoM (some ⟨v2.heap.size, 0, none⟩) 1 1, [(oneS ⟨#[97]⟩ 0 8 g, txA)])]) lm rfl (by decide) (by intro p hp; simp only [List.mem_cons, List.not_mem_nil, or_false] at hp; rcases hp with rfl; exact SigsIn.below hM0 hY) (by intro p hp; simp only [List.mem_cons, List.not_mem_nil, or_false] at hp; rcases hp with rfl; exact ⟨(by intro q hq; simp only [List.mem_cons, List.not_mem_nil, or_false] at hq; rcases hq with rfl; constructor <;> (dsimp only [oneS]; omega)), by dsimp only [twoM]; omega, by dsimp only [twoM]; omega⟩)) (tabs_bk (ts := [(tbN false ⟨#[97]⟩ (some ⟨v45.heap.size, 0, none⟩) 2 2, [⟨0, ⟨#[111, 102, 102]⟩⟩, ⟨255, ⟨#[111, 110]⟩⟩])]) lx rfl (by decide) (by intro p hp; simp only [List.mem_cons, List.not_mem_nil, or_false] at hp; rcases hp with rfl <;> exact rows_bk (n := 2) rfl rfl rfl (rs := [⟨0, ⟨#[111, 102, 102]⟩⟩, ⟨255, ⟨#[111, 110]⟩⟩]) lq rfl (by decide) (by intro r hr; simp only [List.mem_cons, List.not_mem_nil, or_false] at hr; rcases hr with rfl | rfl <;> constructor <;> (dsimp only; omega))) (by intro p hp; simp only [List.mem_cons, List.not_mem_nil, or_false] at hp; rcases hp with rfl <;> exact ⟨⟨by dsimp only [tbN]; omega, by dsimp only [tbN]; omega⟩, by dsimp only [tbN]; decide⟩))) (hT.below hX) ((db_C rfl (ids_mem (by intro p hp; simp only [List.mem_cons, List.not_mem_nil, or_false] at hp; rcases hp with rfl; exact ⟨by dsimp only [twoM]; omega, by dsimp only [twoM]; omega⟩)) (units_mem (by intro p hp; simp only [List.mem_cons, List.not_mem_nil, or_false] at hp; rcases hp with rfl; intro q hq; simp only [List.mem_cons, List.not_mem_nil, or_false] at hq; rcases hq with rfl; rfl)) (texts_mem (by intro p hp; simp only [List.mem_cons, List.not_mem_nil, or_false] at hp; rcases hp with rfl <;> (intro r hr; simp only [List.mem_cons, List.not_mem_nil, or_false] at hr; rcases hr with rfl | rfl) <;> first | exact textE_off | exact textE_on))).trans (by kernel_rfl))) cal21 ⟨rfl, trivial⟩ (k := fun a v v51 hR hF => ?_)
      obtain ⟨rfl, hb⟩ := hR
      replace lm := lm.below hb
      replace hd := hd.below hb
      replace lr := lr.below hb
      replace ht := ht.below hb
      replace hu := hu.below hb
      replace lq := lq.below hb
      replace lx := lx.below hb
      replace hV := hV.below hb
      replace hW := hW.below hb
      replace hY := hY.trans (hb.mono hY.size)
      replace hX := hX.trans (hb.mono hX.size)
      replace hZ := hZ.trans (hb.mono hZ.size)
      refine wpList_nil ⟨rfl, hZ, x_one ?_⟩
      refine stc hF (no_nil v51) cal57 ⟨rfl, rfl, trivial⟩ (k := fun a v v52 hR hF => ?_)
      obtain ⟨rfl, hb⟩ := hR
      replace lm := lm.below hb
      replace hd := hd.below hb
      replace lr := lr.below hb
      replace ht := ht.below hb
      replace hu := hu.below hb
      replace lq := lq.below hb
      replace lx := lx.below hb
      replace hV := hV.below hb
      replace hW := hW.below hb
      replace hY := hY.trans (hb.mono hY.size)
      replace hX := hX.trans (hb.mono hX.size)
      replace hZ := hZ.trans (hb.mono hZ.size)
      refine wpList_nil ⟨rfl, hZ, ?_⟩
      repeat (((apply x_step hF); intro wq hwq; (exact d_not); clear hF; clear a; intro a hF))
      refine x_nil ?_
      repeat (first | refine c_region _ ?_ | refine wpList_nil ?_ | refine c_then ?_ | refine c_in ?_ | refine wp_skip ?_ | ((apply st hF); (first | exact d_move | exact d_assign | exact d_add); clear hF; clear a; intro a hF) | (apply c_cond_f hF; exact rfl; first | exact rfl | assumption))
      exact ⟨0, by decide, 4, _, by decide, rfl, hF.keep' ⟨rfl, rfl, rfl, rfl, rfl, trivial⟩, hd, ht, lm, lr, hV, hW, hX, hY⟩
  obtain rfl : k = 4 := by omega
  clear hV
  clear hW
  repeat (first | refine c_seq ?_ | refine c_region _ ?_ | refine wpList_nil ?_ | refine c_then ?_ | refine c_then_exit ?_ | refine c_in_hit ?_ | refine wp_exit ?_ | ((apply st hF); (first | exact d_move | exact d_cmpF | exact d_len (und _ _ rfl) | exact d_loadAgg (agg _ rfl) (isz _ _ rfl) rfl (cells_at ht)); clear hF; clear a; intro a hF) | (apply c_cond_f hF; exact rfl; first | exact rfl | assumption))
  have hohthu := lt_at ht
  have hwhu := hX.size
  have hwhYhu := hY.size
  refine st_alloc hF inf67 (k := fun a v53 hg1 hgr1 hsz1 hF => ?_)
  refine st_storeAgg hF (cs := (Tab.cells (tbN false ⟨#[97]⟩ (some ⟨v7.heap.size, 0, none⟩) 2 2)).toArray) (isz _ _ rfl) rfl rfl hg1 (tab_cells _) (k := fun a v54 hg2 hgr2 hsz2 hF => ?_)
  have hb2 : Below v16.heap.size v16 v54 := ((Below.refl _ v16).grown hgr1 (Nat.le_refl _) (fun k hk => by cases hk)).grown hgr2 (by omega) (fun k hk => by cases hk; exact Nat.le_refl _)
  have hu : TgAt v16.heap.size (tbN false ⟨#[97]⟩ (some ⟨v7.heap.size, 0, none⟩) 2 2) v54 := hg2
  replace lm := lm.below hb2
  replace hd := hd.below hb2
  replace lr := lr.below hb2
  replace ht := ht.below hb2
  replace hY := hY.trans (hb2.mono hY.size)
  replace hX := hX.trans (hb2.mono hX.size)
  clear hg1 hg2 hgr1 hgr2 hb2 hsz1 hsz2
  repeat (first | refine c_seq ?_ | refine c_region _ ?_ | refine wpList_nil ?_ | refine c_then ?_ | ((apply st hF); (exact d_fieldAddr (fld _ _ _ _ rfl) (isz _ _ rfl)); clear hF; clear a; intro a hF))
  refine st_store hF (isz _ _ rfl) hu (i := 0 + 4) (by show 0 + 4 < 6; decide) rfl rfl rfl (k := fun a v55 hg hgr hsz hF => ?_)
  replace hu : TgAt v16.heap.size (tbN false ⟨#[122]⟩ (some ⟨v7.heap.size, 0, none⟩) 2 2) v55 := hg
  replace lm : BkAt v4.heap.size ([twoM (some ⟨v2.heap.size, 0, none⟩) 1 1].flatMap Msg.cells) 27 v55 := blk_kept lm hgr (by simp; omega)
  replace hd : DgAt v5.heap.size (dbN (w.heap.size) (some ⟨v4.heap.size, 0, none⟩) 1 1 (some ⟨x, 0, none⟩) 1 1) v55 := blk_kept hd hgr (by simp; omega)
  replace lr : BkAt v7.heap.size ([⟨0, ⟨#[111, 102, 102]⟩⟩, ⟨1, ⟨#[111, 110]⟩⟩].flatMap RowV.cells) 116 v55 := blk_kept lr hgr (by simp; omega)
  replace ht : TgAt v8.heap.size (tbN false ⟨#[97]⟩ (some ⟨v7.heap.size, 0, none⟩) 2 2) v55 := blk_kept ht hgr (by simp; omega)
  replace hY := hY.grown hgr hY.size (fun k hk => by cases hk; omega)
  replace hX := hX.grown hgr hX.size (fun k hk => by cases hk; omega)
  clear hg hgr hsz
  repeat (first | refine c_seq ?_ | refine c_region _ ?_ | refine wpList_nil ?_ | refine c_then ?_ | ((apply st hF); (exact d_loadAgg (agg _ rfl) (isz _ _ rfl) rfl (cells_at ht)); clear hF; clear a; intro a hF))
  have hohuhw_ := lt_at hu
  have hwhw_ := hX.size
  have hwhYhw_ := hY.size
  refine st_alloc hF inf67 (k := fun a v56 hg1 hgr1 hsz1 hF => ?_)
  refine st_storeAgg hF (cs := (Tab.cells (tbN false ⟨#[97]⟩ (some ⟨v7.heap.size, 0, none⟩) 2 2)).toArray) (isz _ _ rfl) rfl rfl hg1 (tab_cells _) (k := fun a v57 hg2 hgr2 hsz2 hF => ?_)
  have hb2 : Below v55.heap.size v55 v57 := ((Below.refl _ v55).grown hgr1 (Nat.le_refl _) (fun k hk => by cases hk)).grown hgr2 (by omega) (fun k hk => by cases hk; exact Nat.le_refl _)
  have hw_ : TgAt v55.heap.size (tbN false ⟨#[97]⟩ (some ⟨v7.heap.size, 0, none⟩) 2 2) v57 := hg2
  replace lm := lm.below hb2
  replace hd := hd.below hb2
  replace lr := lr.below hb2
  replace ht := ht.below hb2
  replace hu := hu.below hb2
  replace hY := hY.trans (hb2.mono hY.size)
  replace hX := hX.trans (hb2.mono hX.size)
  clear hg1 hg2 hgr1 hgr2 hb2 hsz1 hsz2
  repeat (first | refine c_seq ?_ | refine c_region _ ?_ | refine wpList_nil ?_ | refine c_then ?_ | ((apply st hF); (exact d_fieldAddr (fld _ _ _ _ rfl) (isz _ _ rfl)); clear hF; clear a; intro a hF))
  refine st_store hF (isz _ _ rfl) hw_ (i := 0 + 3) (by show 0 + 3 < 6; decide) rfl rfl rfl (k := fun a v58 hg hgr hsz hF => ?_)
  replace hw_ : TgAt v55.heap.size (tbN true ⟨#[97]⟩ (some ⟨v7.heap.size, 0, none⟩) 2 2) v58 := hg
  replace lm : BkAt v4.heap.size ([twoM (some ⟨v2.heap.size, 0, none⟩) 1 1].flatMap Msg.cells) 27 v58 := blk_kept lm hgr (by simp; omega)
  replace hd : DgAt v5.heap.size (dbN (w.heap.size) (some ⟨v4.heap.size, 0, none⟩) 1 1 (some ⟨x, 0, none⟩) 1 1) v58 := blk_kept hd hgr (by simp; omega)
  replace lr : BkAt v7.heap.size ([⟨0, ⟨#[111, 102, 102]⟩⟩, ⟨1, ⟨#[111, 110]⟩⟩].flatMap RowV.cells) 116 v58 := blk_kept lr hgr (by simp; omega)
  replace ht : TgAt v8.heap.size (tbN false ⟨#[97]⟩ (some ⟨v7.heap.size, 0, none⟩) 2 2) v58 := blk_kept ht hgr (by simp; omega)
  replace hu : TgAt v16.heap.size (tbN false ⟨#[122]⟩ (some ⟨v7.heap.size, 0, none⟩) 2 2) v58 := blk_kept hu hgr (by simp; omega)
  replace hY := hY.grown hgr hY.size (fun k hk => by cases hk; omega)
  replace hX := hX.grown hgr hX.size (fun k hk => by cases hk; omega)
  clear hg hgr hsz
  repeat (first | refine c_seq ?_ | refine c_region _ ?_ | refine wpList_nil ?_ | refine c_then ?_ | ((apply st hF); (exact d_loadAgg (agg _ rfl) (isz _ _ rfl) rfl (cells_at hu)); clear hF; clear a; intro a hF))
  have hohw_lx := lt_at hw_
  have hwlx := hX.size
  have hwhYlx := hY.size
  refine st hF (d_buildSS [(Tab.cells (tbN false ⟨#[122]⟩ (some ⟨v7.heap.size, 0, none⟩) 2 2)).toArray] (und _ _ rfl) inf67 (by decide) (by decide) (by decide) rfl (by simp [Tab.cells]) ⟨rfl, rfl, trivial⟩) rfl (fun a hF => ?_)
  have hb := below_alloc v58 (.cells (([(Tab.cells (tbN false ⟨#[122]⟩ (some ⟨v7.heap.size, 0, none⟩) 2 2)).toArray]).flatMap fun u => u.toList).toArray 67)
  have lx : BkAt v58.heap.size ([tbN false ⟨#[122]⟩ (some ⟨v7.heap.size, 0, none⟩) 2 2].flatMap Tab.cells) 67 _ := bk_alloc v58 Tab.cells [tbN false ⟨#[122]⟩ (some ⟨v7.heap.size, 0, none⟩) 2 2] 67 (([(Tab.cells (tbN false ⟨#[122]⟩ (some ⟨v7.heap.size, 0, none⟩) 2 2)).toArray]).flatMap fun u => u.toList).toArray (by simp)
  generalize v58.alloc _ = v59 at *
  replace lm := lm.below hb
  replace hd := hd.below hb
  replace lr := lr.below hb
  replace ht := ht.below hb
  replace hu := hu.below hb
  replace hw_ := hw_.below hb
  replace hY := hY.trans (hb.mono hY.size)
  replace hX := hX.trans (hb.mono hX.size)
  repeat (((apply st hF); (exact d_fieldAddr (fld _ _ _ _ rfl) (isz _ _ rfl)); clear hF; clear a; intro a hF))
  refine st_store hF (isz _ _ rfl) hd (i := 0 + 8) (by show 0 + 8 < 9; decide) rfl rfl rfl (k := fun a v60 hg hgr hsz hF => ?_)
  replace hd : DgAt v5.heap.size (dbN (w.heap.size) (some ⟨v4.heap.size, 0, none⟩) 1 1 (some ⟨v58.heap.size, 0, none⟩) 1 1) v60 := hg
  replace lm : BkAt v4.heap.size ([twoM (some ⟨v2.heap.size, 0, none⟩) 1 1].flatMap Msg.cells) 27 v60 := blk_kept lm hgr (by simp; omega)
  replace lr : BkAt v7.heap.size ([⟨0, ⟨#[111, 102, 102]⟩⟩, ⟨1, ⟨#[111, 110]⟩⟩].flatMap RowV.cells) 116 v60 := blk_kept lr hgr (by simp; omega)
  replace ht : TgAt v8.heap.size (tbN false ⟨#[97]⟩ (some ⟨v7.heap.size, 0, none⟩) 2 2) v60 := blk_kept ht hgr (by simp; omega)
  replace hu : TgAt v16.heap.size (tbN false ⟨#[122]⟩ (some ⟨v7.heap.size, 0, none⟩) 2 2) v60 := blk_kept hu hgr (by simp; omega)
  replace hw_ : TgAt v55.heap.size (tbN true ⟨#[97]⟩ (some ⟨v7.heap.size, 0, none⟩) 2 2) v60 := blk_kept hw_ hgr (by simp; omega)
  replace lx : BkAt v58.heap.size ([tbN false ⟨#[122]⟩ (some ⟨v7.heap.size, 0, none⟩) 2 2].flatMap Tab.cells) 67 v60 := blk_kept lx hgr (by simp; omega)
  replace hY := hY.grown hgr hY.size (fun k hk => by cases hk; omega)
  replace hX := hX.grown hgr hX.size (fun k hk => by cases hk; omega)
  clear hg hgr hsz
  repeat (first | refine c_seq ?_ | refine c_region _ ?_ | refine wpList_nil ?_ | refine c_then ?_ | ((apply st hF); (exact d_loadAgg (agg _ rfl) (isz _ _ rfl) rfl (cells_at hd)); clear hF; clear a; intro a hF))
  refine stc hF (cdb_k v60 (dbN (w.heap.size) (some ⟨v4.heap.size, 0, none⟩) 1 1 (some ⟨v58.heap.size, 0, none⟩) 1 1) [⟨#[65]⟩] [(twoM (some ⟨v2.heap.size, 0, none⟩) 1 1, [(oneS ⟨#[97]⟩ 0 8 g, txA)])] [(tbN false ⟨#[122]⟩ (some ⟨v7.heap.size, 0, none⟩) 2 2, [⟨0, ⟨#[111, 102, 102]⟩⟩, ⟨1, ⟨#[111, 110]⟩⟩])] (dbN_in (hN0.below hY) (msgs_bk (ms := [(twoM (some ⟨v2.heap.size, 0, none⟩) 1 1, [(oneS ⟨#[97]⟩ 0 8 g, txA)])]) lm rfl (by decide) (by intro p hp; simp only [List.mem_cons, List.not_mem_nil, or_false] at hp; rcases hp with rfl; exact SigsIn.below hM0 hY) (by intro p hp; simp only [List.mem_cons, List.not_mem_nil, or_false] at hp; rcases hp with rfl; exact ⟨(by intro q hq; simp only [List.mem_cons, List.not_mem_nil, or_false] at hq; rcases hq with rfl; constructor <;> (dsimp only [oneS]; omega)), by dsimp only [twoM]; omega, by dsimp only [twoM]; omega⟩)) (tabs_bk (ts := [(tbN false ⟨#[122]⟩ (some ⟨v7.heap.size, 0, none⟩) 2 2, [⟨0, ⟨#[111, 102, 102]⟩⟩, ⟨1, ⟨#[111, 110]⟩⟩])]) lx rfl (by decide) (by intro p hp; simp only [List.mem_cons, List.not_mem_nil, or_false] at hp; rcases hp with rfl <;> exact rows_bk (n := 2) rfl rfl rfl (rs := [⟨0, ⟨#[111, 102, 102]⟩⟩, ⟨1, ⟨#[111, 110]⟩⟩]) lr rfl (by decide) (by intro r hr; simp only [List.mem_cons, List.not_mem_nil, or_false] at hr; rcases hr with rfl | rfl <;> constructor <;> (dsimp only; omega))) (by intro p hp; simp only [List.mem_cons, List.not_mem_nil, or_false] at hp; rcases hp with rfl <;> exact ⟨⟨by dsimp only [tbN]; omega, by dsimp only [tbN]; omega⟩, by dsimp only [tbN]; decide⟩))) (hT.below hX) 13 0 0 ((db_C rfl (ids_mem (by intro p hp; simp only [List.mem_cons, List.not_mem_nil, or_false] at hp; rcases hp with rfl; exact ⟨by dsimp only [twoM]; omega, by dsimp only [twoM]; omega⟩)) (units_mem (by intro p hp; simp only [List.mem_cons, List.not_mem_nil, or_false] at hp; rcases hp with rfl; intro q hq; simp only [List.mem_cons, List.not_mem_nil, or_false] at hq; rcases hq with rfl; rfl)) (texts_mem (by intro p hp; simp only [List.mem_cons, List.not_mem_nil, or_false] at hp; rcases hp with rfl <;> (intro r hr; simp only [List.mem_cons, List.not_mem_nil, or_false] at hr; rcases hr with rfl | rfl) <;> first | exact textE_off | exact textE_on))).trans (by kernel_rfl)) (by decide)) cal21 ⟨rfl, trivial⟩ (k := fun a v v61 hR hF => ?_)
  obtain ⟨rfl, hb⟩ := hR
  replace lm := lm.below hb
  replace hd := hd.below hb
  replace lr := lr.below hb
  replace ht := ht.below hb
  replace hu := hu.below hb
  replace hw_ := hw_.below hb
  replace lx := lx.below hb
  replace hY := hY.trans (hb.mono hY.size)
  replace hX := hX.trans (hb.mono hX.size)
  clear lx
  repeat (first | refine c_seq ?_ | refine c_region _ ?_ | refine wpList_nil ?_ | refine c_then ?_ | ((apply st hF); (first | exact d_assign | exact d_loadAgg (agg _ rfl) (isz _ _ rfl) rfl (cells_at hw_)); clear hF; clear a; intro a hF))
  have hohw_lx := lt_at hw_
  have hwlx := hX.size
  have hwhYlx := hY.size
  refine st hF (d_buildSS [(Tab.cells (tbN true ⟨#[97]⟩ (some ⟨v7.heap.size, 0, none⟩) 2 2)).toArray] (und _ _ rfl) inf67 (by decide) (by decide) (by decide) rfl (by simp [Tab.cells]) ⟨rfl, rfl, trivial⟩) rfl (fun a hF => ?_)
  have hb := below_alloc v61 (.cells (([(Tab.cells (tbN true ⟨#[97]⟩ (some ⟨v7.heap.size, 0, none⟩) 2 2)).toArray]).flatMap fun u => u.toList).toArray 67)
  have lx : BkAt v61.heap.size ([tbN true ⟨#[97]⟩ (some ⟨v7.heap.size, 0, none⟩) 2 2].flatMap Tab.cells) 67 _ := bk_alloc v61 Tab.cells [tbN true ⟨#[97]⟩ (some ⟨v7.heap.size, 0, none⟩) 2 2] 67 (([(Tab.cells (tbN true ⟨#[97]⟩ (some ⟨v7.heap.size, 0, none⟩) 2 2)).toArray]).flatMap fun u => u.toList).toArray (by simp)
  generalize v61.alloc _ = v62 at *
  replace lm := lm.below hb
  replace hd := hd.below hb
  replace lr := lr.below hb
  replace ht := ht.below hb
  replace hu := hu.below hb
  replace hw_ := hw_.below hb
  replace hY := hY.trans (hb.mono hY.size)
  replace hX := hX.trans (hb.mono hX.size)
  repeat (((apply st hF); (exact d_fieldAddr (fld _ _ _ _ rfl) (isz _ _ rfl)); clear hF; clear a; intro a hF))
  refine st_store hF (isz _ _ rfl) hd (i := 0 + 8) (by show 0 + 8 < 9; decide) rfl rfl rfl (k := fun a v63 hg hgr hsz hF => ?_)
  replace hd : DgAt v5.heap.size (dbN (w.heap.size) (some ⟨v4.heap.size, 0, none⟩) 1 1 (some ⟨v61.heap.size, 0, none⟩) 1 1) v63 := hg
  replace lm : BkAt v4.heap.size ([twoM (some ⟨v2.heap.size, 0, none⟩) 1 1].flatMap Msg.cells) 27 v63 := blk_kept lm hgr (by simp; omega)
  replace lr : BkAt v7.heap.size ([⟨0, ⟨#[111, 102, 102]⟩⟩, ⟨1, ⟨#[111, 110]⟩⟩].flatMap RowV.cells) 116 v63 := blk_kept lr hgr (by simp; omega)
  replace ht : TgAt v8.heap.size (tbN false ⟨#[97]⟩ (some ⟨v7.heap.size, 0, none⟩) 2 2) v63 := blk_kept ht hgr (by simp; omega)
  replace hu : TgAt v16.heap.size (tbN false ⟨#[122]⟩ (some ⟨v7.heap.size, 0, none⟩) 2 2) v63 := blk_kept hu hgr (by simp; omega)
  replace hw_ : TgAt v55.heap.size (tbN true ⟨#[97]⟩ (some ⟨v7.heap.size, 0, none⟩) 2 2) v63 := blk_kept hw_ hgr (by simp; omega)
  replace lx : BkAt v61.heap.size ([tbN true ⟨#[97]⟩ (some ⟨v7.heap.size, 0, none⟩) 2 2].flatMap Tab.cells) 67 v63 := blk_kept lx hgr (by simp; omega)
  replace hY := hY.grown hgr hY.size (fun k hk => by cases hk; omega)
  replace hX := hX.grown hgr hX.size (fun k hk => by cases hk; omega)
  clear hg hgr hsz
  repeat (first | refine c_seq ?_ | refine c_region _ ?_ | refine wpList_nil ?_ | refine c_then ?_ | ((apply st hF); (exact d_loadAgg (agg _ rfl) (isz _ _ rfl) rfl (cells_at hd)); clear hF; clear a; intro a hF))
  refine stc hF (cdb_k v63 (dbN (w.heap.size) (some ⟨v4.heap.size, 0, none⟩) 1 1 (some ⟨v61.heap.size, 0, none⟩) 1 1) [⟨#[65]⟩] [(twoM (some ⟨v2.heap.size, 0, none⟩) 1 1, [(oneS ⟨#[97]⟩ 0 8 g, txA)])] [(tbN true ⟨#[97]⟩ (some ⟨v7.heap.size, 0, none⟩) 2 2, [⟨0, ⟨#[111, 102, 102]⟩⟩, ⟨1, ⟨#[111, 110]⟩⟩])] (dbN_in (hN0.below hY) (msgs_bk (ms := [(twoM (some ⟨v2.heap.size, 0, none⟩) 1 1, [(oneS ⟨#[97]⟩ 0 8 g, txA)])]) lm rfl (by decide) (by intro p hp; simp only [List.mem_cons, List.not_mem_nil, or_false] at hp; rcases hp with rfl; exact SigsIn.below hM0 hY) (by intro p hp; simp only [List.mem_cons, List.not_mem_nil, or_false] at hp; rcases hp with rfl; exact ⟨(by intro q hq; simp only [List.mem_cons, List.not_mem_nil, or_false] at hq; rcases hq with rfl; constructor <;> (dsimp only [oneS]; omega)), by dsimp only [twoM]; omega, by dsimp only [twoM]; omega⟩)) (tabs_bk (ts := [(tbN true ⟨#[97]⟩ (some ⟨v7.heap.size, 0, none⟩) 2 2, [⟨0, ⟨#[111, 102, 102]⟩⟩, ⟨1, ⟨#[111, 110]⟩⟩])]) lx rfl (by decide) (by intro p hp; simp only [List.mem_cons, List.not_mem_nil, or_false] at hp; rcases hp with rfl <;> exact rows_bk (n := 2) rfl rfl rfl (rs := [⟨0, ⟨#[111, 102, 102]⟩⟩, ⟨1, ⟨#[111, 110]⟩⟩]) lr rfl (by decide) (by intro r hr; simp only [List.mem_cons, List.not_mem_nil, or_false] at hr; rcases hr with rfl | rfl <;> constructor <;> (dsimp only; omega))) (by intro p hp; simp only [List.mem_cons, List.not_mem_nil, or_false] at hp; rcases hp with rfl <;> exact ⟨⟨by dsimp only [tbN]; omega, by dsimp only [tbN]; omega⟩, by dsimp only [tbN]; decide⟩))) (hT.below hX) 13 0 0 ((db_C rfl (ids_mem (by intro p hp; simp only [List.mem_cons, List.not_mem_nil, or_false] at hp; rcases hp with rfl; exact ⟨by dsimp only [twoM]; omega, by dsimp only [twoM]; omega⟩)) (units_mem (by intro p hp; simp only [List.mem_cons, List.not_mem_nil, or_false] at hp; rcases hp with rfl; intro q hq; simp only [List.mem_cons, List.not_mem_nil, or_false] at hq; rcases hq with rfl; rfl)) (texts_mem (by intro p hp; simp only [List.mem_cons, List.not_mem_nil, or_false] at hp; rcases hp with rfl <;> (intro r hr; simp only [List.mem_cons, List.not_mem_nil, or_false] at hr; rcases hr with rfl | rfl) <;> first | exact textE_off | exact textE_on))).trans (by kernel_rfl)) (by decide)) cal21 ⟨rfl, trivial⟩ (k := fun a v v64 hR hF => ?_)
  obtain ⟨rfl, hb⟩ := hR
  replace lm := lm.below hb
  replace hd := hd.below hb
  replace lr := lr.below hb
  replace ht := ht.below hb
  replace hu := hu.below hb
  replace hw_ := hw_.below hb
  replace lx := lx.below hb
  replace hY := hY.trans (hb.mono hY.size)
  replace hX := hX.trans (hb.mono hX.size)
  clear lx
  repeat (first | refine c_seq ?_ | refine c_region _ ?_ | refine wpList_nil ?_ | refine c_then ?_ | ((apply st hF); (first | exact d_assign | exact d_loadAgg (agg _ rfl) (isz _ _ rfl) rfl (cells_at ht)); clear hF; clear a; intro a hF))
  have hohw_lx := lt_at hw_
  have hwlx := hX.size
  have hwhYlx := hY.size
  refine st hF (d_buildSS [(Tab.cells (tbN false ⟨#[97]⟩ (some ⟨v7.heap.size, 0, none⟩) 2 2)).toArray, (Tab.cells (tbN false ⟨#[97]⟩ (some ⟨v7.heap.size, 0, none⟩) 2 2)).toArray] (und _ _ rfl) inf67 (by decide) (by decide) (by decide) rfl (by simp [Tab.cells]) ⟨rfl, rfl, rfl, rfl, trivial⟩) rfl (fun a hF => ?_)
  have hb := below_alloc v64 (.cells (([(Tab.cells (tbN false ⟨#[97]⟩ (some ⟨v7.heap.size, 0, none⟩) 2 2)).toArray, (Tab.cells (tbN false ⟨#[97]⟩ (some ⟨v7.heap.size, 0, none⟩) 2 2)).toArray]).flatMap fun u => u.toList).toArray 67)
  have lx : BkAt v64.heap.size ([tbN false ⟨#[97]⟩ (some ⟨v7.heap.size, 0, none⟩) 2 2, tbN false ⟨#[97]⟩ (some ⟨v7.heap.size, 0, none⟩) 2 2].flatMap Tab.cells) 67 _ := bk_alloc v64 Tab.cells [tbN false ⟨#[97]⟩ (some ⟨v7.heap.size, 0, none⟩) 2 2, tbN false ⟨#[97]⟩ (some ⟨v7.heap.size, 0, none⟩) 2 2] 67 (([(Tab.cells (tbN false ⟨#[97]⟩ (some ⟨v7.heap.size, 0, none⟩) 2 2)).toArray, (Tab.cells (tbN false ⟨#[97]⟩ (some ⟨v7.heap.size, 0, none⟩) 2 2)).toArray]).flatMap fun u => u.toList).toArray (by simp)
  generalize v64.alloc _ = v65 at *
  replace lm := lm.below hb
  replace hd := hd.below hb
  replace lr := lr.below hb
  replace ht := ht.below hb
  replace hu := hu.below hb
  replace hw_ := hw_.below hb
  replace hY := hY.trans (hb.mono hY.size)
  replace hX := hX.trans (hb.mono hX.size)
  repeat (((apply st hF); (exact d_fieldAddr (fld _ _ _ _ rfl) (isz _ _ rfl)); clear hF; clear a; intro a hF))
  refine st_store hF (isz _ _ rfl) hd (i := 0 + 8) (by show 0 + 8 < 9; decide) rfl rfl rfl (k := fun a v66 hg hgr hsz hF => ?_)
  replace hd : DgAt v5.heap.size (dbN (w.heap.size) (some ⟨v4.heap.size, 0, none⟩) 1 1 (some ⟨v64.heap.size, 0, none⟩) 2 2) v66 := hg
  replace lm : BkAt v4.heap.size ([twoM (some ⟨v2.heap.size, 0, none⟩) 1 1].flatMap Msg.cells) 27 v66 := blk_kept lm hgr (by simp; omega)
  replace lr : BkAt v7.heap.size ([⟨0, ⟨#[111, 102, 102]⟩⟩, ⟨1, ⟨#[111, 110]⟩⟩].flatMap RowV.cells) 116 v66 := blk_kept lr hgr (by simp; omega)
  replace ht : TgAt v8.heap.size (tbN false ⟨#[97]⟩ (some ⟨v7.heap.size, 0, none⟩) 2 2) v66 := blk_kept ht hgr (by simp; omega)
  replace hu : TgAt v16.heap.size (tbN false ⟨#[122]⟩ (some ⟨v7.heap.size, 0, none⟩) 2 2) v66 := blk_kept hu hgr (by simp; omega)
  replace hw_ : TgAt v55.heap.size (tbN true ⟨#[97]⟩ (some ⟨v7.heap.size, 0, none⟩) 2 2) v66 := blk_kept hw_ hgr (by simp; omega)
  replace lx : BkAt v64.heap.size ([tbN false ⟨#[97]⟩ (some ⟨v7.heap.size, 0, none⟩) 2 2, tbN false ⟨#[97]⟩ (some ⟨v7.heap.size, 0, none⟩) 2 2].flatMap Tab.cells) 67 v66 := blk_kept lx hgr (by simp; omega)
  replace hY := hY.grown hgr hY.size (fun k hk => by cases hk; omega)
  replace hX := hX.grown hgr hX.size (fun k hk => by cases hk; omega)
  clear hg hgr hsz
  repeat (first | refine c_seq ?_ | refine c_region _ ?_ | refine wpList_nil ?_ | refine c_then ?_ | ((apply st hF); (exact d_loadAgg (agg _ rfl) (isz _ _ rfl) rfl (cells_at hd)); clear hF; clear a; intro a hF))
  refine stc hF (cdb_k v66 (dbN (w.heap.size) (some ⟨v4.heap.size, 0, none⟩) 1 1 (some ⟨v64.heap.size, 0, none⟩) 2 2) [⟨#[65]⟩] [(twoM (some ⟨v2.heap.size, 0, none⟩) 1 1, [(oneS ⟨#[97]⟩ 0 8 g, txA)])] [(tbN false ⟨#[97]⟩ (some ⟨v7.heap.size, 0, none⟩) 2 2, [⟨0, ⟨#[111, 102, 102]⟩⟩, ⟨1, ⟨#[111, 110]⟩⟩]), (tbN false ⟨#[97]⟩ (some ⟨v7.heap.size, 0, none⟩) 2 2, [⟨0, ⟨#[111, 102, 102]⟩⟩, ⟨1, ⟨#[111, 110]⟩⟩])] (dbN_in (hN0.below hY) (msgs_bk (ms := [(twoM (some ⟨v2.heap.size, 0, none⟩) 1 1, [(oneS ⟨#[97]⟩ 0 8 g, txA)])]) lm rfl (by decide) (by intro p hp; simp only [List.mem_cons, List.not_mem_nil, or_false] at hp; rcases hp with rfl; exact SigsIn.below hM0 hY) (by intro p hp; simp only [List.mem_cons, List.not_mem_nil, or_false] at hp; rcases hp with rfl; exact ⟨(by intro q hq; simp only [List.mem_cons, List.not_mem_nil, or_false] at hq; rcases hq with rfl; constructor <;> (dsimp only [oneS]; omega)), by dsimp only [twoM]; omega, by dsimp only [twoM]; omega⟩)) (tabs_bk (ts := [(tbN false ⟨#[97]⟩ (some ⟨v7.heap.size, 0, none⟩) 2 2, [⟨0, ⟨#[111, 102, 102]⟩⟩, ⟨1, ⟨#[111, 110]⟩⟩]), (tbN false ⟨#[97]⟩ (some ⟨v7.heap.size, 0, none⟩) 2 2, [⟨0, ⟨#[111, 102, 102]⟩⟩, ⟨1, ⟨#[111, 110]⟩⟩])]) lx rfl (by decide) (by intro p hp; simp only [List.mem_cons, List.not_mem_nil, or_false] at hp; rcases hp with rfl | rfl <;> exact rows_bk (n := 2) rfl rfl rfl (rs := [⟨0, ⟨#[111, 102, 102]⟩⟩, ⟨1, ⟨#[111, 110]⟩⟩]) lr rfl (by decide) (by intro r hr; simp only [List.mem_cons, List.not_mem_nil, or_false] at hr; rcases hr with rfl | rfl <;> constructor <;> (dsimp only; omega))) (by intro p hp; simp only [List.mem_cons, List.not_mem_nil, or_false] at hp; rcases hp with rfl | rfl <;> exact ⟨⟨by dsimp only [tbN]; omega, by dsimp only [tbN]; omega⟩, by dsimp only [tbN]; decide⟩))) (hT.below hX) 12 0 0 ((db_C rfl (ids_mem (by intro p hp; simp only [List.mem_cons, List.not_mem_nil, or_false] at hp; rcases hp with rfl; exact ⟨by dsimp only [twoM]; omega, by dsimp only [twoM]; omega⟩)) (units_mem (by intro p hp; simp only [List.mem_cons, List.not_mem_nil, or_false] at hp; rcases hp with rfl; intro q hq; simp only [List.mem_cons, List.not_mem_nil, or_false] at hq; rcases hq with rfl; rfl)) (texts_mem (by intro p hp; simp only [List.mem_cons, List.not_mem_nil, or_false] at hp; rcases hp with rfl | rfl <;> (intro r hr; simp only [List.mem_cons, List.not_mem_nil, or_false] at hr; rcases hr with rfl | rfl) <;> first | exact textE_off | exact textE_on))).trans (by kernel_rfl)) (by decide)) cal21 ⟨rfl, trivial⟩ (k := fun a v v67 hR hF => ?_)
  obtain ⟨rfl, hb⟩ := hR
  replace lm := lm.below hb
  replace hd := hd.below hb
  replace lr := lr.below hb
  replace ht := ht.below hb
  replace hu := hu.below hb
  replace hw_ := hw_.below hb
  replace lx := lx.below hb
  replace hY := hY.trans (hb.mono hY.size)
  replace hX := hX.trans (hb.mono hX.size)
  clear lx
  repeat (first | refine c_seq ?_ | refine c_region _ ?_ | refine wpList_nil ?_ | refine c_then ?_ | ((apply st hF); (first | exact d_assign | exact d_fieldAddr (fld _ _ _ _ rfl) (isz _ _ rfl)); clear hF; clear a; intro a hF))
  refine st_store hF (isz _ _ rfl) hd (i := 0 + 8) (by show 0 + 8 < 9; decide) rfl rfl rfl (k := fun a v68 hg hgr hsz hF => ?_)
  replace hd : DgAt v5.heap.size (dbN (w.heap.size) (some ⟨v4.heap.size, 0, none⟩) 1 1 none 0 0) v68 := hg
  replace lm : BkAt v4.heap.size ([twoM (some ⟨v2.heap.size, 0, none⟩) 1 1].flatMap Msg.cells) 27 v68 := blk_kept lm hgr (by simp; omega)
  replace lr : BkAt v7.heap.size ([⟨0, ⟨#[111, 102, 102]⟩⟩, ⟨1, ⟨#[111, 110]⟩⟩].flatMap RowV.cells) 116 v68 := blk_kept lr hgr (by simp; omega)
  replace ht : TgAt v8.heap.size (tbN false ⟨#[97]⟩ (some ⟨v7.heap.size, 0, none⟩) 2 2) v68 := blk_kept ht hgr (by simp; omega)
  replace hu : TgAt v16.heap.size (tbN false ⟨#[122]⟩ (some ⟨v7.heap.size, 0, none⟩) 2 2) v68 := blk_kept hu hgr (by simp; omega)
  replace hw_ : TgAt v55.heap.size (tbN true ⟨#[97]⟩ (some ⟨v7.heap.size, 0, none⟩) 2 2) v68 := blk_kept hw_ hgr (by simp; omega)
  replace hY := hY.grown hgr hY.size (fun k hk => by cases hk; omega)
  replace hX := hX.grown hgr hX.size (fun k hk => by cases hk; omega)
  clear hg hgr hsz
  clear hu
  clear hw_
  clear ht
  clear lr
  refine wpList_nil (c_then ?_)
  replace hF := hF.keep' (l' := [(1, .pointer (some ⟨v5.heap.size, 0, none⟩)), (10, fltV 13 0 0), (11, fltV 13 0 0), (12, fltV 12 0 0)]) ⟨rfl, rfl, rfl, rfl, trivial⟩
  refine c_mid (fun a wm => ∃ g2 c2 : Nat, Fr 138 [(1, .pointer (some ⟨v5.heap.size, 0, none⟩)), (10, fltV 13 0 0), (11, fltV 13 0 0), (12, fltV 12 0 0)] a ∧ DgAt v5.heap.size (dbN (w.heap.size) (some ⟨g2, 0, none⟩) 2 c2 none 0 0) wm ∧ wm.ownsRow v4.heap.size 27 8 (.slice (some ⟨g2, 0, none⟩) 2 c2) 2 ([twoM (some ⟨v2.heap.size, 0, none⟩) 1 1, twoM none 0 0].flatMap Msg.cells) ∧ Below w.heap.size w wm ∧ Below v4.heap.size v4 wm) ?_ ?_
  · refine c_region_tree (fun _ => True) (.read 0 (.two 1 2 (.sole 2 (.sole 3 (.sole 4 (.read 5 (.sole 6 .done))))) (.two 1 3 (.sole 3 (.sole 4 (.read 5 (.sole 6 .done)))) (.sole 1 (.sole 4 (.read 5 (.sole 6 .done))))))) 28 mixed (by kernel_rfl) trivial ?_
    have hdb : Below v68.heap.size v68 (v68.drewN 1) := below_more (Below.refl _ v68) 1
    generalize v68.drewN 1 = v69 at *
    replace lm := lm.below hdb
    replace hd := hd.below hdb
    replace hY := hY.trans (hdb.mono hY.size)
    replace hX := hX.trans (hdb.mono hX.size)
    have c7 := fun (wq : World) (h : DgAt v5.heap.size (dbN (w.heap.size) (some ⟨v4.heap.size, 0, none⟩) 1 1 none 0 0) wq) => h.c 7 _ rfl
    refine r_read hF rfl (fun wq _ => d_fieldAddr (fld _ _ _ _ rfl) (isz _ _ rfl)) rfl (fun a hF => ?_)
    refine r_two rfl rfl ?_ ?_
    · have hid0 := 0
      refine st hF (d_load (und _ _ rfl) (c7 _ hd)) rfl (fun a hF => wpList_nil ⟨rfl, trivial, ?_⟩)
      refine r_sole rfl ?_
      refine stc hF (two_ok v69 none 0 0) cal29 ⟨rfl, trivial⟩ (k := fun a v v70 hR hF => ?_)
      obtain ⟨rfl, hb⟩ := hR
      replace lm := lm.below hb
      replace hd := hd.below hb
      replace hY := hY.trans (hb.mono hY.size)
      replace hX := hX.trans (hb.mono hX.size)
      refine wpList_nil ⟨rfl, trivial, ?_⟩
      refine r_sole rfl ?_
      have hohdl2 := lt_at hd
      have hwl2 := hX.size
      have hwhYl2 := hY.size
      refine st hF (d_buildSS [(Msg.cells (twoM none 0 0)).toArray] (und _ _ rfl) inf27 (by decide) (by decide) (by decide) rfl (by simp [Msg.cells]) ⟨rfl, rfl, trivial⟩) rfl (fun a hF => ?_)
      have hb := below_alloc v70 (.cells (([(Msg.cells (twoM none 0 0)).toArray]).flatMap fun u => u.toList).toArray 27)
      have l2 : BkAt v70.heap.size ([twoM none 0 0].flatMap Msg.cells) 27 _ := bk_alloc v70 Msg.cells [twoM none 0 0] 27 (([(Msg.cells (twoM none 0 0)).toArray]).flatMap fun u => u.toList).toArray (by simp)
      generalize v70.alloc _ = v71 at *
      replace lm := lm.below hb
      replace hd := hd.below hb
      replace hY := hY.trans (hb.mono hY.size)
      replace hX := hX.trans (hb.mono hX.size)
      refine wpList_nil ⟨rfl, trivial, ?_⟩
      refine r_sole rfl ?_
      have hown := lm.own (sz := 8) (n := 1) (base := v4.heap.size) (Nat.le_refl _) rfl (by decide)
      refine st_appendS (m := 1) (n := 1) (ys := [twoM none 0 0]) (enc := Msg.cells) hF msgc_len (by decide) (und _ _ rfl) inf27 rfl hown rfl (l2.rdS (enc := Msg.cells) (xs := [twoM none 0 0]) msgc_len (by simp)) (fun y v hv => msg_cells y v (by simpa using hv)) (by omega) (by unfold maxLen; omega) hY.size (k := fun a ao2 c2 v72 hO hgr hF => wpList_nil ⟨rfl, trivial, ?_⟩)
      obtain ⟨g2, rfl, _⟩ := own_some hO (by decide)
      replace hO : v72.ownsRow v4.heap.size 27 8 (.slice (some ⟨g2, 0, none⟩) 2 c2) 2 ([twoM (some ⟨v2.heap.size, 0, none⟩) 1 1, twoM none 0 0].flatMap Msg.cells) := hO
      replace hd : DgAt v5.heap.size (dbN (w.heap.size) (some ⟨v4.heap.size, 0, none⟩) 1 1 none 0 0) v72 := blk_kept hd hgr (by simp [Value.ownBlock]; omega)
      replace hY := below_own hY hY.size hown hgr
      replace hX := hX.grown hgr hX.size (fun k hk => by simp only [Value.ownBlock, Option.some.injEq] at hk; omega)
      refine r_read hF rfl (fun wq _ => d_fieldAddr (fld _ _ _ _ rfl) (isz _ _ rfl)) rfl (fun a hF => ?_)
      refine r_sole rfl ?_
      refine st_store hF (isz _ _ rfl) hd (i := 0 + 7) (by show 0 + 7 < 9; decide) rfl rfl rfl (k := fun a v73 hg hgr2 hsz hF => wpList_nil ⟨rfl, trivial, ?_⟩)
      refine r_done (c_then ⟨g2, c2, hF.keep' ⟨rfl, rfl, rfl, rfl, trivial⟩, hg, own_keptT hO hd (by decide) hgr2, hX.grown hgr2 hX.size (fun k hk => by cases hk; omega), hY.grown hgr2 hY.size (fun k hk => by cases hk; omega)⟩)
    · have hid0 := 0
      refine stc hF (two_ok v69 none 0 0) cal29 ⟨rfl, trivial⟩ (k := fun a v v74 hR hF => ?_)
      obtain ⟨rfl, hb⟩ := hR
      replace lm := lm.below hb
      replace hd := hd.below hb
      replace hY := hY.trans (hb.mono hY.size)
      replace hX := hX.trans (hb.mono hX.size)
      refine wpList_nil ⟨rfl, trivial, ?_⟩
      refine r_two rfl rfl ?_ ?_
      · have hid1 := 0
        refine st hF (d_load (und _ _ rfl) (c7 _ hd)) rfl (fun a hF => wpList_nil ⟨rfl, trivial, ?_⟩)
        refine r_sole rfl ?_
        have hohdl2 := lt_at hd
        have hwl2 := hX.size
        have hwhYl2 := hY.size
        refine st hF (d_buildSS [(Msg.cells (twoM none 0 0)).toArray] (und _ _ rfl) inf27 (by decide) (by decide) (by decide) rfl (by simp [Msg.cells]) ⟨rfl, rfl, trivial⟩) rfl (fun a hF => ?_)
        have hb := below_alloc v74 (.cells (([(Msg.cells (twoM none 0 0)).toArray]).flatMap fun u => u.toList).toArray 27)
        have l2 : BkAt v74.heap.size ([twoM none 0 0].flatMap Msg.cells) 27 _ := bk_alloc v74 Msg.cells [twoM none 0 0] 27 (([(Msg.cells (twoM none 0 0)).toArray]).flatMap fun u => u.toList).toArray (by simp)
        generalize v74.alloc _ = v75 at *
        replace lm := lm.below hb
        replace hd := hd.below hb
        replace hY := hY.trans (hb.mono hY.size)
        replace hX := hX.trans (hb.mono hX.size)
        refine wpList_nil ⟨rfl, trivial, ?_⟩
        refine r_sole rfl ?_
        have hown := lm.own (sz := 8) (n := 1) (base := v4.heap.size) (Nat.le_refl _) rfl (by decide)
        refine st_appendS (m := 1) (n := 1) (ys := [twoM none 0 0]) (enc := Msg.cells) hF msgc_len (by decide) (und _ _ rfl) inf27 rfl hown rfl (l2.rdS (enc := Msg.cells) (xs := [twoM none 0 0]) msgc_len (by simp)) (fun y v hv => msg_cells y v (by simpa using hv)) (by omega) (by unfold maxLen; omega) hY.size (k := fun a ao2 c2 v76 hO hgr hF => wpList_nil ⟨rfl, trivial, ?_⟩)
        obtain ⟨g2, rfl, _⟩ := own_some hO (by decide)
        replace hO : v76.ownsRow v4.heap.size 27 8 (.slice (some ⟨g2, 0, none⟩) 2 c2) 2 ([twoM (some ⟨v2.heap.size, 0, none⟩) 1 1, twoM none 0 0].flatMap Msg.cells) := hO
        replace hd : DgAt v5.heap.size (dbN (w.heap.size) (some ⟨v4.heap.size, 0, none⟩) 1 1 none 0 0) v76 := blk_kept hd hgr (by simp [Value.ownBlock]; omega)
        replace hY := below_own hY hY.size hown hgr
        replace hX := hX.grown hgr hX.size (fun k hk => by simp only [Value.ownBlock, Option.some.injEq] at hk; omega)
        refine r_read hF rfl (fun wq _ => d_fieldAddr (fld _ _ _ _ rfl) (isz _ _ rfl)) rfl (fun a hF => ?_)
        refine r_sole rfl ?_
        refine st_store hF (isz _ _ rfl) hd (i := 0 + 7) (by show 0 + 7 < 9; decide) rfl rfl rfl (k := fun a v77 hg hgr2 hsz hF => wpList_nil ⟨rfl, trivial, ?_⟩)
        refine r_done (c_then ⟨g2, c2, hF.keep' ⟨rfl, rfl, rfl, rfl, trivial⟩, hg, own_keptT hO hd (by decide) hgr2, hX.grown hgr2 hX.size (fun k hk => by cases hk; omega), hY.grown hgr2 hY.size (fun k hk => by cases hk; omega)⟩)
      · have hid1 := 0
        have hohdl2 := lt_at hd
        have hwl2 := hX.size
        have hwhYl2 := hY.size
        refine st hF (d_buildSS [(Msg.cells (twoM none 0 0)).toArray] (und _ _ rfl) inf27 (by decide) (by decide) (by decide) rfl (by simp [Msg.cells]) ⟨rfl, rfl, trivial⟩) rfl (fun a hF => ?_)
        have hb := below_alloc v74 (.cells (([(Msg.cells (twoM none 0 0)).toArray]).flatMap fun u => u.toList).toArray 27)
        have l2 : BkAt v74.heap.size ([twoM none 0 0].flatMap Msg.cells) 27 _ := bk_alloc v74 Msg.cells [twoM none 0 0] 27 (([(Msg.cells (twoM none 0 0)).toArray]).flatMap fun u => u.toList).toArray (by simp)
        generalize v74.alloc _ = v78 at *
        replace lm := lm.below hb
        replace hd := hd.below hb
        replace hY := hY.trans (hb.mono hY.size)
        replace hX := hX.trans (hb.mono hX.size)
        refine wpList_nil ⟨rfl, trivial, ?_⟩
        refine r_sole rfl ?_
        refine st hF (d_load (und _ _ rfl) (c7 _ hd)) rfl (fun a hF => wpList_nil ⟨rfl, trivial, ?_⟩)
        refine r_sole rfl ?_
        have hown := lm.own (sz := 8) (n := 1) (base := v4.heap.size) (Nat.le_refl _) rfl (by decide)
        refine st_appendS (m := 1) (n := 1) (ys := [twoM none 0 0]) (enc := Msg.cells) hF msgc_len (by decide) (und _ _ rfl) inf27 rfl hown rfl (l2.rdS (enc := Msg.cells) (xs := [twoM none 0 0]) msgc_len (by simp)) (fun y v hv => msg_cells y v (by simpa using hv)) (by omega) (by unfold maxLen; omega) hY.size (k := fun a ao2 c2 v79 hO hgr hF => wpList_nil ⟨rfl, trivial, ?_⟩)
        obtain ⟨g2, rfl, _⟩ := own_some hO (by decide)
        replace hO : v79.ownsRow v4.heap.size 27 8 (.slice (some ⟨g2, 0, none⟩) 2 c2) 2 ([twoM (some ⟨v2.heap.size, 0, none⟩) 1 1, twoM none 0 0].flatMap Msg.cells) := hO
        replace hd : DgAt v5.heap.size (dbN (w.heap.size) (some ⟨v4.heap.size, 0, none⟩) 1 1 none 0 0) v79 := blk_kept hd hgr (by simp [Value.ownBlock]; omega)
        replace hY := below_own hY hY.size hown hgr
        replace hX := hX.grown hgr hX.size (fun k hk => by simp only [Value.ownBlock, Option.some.injEq] at hk; omega)
        refine r_read hF rfl (fun wq _ => d_fieldAddr (fld _ _ _ _ rfl) (isz _ _ rfl)) rfl (fun a hF => ?_)
        refine r_sole rfl ?_
        refine st_store hF (isz _ _ rfl) hd (i := 0 + 7) (by show 0 + 7 < 9; decide) rfl rfl rfl (k := fun a v80 hg hgr2 hsz hF => wpList_nil ⟨rfl, trivial, ?_⟩)
        refine r_done (c_then ⟨g2, c2, hF.keep' ⟨rfl, rfl, rfl, rfl, trivial⟩, hg, own_keptT hO hd (by decide) hgr2, hX.grown hgr2 hX.size (fun k hk => by cases hk; omega), hY.grown hgr2 hY.size (fun k hk => by cases hk; omega)⟩)
  clear hF a hd hX hY lm
  rintro a v81 ⟨g2, c2, hF, hd, hO, hX, hY⟩
  have hgb := own_base' hO
  have hwb : w.heap.size ≤ v4.heap.size := hXb
  repeat (first | refine c_seq ?_ | refine c_region _ ?_ | ((apply st hF); (exact d_loadAgg (agg _ rfl) (isz _ _ rfl) rfl (cells_at hd)); clear hF; clear a; intro a hF))
  refine stc hF (cdb_k v81 (dbN (w.heap.size) (some ⟨g2, 0, none⟩) 2 c2 none 0 0) [⟨#[65]⟩] [(twoM (some ⟨v2.heap.size, 0, none⟩) 1 1, [(oneS ⟨#[97]⟩ 0 8 g, txA)]), (twoM none 0 0, [])] [] (dbN_in (hN0.below hY) (msgs_own (ms := [(twoM (some ⟨v2.heap.size, 0, none⟩) 1 1, [(oneS ⟨#[97]⟩ 0 8 g, txA)]), (twoM none 0 0, [])]) hO rfl (by decide) (by intro p hp; simp only [List.mem_cons, List.not_mem_nil, or_false] at hp; rcases hp with rfl | rfl; exact SigsIn.below hM0 hY; exact ⟨rfl, fun i hi => absurd hi (Nat.not_lt_zero _), by simp, Nat.le_refl 0, by show 0 * 176 ≤ 140737488351232; decide⟩) (by intro p hp; simp only [List.mem_cons, List.not_mem_nil, or_false] at hp; rcases hp with rfl | rfl; exact ⟨(by intro q hq; simp only [List.mem_cons, List.not_mem_nil, or_false] at hq; subst hq; constructor <;> (dsimp only [oneS]; omega)), by dsimp only [twoM]; omega, by dsimp only [twoM]; omega⟩; exact ⟨(by intro q hq; cases hq), by dsimp only [twoM]; omega, by dsimp only [twoM]; omega⟩)) (tabs_nil _)) (hT.below hX) 12 0 0 ((db_C rfl (ids_mem (by intro p hp; simp only [List.mem_cons, List.not_mem_nil, or_false] at hp; rcases hp with rfl | rfl <;> exact ⟨by dsimp only [twoM]; omega, by dsimp only [twoM]; omega⟩)) (units_mem (by intro p hp; simp only [List.mem_cons, List.not_mem_nil, or_false] at hp; rcases hp with rfl | rfl; (intro q hq; simp only [List.mem_cons, List.not_mem_nil, or_false] at hq; subst hq; rfl); (intro q hq; cases hq))) (texts_mem (by intro p hp; cases hp))).trans (by kernel_rfl)) (by decide)) cal21 ⟨rfl, trivial⟩ (k := fun a v v82 hR hF => ?_)
  obtain ⟨rfl, hb⟩ := hR
  replace hd := hd.below hb
  replace hO := own_below hO hb
  replace hY := hY.trans (hb.mono hY.size)
  replace hX := hX.trans (hb.mono hX.size)
  have c7 : v82.cell? ⟨v5.heap.size, 0 + 7, none⟩ = some (.slice (some ⟨g2, 0, none⟩) 2 c2) := hd.c 7 _ rfl
  repeat (first | refine c_seq ?_ | refine c_region _ ?_ | refine wpList_nil ?_ | refine c_then ?_ | ((apply st hF); (first | exact d_assign | exact d_fieldAddr (fld _ _ _ _ rfl) (isz _ _ rfl) | exact d_indexAddrS (und _ _ rfl) (isz _ _ rfl) (j := 1) | exact d_load (und _ _ rfl) c7); clear hF; clear a; intro a hF))
  refine st_storeRowC (o := 0 + 1 * 8 + 4) hF (isz _ _ rfl) (by decide) hO rfl rfl rfl (k := fun a v83 hO2 hgr hsz hF => ?_)
  replace hd : DgAt v5.heap.size (dbN (w.heap.size) (some ⟨g2, 0, none⟩) 2 c2 none 0 0) v83 := blk_kept hd hgr (own_ne hO hd (by decide))
  replace hO : v83.ownsRow v4.heap.size 27 8 (.slice (some ⟨g2, 0, none⟩) 2 c2) 2 ([twoM (some ⟨v2.heap.size, 0, none⟩) 1 1, { twoM none 0 0 with name := ⟨#[78]⟩ }].flatMap Msg.cells) := hO2
  clear hO2 c7
  replace hX := hX.grown hgr hX.size (fun k hk => by cases hk; omega)
  replace hY := hY.grown hgr hY.size (fun k hk => by cases hk; omega)
  repeat (first | refine c_seq ?_ | refine c_region _ ?_ | refine wpList_nil ?_ | refine c_then ?_ | ((apply st hF); (exact d_loadAgg (agg _ rfl) (isz _ _ rfl) rfl (cells_at hd)); clear hF; clear a; intro a hF))
  refine stc hF (cdb_k v83 (dbN (w.heap.size) (some ⟨g2, 0, none⟩) 2 c2 none 0 0) [⟨#[65]⟩] [(twoM (some ⟨v2.heap.size, 0, none⟩) 1 1, [(oneS ⟨#[97]⟩ 0 8 g, txA)]), ({ twoM none 0 0 with name := ⟨#[78]⟩ }, [])] [] (dbN_in (hN0.below hY) (msgs_own (ms := [(twoM (some ⟨v2.heap.size, 0, none⟩) 1 1, [(oneS ⟨#[97]⟩ 0 8 g, txA)]), ({ twoM none 0 0 with name := ⟨#[78]⟩ }, [])]) hO rfl (by decide) (by intro p hp; simp only [List.mem_cons, List.not_mem_nil, or_false] at hp; rcases hp with rfl | rfl; exact SigsIn.below hM0 hY; exact ⟨rfl, fun i hi => absurd hi (Nat.not_lt_zero _), by simp, Nat.le_refl 0, by show 0 * 176 ≤ 140737488351232; decide⟩) (by intro p hp; simp only [List.mem_cons, List.not_mem_nil, or_false] at hp; rcases hp with rfl | rfl; exact ⟨(by intro q hq; simp only [List.mem_cons, List.not_mem_nil, or_false] at hq; subst hq; constructor <;> (dsimp only [oneS]; omega)), by dsimp only [twoM]; omega, by dsimp only [twoM]; omega⟩; exact ⟨(by intro q hq; cases hq), by dsimp only [twoM]; omega, by dsimp only [twoM]; omega⟩)) (tabs_nil _)) (hT.below hX) 12 0 0 ((db_C rfl (ids_mem (by intro p hp; simp only [List.mem_cons, List.not_mem_nil, or_false] at hp; rcases hp with rfl | rfl <;> exact ⟨by dsimp only [twoM]; omega, by dsimp only [twoM]; omega⟩)) (units_mem (by intro p hp; simp only [List.mem_cons, List.not_mem_nil, or_false] at hp; rcases hp with rfl | rfl; (intro q hq; simp only [List.mem_cons, List.not_mem_nil, or_false] at hq; subst hq; rfl); (intro q hq; cases hq))) (texts_mem (by intro p hp; cases hp))).trans (by kernel_rfl)) (by decide)) cal21 ⟨rfl, trivial⟩ (k := fun a v v84 hR hF => ?_)
  obtain ⟨rfl, hb⟩ := hR
  replace hd := hd.below hb
  replace hO := own_below hO hb
  replace hY := hY.trans (hb.mono hY.size)
  replace hX := hX.trans (hb.mono hX.size)
  have c7 : v84.cell? ⟨v5.heap.size, 0 + 7, none⟩ = some (.slice (some ⟨g2, 0, none⟩) 2 c2) := hd.c 7 _ rfl
  repeat (first | refine c_seq ?_ | refine c_region _ ?_ | refine wpList_nil ?_ | refine c_then ?_ | ((apply st hF); (first | exact d_assign | exact d_fieldAddr (fld _ _ _ _ rfl) (isz _ _ rfl) | exact d_indexAddrS (und _ _ rfl) (isz _ _ rfl) (j := 1) | exact d_load (und _ _ rfl) c7); clear hF; clear a; intro a hF))
  refine st_storeRowC (o := 0 + 1 * 8 + 2) hF (isz _ _ rfl) (by decide) hO rfl rfl rfl (k := fun a v85 hO2 hgr hsz hF => ?_)
  replace hd : DgAt v5.heap.size (dbN (w.heap.size) (some ⟨g2, 0, none⟩) 2 c2 none 0 0) v85 := blk_kept hd hgr (own_ne hO hd (by decide))
  replace hO : v85.ownsRow v4.heap.size 27 8 (.slice (some ⟨g2, 0, none⟩) 2 c2) 2 ([twoM (some ⟨v2.heap.size, 0, none⟩) 1 1, { twoM none 0 0 with name := ⟨#[78]⟩, id := 6 }].flatMap Msg.cells) := hO2
  clear hO2 c7
  replace hX := hX.grown hgr hX.size (fun k hk => by cases hk; omega)
  replace hY := hY.grown hgr hY.size (fun k hk => by cases hk; omega)
  have c7 : v85.cell? ⟨v5.heap.size, 0 + 7, none⟩ = some (.slice (some ⟨g2, 0, none⟩) 2 c2) := hd.c 7 _ rfl
  repeat (first | refine c_seq ?_ | refine c_region _ ?_ | refine wpList_nil ?_ | refine c_then ?_ | ((apply st hF); (first | exact d_fieldAddr (fld _ _ _ _ rfl) (isz _ _ rfl) | exact d_indexAddrS (und _ _ rfl) (isz _ _ rfl) (j := 1) | exact d_load (und _ _ rfl) c7); clear hF; clear a; intro a hF))
  refine st_storeRowC (o := 0 + 1 * 8 + 6) hF (isz _ _ rfl) (by decide) hO rfl rfl rfl (k := fun a v86 hO2 hgr hsz hF => ?_)
  replace hd : DgAt v5.heap.size (dbN (w.heap.size) (some ⟨g2, 0, none⟩) 2 c2 none 0 0) v86 := blk_kept hd hgr (own_ne hO hd (by decide))
  replace hO : v86.ownsRow v4.heap.size 27 8 (.slice (some ⟨g2, 0, none⟩) 2 c2) 2 ([twoM (some ⟨v2.heap.size, 0, none⟩) 1 1, { twoM none 0 0 with name := ⟨#[78]⟩, id := 6, sender := ⟨#[66]⟩ }].flatMap Msg.cells) := hO2
  clear hO2 c7
  replace hX := hX.grown hgr hX.size (fun k hk => by cases hk; omega)
  replace hY := hY.grown hgr hY.size (fun k hk => by cases hk; omega)
  repeat (first | refine c_seq ?_ | refine c_region _ ?_ | refine wpList_nil ?_ | refine c_then ?_ | ((apply st hF); (exact d_loadAgg (agg _ rfl) (isz _ _ rfl) rfl (cells_at hd)); clear hF; clear a; intro a hF))
  refine stc hF (cdb_k v86 (dbN (w.heap.size) (some ⟨g2, 0, none⟩) 2 c2 none 0 0) [⟨#[65]⟩] [(twoM (some ⟨v2.heap.size, 0, none⟩) 1 1, [(oneS ⟨#[97]⟩ 0 8 g, txA)]), ({ twoM none 0 0 with name := ⟨#[78]⟩, id := 6, sender := ⟨#[66]⟩ }, [])] [] (dbN_in (hN0.below hY) (msgs_own (ms := [(twoM (some ⟨v2.heap.size, 0, none⟩) 1 1, [(oneS ⟨#[97]⟩ 0 8 g, txA)]), ({ twoM none 0 0 with name := ⟨#[78]⟩, id := 6, sender := ⟨#[66]⟩ }, [])]) hO rfl (by decide) (by intro p hp; simp only [List.mem_cons, List.not_mem_nil, or_false] at hp; rcases hp with rfl | rfl; exact SigsIn.below hM0 hY; exact ⟨rfl, fun i hi => absurd hi (Nat.not_lt_zero _), by simp, Nat.le_refl 0, by show 0 * 176 ≤ 140737488351232; decide⟩) (by intro p hp; simp only [List.mem_cons, List.not_mem_nil, or_false] at hp; rcases hp with rfl | rfl; exact ⟨(by intro q hq; simp only [List.mem_cons, List.not_mem_nil, or_false] at hq; subst hq; constructor <;> (dsimp only [oneS]; omega)), by dsimp only [twoM]; omega, by dsimp only [twoM]; omega⟩; exact ⟨(by intro q hq; cases hq), by dsimp only [twoM]; omega, by dsimp only [twoM]; omega⟩)) (tabs_nil _)) (hT.below hX) 13 0 0 ((db_C rfl (ids_mem (by intro p hp; simp only [List.mem_cons, List.not_mem_nil, or_false] at hp; rcases hp with rfl | rfl <;> exact ⟨by dsimp only [twoM]; omega, by dsimp only [twoM]; omega⟩)) (units_mem (by intro p hp; simp only [List.mem_cons, List.not_mem_nil, or_false] at hp; rcases hp with rfl | rfl; (intro q hq; simp only [List.mem_cons, List.not_mem_nil, or_false] at hq; subst hq; rfl); (intro q hq; cases hq))) (texts_mem (by intro p hp; cases hp))).trans (by kernel_rfl)) (by decide)) cal21 ⟨rfl, trivial⟩ (k := fun a v v87 hR hF => ?_)
  obtain ⟨rfl, hb⟩ := hR
  replace hd := hd.below hb
  replace hO := own_below hO hb
  replace hY := hY.trans (hb.mono hY.size)
  replace hX := hX.trans (hb.mono hX.size)
  have c7 : v87.cell? ⟨v5.heap.size, 0 + 7, none⟩ = some (.slice (some ⟨g2, 0, none⟩) 2 c2) := hd.c 7 _ rfl
  repeat (first | refine c_seq ?_ | refine c_region _ ?_ | refine wpList_nil ?_ | refine c_then ?_ | ((apply st hF); (first | exact d_assign | exact d_fieldAddr (fld _ _ _ _ rfl) (isz _ _ rfl) | exact d_indexAddrS (und _ _ rfl) (isz _ _ rfl) (j := 1) | exact d_load (und _ _ rfl) c7); clear hF; clear a; intro a hF))
  refine st_storeRowC (o := 0 + 1 * 8 + 6) hF (isz _ _ rfl) (by decide) hO rfl rfl rfl (k := fun a v88 hO2 hgr hsz hF => ?_)
  replace hd : DgAt v5.heap.size (dbN (w.heap.size) (some ⟨g2, 0, none⟩) 2 c2 none 0 0) v88 := blk_kept hd hgr (own_ne hO hd (by decide))
  replace hO : v88.ownsRow v4.heap.size 27 8 (.slice (some ⟨g2, 0, none⟩) 2 c2) 2 ([twoM (some ⟨v2.heap.size, 0, none⟩) 1 1, { twoM none 0 0 with name := ⟨#[78]⟩, id := 6, sender := nobody }].flatMap Msg.cells) := hO2
  clear hO2 c7
  replace hX := hX.grown hgr hX.size (fun k hk => by cases hk; omega)
  replace hY := hY.grown hgr hY.size (fun k hk => by cases hk; omega)
  repeat (first | refine c_seq ?_ | refine c_region _ ?_ | refine wpList_nil ?_ | refine c_then ?_ | ((apply st hF); (exact d_move); clear hF; clear a; intro a hF))
  refine stc hF (no_is v88 13 0 0 (by decide) (by decide)) cal57 ⟨rfl, rfl, trivial⟩ (k := fun a v v89 hR hF => ?_)
  obtain ⟨rfl, hb⟩ := hR
  replace hd := hd.below hb
  replace hO := own_below hO hb
  replace hY := hY.trans (hb.mono hY.size)
  replace hX := hX.trans (hb.mono hX.size)
  repeat (((first | apply st hF | apply stg hF); (exact d_move); clear hF; clear a; intro a hF))
  refine stcg hF (no_is v89 13 0 0 (by decide) (by decide)) cal57 ⟨rfl, rfl, trivial⟩ (k := fun a v v90 hR hF => ?_)
  obtain ⟨rfl, hb⟩ := hR
  replace hd := hd.below hb
  replace hO := own_below hO hb
  replace hY := hY.trans (hb.mono hY.size)
  replace hX := hX.trans (hb.mono hX.size)
  repeat (((first | apply st hF | apply stg hF); (first | exact d_move | exact d_pickT); clear hF; clear a; intro a hF))
  refine stcg hF (no_is v90 12 0 0 (by decide) (by decide)) cal57 ⟨rfl, rfl, trivial⟩ (k := fun a v v91 hR hF => ?_)
  obtain ⟨rfl, hb⟩ := hR
  replace hd := hd.below hb
  replace hO := own_below hO hb
  replace hY := hY.trans (hb.mono hY.size)
  replace hX := hX.trans (hb.mono hX.size)
  repeat (((first | apply st hF | apply stg hF); (first | exact d_move | exact d_pickT); clear hF; clear a; intro a hF))
  refine stcg hF (no_is v91 12 0 0 (by decide) (by decide)) cal57 ⟨rfl, rfl, trivial⟩ (k := fun a v v92 hR hF => ?_)
  obtain ⟨rfl, hb⟩ := hR
  replace hd := hd.below hb
  replace hO := own_below hO hb
  replace hY := hY.trans (hb.mono hY.size)
  replace hX := hX.trans (hb.mono hX.size)
  repeat (((first | apply st hF | apply stg hF); (first | exact d_move | exact d_pickT); clear hF; clear a; intro a hF))
  refine stcg hF (no_is v92 12 0 0 (by decide) (by decide)) cal57 ⟨rfl, rfl, trivial⟩ (k := fun a v v93 hR hF => ?_)
  obtain ⟨rfl, hb⟩ := hR
  replace hd := hd.below hb
  replace hO := own_below hO hb
  replace hY := hY.trans (hb.mono hY.size)
  replace hX := hX.trans (hb.mono hX.size)
  repeat (((first | apply st hF | apply stg hF); (first | exact d_move | exact d_pickT); clear hF; clear a; intro a hF))
  refine stcg hF (no_is v93 13 0 0 (by decide) (by decide)) cal57 ⟨rfl, rfl, trivial⟩ (k := fun a v v94 hR hF => ?_)
  obtain ⟨rfl, hb⟩ := hR
  replace hd := hd.below hb
  replace hO := own_below hO hb
  replace hY := hY.trans (hb.mono hY.size)
  replace hX := hX.trans (hb.mono hX.size)
  repeat (((first | apply st hF | apply stg hF); (first | exact d_move | exact d_pickT | exact d_loadAgg (agg _ rfl) (isz _ _ rfl) rfl (cells_at hd)); clear hF; clear a; intro a hF))
  refine stcg hF (cdb_0 v94 (dbN (w.heap.size) (some ⟨g2, 0, none⟩) 2 c2 none 0 0) [⟨#[65]⟩] [(twoM (some ⟨v2.heap.size, 0, none⟩) 1 1, [(oneS ⟨#[97]⟩ 0 8 g, txA)]), ({ twoM none 0 0 with name := ⟨#[78]⟩, id := 6, sender := nobody }, [])] [] (dbN_in (hN0.below hY) (msgs_own (ms := [(twoM (some ⟨v2.heap.size, 0, none⟩) 1 1, [(oneS ⟨#[97]⟩ 0 8 g, txA)]), ({ twoM none 0 0 with name := ⟨#[78]⟩, id := 6, sender := nobody }, [])]) hO rfl (by decide) (by intro p hp; simp only [List.mem_cons, List.not_mem_nil, or_false] at hp; rcases hp with rfl | rfl; exact SigsIn.below hM0 hY; exact ⟨rfl, fun i hi => absurd hi (Nat.not_lt_zero _), by simp, Nat.le_refl 0, by show 0 * 176 ≤ 140737488351232; decide⟩) (by intro p hp; simp only [List.mem_cons, List.not_mem_nil, or_false] at hp; rcases hp with rfl | rfl; exact ⟨(by intro q hq; simp only [List.mem_cons, List.not_mem_nil, or_false] at hq; subst hq; constructor <;> (dsimp only [oneS]; omega)), by dsimp only [twoM]; omega, by dsimp only [twoM]; omega⟩; exact ⟨(by intro q hq; cases hq), by dsimp only [twoM]; omega, by dsimp only [twoM]; omega⟩)) (tabs_nil _)) (hT.below hX) ((db_C rfl (ids_mem (by intro p hp; simp only [List.mem_cons, List.not_mem_nil, or_false] at hp; rcases hp with rfl | rfl <;> exact ⟨by dsimp only [twoM]; omega, by dsimp only [twoM]; omega⟩)) (units_mem (by intro p hp; simp only [List.mem_cons, List.not_mem_nil, or_false] at hp; rcases hp with rfl | rfl; (intro q hq; simp only [List.mem_cons, List.not_mem_nil, or_false] at hq; subst hq; rfl); (intro q hq; cases hq))) (texts_mem (by intro p hp; cases hp))).trans (by kernel_rfl))) cal21 ⟨rfl, trivial⟩ (k := fun a v v95 hR hF => ?_)
  obtain ⟨rfl, hb⟩ := hR
  replace hd := hd.below hb
  replace hO := own_below hO hb
  replace hY := hY.trans (hb.mono hY.size)
  replace hX := hX.trans (hb.mono hX.size)
  repeat (first | refine wpList_nil ?_ | refine c_then ?_ | refine wp_ret ?_ | ((first | apply st hF | apply stg hF); (first | exact d_assign | exact d_pickT | exact d_eqN (ifc _ rfl)); clear hF; clear a; intro a hF))
  exact ret1 hF rfl rfl ⟨rfl, hX⟩
end Go.Proofs.YtjomihhpglojpaaDoor
end
