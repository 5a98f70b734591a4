/- Laid together by a program of mine: LentD StoP LentE. -/
import Derived.Test.YtjomihhpglojpaaGreatDoorSumLawDatabaseS32
import Derived.Test.YtjomihhpglojpaaGreatDoorSumLawDatabaseS11
import Derived.Test.YtjomihhpglojpaaGreatDoorSumLawDatabaseS26
import Derived.Test.YtjomihhpglojpaaGreatDoorSumLawDatabaseS6
import Derived.Test.YtjomihhpglojpaaGreatDoorSumLawDatabaseS2
set_option linter.unusedSimpArgs false
set_option linter.unusedVariables false
section
/- Tables and messages, lent. -/
namespace Go.Proofs.YtjomihhpglojpaaGreatDoor
open Go.RowKit
set_option linter.unusedSimpArgs false
set_option linter.unusedVariables false
attribute [local irreducible] wpList wpQuiet wpStill Code.wp Exit.then Exit.inBlock bodyPost Calls Does Does0
set_option maxRecDepth 100000
theorem LentR.rebase {base base' : Nat} {w : World} {v : Value} {rs : List RowV} (h : LentR base w v rs) (hb : base' ≤ base) : LentR base' w v rs := by
  obtain ⟨g, cap, e, hown⟩ := h
  refine ⟨g, cap, e, own_rebase hown fun k hk => ?_⟩
  simp only [Value.ownBlock, Option.some.injEq] at hk
  have := own_base' hown
  omega
theorem LentR.keptO {base : Nat} {w w' : World} {v : Value} {rs : List RowV} (h : LentR base w v rs) {base' e' s' n' : Nat} {v' : Value} {xs' : List Value} (h' : w.ownsRow base' e' s' v' n' xs') (hne : 121 ≠ e') (hgr : w.grownBy w' v'.ownBlock) : LentR base w' v rs := by
  obtain ⟨g, cap, e, hown⟩ := h
  exact ⟨g, cap, e, own_keptO hown h' hne hgr⟩
theorem LentR.keptT {base : Nat} {w w' : World} {v : Value} {rs : List RowV} {g : Nat} {c : Array Value} {e' : TypeId} {fr : Nat × Nat} (h : LentR base w v rs) (hx : w.heap[g]? = some (.cells c e' fr)) (hne : 121 ≠ e') (hgr : w.grownBy w' (some g)) : LentR base w' v rs := by
  obtain ⟨g', cap, e, hown⟩ := h
  exact ⟨g', cap, e, own_kT hown hx hne hgr⟩
theorem LentT.keptO {base : Nat} {w w' : World} {v : Value} {xs : List ByteArray} (h : LentT base w v xs) {base' e' s' n' : Nat} {v' : Value} {xs' : List Value} (h' : w.ownsRow base' e' s' v' n' xs') (hne : 9 ≠ e') (hgr : w.grownBy w' v'.ownBlock) : LentT base w' v xs := by
  obtain ⟨g, cap, e, hown⟩ := h
  exact ⟨g, cap, e, own_keptO hown h' hne hgr⟩
theorem LentT.keptT {base : Nat} {w w' : World} {v : Value} {xs : List ByteArray} {g : Nat} {c : Array Value} {e' : TypeId} {fr : Nat × Nat} (h : LentT base w v xs) (hx : w.heap[g]? = some (.cells c e' fr)) (hne : 9 ≠ e') (hgr : w.grownBy w' (some g)) : LentT base w' v xs := by
  obtain ⟨g', cap, e, hown⟩ := h
  exact ⟨g', cap, e, own_kT hown hx hne hgr⟩
theorem LentOk.keptT {base : Nat} {w w' : World} {ps : List SigT} {ls : List Sig} {i g : Nat} {c : Array Value} {e' : TypeId} {fr : Nat × Nat} (h : LentOk base w ps ls i) (hx : w.heap[g]? = some (.cells c e' fr)) (hne : 9 ≠ e') (hgr : w.grownBy w' (some g)) : LentOk base w' ps ls i := by
  obtain ⟨p, g', c', h1, h2, h3⟩ := h
  exact ⟨p, g', c', h1, h2, h3.keptT hx hne hgr⟩
theorem LentOk.rebase {base base' : Nat} {w : World} {ps : List SigT} {ls : List Sig} {i : Nat} (h : LentOk base w ps ls i) (hb : base' ≤ base) : LentOk base' w ps ls i := by
  obtain ⟨p, g', c', h1, h2, h3⟩ := h
  exact ⟨p, g', c', h1, h2, h3.rebase hb⟩
theorem LentS.rebase {base base' : Nat} {w : World} {v : Value} {ps : List SigT} (h : LentS base w v ps) (hb : base' ≤ base) : LentS base' w v ps := by
  obtain ⟨g, cap, ls, e, hl, hown, hok⟩ := h
  refine ⟨g, cap, ls, e, hl, own_rebase hown fun k hk => ?_, fun i hi => (hok i hi).rebase hb⟩
  simp only [Value.ownBlock, Option.some.injEq] at hk
  have := own_base' hown
  omega
theorem LentS.keptO {base : Nat} {w w' : World} {v : Value} {ps : List SigT} (h : LentS base w v ps) {base' e' s' n' : Nat} {v' : Value} {xs' : List Value} (h' : w.ownsRow base' e' s' v' n' xs') (h1 : 62 ≠ e') (h2 : 9 ≠ e') (hgr : w.grownBy w' v'.ownBlock) : LentS base w' v ps := by
  obtain ⟨g, cap, ls, e, hl, hown, hok⟩ := h
  exact ⟨g, cap, ls, e, hl, own_keptO hown h' h1 hgr, fun i hi => (hok i hi).keptO h' h2 hgr⟩
theorem LentS.keptT {base : Nat} {w w' : World} {v : Value} {ps : List SigT} {g : Nat} {c : Array Value} {e' : TypeId} {fr : Nat × Nat} (h : LentS base w v ps) (hx : w.heap[g]? = some (.cells c e' fr)) (h1 : 62 ≠ e') (h2 : 9 ≠ e') (hgr : w.grownBy w' (some g)) : LentS base w' v ps := by
  obtain ⟨g', cap, ls, e, hl, hown, hok⟩ := h
  exact ⟨g', cap, ls, e, hl, own_kT hown hx h1 hgr, fun i hi => (hok i hi).keptT hx h2 hgr⟩
/-- Table number i, lent. -/
def LentTOk (base : Nat) (w : World) (ts : List TabT) (ls : List Tab) (i : Nat) : Prop := ∃ p g c, ts[i]? = some p ∧ ls[i]? = some (p.1.at g c) ∧ LentR base w (.slice (some ⟨g, 0, none⟩) p.1.rwN c) p.2
theorem LentTOk.below {base : Nat} {w w' : World} {ts : List TabT} {ls : List Tab} {i : Nat} (h : LentTOk base w ts ls i) (hb : Below w.heap.size w w') : LentTOk base w' ts ls i := by
  obtain ⟨p, g, c, h1, h2, h3⟩ := h
  exact ⟨p, g, c, h1, h2, h3.below hb⟩
theorem LentTOk.keptO {base : Nat} {w w' : World} {ts : List TabT} {ls : List Tab} {i : Nat} (h : LentTOk base w ts ls i) {base' e' s' n' : Nat} {v' : Value} {xs' : List Value} (h' : w.ownsRow base' e' s' v' n' xs') (hne : 121 ≠ e') (hgr : w.grownBy w' v'.ownBlock) : LentTOk base w' ts ls i := by
  obtain ⟨p, g, c, h1, h2, h3⟩ := h
  exact ⟨p, g, c, h1, h2, h3.keptO h' hne hgr⟩
theorem LentTOk.keptT {base : Nat} {w w' : World} {ts : List TabT} {ls : List Tab} {i g : Nat} {c : Array Value} {e' : TypeId} {fr : Nat × Nat} (h : LentTOk base w ts ls i) (hx : w.heap[g]? = some (.cells c e' fr)) (hne : 121 ≠ e') (hgr : w.grownBy w' (some g)) : LentTOk base w' ts ls i := by
  obtain ⟨p, g', c', h1, h2, h3⟩ := h
  exact ⟨p, g', c', h1, h2, h3.keptT hx hne hgr⟩
theorem LentTOk.rebase {base base' : Nat} {w : World} {ts : List TabT} {ls : List Tab} {i : Nat} (h : LentTOk base w ts ls i) (hb : base' ≤ base) : LentTOk base' w ts ls i := by
  obtain ⟨p, g', c', h1, h2, h3⟩ := h
  exact ⟨p, g', c', h1, h2, h3.rebase hb⟩
def tabM : Tab := ⟨0, 0, 0, false, ⟨#[115, 112, 97, 114, 101]⟩, none, 0, 0⟩
def msgM : Msg := ⟨0, 0, 0, false, ⟨#[]⟩, -7, ⟨#[]⟩, none, 0, 0⟩
def LentTs (base : Nat) (w : World) (v : Value) (ts : List TabT) : Prop :=
  ∃ g cap ls, v = .slice (some ⟨g, 0, none⟩) ts.length cap ∧ ls.length = ts.length ∧
    w.ownsRow base 84 6 (.slice (some ⟨g, 0, none⟩) (ts.length + 16) cap) (ts.length + 16) ((ls ++ List.replicate 16 tabM).flatMap Tab.cells) ∧ ∀ i, i < ts.length → LentTOk base w ts ls i
theorem LentTs.below {base : Nat} {w w' : World} {v : Value} {ts : List TabT} (h : LentTs base w v ts) (hb : Below w.heap.size w w') : LentTs base w' v ts := by
  obtain ⟨g, cap, ls, e, hl, hown, hok⟩ := h
  exact ⟨g, cap, ls, e, hl, own_below hown hb, fun i hi => (hok i hi).below hb⟩
theorem LentTs.rebase {base base' : Nat} {w : World} {v : Value} {ts : List TabT} (h : LentTs base w v ts) (hb : base' ≤ base) : LentTs base' w v ts := by
  obtain ⟨g, cap, ls, e, hl, hown, hok⟩ := h
  refine ⟨g, cap, ls, e, hl, own_rebase hown fun k hk => ?_, fun i hi => (hok i hi).rebase hb⟩
  simp only [Value.ownBlock, Option.some.injEq] at hk
  have := own_base' hown
  omega
theorem LentTs.keptT {base : Nat} {w w' : World} {v : Value} {ts : List TabT} {g : Nat} {c : Array Value} {e' : TypeId} {fr : Nat × Nat} (h : LentTs base w v ts) (hx : w.heap[g]? = some (.cells c e' fr)) (h1 : 84 ≠ e') (h2 : 121 ≠ e') (hgr : w.grownBy w' (some g)) : LentTs base w' v ts := by
  obtain ⟨g', cap, ls, e, hl, hown, hok⟩ := h
  exact ⟨g', cap, ls, e, hl, own_kT hown hx h1 hgr, fun i hi => (hok i hi).keptT hx h2 hgr⟩
/-- Message number i, lent. -/
def LentMOk (base : Nat) (w : World) (ms : List MsgT) (ls : List Msg) (i : Nat) : Prop := ∃ p g c, ms[i]? = some p ∧ ls[i]? = some (p.1.at g c) ∧ LentS base w (.slice (some ⟨g, 0, none⟩) p.1.sgN c) p.2
theorem LentMOk.below {base : Nat} {w w' : World} {ms : List MsgT} {ls : List Msg} {i : Nat} (h : LentMOk base w ms ls i) (hb : Below w.heap.size w w') : LentMOk base w' ms ls i := by
  obtain ⟨p, g, c, h1, h2, h3⟩ := h
  exact ⟨p, g, c, h1, h2, h3.below hb⟩
theorem LentMOk.keptO {base : Nat} {w w' : World} {ms : List MsgT} {ls : List Msg} {i : Nat} (h : LentMOk base w ms ls i) {base' e' s' n' : Nat} {v' : Value} {xs' : List Value} (h' : w.ownsRow base' e' s' v' n' xs') (hne : 62 ≠ e') (hne2 : 9 ≠ e') (hgr : w.grownBy w' v'.ownBlock) : LentMOk base w' ms ls i := by
  obtain ⟨p, g, c, h1, h2, h3⟩ := h
  exact ⟨p, g, c, h1, h2, h3.keptO h' hne hne2 hgr⟩
theorem LentMOk.keptT {base : Nat} {w w' : World} {ms : List MsgT} {ls : List Msg} {i g : Nat} {c : Array Value} {e' : TypeId} {fr : Nat × Nat} (h : LentMOk base w ms ls i) (hx : w.heap[g]? = some (.cells c e' fr)) (hne : 62 ≠ e') (hne2 : 9 ≠ e') (hgr : w.grownBy w' (some g)) : LentMOk base w' ms ls i := by
  obtain ⟨p, g', c', h1, h2, h3⟩ := h
  exact ⟨p, g', c', h1, h2, h3.keptT hx hne hne2 hgr⟩
theorem LentMOk.rebase {base base' : Nat} {w : World} {ms : List MsgT} {ls : List Msg} {i : Nat} (h : LentMOk base w ms ls i) (hb : base' ≤ base) : LentMOk base' w ms ls i := by
  obtain ⟨p, g', c', h1, h2, h3⟩ := h
  exact ⟨p, g', c', h1, h2, h3.rebase hb⟩
def LentMs (base : Nat) (w : World) (v : Value) (ms : List MsgT) : Prop :=
  ∃ g cap ls, v = .slice (some ⟨g, 0, none⟩) ms.length cap ∧ ls.length = ms.length ∧
    w.ownsRow base 27 8 (.slice (some ⟨g, 0, none⟩) (ms.length + 16) cap) (ms.length + 16) ((ls ++ List.replicate 16 msgM).flatMap Msg.cells) ∧ ∀ i, i < ms.length → LentMOk base w ms ls i
theorem LentMs.below {base : Nat} {w w' : World} {v : Value} {ms : List MsgT} (h : LentMs base w v ms) (hb : Below w.heap.size w w') : LentMs base w' v ms := by
  obtain ⟨g, cap, ls, e, hl, hown, hok⟩ := h
  exact ⟨g, cap, ls, e, hl, own_below hown hb, fun i hi => (hok i hi).below hb⟩
theorem LentMs.rebase {base base' : Nat} {w : World} {v : Value} {ms : List MsgT} (h : LentMs base w v ms) (hb : base' ≤ base) : LentMs base' w v ms := by
  obtain ⟨g, cap, ls, e, hl, hown, hok⟩ := h
  refine ⟨g, cap, ls, e, hl, own_rebase hown fun k hk => ?_, fun i hi => (hok i hi).rebase hb⟩
  simp only [Value.ownBlock, Option.some.injEq] at hk
  have := own_base' hown
  omega
theorem LentMs.keptT {base : Nat} {w w' : World} {v : Value} {ms : List MsgT} {g : Nat} {c : Array Value} {e' : TypeId} {fr : Nat × Nat} (h : LentMs base w v ms) (hx : w.heap[g]? = some (.cells c e' fr)) (h1 : 27 ≠ e') (h2 : 62 ≠ e') (h3 : 9 ≠ e') (hgr : w.grownBy w' (some g)) : LentMs base w' v ms := by
  obtain ⟨g', cap, ls, e, hl, hown, hok⟩ := h
  exact ⟨g', cap, ls, e, hl, own_kT hown hx h1 hgr, fun i hi => (hok i hi).keptT hx h2 h3 hgr⟩
set_option maxHeartbeats 4000000 in
theorem lent_table (w : World) (t : Tab) (rs : List RowV) (hs : RowsIn w t rs) :
    Ret Tryz.prog 58 #[.agg (Tab.cells t).toArray] w (fun v w' => ∃ g cap, v = .agg (Tab.cells (t.at g cap)).toArray ∧ LentR w.heap.size w' (.slice (some ⟨g, 0, none⟩) t.rwN cap) rs ∧ Below w.heap.size w w') := by
  have hlen := hs.len
  refine enter1 Tryz.func58 rfl 9 rfl 10 rfl (fun a hF => ?_)
  repeat (first | refine c_seq ?_ | refine c_region _ ?_)
  refine st_box hF (cs := (Tab.cells t).toArray) rfl (k := fun a w1 hg1 hgr1 hsz1 hF => ?_)
  refine st_alloc hF inf84 (k := fun a w2 hg2 hgr2 hsz2 hF => ?_)
  have hb2 : Below w.heap.size w w2 := ((Below.refl _ w).grown hgr1 (Nat.le_refl _) (fun k hk => by cases hk)).grown hgr2 (by omega) (fun k hk => by cases hk)
  have hg12 := blk_kept hg1 hgr2 (by simp)
  repeat (first | refine c_seq ?_ | refine c_region _ ?_ | refine wpList_nil ?_ | refine c_then ?_ | ((apply st hF); (exact d_loadAgg (agg _ rfl) (isz _ _ rfl) rfl (cells_at hg12)); clear hF; clear a; intro a hF))
  refine st_alloc hF inf84 (k := fun a w3 hg3 hgr3 hsz3 hF => ?_)
  have hb3 : Below w.heap.size w w3 := hb2.grown hgr3 (by omega) (fun k hk => by cases hk)
  have hg13 := blk_kept hg12 hgr3 (by simp)
  have hg23 := blk_kept hg2 hgr3 (by simp)
  refine st_storeAgg hF (cs := (Tab.cells t).toArray) (isz _ _ rfl) rfl rfl hg3 (tab_cells t) (k := fun a w4 hg4 hgr4 hsz4 hF => ?_)
  have hb4 : Below w.heap.size w w4 := hb3.grown hgr4 (by omega) (fun k hk => by cases hk; omega)
  have hg14 := blk_kept hg13 hgr4 (by simp; omega)
  have hg24 := blk_kept hg23 hgr4 (by simp; omega)
  have c5 := cell_at (i := 5) hg14 rfl
  repeat (first | refine c_seq ?_ | refine c_region _ ?_ | refine wpList_nil ?_ | refine c_then ?_ | ((apply st hF); (first | exact d_fieldAddr (fld _ _ _ _ rfl) (isz _ _ rfl) | exact d_load (und _ _ rfl) c5); clear hF; clear a; intro a hF))
  refine stc hF (lent_rows w4 rs t.rw _ t.rwC hs.len (hs.rd.below hb4) hs.bytes) cal85 ⟨rfl, trivial⟩ (k := fun a v w5 hR hF => ?_)
  obtain ⟨⟨g, cap, rfl, hown⟩, hb5⟩ := hR
  have hb5' : Below w.heap.size w w5 := hb4.trans (hb5.mono (by omega))
  have hg25 : w5.heap[w1.heap.size]? = _ := (hb5.block _ (lt_at hg24)).trans hg24
  have hg35 : w5.heap[w2.heap.size]? = _ := (hb5.block _ (lt_at hg4)).trans hg4
  have hz5 := hb5.size
  repeat (((apply st hF); (exact d_fieldAddr (fld _ _ _ _ rfl) (isz _ _ rfl)); clear hF; clear a; intro a hF))
  refine st_store hF (isz _ _ rfl) hg35 (i := 5) (by show 5 < 6; decide) rfl rfl rfl (k := fun a w6 hg6 hgr6 hsz6 hF => ?_)
  have hown6 := own_kT hown hg35 (by decide) hgr6
  have hb6 : Below w.heap.size w w6 := hb5'.grown hgr6 (by omega) (fun k hk => by cases hk; omega)
  have hg26 := blk_kept hg25 hgr6 (by simp; omega)
  repeat (first | refine c_seq ?_ | refine c_region _ ?_ | refine wpList_nil ?_ | refine c_then ?_ | ((apply st hF); (exact d_loadAgg (agg _ rfl) (isz _ _ rfl) rfl (cells_at hg6)); clear hF; clear a; intro a hF))
  refine st_storeAgg hF (cs := (Tab.cells { t with rw := some ⟨g, 0, none⟩, rwN := rs.length, rwC := cap }).toArray) (isz _ _ rfl) rfl rfl hg26 (tab_cells _) (k := fun a w7 hg7 hgr7 hsz7 hF => ?_)
  have hown7 := own_kT hown6 hg26 (by decide) hgr7
  have hb7 : Below w.heap.size w w7 := hb6.grown hgr7 (by omega) (fun k hk => by cases hk; omega)
  repeat (first | refine wpList_nil ?_ | refine c_then ?_ | refine wp_ret ?_)
  refine ret_c hF rfl (agg _ rfl) (isz _ _ rfl) hg7 rfl ⟨g, cap, by rw [hlen]; rfl, LentR.rebase (base := w4.heap.size) ⟨g, cap, by rw [hlen], hown7⟩ (by omega), hb7⟩
set_option maxHeartbeats 8000000 in
theorem lent_tables (w : World) (ts : List TabT) (ao : Option Addr) (n c : Nat) (hs : TabsIn w ao n c ts) :
    Ret Tryz.prog 30 #[.slice ao n c] w (fun v w' => LentTs w.heap.size w' v ts ∧ Below w.heap.size w w') := by
  have hrdall := fun (wr : World) (hb : Below w.heap.size w wr) {k : Nat} (hk : k < ts.length) => tab_cells_at hs hb hk
  have heach := hs.each
  have hby := hs.bytes
  have hn := hs.len
  clear hs
  subst hn
  refine enter1 Tryz.func30 rfl 33 rfl 34 rfl (fun a hF => ?_)
  repeat (first | refine c_seq ?_ | refine c_block ?_ | refine c_region _ ?_ | refine wpList_nil ?_ | refine c_then ?_ | ((apply st hF); (exact d_assign); clear hF; clear a; intro a hF))
  refine c_loop (fun q a wr => ∃ k ao' cap' ls, k ≤ ts.length ∧ q = ts.length - k ∧ Fr 34 [(0, .slice ao ts.length c), (3, .slice ao' k cap'), (4, .int .i64 (k : Nat))] a ∧ ls.length = k ∧
    wr.ownsRow w.heap.size 84 6 (.slice ao' k cap') k (ls.flatMap Tab.cells) ∧ (∀ i, i < k → LentTOk w.heap.size wr ts ls i) ∧ Below w.heap.size w wr) ts.length
    ⟨0, none, 0, [], by omega, rfl, hF.keep' ⟨rfl, rfl, rfl, trivial⟩, rfl, by simpa using World.ownsRow_nil _ _ _ _, fun i hi => absurd hi (Nat.not_lt_zero _), Below.refl _ _⟩ ?_
  clear hF a
  rintro q a wr ⟨k, ao', cap', ls, hk, rfl, hF, hll, hown, hok, hbel⟩
  have hsz := hbel.size
  by_cases hlt : k < ts.length
  · obtain ⟨b, o, hao, hc'⟩ := hrdall wr hbel hlt
    rw [ts_lt hlt] at hc'
    rw [hao] at hF
    have hin := heach ts[k] (List.getElem_mem hlt)
    repeat (first | refine c_seq ?_ | refine c_block ?_ | refine c_region _ ?_ | refine wpList_nil ?_ | refine c_then ?_ | refine wp_skip ?_ | ((apply st hF); (first | exact d_move | exact d_cmpT | exact d_len (und _ _ rfl) | exact d_indexAddrS (und _ _ rfl) (isz _ _ rfl) | exact d_loadAgg (agg _ rfl) (isz _ _ rfl) rfl (arr_cells hc')); clear hF; clear a; intro a hF) | (apply c_cond_t hF; exact rfl; first | exact rfl | assumption))
    refine stc hF (lent_table wr ts[k].1 ts[k].2 (hin.below hbel)) cal58 ⟨rfl, trivial⟩ (k := fun a v w1 hR hF => ?_)
    obtain ⟨g, cap, rfl, hl1, hb1⟩ := hR
    have hB1 : Below w.heap.size w w1 := hbel.trans (hb1.mono hsz)
    have hown1 := own_below hown hb1
    refine st_alloc hF inf84 (k := fun a w2 hg2 hgr2 hsz2 hF => ?_)
    have hb2 : Below w1.heap.size w1 w2 := (Below.refl _ w1).grown hgr2 (Nat.le_refl _) (fun k hk => by cases hk)
    refine st_storeAgg hF (cs := (Tab.cells (ts[k].1.at g cap)).toArray) (isz _ _ rfl) rfl rfl hg2 (tab_cells _) (k := fun a w3 hg3 hgr3 hsz3 hF => ?_)
    have hb3 : Below w1.heap.size w1 w3 := hb2.grown hgr3 (by omega) (fun k hk => by cases hk; exact Nat.le_refl _)
    have hB3 : Below w.heap.size w w3 := hB1.trans (hb3.mono hB1.size)
    have hown3 := own_below hown1 hb3
    have hl3 := (hl1.below hb3).rebase hsz
    have hok3 : ∀ i, i < k → LentTOk w.heap.size w3 ts ls i := fun i hi => ((hok i hi).below hb1).below hb3
    repeat (first | refine c_region _ ?_ | refine wpList_nil ?_ | refine c_then ?_ | ((apply st hF); (first | exact d_move | exact d_loadAgg (agg _ rfl) (isz _ _ rfl) rfl (cells_at hg3)); clear hF; clear a; intro a hF))
    refine st_pushS hF (us := (Tab.cells (ts[k].1.at g cap)).toArray) (und _ _ rfl) inf84 rfl (by decide) (by decide) rfl (tab_cells _) hown3 (by omega) (by unfold maxLen; omega) hB3.size (k := fun a ao2 cap2 w4 hown4 hgr4 hat hF => ?_)
    have hB4 := below_own hB3 hB3.size hown3 hgr4
    repeat (first | refine c_region _ ?_ | refine wpList_nil ?_ | refine c_then ?_ | refine c_in ?_ | ((apply st hF); (first | exact d_move | exact d_assign | exact d_add); clear hF; clear a; intro a hF))
    refine ⟨ts.length - (k + 1), by omega, k + 1, ao2, cap2, ls ++ [ts[k].1.at g cap], by omega, rfl, hao.symm ▸ hF.keep' ⟨rfl, rfl, rfl, trivial⟩, by simp [hll], by simpa using hown4, fun i hi => ?_, hB4⟩
    by_cases hik : i < k
    · obtain ⟨p, g', c', h1, h2, h3⟩ := (hok3 i hik).keptO hown3 (by decide) hgr4
      exact ⟨p, g', c', h1, by rw [List.getElem?_append_left (by omega)]; exact h2, h3⟩
    · obtain rfl : i = k := by omega
      exact ⟨ts[i], g, cap, by simp [hlt], by rw [List.getElem?_append_right (by omega), hll]; simp, hl3.keptO hown3 (by decide) hgr4⟩
  · obtain rfl : k = ts.length := by omega
    repeat (first | refine c_seq ?_ | refine c_block ?_ | refine c_region _ ?_ | refine wpList_nil ?_ | refine c_then ?_ | refine c_then_exit ?_ | refine c_in_hit ?_ | refine wp_exit ?_ | ((apply st hF); (first | exact d_move | exact d_assign | exact d_cmpF | exact d_len (und _ _ rfl)); clear hF; clear a; intro a hF) | (apply c_cond_f hF; exact rfl; first | exact rfl | assumption))
    refine c_loop (fun q a wr => ∃ k ao' cap', k ≤ 16 ∧ q = 16 - k ∧ Fr 34 [(0, .slice ao ts.length c), (3, .slice ao' (ts.length + k) cap'), (6, .int .i64 (k : Nat))] a ∧
      wr.ownsRow w.heap.size 84 6 (.slice ao' (ts.length + k) cap') (ts.length + k) ((ls ++ List.replicate k tabM).flatMap Tab.cells) ∧ (∀ i, i < ts.length → LentTOk w.heap.size wr ts ls i) ∧ Below w.heap.size w wr) 16
      ⟨0, ao', cap', by omega, rfl, hF.keep' ⟨rfl, rfl, rfl, trivial⟩, by simpa using hown, hok, hbel⟩ ?_
    clear hF a hown hok hbel hsz wr
    rintro q a wr ⟨k, ao', cap', hk, rfl, hF, hown, hok, hbel⟩
    have hsz := hbel.size
    by_cases hlt2 : k < 16
    · repeat (first | refine c_seq ?_ | refine c_block ?_ | refine c_region _ ?_ | refine wpList_nil ?_ | refine c_then ?_ | refine wp_skip ?_ | ((apply st hF); (first | exact d_move | exact d_cmpT | exact d_build (vs := [(3, .string ⟨#[115, 112, 97, 114, 101]⟩)]) (cells := (Tab.cells tabM).toArray) (by kernel_rfl) ⟨rfl, rfl, trivial⟩); clear hF; clear a; intro a hF) | (apply c_cond_t hF; exact rfl; first | exact rfl | assumption))
      refine st_pushS hF (us := (Tab.cells tabM).toArray) (und _ _ rfl) inf84 rfl (by decide) (by decide) rfl (tab_cells _) hown (by omega) (by unfold maxLen; omega) hsz (k := fun a ao2 cap2 w4 hown4 hgr4 hat hF => ?_)
      repeat (first | refine c_region _ ?_ | refine wpList_nil ?_ | refine c_then ?_ | refine c_in ?_ | ((apply st hF); (first | exact d_move | exact d_assign | exact d_add); clear hF; clear a; intro a hF))
      refine ⟨16 - (k + 1), by omega, k + 1, ao2, cap2, by omega, rfl, hF.keep' ⟨rfl, rfl, rfl, trivial⟩, ?_, fun i hi => (hok i hi).keptO hown (by decide) hgr4, below_own hbel hsz hown hgr4⟩
      rw [List.replicate_succ', ← List.append_assoc, List.flatMap_append]
      simpa [Nat.add_assoc] using hown4
    · obtain rfl : k = 16 := by omega
      obtain ⟨g, rfl, _⟩ := own_some hown (by omega)
      have hcap' := own_cap' hown
      repeat (first | refine c_seq ?_ | refine c_region _ ?_ | refine wpList_nil ?_ | refine c_then ?_ | refine c_then_exit ?_ | refine c_in_hit ?_ | refine wp_exit ?_ | refine wp_ret ?_ | ((apply st hF); (first | exact d_move | exact d_assign | exact d_cmpF | exact d_len (und _ _ rfl) | exact d_slice (und _ _ rfl) (isz _ _ rfl)); clear hF; clear a; intro a hF) | (apply c_cond_f hF; exact rfl; first | exact rfl | assumption))
      exact ret1 hF rfl rfl ⟨⟨g, cap', ls, rfl, hll, hown, hok⟩, hbel⟩
set_option maxHeartbeats 8000000 in
theorem lent_messages (w : World) (ms : List MsgT) (ao : Option Addr) (n c : Nat) (hs : MsgsIn w ao n c ms) :
    Ret Tryz.prog 29 #[.slice ao n c] w (fun v w' => LentMs w.heap.size w' v ms ∧ Below w.heap.size w w') := by
  have hrdall := fun (wr : World) (hb : Below w.heap.size w wr) {k : Nat} (hk : k < ms.length) => msg_cells_at hs hb hk
  have heach := hs.each
  have hby := hs.bytes
  have hn := hs.len
  clear hs
  subst hn
  refine enter1 Tryz.func29 rfl 33 rfl 34 rfl (fun a hF => ?_)
  repeat (first | refine c_seq ?_ | refine c_block ?_ | refine c_region _ ?_ | refine wpList_nil ?_ | refine c_then ?_ | ((apply st hF); (exact d_assign); clear hF; clear a; intro a hF))
  refine c_loop (fun q a wr => ∃ k ao' cap' ls, k ≤ ms.length ∧ q = ms.length - k ∧ Fr 34 [(0, .slice ao ms.length c), (3, .slice ao' k cap'), (4, .int .i64 (k : Nat))] a ∧ ls.length = k ∧
    wr.ownsRow w.heap.size 27 8 (.slice ao' k cap') k (ls.flatMap Msg.cells) ∧ (∀ i, i < k → LentMOk w.heap.size wr ms ls i) ∧ Below w.heap.size w wr) ms.length
    ⟨0, none, 0, [], by omega, rfl, hF.keep' ⟨rfl, rfl, rfl, trivial⟩, rfl, by simpa using World.ownsRow_nil _ _ _ _, fun i hi => absurd hi (Nat.not_lt_zero _), Below.refl _ _⟩ ?_
  clear hF a
  rintro q a wr ⟨k, ao', cap', ls, hk, rfl, hF, hll, hown, hok, hbel⟩
  have hsz := hbel.size
  by_cases hlt : k < ms.length
  · obtain ⟨b, o, hao, hc'⟩ := hrdall wr hbel hlt
    rw [ms_lt hlt] at hc'
    rw [hao] at hF
    have hin := heach ms[k] (List.getElem_mem hlt)
    repeat (first | refine c_seq ?_ | refine c_block ?_ | refine c_region _ ?_ | refine wpList_nil ?_ | refine c_then ?_ | refine wp_skip ?_ | ((apply st hF); (first | exact d_move | exact d_cmpT | exact d_len (und _ _ rfl) | exact d_indexAddrS (und _ _ rfl) (isz _ _ rfl) | exact d_loadAgg (agg _ rfl) (isz _ _ rfl) rfl (arr_cells hc')); clear hF; clear a; intro a hF) | (apply c_cond_t hF; exact rfl; first | exact rfl | assumption))
    refine stc hF (lent_message wr ms[k].1 ms[k].2 (SigsIn.below hin hbel)) cal5 ⟨rfl, trivial⟩ (k := fun a v w1 hR hF => ?_)
    obtain ⟨g, cap, rfl, hl1, hb1⟩ := hR
    have hB1 : Below w.heap.size w w1 := hbel.trans (hb1.mono hsz)
    have hown1 := own_below hown hb1
    refine st_alloc hF inf27 (k := fun a w2 hg2 hgr2 hsz2 hF => ?_)
    have hb2 : Below w1.heap.size w1 w2 := (Below.refl _ w1).grown hgr2 (Nat.le_refl _) (fun k hk => by cases hk)
    refine st_storeAgg hF (cs := (Msg.cells (ms[k].1.at g cap)).toArray) (isz _ _ rfl) rfl rfl hg2 (msg_cells _) (k := fun a w3 hg3 hgr3 hsz3 hF => ?_)
    have hb3 : Below w1.heap.size w1 w3 := hb2.grown hgr3 (by omega) (fun k hk => by cases hk; exact Nat.le_refl _)
    have hB3 : Below w.heap.size w w3 := hB1.trans (hb3.mono hB1.size)
    have hown3 := own_below hown1 hb3
    have hl3 := (hl1.below hb3).rebase hsz
    have hok3 : ∀ i, i < k → LentMOk w.heap.size w3 ms ls i := fun i hi => ((hok i hi).below hb1).below hb3
    repeat (first | refine c_region _ ?_ | refine wpList_nil ?_ | refine c_then ?_ | ((apply st hF); (first | exact d_move | exact d_loadAgg (agg _ rfl) (isz _ _ rfl) rfl (cells_at hg3)); clear hF; clear a; intro a hF))
    refine st_pushS hF (us := (Msg.cells (ms[k].1.at g cap)).toArray) (und _ _ rfl) inf27 rfl (by decide) (by decide) rfl (msg_cells _) hown3 (by omega) (by unfold maxLen; omega) hB3.size (k := fun a ao2 cap2 w4 hown4 hgr4 hat hF => ?_)
    have hB4 := below_own hB3 hB3.size hown3 hgr4
    repeat (first | refine c_region _ ?_ | refine wpList_nil ?_ | refine c_then ?_ | refine c_in ?_ | ((apply st hF); (first | exact d_move | exact d_assign | exact d_add); clear hF; clear a; intro a hF))
    refine ⟨ms.length - (k + 1), by omega, k + 1, ao2, cap2, ls ++ [ms[k].1.at g cap], by omega, rfl, hao.symm ▸ hF.keep' ⟨rfl, rfl, rfl, trivial⟩, by simp [hll], by simpa using hown4, fun i hi => ?_, hB4⟩
    by_cases hik : i < k
    · obtain ⟨p, g', c', h1, h2, h3⟩ := (hok3 i hik).keptO hown3 (by decide) (by decide) hgr4
      exact ⟨p, g', c', h1, by rw [List.getElem?_append_left (by omega)]; exact h2, h3⟩
    · obtain rfl : i = k := by omega
      exact ⟨ms[i], g, cap, by simp [hlt], by rw [List.getElem?_append_right (by omega), hll]; simp, hl3.keptO hown3 (by decide) (by decide) hgr4⟩
  · obtain rfl : k = ms.length := by omega
    repeat (first | refine c_seq ?_ | refine c_block ?_ | refine c_region _ ?_ | refine wpList_nil ?_ | refine c_then ?_ | refine c_then_exit ?_ | refine c_in_hit ?_ | refine wp_exit ?_ | ((apply st hF); (first | exact d_move | exact d_assign | exact d_cmpF | exact d_len (und _ _ rfl)); clear hF; clear a; intro a hF) | (apply c_cond_f hF; exact rfl; first | exact rfl | assumption))
    refine c_loop (fun q a wr => ∃ k ao' cap', k ≤ 16 ∧ q = 16 - k ∧ Fr 34 [(0, .slice ao ms.length c), (3, .slice ao' (ms.length + k) cap'), (6, .int .i64 (k : Nat))] a ∧
      wr.ownsRow w.heap.size 27 8 (.slice ao' (ms.length + k) cap') (ms.length + k) ((ls ++ List.replicate k msgM).flatMap Msg.cells) ∧ (∀ i, i < ms.length → LentMOk w.heap.size wr ms ls i) ∧ Below w.heap.size w wr) 16
      ⟨0, ao', cap', by omega, rfl, hF.keep' ⟨rfl, rfl, rfl, trivial⟩, by simpa using hown, hok, hbel⟩ ?_
    clear hF a hown hok hbel hsz wr
    rintro q a wr ⟨k, ao', cap', hk, rfl, hF, hown, hok, hbel⟩
    have hsz := hbel.size
    by_cases hlt2 : k < 16
    · repeat (first | refine c_seq ?_ | refine c_block ?_ | refine c_region _ ?_ | refine wpList_nil ?_ | refine c_then ?_ | refine wp_skip ?_ | ((apply st hF); (first | exact d_move | exact d_cmpT | exact d_build (vs := [(4, .int .i64 (-7))]) (cells := (Msg.cells msgM).toArray) (by kernel_rfl) ⟨rfl, rfl, trivial⟩); clear hF; clear a; intro a hF) | (apply c_cond_t hF; exact rfl; first | exact rfl | assumption))
      refine st_pushS hF (us := (Msg.cells msgM).toArray) (und _ _ rfl) inf27 rfl (by decide) (by decide) rfl (msg_cells _) hown (by omega) (by unfold maxLen; omega) hsz (k := fun a ao2 cap2 w4 hown4 hgr4 hat hF => ?_)
      repeat (first | refine c_region _ ?_ | refine wpList_nil ?_ | refine c_then ?_ | refine c_in ?_ | ((apply st hF); (first | exact d_move | exact d_assign | exact d_add); clear hF; clear a; intro a hF))
      refine ⟨16 - (k + 1), by omega, k + 1, ao2, cap2, by omega, rfl, hF.keep' ⟨rfl, rfl, rfl, trivial⟩, ?_, fun i hi => (hok i hi).keptO hown (by decide) (by decide) hgr4, below_own hbel hsz hown hgr4⟩
      rw [List.replicate_succ', ← List.append_assoc, List.flatMap_append]
      simpa [Nat.add_assoc] using hown4
    · obtain rfl : k = 16 := by omega
      obtain ⟨g, rfl, _⟩ := own_some hown (by omega)
      have hcap' := own_cap' hown
      repeat (first | refine c_seq ?_ | refine c_region _ ?_ | refine wpList_nil ?_ | refine c_then ?_ | refine c_then_exit ?_ | refine c_in_hit ?_ | refine wp_exit ?_ | refine wp_ret ?_ | ((apply st hF); (first | exact d_move | exact d_assign | exact d_cmpF | exact d_len (und _ _ rfl) | exact d_slice (und _ _ rfl) (isz _ _ rfl)); clear hF; clear a; intro a hF) | (apply c_cond_f hF; exact rfl; first | exact rfl | assumption))
      exact ret1 hF rfl rfl ⟨⟨g, cap', ls, rfl, hll, hown, hok⟩, hbel⟩
end Go.Proofs.YtjomihhpglojpaaGreatDoor
end
section
/- A part of a block is stored. -/
namespace Go.Proofs.YtjomihhpglojpaaGreatDoor
open Go.RowKit
section
variable {P : Program} {ops : Array Oper} {Q : Exit → Act → World → Prop} {a : Act} {w w' : World} {rest : List Oper} {N : Nat} {l : List (Nat × Value)}
theorem st_storeP (h : Fr N l a) {x y : Operand} {g o : Nat} {cs c : Array Value} {e t ty : TypeId} {pos : String} {af : Array Edge} {n : Nat} (hs : (P.info? t).map (·.size) = some n) (hn : cs.size = n) (hc : o + n ≤ c.size) (hg : w.heap[g]? = some (.cells c e (0, 0))) (hv : ∀ v ∈ cs, v.oneCell' = true)
    (hx : Ev l x (.pointer (some ⟨g, o, none⟩)) := by exact rfl) (hy : Ev l y (.agg cs) := by exact rfl)
    (k : ∀ a' w', w'.heap[g]? = some (.cells (c.toList.take o ++ cs.toList ++ c.toList.drop (o + n)).toArray e (0, 0)) → w.grownBy w' (some g) → w'.heap.size = w.heap.size → Fr N l a' → wpList P ops Q rest a' w') :
    wpList P ops Q (⟨none, .store t x y, ty, pos, af, none⟩ :: rest) a w := by
  subst hn
  have hr := run_storeCells_at (P := P) g o e cs.toList 0 c w hg (by simp; omega) (by simpa using hv)
  refine st0 h (w' := w.setRow g (c.toList.take (o + 0) ++ cs.toList ++ c.toList.drop (o + 0 + cs.toList.length)).toArray) ?_ rfl fun a' hF => k a' _ ?_ ?_ (by simp [World.setRow]) hF
  · intro ρ hρ d pos af gd
    obtain ⟨ti, h1, h2⟩ := Option.map_eq_some_iff.1 hs
    have hcs : (Value.agg cs).cells = cs := rfl
    simp [execOp, Instr.storeAt, Instr.sureAddr, storeVar, hρ _ _ hx, hρ _ _ hy, sizeOf, typeInfo, h1, h2, hcs, hr]
  · rw [setRow_heap w g c _ e _ hg]
    simp
  · exact ⟨rfl, rfl, rfl, by simp [World.setRow], fun k hk hne => setRow_other w g k _ (by intro e; exact hne (by rw [e]))⟩
end
end Go.Proofs.YtjomihhpglojpaaGreatDoor
end
section
/- A database, lent. -/
namespace Go.Proofs.YtjomihhpglojpaaGreatDoor
open Go.RowKit
set_option linter.unusedSimpArgs false
set_option linter.unusedVariables false
attribute [local irreducible] wpList wpQuiet wpStill Code.wp Exit.then Exit.inBlock bodyPost Calls Does Does0
set_option maxRecDepth 100000
def staC (x y : Int) (ao : Option Addr) (n c : Nat) : Array Value := #[.int .i64 x, .int .i64 y, .slice ao n c]
theorem sta_one (x y : Int) (ao : Option Addr) (n c : Nat) : ∀ v ∈ (staC x y ao n c), v.oneCell' = true := fun v hv => by
  simp [staC] at hv; rcases hv with rfl | rfl | rfl <;> rfl
set_option maxHeartbeats 4000000 in
theorem lent_stations (w : World) (x y : Int) (ao : Option Addr) (n c : Nat) (ss : List ByteArray) (hn : ss.length = n) (hR : Rd w ao .string ss) (hb : n * 16 ≤ 140737488351232) :
    Ret Tryz.prog 31 #[.agg (staC x y ao n c)] w (fun v w' => ∃ g cap, v = .agg (staC x y (some ⟨g, 0, none⟩) n cap) ∧ LentT w.heap.size w' (.slice (some ⟨g, 0, none⟩) n cap) ss ∧ Below w.heap.size w w') := by
  subst hn
  refine enter1 Tryz.func31 rfl 9 rfl 10 rfl (fun a hF => ?_)
  repeat (first | refine c_seq ?_ | refine c_region _ ?_)
  refine st_box hF (cs := staC x y ao ss.length c) rfl (k := fun a w1 hg1 hgr1 hsz1 hF => ?_)
  refine st_alloc hF inf42 (k := fun a w2 hg2 hgr2 hsz2 hF => ?_)
  have hb2 : Below w.heap.size w w2 := ((Below.refl _ w).grown hgr1 (Nat.le_refl _) (fun k hk => by cases hk)).grown hgr2 (by omega) (fun k hk => by cases hk)
  have hg12 := blk_kept hg1 hgr2 (by simp)
  repeat (first | refine c_seq ?_ | refine c_region _ ?_ | refine wpList_nil ?_ | refine c_then ?_ | ((apply st hF); (exact d_loadAgg (agg _ rfl) (isz _ _ rfl) rfl (cells_at hg12)); clear hF; clear a; intro a hF))
  refine st_alloc hF inf42 (k := fun a w3 hg3 hgr3 hsz3 hF => ?_)
  have hb3 : Below w.heap.size w w3 := hb2.grown hgr3 (by omega) (fun k hk => by cases hk)
  have hg13 := blk_kept hg12 hgr3 (by simp)
  have hg23 := blk_kept hg2 hgr3 (by simp)
  refine st_storeAgg hF (cs := staC x y ao ss.length c) (isz _ _ rfl) rfl rfl hg3 (sta_one _ _ _ _ _) (k := fun a w4 hg4 hgr4 hsz4 hF => ?_)
  have hb4 : Below w.heap.size w w4 := hb3.grown hgr4 (by omega) (fun k hk => by cases hk; omega)
  have hg14 := blk_kept hg13 hgr4 (by simp; omega)
  have hg24 := blk_kept hg23 hgr4 (by simp; omega)
  have c2 := cell_at (i := 2) hg14 rfl
  repeat (first | refine c_seq ?_ | refine c_region _ ?_ | refine wpList_nil ?_ | refine c_then ?_ | ((apply st hF); (first | exact d_fieldAddr (fld _ _ _ _ rfl) (isz _ _ rfl) | exact d_load (und _ _ rfl) c2); clear hF; clear a; intro a hF))
  refine stc hF (lent_texts w4 ss ao _ c rfl (hR.below hb4) hb) cal59 ⟨rfl, trivial⟩ (k := fun a v w5 hR hF => ?_)
  obtain ⟨⟨g, cap, rfl, hown⟩, hb5⟩ := hR
  have hb5' : Below w.heap.size w w5 := hb4.trans (hb5.mono (by omega))
  have hg25 : w5.heap[w1.heap.size]? = _ := (hb5.block _ (lt_at hg24)).trans hg24
  have hg35 : w5.heap[w2.heap.size]? = _ := (hb5.block _ (lt_at hg4)).trans hg4
  have hz5 := hb5.size
  repeat (((apply st hF); (exact d_fieldAddr (fld _ _ _ _ rfl) (isz _ _ rfl)); clear hF; clear a; intro a hF))
  refine st_store hF (isz _ _ rfl) hg35 (i := 2) (by show 2 < 3; decide) rfl rfl rfl (k := fun a w6 hg6 hgr6 hsz6 hF => ?_)
  have hown6 := own_kT hown hg35 (by decide) hgr6
  have hb6 : Below w.heap.size w w6 := hb5'.grown hgr6 (by omega) (fun k hk => by cases hk; omega)
  have hg26 := blk_kept hg25 hgr6 (by simp; omega)
  repeat (first | refine c_seq ?_ | refine c_region _ ?_ | refine wpList_nil ?_ | refine c_then ?_ | ((apply st hF); (exact d_loadAgg (agg _ rfl) (isz _ _ rfl) rfl (cells_at hg6)); clear hF; clear a; intro a hF))
  refine st_storeAgg hF (cs := staC x y (some ⟨g, 0, none⟩) ss.length cap) (isz _ _ rfl) rfl rfl hg26 (sta_one _ _ _ _ _) (k := fun a w7 hg7 hgr7 hsz7 hF => ?_)
  have hown7 := own_kT hown6 hg26 (by decide) hgr7
  have hb7 : Below w.heap.size w w7 := hb6.grown hgr7 (by omega) (fun k hk => by cases hk; omega)
  repeat (first | refine wpList_nil ?_ | refine c_then ?_ | refine wp_ret ?_)
  exact ret_c hF rfl (agg _ rfl) (isz _ _ rfl) hg7 rfl ⟨g, cap, rfl, LentT.rebase (base := w4.heap.size) ⟨g, cap, rfl, hown7⟩ (by omega), hb7⟩
structure LentDb (base : Nat) (w : World) (d : Db) (ss : List ByteArray) (ms : List MsgT) (ts : List TabT) (g1 c1 g2 c2 g3 c3 : Nat) : Prop where
  m : LentMs base w (.slice (some ⟨g1, 0, none⟩) d.mgN c1) ms
  t : LentTs base w (.slice (some ⟨g2, 0, none⟩) d.tbN c2) ts
  s : LentT base w (.slice (some ⟨g3, 0, none⟩) d.snN c3) ss
theorem LentDb.below {base : Nat} {w w' : World} {d : Db} {ss : List ByteArray} {ms : List MsgT} {ts : List TabT} {g1 c1 g2 c2 g3 c3 : Nat} (h : LentDb base w d ss ms ts g1 c1 g2 c2 g3 c3) (hb : Below w.heap.size w w') : LentDb base w' d ss ms ts g1 c1 g2 c2 g3 c3 := ⟨h.m.below hb, h.t.below hb, h.s.below hb⟩
set_option maxHeartbeats 8000000 in
theorem lent_db (w : World) (d : Db) (ss : List ByteArray) (ms : List MsgT) (ts : List TabT) (hin : DbIn w d ss ms ts) :
    Ret Tryz.prog 10 #[.agg (Db.cells d).toArray] w (fun v w' => ∃ g1 c1 g2 c2 g3 c3, v = .agg (Db.cells (d.at g1 c1 g2 c2 g3 c3)).toArray ∧ LentDb w.heap.size w' d ss ms ts g1 c1 g2 c2 g3 c3 ∧ Below w.heap.size w w') := by
  have htl := hin.tabs.len
  have hml := hin.msgs.len
  refine enter1 Tryz.func10 rfl 17 rfl 18 rfl (fun a hF => ?_)
  repeat (first | refine c_seq ?_ | refine c_region _ ?_)
  refine st_box hF (cs := (Db.cells d).toArray) rfl (k := fun a w1 hg1 hgr1 hsz1 hF => ?_)
  refine st_alloc hF inf46 (k := fun a w2 hg2 hgr2 hsz2 hF => ?_)
  have hb2 : Below w.heap.size w w2 := ((Below.refl _ w).grown hgr1 (Nat.le_refl _) (fun k hk => by cases hk)).grown hgr2 (by omega) (fun k hk => by cases hk)
  have hg12 : DgAt w.heap.size d w2 := blk_kept hg1 hgr2 (by simp)
  repeat (first | refine c_seq ?_ | refine c_region _ ?_ | refine wpList_nil ?_ | refine c_then ?_ | ((apply st hF); (exact d_loadAgg (agg _ rfl) (isz _ _ rfl) rfl (cells_at hg12)); clear hF; clear a; intro a hF))
  refine st_alloc hF inf46 (k := fun a w3 hg3 hgr3 hsz3 hF => ?_)
  have hb3 : Below w.heap.size w w3 := hb2.grown hgr3 (by omega) (fun k hk => by cases hk)
  have hg13 : DgAt w.heap.size d w3 := blk_kept hg12 hgr3 (by simp)
  have hg23 := blk_kept hg2 hgr3 (by simp)
  refine st_storeAgg hF (cs := (Db.cells d).toArray) (isz _ _ rfl) rfl rfl hg3 (db_cells d) (k := fun a w4 hg4 hgr4 hsz4 hF => ?_)
  have hb4 : Below w.heap.size w w4 := hb3.grown hgr4 (by omega) (fun k hk => by cases hk; omega)
  have hg14 : DgAt w.heap.size d w4 := blk_kept hg13 hgr4 (by simp; omega)
  have hg24 := blk_kept hg23 hgr4 (by simp; omega)
  clear hg1 hg2 hg12 hg13 hg23 hg3 hgr1 hgr2 hgr3 hgr4 hb2 hb3
  have e7 : ∀ wq, DgAt w.heap.size d wq → wq.cell? ⟨w.heap.size, 0 + 7, none⟩ = some (.slice d.mg d.mgN d.mgC) := fun wq h => h.c 7 _ rfl
  have e8 : ∀ wq, DgAt w.heap.size d wq → wq.cell? ⟨w.heap.size, 0 + 8, none⟩ = some (.slice d.tb d.tbN d.tbC) := fun wq h => h.c 8 _ rfl
  have e4 : ∀ wq, DgAt w.heap.size d wq → ∀ j v, (staC d.sline d.scol d.sn d.snN d.snC)[j]? = some v → wq.cell? ⟨w.heap.size, 0 + 4 + j, none⟩ = some v := fun wq h j v hj => by
    unfold staC at hj
    rcases (show j = 0 ∨ j = 1 ∨ j = 2 ∨ 3 ≤ j by omega) with rfl | rfl | rfl | hj3
    · simp at hj; subst hj; exact h.c 4 _ rfl
    · simp at hj; subst hj; exact h.c 5 _ rfl
    · simp at hj; subst hj; exact h.c 6 _ rfl
    · rw [Array.getElem?_eq_none (by simpa using hj3)] at hj; cases hj
  repeat (first | refine c_seq ?_ | refine c_region _ ?_ | refine wpList_nil ?_ | refine c_then ?_ | ((apply st hF); (first | exact d_fieldAddr (fld _ _ _ _ rfl) (isz _ _ rfl) | exact d_load (und _ _ rfl) (e7 _ hg14)); clear hF; clear a; intro a hF))
  refine stc hF (lent_messages w4 ms d.mg d.mgN d.mgC (hin.msgs.below hb4)) cal29 ⟨rfl, trivial⟩ (k := fun a v w5 hR hF => ?_)
  obtain ⟨hLm, hb5⟩ := hR
  obtain ⟨g1, c1, _, rfl, _, _, _⟩ := id hLm
  rw [hml] at hF hLm
  have hz5 := hb5.size
  have hg15 := hg14.below hb5
  have hg25 := (hb5.block _ (lt_at hg24)).trans hg24
  have hg35 := (hb5.block _ (lt_at hg4)).trans hg4
  replace hb5 := hb4.trans (hb5.mono hb4.size)
  repeat (((apply st hF); (exact d_fieldAddr (fld _ _ _ _ rfl) (isz _ _ rfl)); clear hF; clear a; intro a hF))
  refine st_store hF (isz _ _ rfl) hg35 (i := 0 + 7) (by show 0 + 7 < 9; decide) rfl rfl rfl (k := fun a w6 hg6 hgr6 hsz6 hF => ?_)
  have hg16 : DgAt w.heap.size d w6 := blk_kept hg15 hgr6 (by simp; omega)
  have hg26 := blk_kept hg25 hgr6 (by simp; omega)
  have hLm6 := hLm.keptT hg35 (by decide) (by decide) (by decide) hgr6
  have hb6 : Below w.heap.size w w6 := hb5.grown hgr6 hb5.size (fun k hk => by cases hk; omega)
  repeat (first | refine c_seq ?_ | refine c_region _ ?_ | refine wpList_nil ?_ | refine c_then ?_ | ((apply st hF); (first | exact d_fieldAddr (fld _ _ _ _ rfl) (isz _ _ rfl) | exact d_load (und _ _ rfl) (e8 _ hg16)); clear hF; clear a; intro a hF))
  refine stc hF (lent_tables w6 ts d.tb d.tbN d.tbC (hin.tabs.below hb6)) cal30 ⟨rfl, trivial⟩ (k := fun a v w7 hR hF => ?_)
  obtain ⟨hLt, hb7⟩ := hR
  obtain ⟨g2, c2, _, rfl, _, _, _⟩ := id hLt
  rw [htl] at hF hLt
  have hz7 := hb7.size
  have hg17 := hg16.below hb7
  have hg27 := (hb7.block _ (lt_at hg26)).trans hg26
  have hg37 := (hb7.block _ (lt_at hg6)).trans hg6
  have hLm7 := hLm6.below hb7
  replace hb7 := hb6.trans (hb7.mono hb6.size)
  repeat (((apply st hF); (exact d_fieldAddr (fld _ _ _ _ rfl) (isz _ _ rfl)); clear hF; clear a; intro a hF))
  refine st_store hF (isz _ _ rfl) hg37 (i := 0 + 8) (by show 0 + 8 < 9; decide) rfl rfl rfl (k := fun a w8 hg8 hgr8 hsz8 hF => ?_)
  have hg18 : DgAt w.heap.size d w8 := blk_kept hg17 hgr8 (by simp; omega)
  have hg28 := blk_kept hg27 hgr8 (by simp; omega)
  have hLm8 := hLm7.keptT hg37 (by decide) (by decide) (by decide) hgr8
  have hLt8 := hLt.keptT hg37 (by decide) (by decide) hgr8
  have hb8 : Below w.heap.size w w8 := hb7.grown hgr8 hb7.size (fun k hk => by cases hk; omega)
  repeat (first | refine c_seq ?_ | refine c_region _ ?_ | refine wpList_nil ?_ | refine c_then ?_ | ((apply st hF); (first | exact d_fieldAddr (fld _ _ _ _ rfl) (isz _ _ rfl) | exact d_loadAgg (agg _ rfl) (isz _ _ rfl) rfl (e4 _ hg18)); clear hF; clear a; intro a hF))
  refine stc hF (lent_stations w8 d.sline d.scol d.sn d.snN d.snC ss hin.slen (hin.srd.below hb8) hin.sbytes) cal31 ⟨rfl, trivial⟩ (k := fun a v w9 hR hF => ?_)
  obtain ⟨g3, c3, rfl, hLs, hb9⟩ := hR
  have hz9 := hb9.size
  have hg29 := (hb9.block _ (lt_at hg28)).trans hg28
  have hg39 := (hb9.block _ (lt_at hg8)).trans hg8
  have hcd : LentDb w4.heap.size w9 d ss ms ts g1 c1 g2 c2 g3 c3 := ⟨hLm8.below hb9, (hLt8.below hb9).rebase (by omega), hLs.rebase (by omega)⟩
  replace hb9 := hb8.trans (hb9.mono hb8.size)
  repeat (((apply st hF); (exact d_fieldAddr (fld _ _ _ _ rfl) (isz _ _ rfl)); clear hF; clear a; intro a hF))
  refine st_storeP hF (cs := staC d.sline d.scol (some ⟨g3, 0, none⟩) d.snN c3) (o := 0 + 4) (isz _ _ rfl) rfl (by show 0 + 4 + 3 ≤ 9; decide) hg39 (sta_one _ _ _ _ _) (k := fun a w10 hg10 hgr10 hsz10 hF => ?_)
  have hgX : DgAt w2.heap.size (d.at g1 c1 g2 c2 g3 c3) w10 := hg10
  have hg210 := blk_kept hg29 hgr10 (by simp; omega)
  have hcd10 : LentDb w4.heap.size w10 d ss ms ts g1 c1 g2 c2 g3 c3 := ⟨hcd.m.keptT hg39 (by decide) (by decide) (by decide) hgr10, hcd.t.keptT hg39 (by decide) (by decide) hgr10, hcd.s.keptT hg39 (by decide) hgr10⟩
  have hb10 : Below w.heap.size w w10 := hb9.grown hgr10 hb9.size (fun k hk => by cases hk; omega)
  repeat (first | refine c_seq ?_ | refine c_region _ ?_ | refine wpList_nil ?_ | refine c_then ?_ | ((apply st hF); (exact d_loadAgg (agg _ rfl) (isz _ _ rfl) rfl (cells_at hgX)); clear hF; clear a; intro a hF))
  refine st_storeAgg hF (cs := (Db.cells (d.at g1 c1 g2 c2 g3 c3)).toArray) (isz _ _ rfl) rfl rfl hg210 (db_cells _) (k := fun a w11 hg11 hgr11 hsz11 hF => ?_)
  repeat (first | refine wpList_nil ?_ | refine c_then ?_ | refine wp_ret ?_)
  refine ret_c hF rfl (agg _ rfl) (isz _ _ rfl) hg11 rfl ⟨g1, c1, g2, c2, g3, c3, rfl, ⟨(hcd10.m.keptT hg210 (by decide) (by decide) (by decide) hgr11).rebase (by omega), (hcd10.t.keptT hg210 (by decide) (by decide) hgr11).rebase (by omega), (hcd10.s.keptT hg210 (by decide) hgr11).rebase (by omega)⟩, hb10.grown hgr11 hb10.size (fun k hk => by cases hk; omega)⟩
end Go.Proofs.YtjomihhpglojpaaGreatDoor
end
