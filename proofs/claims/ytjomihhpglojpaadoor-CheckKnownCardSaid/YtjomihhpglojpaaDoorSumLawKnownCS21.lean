/- Laid together by a program of mine: CopyF PermT KnT. -/
import Derived.Test.YtjomihhpglojpaaDoorSumLawKnownCS20
import Derived.Test.YtjomihhpglojpaaDoorSumLawKnownCS7
import Derived.Test.YtjomihhpglojpaaDoorSumLawKnownCS19
set_option linter.unusedSimpArgs false
set_option linter.unusedVariables false
section
/- A copied database, walked. -/
namespace Go.Proofs.YtjomihhpglojpaaDoor
open Go.RowKit
set_option linter.unusedSimpArgs false
set_option linter.unusedVariables false
attribute [local irreducible] wpList wpQuiet wpStill Code.wp Exit.then Exit.inBlock bodyPost Calls Does Does0
set_option maxRecDepth 100000
theorem own_keptT {w w' : World} {base : Nat} {e e' : TypeId} {s n g : Nat} {v : Value} {xs : List Value} {c : Array Value} {fr : Nat × Nat} (h : w.ownsRow base e s v n xs) (hx : w.heap[g]? = some (.cells c e' fr)) (hne : e ≠ e') (hgr : w.grownBy w' (some g)) : w'.ownsRow base e s v n xs :=
  own_keptB h hgr fun k hk eq => by cases eq; exact own_ne h hx hne hk.symm
structure CopyDb (base : Nat) (w : World) (d : Db) (ss : List ByteArray) (ms : List MsgT) (ts : List TabT) (a1 : Option Addr) (c1 : Nat) (lm : List Msg) (a2 : Option Addr) (c2 : Nat) (lt : List Tab) (a3 : Option Addr) (c3 : Nat) : Prop where
  ml : lm.length = ms.length
  mown : w.ownsRow base 27 8 (.slice a1 d.mgN c1) d.mgN (lm.flatMap Msg.cells)
  mok : ∀ i, i < ms.length → CopyMOk base w ms lm i
  tabs : CopyTs base w a2 c2 ts lt
  sta : CopyT base w a3 d.snN c3 ss
theorem CopyDb.below {base : Nat} {w w' : World} {d : Db} {ss : List ByteArray} {ms : List MsgT} {ts : List TabT} {a1 : Option Addr} {c1 : Nat} {lm : List Msg} {a2 : Option Addr} {c2 : Nat} {lt : List Tab} {a3 : Option Addr} {c3 : Nat} (h : CopyDb base w d ss ms ts a1 c1 lm a2 c2 lt a3 c3) (hb : Below w.heap.size w w') : CopyDb base w' d ss ms ts a1 c1 lm a2 c2 lt a3 c3 :=
  ⟨h.ml, own_below h.mown hb, fun i hi => (h.mok i hi).below hb, h.tabs.below hb, own_below h.sta hb⟩
theorem CopyOk.keptT {base : Nat} {w w' : World} {ps : List SigT} {ls : List Sig} {i g : Nat} {c : Array Value} {e' : TypeId} {fr : Nat × Nat} (h : CopyOk base w ps ls i) (hx : w.heap[g]? = some (.cells c e' fr)) (hne : 9 ≠ e') (hgr : w.grownBy w' (some g)) : CopyOk base w' ps ls i := by
  obtain ⟨p, ao, c, h1, h2, hown⟩ := h
  exact ⟨p, ao, c, h1, h2, own_keptT hown hx hne hgr⟩
theorem CopyMOk.keptT {base : Nat} {w w' : World} {ms : List MsgT} {ls : List Msg} {i g : Nat} {c : Array Value} {e' : TypeId} {fr : Nat × Nat} (h : CopyMOk base w ms ls i) (hx : w.heap[g]? = some (.cells c e' fr)) (h1 : 38 ≠ e') (h2 : 9 ≠ e') (hgr : w.grownBy w' (some g)) : CopyMOk base w' ms ls i := by
  obtain ⟨p, ao, c, qs, a1, a2, h3⟩ := h
  exact ⟨p, ao, c, qs, a1, a2, h3.len, own_keptT h3.own hx h1 hgr, fun i hi => (h3.ok i hi).keptT hx h2 hgr⟩
theorem CopyMOk.keptO {base : Nat} {w w' : World} {ms : List MsgT} {ls : List Msg} {i : Nat} (h : CopyMOk base w ms ls i) {base' e' s' n' : Nat} {v' : Value} {xs' : List Value} (h' : w.ownsRow base' e' s' v' n' xs') (h1 : 38 ≠ e') (h2 : 9 ≠ e') (hgr : w.grownBy w' v'.ownBlock) : CopyMOk base w' ms ls i := by
  obtain ⟨p, ao, c, qs, a1, a2, h3⟩ := h
  exact ⟨p, ao, c, qs, a1, a2, h3.keptO h' h1 h2 hgr⟩
theorem CopyTOk.keptT {base : Nat} {w w' : World} {ts : List TabT} {ls : List Tab} {i g : Nat} {c : Array Value} {e' : TypeId} {fr : Nat × Nat} (h : CopyTOk base w ts ls i) (hx : w.heap[g]? = some (.cells c e' fr)) (hne : 116 ≠ e') (hgr : w.grownBy w' (some g)) : CopyTOk base w' ts ls i := by
  obtain ⟨p, ao, c, h1, h2, hown⟩ := h
  exact ⟨p, ao, c, h1, h2, own_keptT hown hx hne hgr⟩
theorem CopyDb.keptT {base : Nat} {w w' : World} {d : Db} {ss : List ByteArray} {ms : List MsgT} {ts : List TabT} {a1 : Option Addr} {c1 : Nat} {lm : List Msg} {a2 : Option Addr} {c2 : Nat} {lt : List Tab} {a3 : Option Addr} {c3 : Nat} {g : Nat} {c : Array Value} {fr : Nat × Nat} (h : CopyDb base w d ss ms ts a1 c1 lm a2 c2 lt a3 c3) (hx : w.heap[g]? = some (.cells c 62 fr)) (hgr : w.grownBy w' (some g)) : CopyDb base w' d ss ms ts a1 c1 lm a2 c2 lt a3 c3 :=
  ⟨h.ml, own_keptT h.mown hx (by decide) hgr, fun i hi => (h.mok i hi).keptT hx (by decide) (by decide) hgr, ⟨h.tabs.len, own_keptT h.tabs.own hx (by decide) hgr, fun i hi => (h.tabs.ok i hi).keptT hx (by decide) hgr⟩, own_keptT h.sta hx (by decide) hgr⟩
theorem CopyDb.rebase {base base' : Nat} {w : World} {d : Db} {ss : List ByteArray} {ms : List MsgT} {ts : List TabT} {a1 : Option Addr} {c1 : Nat} {lm : List Msg} {a2 : Option Addr} {c2 : Nat} {lt : List Tab} {a3 : Option Addr} {c3 : Nat} (h : CopyDb base w d ss ms ts a1 c1 lm a2 c2 lt a3 c3) (hb : base' ≤ base) : CopyDb base' w d ss ms ts a1 c1 lm a2 c2 lt a3 c3 :=
  ⟨h.ml, own_rebase h.mown fun k hk => (by have := (own_geC h.mown hk).1; omega), fun i hi => by
    obtain ⟨p, ao, c, qs, a1, a2, h3⟩ := h.mok i hi
    exact ⟨p, ao, c, qs, a1, a2, h3.rebase hb⟩, h.tabs.rebase hb, own_rebase h.sta fun k hk => (by have := (own_geC h.sta hk).1; omega)⟩
def Db.cp (d : Db) (a1 : Option Addr) (c1 : Nat) (a2 : Option Addr) (c2 : Nat) (a3 : Option Addr) (c3 : Nat) : Db := { d with mg := a1, mgC := c1, tb := a2, tbC := c2, sn := a3, snC := c3 }
set_option maxHeartbeats 8000000 in
theorem copy_db (w : World) (d : Db) (ss : List ByteArray) (ms : List MsgT) (ts : List TabT) (hin : DbIn w d ss ms ts) :
    Ret Tryd.prog 22 [.agg (Db.cells d).toArray].toArray w (fun v w' => ∃ a1 c1 lm a2 c2 lt a3 c3, v = .agg (Db.cells (d.cp a1 c1 a2 c2 a3 c3)).toArray ∧ CopyDb w.heap.size w' d ss ms ts a1 c1 lm a2 c2 lt a3 c3 ∧ Below w.heap.size w w') := by
  have htl := hin.tabs.len
  refine enter1 Tryd.func22 rfl 17 rfl 18 rfl (fun a hF => ?_)
  repeat (first | refine c_seq ?_ | refine c_region _ ?_)
  refine st_box hF (cs := (Db.cells d).toArray) rfl (k := fun a w1 hg1 hgr1 hsz1 hF => ?_)
  refine st_alloc hF inf62 (k := fun a w2 hg2 hgr2 hsz2 hF => ?_)
  have hb2 : Below w.heap.size w w2 := ((Below.refl _ w).grown hgr1 (Nat.le_refl _) (fun k hk => by cases hk)).grown hgr2 (by omega) (fun k hk => by cases hk)
  have hg12 : DgAt w.heap.size d w2 := blk_kept hg1 hgr2 (by simp)
  repeat (first | refine c_seq ?_ | refine c_region _ ?_ | refine wpList_nil ?_ | refine c_then ?_ | ((apply st hF); (exact d_loadAgg (agg _ rfl) (isz _ _ rfl) rfl (cells_at hg12)); clear hF; clear a; intro a hF))
  refine st_alloc hF inf62 (k := fun a w3 hg3 hgr3 hsz3 hF => ?_)
  have hb3 : Below w.heap.size w w3 := hb2.grown hgr3 (by omega) (fun k hk => by cases hk)
  have hg13 : DgAt w.heap.size d w3 := blk_kept hg12 hgr3 (by simp)
  have hg23 := blk_kept hg2 hgr3 (by simp)
  refine st_storeAgg hF (cs := (Db.cells d).toArray) (isz _ _ rfl) rfl rfl hg3 (db_cells d) (k := fun a w4 hg4 hgr4 hsz4 hF => ?_)
  have hb4 : Below w.heap.size w w4 := hb3.grown hgr4 (by omega) (fun k hk => by cases hk; omega)
  have hg14 : DgAt w.heap.size d w4 := blk_kept hg13 hgr4 (by simp; omega)
  have hg24 := blk_kept hg23 hgr4 (by simp; omega)
  clear hg1 hg2 hg12 hg13 hg23 hg3 hgr1 hgr2 hgr3 hgr4 hb2 hb3
  have e7 : ∀ wq, DgAt w.heap.size d wq → wq.cell? ⟨w.heap.size, 0 + 7, none⟩ = some (.slice d.mg d.mgN d.mgC) := fun wq h => h.c 7 _ rfl
  have e8 : ∀ wq, DgAt w.heap.size d wq → wq.cell? ⟨w.heap.size, 0 + 8, none⟩ = some (.slice d.tb d.tbN d.tbC) := fun wq h => h.c 8 _ rfl
  have e4 : ∀ wq, DgAt w.heap.size d wq → ∀ j v, (#[.int .i64 d.sline, .int .i64 d.scol, .slice d.sn d.snN d.snC] : Array Value)[j]? = some v → wq.cell? ⟨w.heap.size, 0 + 4 + j, none⟩ = some v := fun wq h j v hj => by
    rcases (show j = 0 ∨ j = 1 ∨ j = 2 ∨ 3 ≤ j by omega) with rfl | rfl | rfl | hj3
    · simp at hj; subst hj; exact h.c 4 _ rfl
    · simp at hj; subst hj; exact h.c 5 _ rfl
    · simp at hj; subst hj; exact h.c 6 _ rfl
    · rw [Array.getElem?_eq_none (by simpa using hj3)] at hj; cases hj
  repeat (first | refine c_seq ?_ | refine c_region _ ?_ | refine wpList_nil ?_ | refine c_then ?_ | ((apply st hF); (first | exact d_fieldAddr (fld _ _ _ _ rfl) (isz _ _ rfl) | exact d_load (und _ _ rfl) (e7 _ hg14)); clear hF; clear a; intro a hF))
  refine stc hF (copy_messages w4 ms d.mg d.mgN d.mgC (hin.msgs.below hb4)) cal53 ⟨rfl, trivial⟩ (k := fun a v w5 hR hF => ?_)
  obtain ⟨a1, c1, lm, rfl, hml, hmo, hmk, hb5⟩ := hR
  have hz5 := hb5.size
  have hg15 := hg14.below hb5
  have hg25 := (hb5.block _ (lt_at hg24)).trans hg24
  have hg35 := (hb5.block _ (lt_at hg4)).trans hg4
  replace hb5 := hb4.trans (hb5.mono hb4.size)
  repeat (((apply st hF); (exact d_fieldAddr (fld _ _ _ _ rfl) (isz _ _ rfl)); clear hF; clear a; intro a hF))
  refine st_store hF (isz _ _ rfl) hg35 (i := 0 + 7) (by show 0 + 7 < 9; decide) rfl rfl rfl (k := fun a w6 hg6 hgr6 hsz6 hF => ?_)
  have hg16 : DgAt w.heap.size d w6 := blk_kept hg15 hgr6 (by simp; omega)
  have hg26 := blk_kept hg25 hgr6 (by simp; omega)
  have hmo6 := own_keptT hmo hg35 (by decide) hgr6
  have hmk6 : ∀ i, i < ms.length → CopyMOk w4.heap.size w6 ms lm i := fun i hi => (hmk i hi).keptT hg35 (by decide) (by decide) hgr6
  have hb6 : Below w.heap.size w w6 := hb5.grown hgr6 hb5.size (fun k hk => by cases hk; omega)
  repeat (first | refine c_seq ?_ | refine c_region _ ?_ | refine wpList_nil ?_ | refine c_then ?_ | ((apply st hF); (first | exact d_fieldAddr (fld _ _ _ _ rfl) (isz _ _ rfl) | exact d_load (und _ _ rfl) (e8 _ hg16)); clear hF; clear a; intro a hF))
  refine stc hF (copy_tables w6 ts d.tb d.tbN d.tbC (hin.tabs.below hb6)) cal54 ⟨rfl, trivial⟩ (k := fun a v w7 hR hF => ?_)
  obtain ⟨a2, c2, lt, rfl, hct, hb7⟩ := hR
  have hz7 := hb7.size
  have hg17 := hg16.below hb7
  have hg27 := (hb7.block _ (lt_at hg26)).trans hg26
  have hg37 := (hb7.block _ (lt_at hg6)).trans hg6
  have hmo7 := own_below hmo6 hb7
  have hmk7 : ∀ i, i < ms.length → CopyMOk w4.heap.size w7 ms lm i := fun i hi => (hmk6 i hi).below hb7
  replace hb7 := hb6.trans (hb7.mono hb6.size)
  repeat (((apply st hF); (exact d_fieldAddr (fld _ _ _ _ rfl) (isz _ _ rfl)); clear hF; clear a; intro a hF))
  refine st_store hF (isz _ _ rfl) hg37 (i := 0 + 8) (by show 0 + 8 < 9; decide) rfl rfl rfl (k := fun a w8 hg8 hgr8 hsz8 hF => ?_)
  have hg18 : DgAt w.heap.size d w8 := blk_kept hg17 hgr8 (by simp; omega)
  have hg28 := blk_kept hg27 hgr8 (by simp; omega)
  have hmo8 := own_keptT hmo7 hg37 (by decide) hgr8
  have hmk8 : ∀ i, i < ms.length → CopyMOk w4.heap.size w8 ms lm i := fun i hi => (hmk7 i hi).keptT hg37 (by decide) (by decide) hgr8
  have hct8 : CopyTs w6.heap.size w8 a2 c2 ts lt := ⟨hct.len, own_keptT hct.own hg37 (by decide) hgr8, fun i hi => (hct.ok i hi).keptT hg37 (by decide) hgr8⟩
  have hb8 : Below w.heap.size w w8 := hb7.grown hgr8 hb7.size (fun k hk => by cases hk; omega)
  repeat (first | refine c_seq ?_ | refine c_region _ ?_ | refine wpList_nil ?_ | refine c_then ?_ | ((apply st hF); (first | exact d_fieldAddr (fld _ _ _ _ rfl) (isz _ _ rfl) | exact d_loadAgg (agg _ rfl) (isz _ _ rfl) rfl (e4 _ hg18)); clear hF; clear a; intro a hF))
  refine stc hF (copy_stations w8 d.sline d.scol d.sn d.snN d.snC ss hin.slen (hin.srd.below hb8) hin.sbytes) cal55 ⟨rfl, trivial⟩ (k := fun a v w9 hR hF => ?_)
  obtain ⟨a3, c3, rfl, hcs, hb9⟩ := hR
  have hz9 := hb9.size
  have hg29 := (hb9.block _ (lt_at hg28)).trans hg28
  have hg39 := (hb9.block _ (lt_at hg8)).trans hg8
  have hcd : CopyDb w4.heap.size w9 d ss ms ts a1 c1 lm a2 c2 lt a3 c3 := ⟨hml, own_below hmo8 hb9, fun i hi => (hmk8 i hi).below hb9, (hct8.below hb9).rebase (by omega), own_rebase hcs fun k hk => (by have := (own_geC hcs hk).1; omega)⟩
  replace hb9 := hb8.trans (hb9.mono hb8.size)
  repeat (((apply st hF); (exact d_fieldAddr (fld _ _ _ _ rfl) (isz _ _ rfl)); clear hF; clear a; intro a hF))
  refine st_storePart hF (cs := #[.int .i64 d.sline, .int .i64 d.scol, .slice a3 d.snN c3]) (o := 0 + 4) (isz _ _ rfl) rfl (by show 0 + 4 + 3 ≤ 9; decide) hg39 (fun v hv => by simp at hv; rcases hv with rfl | rfl | rfl <;> rfl) (k := fun a w10 hg10 hgr10 hsz10 hF => ?_)
  have hgX : DgAt w2.heap.size (d.cp a1 c1 a2 c2 a3 c3) w10 := hg10
  have hg210 := blk_kept hg29 hgr10 (by simp; omega)
  have hcd10 := hcd.keptT hg39 hgr10
  have hb10 : Below w.heap.size w w10 := hb9.grown hgr10 hb9.size (fun k hk => by cases hk; omega)
  repeat (first | refine c_seq ?_ | refine c_region _ ?_ | refine wpList_nil ?_ | refine c_then ?_ | ((apply st hF); (exact d_loadAgg (agg _ rfl) (isz _ _ rfl) rfl (cells_at hgX)); clear hF; clear a; intro a hF))
  refine st_storeAgg hF (cs := (Db.cells (d.cp a1 c1 a2 c2 a3 c3)).toArray) (isz _ _ rfl) rfl rfl hg210 (db_cells _) (k := fun a w11 hg11 hgr11 hsz11 hF => ?_)
  have hcd11 := hcd10.keptT hg210 hgr11
  repeat (first | refine wpList_nil ?_ | refine c_then ?_ | refine wp_ret ?_)
  exact ret_c hF rfl (agg _ rfl) (isz _ _ rfl) hg11 rfl ⟨a1, c1, lm, a2, c2, lt, a3, c3, rfl, hcd11.rebase (by omega), hb10.grown hgr11 hb10.size (fun k hk => by cases hk; omega)⟩
end Go.Proofs.YtjomihhpglojpaaDoor
end
section
/- A region that draws its order, walked along a tree: reads (taken first), sole operations, and two that may come up in either order. Plain lemmas over any program. -/
namespace Go.Proofs.YtjomihhpglojpaaDoor
open Go.RowKit
inductive Tr where
  | done
  | read (i : Nat) (k : Tr)
  | sole (t : Nat) (k : Tr)
  | two (t u : Nat) (kt ku : Tr)
section
variable {P : Program} {md : Region.Mode} {Q : Exit → Act → World → Prop} {S : World → Prop}
def treeL (md : Region.Mode) (ops : Array Oper) : Nat → Tr → Array Bool → Bool
  | 0, .done, listed => (Region.ready md ops listed).isEmpty
  | n + 1, .read i k, listed => (Region.ready md ops listed).contains i && Region.free md ops listed i && treeL md ops n k (listed.setIfInBounds i true)
  | n + 1, .sole t k, listed => decide (Region.ready md ops listed = [t]) && treeL md ops n k (listed.setIfInBounds t true)
  | n + 1, .two t u kt ku, listed => (decide (Region.ready md ops listed = [t, u]) || decide (Region.ready md ops listed = [u, t])) && treeL md ops n kt (listed.setIfInBounds t true) && treeL md ops n ku (listed.setIfInBounds u true)
  | _, _, _ => false
def treeB (md : Region.Mode) (ops : Array Oper) (t : Tr) : Bool := Region.noSelect ops && treeL md ops ops.size t (Array.replicate ops.size false)
def wpTree (P : Program) (ops : Array Oper) (Q : Exit → Act → World → Prop) (S : World → Prop) (l : List Oper) : Tr → Act → World → Prop
  | .done, a, w => Q .normal a w
  | .read i k, a, w => ∀ o, l[i]? = some o → ∃ v, YieldsIf P ops S o v a ∧ wpTree P ops Q S l k (a.put o.dst v) w
  | .sole t k, a, w => ∀ o, l[t]? = some o → wpList P ops (fun e a' w' => e = .normal ∧ S w' ∧ wpTree P ops Q S l k a' w') [o] a w
  | .two t u kt ku, a, w => (∀ o, l[t]? = some o → wpList P ops (fun e a' w' => e = .normal ∧ S w' ∧ wpTree P ops Q S l kt a' w') [o] a w) ∧ (∀ o, l[u]? = some o → wpList P ops (fun e a' w' => e = .normal ∧ S w' ∧ wpTree P ops Q S l ku a' w') [o] a w)
theorem op_list {l : List Oper} {i : Nat} {o : Oper} {R : Act → World → Prop} {a : Act} {w : World} (ho : l.toArray[i]? = some o) (h : wpList P l.toArray (fun e a' w' => e = .normal ∧ S w' ∧ R a' w') [o] a w) :
    wpOp P l.toArray (fun e a w => e = .normal ∧ Q .normal a w) i (fun a' w' => S w' ∧ R a' w') a w := by
  simp only [wpList] at h
  unfold wpOp
  simp only [ho]
  split
  · rename_i hw
    rw [if_pos hw] at h
    rcases h with h | ⟨_, x, y, h, _⟩
    · refine .inl (oper_wp_monoQ (Q' := fun e a' w' => e = .normal ∧ S w' ∧ R a' w') (fun e a' w' hn h' => absurd h'.1 hn) (Oper.wp_mono ?_ h))
      rintro a' w' ⟨_, h1, h2⟩
      exact ⟨h1, h2⟩
    · cases h
  · rename_i hw
    rw [if_neg hw] at h
    exact h.2
theorem wpAnyH_tree {l : List Oper} (Q : Exit → Act → World → Prop) (hs : Region.noSelect l.toArray = true) : ∀ (n : Nat) (t : Tr) (listed : Array Bool) (a : Act) (w : World), treeL md l.toArray n t listed = true → S w →
    wpTree P l.toArray Q S l t a w → wpAnyH P md l.toArray (fun e a w => e = .normal ∧ Q .normal a w) S n listed a w
  | 0, .done, listed, a, w, hB, hS, h => ⟨by simpa [treeL] using hB, rfl, by simpa [wpTree] using h⟩
  | n + 1, .read i k, listed, a, w, hB, hS, h => by
    simp only [treeL, Bool.and_eq_true] at hB
    obtain ⟨⟨hr, hf⟩, hB'⟩ := hB
    obtain ⟨o, ho⟩ := mem_ready_lt (by simpa using hr : i ∈ Region.ready md l.toArray listed)
    obtain ⟨v, hy, hk⟩ := h o (by simpa using ho)
    exact wpAnyH_take ho hs hf hr (fun c a w h => by cases h.1) hy hS (wpAnyH_tree Q hs n k _ _ w hB' hS hk)
  | n + 1, .sole t k, listed, a, w, hB, hS, h => by
    simp only [treeL, Bool.and_eq_true, decide_eq_true_eq] at hB
    refine ⟨fun h1 => (by rw [hB.1] at h1; cases h1), fun i hi => ?_⟩
    obtain ⟨o, ho⟩ := mem_ready_lt hi
    rw [hB.1] at hi
    obtain rfl : i = t := by simpa using hi
    refine wpOp_mono ?_ (op_list (R := fun a' w' => wpTree P l.toArray Q S l k a' w') ho (h o (by simpa using ho)))
    rintro a' w' ⟨h3, h4⟩
    exact ⟨h3, wpAnyH_tree Q hs n k _ a' w' hB.2 h3 h4⟩
  | n + 1, .two t u kt ku, listed, a, w, hB, hS, h => by
    simp only [treeL, Bool.and_eq_true, Bool.or_eq_true, decide_eq_true_eq] at hB
    obtain ⟨⟨hr, hB1⟩, hB2⟩ := hB
    have hmem : ∀ i, i ∈ Region.ready md l.toArray listed → i = t ∨ i = u := fun i hi => by
      rcases hr with e | e <;> rw [e] at hi <;> simp at hi <;> omega
    refine ⟨fun h1 => (by rcases hr with e | e <;> (rw [e] at h1; cases h1)), fun i hi => ?_⟩
    obtain ⟨o, ho⟩ := mem_ready_lt hi
    rcases hmem i hi with rfl | rfl
    · refine wpOp_mono ?_ (op_list (R := fun a' w' => wpTree P l.toArray Q S l kt a' w') ho (h.1 o (by simpa using ho)))
      rintro a' w' ⟨h3, h4⟩
      exact ⟨h3, wpAnyH_tree Q hs n kt _ a' w' hB1 h3 h4⟩
    · refine wpOp_mono ?_ (op_list (R := fun a' w' => wpTree P l.toArray Q S l ku a' w') ho (h.2 o (by simpa using ho)))
      rintro a' w' ⟨h3, h4⟩
      exact ⟨h3, wpAnyH_tree Q hs n ku _ a' w' hB2 h3 h4⟩
  | 0, .read _ _, _, _, _, hB, _, _ => by cases hB
  | 0, .sole _ _, _, _, _, hB, _, _ => by cases hB
  | 0, .two _ _ _ _, _, _, _, hB, _, _ => by cases hB
  | _ + 1, .done, _, _, _, hB, _, _ => by cases hB
theorem c_region_tree (S : World → Prop) (t : Tr) (id : Nat) {l' : List Oper} {a : Act} {w : World} (hm : P.follows .mixedOrders = true) (hB : treeB .any l'.toArray t = true) (hS : S (w.drewN 1))
    (h : wpTree P l'.toArray Q S l' t a (w.drewN 1)) : (Code.region id l'.toArray true).wp P Q a w := by
  simp only [treeB, Bool.and_eq_true] at hB
  have := wpAnyH_tree (md := .any) (S := S) Q hB.1 _ t _ a _ hB.2 hS h
  refine wp_region_any hm (wpAny_monoQ ?_ _ _ _ _ (wpAny_of_held _ _ _ _ this))
  rintro e a w ⟨rfl, h⟩
  exact h
variable {ops : Array Oper} {a : Act} {w : World} {N : Nat} {l : List (Nat × Value)} {L : List Oper} {i : Nat} {k : Tr}
theorem r_done (h : Q .normal a w) : wpTree P ops Q S L .done a w := h
theorem r_read (h : Fr N l a) {d : Nat} {op : Op} {ty : TypeId} {pos : String} {af : Array Edge} {v : Value} (ho : L[i]? = some ⟨some d, op, ty, pos, af, none⟩) (hr : ∀ w, S w → Does P l w op ty v w) (hd : Nat.blt d N = true := by exact rfl)
    (k' : ∀ a', Fr N ((d, v) :: l) a' → wpTree P ops Q S L k a' w) : wpTree P ops Q S L (.read i k) a w := by
  intro o ho'
  rw [ho] at ho'
  cases ho'
  exact ⟨v, .inl ⟨by simp [Region.wanted], fun w hw => hr w hw a.eval h.eval _ _ _ _⟩, k' _ (h.put hd v)⟩
theorem r_sole {o : Oper} (ho : L[i]? = some o) (h : wpList P ops (fun e a' w' => e = .normal ∧ S w' ∧ wpTree P ops Q S L k a' w') [o] a w) : wpTree P ops Q S L (.sole i k) a w := by
  intro o' ho'
  rw [ho] at ho'
  cases ho'
  exact h
theorem r_two {t u : Nat} {kt ku : Tr} {o o2 : Oper} (ho : L[t]? = some o) (ho2 : L[u]? = some o2) (h : wpList P ops (fun e a' w' => e = .normal ∧ S w' ∧ wpTree P ops Q S L kt a' w') [o] a w) (h2 : wpList P ops (fun e a' w' => e = .normal ∧ S w' ∧ wpTree P ops Q S L ku a' w') [o2] a w) : wpTree P ops Q S L (.two t u kt ku) a w := by
  refine ⟨fun o' ho' => ?_, fun o' ho' => ?_⟩
  · rw [ho] at ho'; cases ho'; exact h
  · rw [ho2] at ho'; cases ho'; exact h2
end
end Go.Proofs.YtjomihhpglojpaaDoor
end
section
/- Blocks that are made of given structs; databases of a few of them. -/
namespace Go.Proofs.YtjomihhpglojpaaDoor
open Go.RowKit
section
variable {P : Program} {ops : Array Oper} {Q : Exit → Act → World → Prop} {a : Act} {w w' : World} {rest : List Oper} {N : Nat} {l : List (Nat × Value)}
/-- A store of one cell into a row of structs of the call's own. -/
theorem st_storeRowC (h : Fr N l a) {x y : Operand} {g o base m cap sz : Nat} {v : Value} {e t ty : TypeId} {pos : String} {af : Array Edge} {xs : List Value} (hs : (P.info? t).map (·.size) = some 1) (hc : o < m * sz) (hown : w.ownsRow base e sz (.slice (some ⟨g, 0, none⟩) m cap) m xs) (hv : v.oneCell' = true)
    (hx : Ev l x (.pointer (some ⟨g, o, none⟩)) := by exact rfl) (hy : Ev l y v := by exact rfl)
    (k : ∀ a' w', w'.ownsRow base e sz (.slice (some ⟨g, 0, none⟩) m cap) m (xs.set o v) → w.grownBy w' (some g) → w'.heap.size = w.heap.size → Fr N l a' → wpList P ops Q rest a' w') :
    wpList P ops Q (⟨none, .store t x y, ty, pos, af, none⟩ :: rest) a w := by
  have hl : xs.length = m * sz := hown.1
  rcases hown.2 with ⟨h0, _⟩ | ⟨g', cap', cur, h0, hb, hg, hle, hm, hsz, htk⟩
  · cases h0
  · obtain ⟨rfl, rfl⟩ : g' = g ∧ cap' = cap := by cases h0; exact ⟨rfl, rfl⟩
    have hcs : m * sz ≤ cap' * sz := Nat.mul_le_mul_right _ hle
    refine st_store h hs hg (i := o) (by omega) hv hx hy fun a' w' hg' hgr hsz' hF => k a' w' ⟨by simpa using hl, .inr ⟨g', cap', _, rfl, hb, hg', hle, hm, by simpa using hsz, ?_⟩⟩ hgr hsz' hF
    rw [Array.toList_setIfInBounds, List.take_set, htk]
end
open Go.RowKit
set_option linter.unusedSimpArgs false
set_option linter.unusedVariables false
attribute [local irreducible] wpList wpQuiet wpStill Code.wp Exit.then Exit.inBlock bodyPost Calls Does Does0
set_option maxRecDepth 100000
def BkAt (g : Nat) (cs : List Value) (e : TypeId) (w : World) : Prop := w.heap[g]? = some (.cells cs.toArray e (0, 0))
theorem BkAt.below {g : Nat} {cs : List Value} {e : TypeId} {w w' : World} (h : BkAt g cs e w) (hb : Below w.heap.size w w') : BkAt g cs e w' := (hb.block _ (lt_at h)).trans h
theorem bk_alloc {α : Type} (w : World) (enc : α → List Value) (xs : List α) (e : TypeId) (cs : Array Value) (hc : cs = (xs.flatMap enc).toArray) : BkAt w.heap.size (xs.flatMap enc) e (w.alloc (.cells cs e)) := by
  subst hc
  exact heap_alloc_new w _
theorem BkAt.own {g n sz base : Nat} {xs : List Value} {e : TypeId} {w : World} (h : BkAt g xs e w) (hb : base ≤ g) (hl : xs.length = n * sz) (hn : n ≤ 1000) : w.ownsRow base e sz (.slice (some ⟨g, 0, none⟩) n n) n xs :=
  ⟨hl, .inr ⟨g, n, xs.toArray, rfl, hb, h, Nat.le_refl _, by unfold maxLen; omega, by simpa using hl, by rw [← hl]; simp⟩⟩
theorem BkAt.rdS {α : Type} {g sz : Nat} {enc : α → List Value} {xs : List α} {e : TypeId} {w : World} (h : BkAt g (xs.flatMap enc) e w) (he : ∀ x, (enc x).length = sz) (hn : xs.length ≤ 1000) : RdS w (some ⟨g, 0, none⟩) sz enc xs :=
  own_rdS he (h.own (Nat.zero_le _) (flat_len he xs) hn) rfl
def dbN (bs : Nat) (mg : Option Addr) (mn mc : Nat) (tb : Option Addr) (tn tc : Nat) : Db := ⟨false, 0, 0, ⟨#[]⟩, 0, 0, some ⟨bs, 0, none⟩, 1, 1, mg, mn, mc, tb, tn, tc⟩
def tbN (wide : Bool) (sig : ByteArray) (rw : Option Addr) (n c : Nat) : Tab := ⟨0, 0, 5, wide, sig, rw, n, c⟩
theorem dbN_in {w : World} {bs mn mc tn tc : Nat} {mg tb : Option Addr} {s : ByteArray} {ms : List MsgT} {ts : List TabT} (hN : Rd w (some ⟨bs, 0, none⟩) .string [s]) (hm : MsgsIn w mg mn mc ms) (ht : TabsIn w tb tn tc ts) : DbIn w (dbN bs mg mn mc tb tn tc) [s] ms ts :=
  ⟨rfl, hN, Nat.le_refl 1, (by show 1 * 16 ≤ 140737488351232; decide), hm, ht⟩
theorem tabs_nil (w : World) : TabsIn w none 0 0 [] := ⟨rfl, fun i hi => absurd hi (Nat.not_lt_zero _), by simp, by simp, Nat.le_refl 0, by decide⟩
theorem msgs_nil (w : World) : MsgsIn w none 0 0 [] := ⟨rfl, fun i hi => absurd hi (Nat.not_lt_zero _), by simp, by simp, Nat.le_refl 0, by decide⟩
theorem msgs_bk {w : World} {g n : Nat} {ms : List MsgT} (h : BkAt g ((ms.map (·.1)).flatMap Msg.cells) 27 w) (hl : ms.length = n) (hn : n ≤ 1000) (he : ∀ p ∈ ms, MsgIn w p.1 p.2) (hb : ∀ p ∈ ms, (∀ q ∈ p.2, SigB q.1) ∧ 0 ≤ p.1.id ∧ p.1.id < 4294967296) : MsgsIn w (some ⟨g, 0, none⟩) n n ms :=
  ⟨hl, h.rdS msgc_len (by simp; omega), he, hb, Nat.le_refl _, by omega⟩
theorem msgs_own {w : World} {base g n cap : Nat} {ms : List MsgT} (h : w.ownsRow base 27 8 (.slice (some ⟨g, 0, none⟩) n cap) n ((ms.map (·.1)).flatMap Msg.cells)) (hl : ms.length = n) (hn : n ≤ 1000) (he : ∀ p ∈ ms, MsgIn w p.1 p.2) (hb : ∀ p ∈ ms, (∀ q ∈ p.2, SigB q.1) ∧ 0 ≤ p.1.id ∧ p.1.id < 4294967296) : MsgsIn w (some ⟨g, 0, none⟩) n cap ms :=
  ⟨hl, own_rdS msgc_len h (by simp; omega), he, hb, (own_cap' h).1, by omega⟩
theorem tabs_bk {w : World} {g n : Nat} {ts : List TabT} (h : BkAt g ((ts.map (·.1)).flatMap Tab.cells) 67 w) (hl : ts.length = n) (hn : n ≤ 1000) (he : ∀ p ∈ ts, RowsIn w p.1 p.2) (hb : ∀ p ∈ ts, (0 ≤ p.1.id ∧ p.1.id < 4294967296) ∧ p.1.sig.size ≤ maxLen) : TabsIn w (some ⟨g, 0, none⟩) n n ts :=
  ⟨hl, h.rdS tabc_len (by simp; omega), he, hb, Nat.le_refl _, by omega⟩
theorem rows_bk {w : World} {t : Tab} {g n : Nat} {rs : List RowV} (e1 : t.rw = some ⟨g, 0, none⟩) (e2 : t.rwN = n) (e3 : t.rwC = n) (h : BkAt g (rs.flatMap RowV.cells) 116 w) (hl : rs.length = n) (hn : n ≤ 1000) (hv : ∀ r ∈ rs, -9223372036854775808 ≤ r.value ∧ r.value ≤ 9223372036854775807) : RowsIn w t rs := by
  refine ⟨by rw [e2]; exact hl, ?_, by rw [e2, e3]; exact Nat.le_refl _, by rw [e2]; omega, hv⟩
  rw [e1]
  exact h.rdS rowc_len (by omega)
theorem ids_mem {ms : List MsgT} (h : ∀ p ∈ ms, 0 ≤ p.1.id ∧ p.1.id < 4294967296) : ∀ i, i < ms.length → 0 ≤ (ms_ ms i).id ∧ (ms_ ms i).id < 4294967296 := fun i hi => by rw [ms_lt hi]; exact h _ (List.getElem_mem hi)
theorem units_mem {ms : List MsgT} (h : ∀ p ∈ ms, ∀ q ∈ p.2, q.1.unit = ⟨#[]⟩) : ∀ i, i < ms.length → ∀ k, k < (mp_ ms i).length → textE (sg (mp_ ms i) k).unit = 0 := fun i hi k hk => by
  rw [mp_lt hi] at hk ⊢
  exact unit_mem (h _ (List.getElem_mem hi)) k hk
theorem texts_mem {ts : List TabT} (h : ∀ p ∈ ts, ∀ r ∈ p.2, textE r.text = 0) : ∀ i, i < ts.length → ∀ k, k < (tr_ ts i).length → textE (rv_ (tr_ ts i) k).text = 0 := fun i hi k hk => by
  rw [tr_lt hi] at hk ⊢
  rw [rv_lt hk]
  exact h _ (List.getElem_mem hi) _ (List.getElem_mem hk)
end Go.Proofs.YtjomihhpglojpaaDoor
end
