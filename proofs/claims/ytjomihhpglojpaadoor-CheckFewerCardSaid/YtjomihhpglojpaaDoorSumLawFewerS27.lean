/- Laid together by a program of mine: DbA CopyF AppS FewS PermT. -/
import Derived.Test.YtjomihhpglojpaaDoorSumLawFewerS12
import Derived.Test.YtjomihhpglojpaaDoorSumLawFewerS26
import Derived.Test.YtjomihhpglojpaaDoorSumLawFewerS7
import Derived.Test.YtjomihhpglojpaaDoorSumLawFewerS10
set_option linter.unusedSimpArgs false
set_option linter.unusedVariables false
section
/- A database as it is handed in. -/
namespace Go.Proofs.YtjomihhpglojpaaDoor
open Go.RowKit
set_option linter.unusedSimpArgs false
set_option linter.unusedVariables false
attribute [local irreducible] wpList wpQuiet wpStill Code.wp Exit.then Exit.inBlock bodyPost Calls Does Does0
open Go.ChangeShapes Go.WideShapes
theorem list_rd {α β : Type} {w : World} {ao : Option Addr} {sz len : Nat} {cells : α → List Value} {Good : α → β → Prop}
    (H : ∀ i, i < len → ∃ x y, (∃ b o, ao = some ⟨b, o, none⟩ ∧ ∀ q v, (cells x)[q]? = some v → w.cell? ⟨b, o + i * sz + q, none⟩ = some v) ∧ Good x y) :
    ∃ ps : List (α × β), ps.length = len ∧ RdS w ao sz cells (ps.map (·.1)) ∧ ∀ p ∈ ps, Good p.1 p.2 := by
  obtain ⟨l, hl, hP⟩ := list_of (α := α × β) (Pr := fun i p => (∃ b o, ao = some ⟨b, o, none⟩ ∧ ∀ q v, (cells p.1)[q]? = some v → w.cell? ⟨b, o + i * sz + q, none⟩ = some v) ∧ Good p.1 p.2) len (fun i hi => by
    obtain ⟨x, y, h⟩ := H i hi
    exact ⟨(x, y), h⟩)
  refine ⟨l, hl, fun i hi => ?_, fun p hp => ?_⟩
  · have hi' : i < l.length := by simpa using hi
    have e : (l.map (·.1))[i]'hi = l[i].1 := by simp
    rw [e]
    exact (hP i hi').1
  · obtain ⟨i, hi, rfl⟩ := List.getElem_of_mem hp
    exact (hP i hi).2
theorem sz_row : Tryd.prog.cellsOf 116 = 2 := by kernel_rfl
theorem sz_tab : Tryd.prog.cellsOf 67 = 6 := by kernel_rfl
theorem sz_ver : Tryd.prog.cellsOf 56 = 3 := by kernel_rfl
theorem sz_sta : Tryd.prog.cellsOf 58 = 3 := by kernel_rfl
theorem sz_db : Tryd.prog.cellsOf 62 = 9 := by kernel_rfl
theorem sz_rows : Tryd.prog.cellsOf 65 = 1 := by kernel_rfl
theorem sz_msgs : Tryd.prog.cellsOf 59 = 1 := by kernel_rfl
theorem sz_tabs : Tryd.prog.cellsOf 60 = 1 := by kernel_rfl
theorem by_row : Tryd.prog.bytesOf 116 = 24 := by kernel_rfl
theorem by_msg : Tryd.prog.bytesOf 27 = 88 := by kernel_rfl
theorem by_tab : Tryd.prog.bytesOf 67 = 64 := by kernel_rfl
theorem row_of {H : Type} {enc : TypeId × Value → H} {w : World} {cs : List Value} (h : Rdw enc Tryd.prog w 116 cs) : ∃ r, cs = RowV.cells r ∧ -9223372036854775808 ≤ r.value ∧ r.value ≤ 9223372036854775807 := by
  have hl := h.rds.len (fld _ 0 _ _ rfl)
  rw [sz_row] at hl
  obtain ⟨a0, a1, rfl⟩ : ∃ a0 a1, cs = [a0, a1] := by
    rcases cs with _ | ⟨a0, _ | ⟨a1, _ | ⟨a2, r⟩⟩⟩ <;> simp at hl
    exact ⟨_, _, rfl⟩
  have k0 := h.fld (fld _ 0 _ _ rfl); rw [sz_i64] at k0
  have k1 := h.fld (fld _ 1 _ _ rfl); rw [sz_string] at k1
  obtain ⟨i0, e0, hw⟩ := Rds.int k0.rds (und _ _ rfl)
  obtain ⟨i1, e1, _⟩ := Rds.string k1.rds (und _ _ rfl)
  simp only [List.drop_succ_cons, List.drop_zero, List.take_succ_cons, List.take_zero, List.cons.injEq, and_true] at e0 e1
  subst e0; subst e1
  have := wf_i64' hw
  exact ⟨⟨i0, i1⟩, rfl, this⟩
theorem cells_of {α : Type} {w : World} {ao : Option Addr} {sz i : Nat} {cells : α → List Value} {x : α} {cs' : List Value} {b o : Nat} (hao : ao = some ⟨b, o, none⟩) (hcl : cs'.length = sz) (hq : ∀ q, q < sz → w.cell? ⟨b, o + i * sz + q, none⟩ = cs'[q]?) (e : cs' = cells x) :
    ∃ b o, ao = some ⟨b, o, none⟩ ∧ ∀ q v, (cells x)[q]? = some v → w.cell? ⟨b, o + i * sz + q, none⟩ = some v := by
  subst e
  refine ⟨b, o, hao, fun q v hv => ?_⟩
  rw [hq q (by rw [← hcl]; exact (List.getElem?_eq_some_iff.1 hv).1)]
  exact hv
theorem rows_of {H : Type} {enc : TypeId × Value → H} {w : World} {cs : List Value} (h : Rdw enc Tryd.prog w 65 cs) : ∃ ao n c rs, cs = [.slice ao n c] ∧ ∀ t : Tab, t.rw = ao → t.rwN = n → t.rwC = c → RowsIn w t rs := by
  obtain ⟨ao, len, cap, rfl, hl, hm, hby, hel⟩ := h.slice (und _ _ rfl) (by rw [sz_row]; decide)
  rw [by_row] at hby
  rw [sz_row] at hel
  obtain ⟨ps, h1, h2, h3⟩ := list_rd (ao := ao) (sz := 2) (len := len) (cells := RowV.cells) (Good := fun r (_ : Unit) => -9223372036854775808 ≤ r.value ∧ r.value ≤ 9223372036854775807) (fun i hi => by
    obtain ⟨b, o, cs', hao, hcl, hq, hr⟩ := hel i hi
    obtain ⟨r, e, hb⟩ := row_of hr
    exact ⟨r, (), cells_of hao hcl hq e, hb⟩)
  refine ⟨ao, len, cap, ps.map (·.1), rfl, fun t e1 e2 e3 => ?_⟩
  subst e1; subst e2; subst e3
  refine ⟨by simpa using h1, h2, hl, Nat.le_trans (Nat.mul_le_mul_right _ hl) hby, fun r hr => ?_⟩
  obtain ⟨p, hp, rfl⟩ := List.mem_map.1 hr
  exact h3 p hp
theorem tab_of {H : Type} {enc : TypeId × Value → H} {w : World} {cs : List Value} (h : Rdw enc Tryd.prog w 67 cs) : ∃ t rs, cs = Tab.cells t ∧ RowsIn w t rs ∧ (0 ≤ t.id ∧ t.id < 4294967296) ∧ t.sig.size ≤ maxLen := by
  have hl := h.rds.len (fld _ 0 _ _ rfl)
  rw [sz_tab] at hl
  obtain ⟨a0, a1, a2, a3, a4, a5, rfl⟩ : ∃ a0 a1 a2 a3 a4 a5, cs = [a0, a1, a2, a3, a4, a5] := by
    rcases cs with _ | ⟨a0, _ | ⟨a1, _ | ⟨a2, _ | ⟨a3, _ | ⟨a4, _ | ⟨a5, _ | ⟨a6, r⟩⟩⟩⟩⟩⟩⟩ <;> simp at hl
    exact ⟨_, _, _, _, _, _, rfl⟩
  have k0 := h.fld (fld _ 0 _ _ rfl); rw [sz_place] at k0
  have k1 := h.fld (fld _ 1 _ _ rfl); rw [sz_u32] at k1
  have k2 := h.fld (fld _ 2 _ _ rfl); rw [sz_bool] at k2
  have k3 := h.fld (fld _ 3 _ _ rfl); rw [sz_string] at k3
  have k4 := h.fld (fld _ 4 _ _ rfl); rw [sz_rows] at k4
  have p0 := k0.fld (fld _ 0 _ _ rfl); rw [sz_int] at p0
  have p1 := k0.fld (fld _ 1 _ _ rfl); rw [sz_int] at p1
  obtain ⟨i0, e0, _⟩ := p0.rds.int (und _ _ rfl)
  obtain ⟨i1, e1, _⟩ := p1.rds.int (und _ _ rfl)
  obtain ⟨i2, e2, hw2⟩ := Rds.int k1.rds (und _ _ rfl)
  obtain ⟨i3, e3⟩ := Rds.bool k2.rds (und _ _ rfl)
  obtain ⟨i4, e4, hs4⟩ := Rds.string k3.rds (und _ _ rfl)
  obtain ⟨ao, n, c, rs, e5, hs⟩ := rows_of k4
  simp only [List.drop_succ_cons, List.drop_zero, List.take_succ_cons, List.take_zero, List.cons.injEq, and_true] at e0 e1 e2 e3 e4 e5
  subst e0; subst e1; subst e2; subst e3; subst e4; subst e5
  exact ⟨⟨i0, i1, i2, i3, i4, ao, n, c⟩, rs, rfl, hs _ rfl rfl rfl, wf_u32' hw2, hs4⟩
theorem tabs_of {H : Type} {enc : TypeId × Value → H} {w : World} {cs : List Value} (h : Rdw enc Tryd.prog w 60 cs) : ∃ ao n c ts, cs = [.slice ao n c] ∧ TabsIn w ao n c ts := by
  obtain ⟨ao, len, cap, rfl, hl, hm, hby, hel⟩ := h.slice (und _ _ rfl) (by rw [sz_tab]; decide)
  rw [by_tab] at hby
  rw [sz_tab] at hel
  obtain ⟨ps, h1, h2, h3⟩ := list_rd (ao := ao) (sz := 6) (len := len) (cells := Tab.cells) (Good := fun t rs => RowsIn w t rs ∧ (0 ≤ t.id ∧ t.id < 4294967296) ∧ t.sig.size ≤ maxLen) (fun i hi => by
    obtain ⟨b, o, cs', hao, hcl, hq, hr⟩ := hel i hi
    obtain ⟨t, rs, e, hb⟩ := tab_of hr
    exact ⟨t, rs, cells_of hao hcl hq e, hb⟩)
  exact ⟨ao, len, cap, ps, rfl, h1, h2, fun p hp => (h3 p hp).1, fun p hp => (h3 p hp).2, hl, Nat.le_trans (Nat.mul_le_mul_right _ hl) hby⟩
theorem msgs_of {H : Type} {enc : TypeId × Value → H} {w : World} {cs : List Value} (h : Rdw enc Tryd.prog w 59 cs) : ∃ ao n c ms, cs = [.slice ao n c] ∧ MsgsIn w ao n c ms := by
  obtain ⟨ao, len, cap, rfl, hl, hm, hby, hel⟩ := h.slice (und _ _ rfl) (by rw [sz_msg]; decide)
  rw [by_msg] at hby
  rw [sz_msg] at hel
  obtain ⟨ps, h1, h2, h3⟩ := list_rd (ao := ao) (sz := 8) (len := len) (cells := Msg.cells) (Good := fun m qs => MsgIn w m qs ∧ (∀ q ∈ qs, SigB q.1) ∧ 0 ≤ m.id ∧ m.id < 4294967296) (fun i hi => by
    obtain ⟨b, o, cs', hao, hcl, hq, hr⟩ := hel i hi
    obtain ⟨t, rs, e, hb⟩ := msg_of hr
    exact ⟨t, rs, cells_of hao hcl hq e, hb⟩)
  exact ⟨ao, len, cap, ps, rfl, h1, h2, fun p hp => (h3 p hp).1, fun p hp => (h3 p hp).2, hl, Nat.le_trans (Nat.mul_le_mul_right _ hl) hby⟩
theorem db_of {H : Type} {enc : TypeId × Value → H} {w : World} {cs : List Value} (h : Rdw enc Tryd.prog w 62 cs) : ∃ d ss ms ts, cs = Db.cells d ∧ DbIn w d ss ms ts := by
  have hl := h.rds.len (fld _ 0 _ _ rfl)
  rw [sz_db] at hl
  obtain ⟨a0, a1, a2, a3, a4, a5, a6, a7, a8, rfl⟩ : ∃ a0 a1 a2 a3 a4 a5 a6 a7 a8, cs = [a0, a1, a2, a3, a4, a5, a6, a7, a8] := by
    rcases cs with _ | ⟨a0, _ | ⟨a1, _ | ⟨a2, _ | ⟨a3, _ | ⟨a4, _ | ⟨a5, _ | ⟨a6, _ | ⟨a7, _ | ⟨a8, _ | ⟨a9, r⟩⟩⟩⟩⟩⟩⟩⟩⟩⟩ <;> simp at hl
    exact ⟨_, _, _, _, _, _, _, _, _, rfl⟩
  have k0 := h.fld (fld _ 0 _ _ rfl); rw [sz_bool] at k0
  have k1 := h.fld (fld _ 1 _ _ rfl); rw [sz_ver] at k1
  have k2 := h.fld (fld _ 2 _ _ rfl); rw [sz_sta] at k2
  have k3 := h.fld (fld _ 3 _ _ rfl); rw [sz_msgs] at k3
  have k4 := h.fld (fld _ 4 _ _ rfl); rw [sz_tabs] at k4
  have v0 := k1.fld (fld _ 0 _ _ rfl); rw [sz_place] at v0
  have v1 := k1.fld (fld _ 1 _ _ rfl); rw [sz_string] at v1
  have v2 := v0.fld (fld _ 0 _ _ rfl); rw [sz_int] at v2
  have v3 := v0.fld (fld _ 1 _ _ rfl); rw [sz_int] at v3
  have s0 := k2.fld (fld _ 0 _ _ rfl); rw [sz_place] at s0
  have s1 := k2.fld (fld _ 1 _ _ rfl); rw [sz_texts] at s1
  have s2 := s0.fld (fld _ 0 _ _ rfl); rw [sz_int] at s2
  have s3 := s0.fld (fld _ 1 _ _ rfl); rw [sz_int] at s3
  obtain ⟨i0, e0⟩ := Rds.bool k0.rds (und _ _ rfl)
  obtain ⟨i1, e1, _⟩ := v2.rds.int (und _ _ rfl)
  obtain ⟨i2, e2, _⟩ := v3.rds.int (und _ _ rfl)
  obtain ⟨i3, e3, _⟩ := Rds.string v1.rds (und _ _ rfl)
  obtain ⟨i4, e4, _⟩ := s2.rds.int (und _ _ rfl)
  obtain ⟨i5, e5, _⟩ := s3.rds.int (und _ _ rfl)
  obtain ⟨ao, len, cap, ss, e6, hsl, hle, hm, hby, hrd, _⟩ := Rdw.texts s1 (und _ _ rfl) (und _ _ rfl) sz_string
  obtain ⟨am, nm, cm, ms, e7, hms⟩ := msgs_of k3
  obtain ⟨at', nt, ct, ts, e8, hts⟩ := tabs_of k4
  simp only [List.drop_succ_cons, List.drop_zero, List.take_succ_cons, List.take_zero, List.cons.injEq, and_true] at e0 e1 e2 e3 e4 e5 e6 e7 e8
  subst e0; subst e1; subst e2; subst e3; subst e4; subst e5; subst e6; subst e7; subst e8
  rw [by_string] at hby
  exact ⟨⟨i0, i1, i2, i3, i4, i5, ao, len, cap, am, nm, cm, at', nt, ct⟩, ss, ms, ts, rfl, hsl, hrd, hle, Nat.le_trans (Nat.mul_le_mul_right _ hle) hby, hms, hts⟩
end Go.Proofs.YtjomihhpglojpaaDoor
end
section
/- A copied database, walked. -/
namespace Go.Proofs.YtjomihhpglojpaaDoor
open Go.RowKit
set_option linter.unusedSimpArgs false
set_option linter.unusedVariables false
attribute [local irreducible] wpList wpQuiet wpStill Code.wp Exit.then Exit.inBlock bodyPost Calls Does Does0
set_option maxRecDepth 100000
theorem own_keptT {w w' : World} {base : Nat} {e e' : TypeId} {s n g : Nat} {v : Value} {xs : List Value} {c : Array Value} {fr : Nat × Nat} (h : w.ownsRow base e s v n xs) (hx : w.heap[g]? = some (.cells c e' fr)) (hne : e ≠ e') (hgr : w.grownBy w' (some g)) : w'.ownsRow base e s v n xs :=
  own_keptB h hgr fun k hk eq => by cases eq; exact own_ne h hx hne hk.symm
structure CopyDb (base : Nat) (w : World) (d : Db) (ss : List ByteArray) (ms : List MsgT) (ts : List TabT) (a1 : Option Addr) (c1 : Nat) (lm : List Msg) (a2 : Option Addr) (c2 : Nat) (lt : List Tab) (a3 : Option Addr) (c3 : Nat) : Prop where
  ml : lm.length = ms.length
  mown : w.ownsRow base 27 8 (.slice a1 d.mgN c1) d.mgN (lm.flatMap Msg.cells)
  mok : ∀ i, i < ms.length → CopyMOk base w ms lm i
  tabs : CopyTs base w a2 c2 ts lt
  sta : CopyT base w a3 d.snN c3 ss
theorem CopyDb.below {base : Nat} {w w' : World} {d : Db} {ss : List ByteArray} {ms : List MsgT} {ts : List TabT} {a1 : Option Addr} {c1 : Nat} {lm : List Msg} {a2 : Option Addr} {c2 : Nat} {lt : List Tab} {a3 : Option Addr} {c3 : Nat} (h : CopyDb base w d ss ms ts a1 c1 lm a2 c2 lt a3 c3) (hb : Below w.heap.size w w') : CopyDb base w' d ss ms ts a1 c1 lm a2 c2 lt a3 c3 :=
  ⟨h.ml, own_below h.mown hb, fun i hi => (h.mok i hi).below hb, h.tabs.below hb, own_below h.sta hb⟩
theorem CopyOk.keptT {base : Nat} {w w' : World} {ps : List SigT} {ls : List Sig} {i g : Nat} {c : Array Value} {e' : TypeId} {fr : Nat × Nat} (h : CopyOk base w ps ls i) (hx : w.heap[g]? = some (.cells c e' fr)) (hne : 9 ≠ e') (hgr : w.grownBy w' (some g)) : CopyOk base w' ps ls i := by
  obtain ⟨p, ao, c, h1, h2, hown⟩ := h
  exact ⟨p, ao, c, h1, h2, own_keptT hown hx hne hgr⟩
theorem CopyMOk.keptT {base : Nat} {w w' : World} {ms : List MsgT} {ls : List Msg} {i g : Nat} {c : Array Value} {e' : TypeId} {fr : Nat × Nat} (h : CopyMOk base w ms ls i) (hx : w.heap[g]? = some (.cells c e' fr)) (h1 : 38 ≠ e') (h2 : 9 ≠ e') (hgr : w.grownBy w' (some g)) : CopyMOk base w' ms ls i := by
  obtain ⟨p, ao, c, qs, a1, a2, h3⟩ := h
  exact ⟨p, ao, c, qs, a1, a2, h3.len, own_keptT h3.own hx h1 hgr, fun i hi => (h3.ok i hi).keptT hx h2 hgr⟩
theorem CopyMOk.keptO {base : Nat} {w w' : World} {ms : List MsgT} {ls : List Msg} {i : Nat} (h : CopyMOk base w ms ls i) {base' e' s' n' : Nat} {v' : Value} {xs' : List Value} (h' : w.ownsRow base' e' s' v' n' xs') (h1 : 38 ≠ e') (h2 : 9 ≠ e') (hgr : w.grownBy w' v'.ownBlock) : CopyMOk base w' ms ls i := by
  obtain ⟨p, ao, c, qs, a1, a2, h3⟩ := h
  exact ⟨p, ao, c, qs, a1, a2, h3.keptO h' h1 h2 hgr⟩
theorem CopyTOk.keptT {base : Nat} {w w' : World} {ts : List TabT} {ls : List Tab} {i g : Nat} {c : Array Value} {e' : TypeId} {fr : Nat × Nat} (h : CopyTOk base w ts ls i) (hx : w.heap[g]? = some (.cells c e' fr)) (hne : 116 ≠ e') (hgr : w.grownBy w' (some g)) : CopyTOk base w' ts ls i := by
  obtain ⟨p, ao, c, h1, h2, hown⟩ := h
  exact ⟨p, ao, c, h1, h2, own_keptT hown hx hne hgr⟩
theorem CopyDb.keptT {base : Nat} {w w' : World} {d : Db} {ss : List ByteArray} {ms : List MsgT} {ts : List TabT} {a1 : Option Addr} {c1 : Nat} {lm : List Msg} {a2 : Option Addr} {c2 : Nat} {lt : List Tab} {a3 : Option Addr} {c3 : Nat} {g : Nat} {c : Array Value} {fr : Nat × Nat} (h : CopyDb base w d ss ms ts a1 c1 lm a2 c2 lt a3 c3) (hx : w.heap[g]? = some (.cells c 62 fr)) (hgr : w.grownBy w' (some g)) : CopyDb base w' d ss ms ts a1 c1 lm a2 c2 lt a3 c3 :=
  ⟨h.ml, own_keptT h.mown hx (by decide) hgr, fun i hi => (h.mok i hi).keptT hx (by decide) (by decide) hgr, ⟨h.tabs.len, own_keptT h.tabs.own hx (by decide) hgr, fun i hi => (h.tabs.ok i hi).keptT hx (by decide) hgr⟩, own_keptT h.sta hx (by decide) hgr⟩
theorem CopyDb.rebase {base base' : Nat} {w : World} {d : Db} {ss : List ByteArray} {ms : List MsgT} {ts : List TabT} {a1 : Option Addr} {c1 : Nat} {lm : List Msg} {a2 : Option Addr} {c2 : Nat} {lt : List Tab} {a3 : Option Addr} {c3 : Nat} (h : CopyDb base w d ss ms ts a1 c1 lm a2 c2 lt a3 c3) (hb : base' ≤ base) : CopyDb base' w d ss ms ts a1 c1 lm a2 c2 lt a3 c3 :=
  ⟨h.ml, own_rebase h.mown fun k hk => (by have := (own_geC h.mown hk).1; omega), fun i hi => by
    obtain ⟨p, ao, c, qs, a1, a2, h3⟩ := h.mok i hi
    exact ⟨p, ao, c, qs, a1, a2, h3.rebase hb⟩, h.tabs.rebase hb, own_rebase h.sta fun k hk => (by have := (own_geC h.sta hk).1; omega)⟩
def Db.cp (d : Db) (a1 : Option Addr) (c1 : Nat) (a2 : Option Addr) (c2 : Nat) (a3 : Option Addr) (c3 : Nat) : Db := { d with mg := a1, mgC := c1, tb := a2, tbC := c2, sn := a3, snC := c3 }
theorem part7 (d : Db) (v : Value) : ((Db.cells d).toArray.setIfInBounds (0 + 7) v).toList = (Db.cells d).take 7 ++ [v] ++ (Db.cells d).drop 8 := rfl
set_option maxHeartbeats 8000000 in
theorem copy_db (w : World) (d : Db) (ss : List ByteArray) (ms : List MsgT) (ts : List TabT) (hin : DbIn w d ss ms ts) :
    Ret Tryd.prog 22 [.agg (Db.cells d).toArray].toArray w (fun v w' => ∃ a1 c1 lm a2 c2 lt a3 c3, v = .agg (Db.cells (d.cp a1 c1 a2 c2 a3 c3)).toArray ∧ CopyDb w.heap.size w' d ss ms ts a1 c1 lm a2 c2 lt a3 c3 ∧ Below w.heap.size w w') := by
  have htl := hin.tabs.len
  refine enter1 Tryd.func22 rfl 17 rfl 18 rfl (fun a hF => ?_)
  repeat (first | refine c_seq ?_ | refine c_region _ ?_)
  refine st_box hF (cs := (Db.cells d).toArray) rfl (k := fun a w1 hg1 hgr1 hsz1 hF => ?_)
  refine st_alloc hF inf62 (k := fun a w2 hg2 hgr2 hsz2 hF => ?_)
  have hb2 : Below w.heap.size w w2 := ((Below.refl _ w).grown hgr1 (Nat.le_refl _) (fun k hk => by cases hk)).grown hgr2 (by omega) (fun k hk => by cases hk)
  have hg12 : DgAt w.heap.size d w2 := blk_kept hg1 hgr2 (by simp)
  repeat (first | refine c_seq ?_ | refine c_region _ ?_ | refine wpList_nil ?_ | refine c_then ?_ | ((apply st hF); (exact d_loadAgg (agg _ rfl) (isz _ _ rfl) rfl (cells_at hg12)); clear hF; clear a; intro a hF))
  refine st_alloc hF inf62 (k := fun a w3 hg3 hgr3 hsz3 hF => ?_)
  have hb3 : Below w.heap.size w w3 := hb2.grown hgr3 (by omega) (fun k hk => by cases hk)
  have hg13 : DgAt w.heap.size d w3 := blk_kept hg12 hgr3 (by simp)
  have hg23 := blk_kept hg2 hgr3 (by simp)
  refine st_storeAgg hF (cs := (Db.cells d).toArray) (isz _ _ rfl) rfl rfl hg3 (db_cells d) (k := fun a w4 hg4 hgr4 hsz4 hF => ?_)
  have hb4 : Below w.heap.size w w4 := hb3.grown hgr4 (by omega) (fun k hk => by cases hk; omega)
  have hg14 : DgAt w.heap.size d w4 := blk_kept hg13 hgr4 (by simp; omega)
  have hg24 := blk_kept hg23 hgr4 (by simp; omega)
  clear hg1 hg2 hg12 hg13 hg23 hg3 hgr1 hgr2 hgr3 hgr4 hb2 hb3
  have e7 : ∀ wq, DgAt w.heap.size d wq → wq.cell? ⟨w.heap.size, 0 + 7, none⟩ = some (.slice d.mg d.mgN d.mgC) := fun wq h => h.c 7 _ rfl
  have e8 : ∀ wq, DgAt w.heap.size d wq → wq.cell? ⟨w.heap.size, 0 + 8, none⟩ = some (.slice d.tb d.tbN d.tbC) := fun wq h => h.c 8 _ rfl
  have e4 : ∀ wq, DgAt w.heap.size d wq → ∀ j v, (#[.int .i64 d.sline, .int .i64 d.scol, .slice d.sn d.snN d.snC] : Array Value)[j]? = some v → wq.cell? ⟨w.heap.size, 0 + 4 + j, none⟩ = some v := fun wq h j v hj => by
    rcases (show j = 0 ∨ j = 1 ∨ j = 2 ∨ 3 ≤ j by omega) with rfl | rfl | rfl | hj3
    · simp at hj; subst hj; exact h.c 4 _ rfl
    · simp at hj; subst hj; exact h.c 5 _ rfl
    · simp at hj; subst hj; exact h.c 6 _ rfl
    · rw [Array.getElem?_eq_none (by simpa using hj3)] at hj; cases hj
  repeat (first | refine c_seq ?_ | refine c_region _ ?_ | refine wpList_nil ?_ | refine c_then ?_ | ((apply st hF); (first | exact d_fieldAddr (fld _ _ _ _ rfl) (isz _ _ rfl) | exact d_load (und _ _ rfl) (e7 _ hg14)); clear hF; clear a; intro a hF))
  refine stc hF (copy_messages w4 ms d.mg d.mgN d.mgC (hin.msgs.below hb4)) cal53 ⟨rfl, trivial⟩ (k := fun a v w5 hR hF => ?_)
  obtain ⟨a1, c1, lm, rfl, hml, hmo, hmk, hb5⟩ := hR
  have hz5 := hb5.size
  have hg15 := hg14.below hb5
  have hg25 := (hb5.block _ (lt_at hg24)).trans hg24
  have hg35 := (hb5.block _ (lt_at hg4)).trans hg4
  replace hb5 := hb4.trans (hb5.mono hb4.size)
  repeat (((apply st hF); (exact d_fieldAddr (fld _ _ _ _ rfl) (isz _ _ rfl)); clear hF; clear a; intro a hF))
  refine st_store hF (isz _ _ rfl) hg35 (i := 0 + 7) (by show 0 + 7 < 9; decide) rfl rfl rfl (k := fun a w6 hg6 hgr6 hsz6 hF => ?_)
  have hg16 : DgAt w.heap.size d w6 := blk_kept hg15 hgr6 (by simp; omega)
  have hg26 := blk_kept hg25 hgr6 (by simp; omega)
  have hmo6 := own_keptT hmo hg35 (by decide) hgr6
  have hmk6 : ∀ i, i < ms.length → CopyMOk w4.heap.size w6 ms lm i := fun i hi => (hmk i hi).keptT hg35 (by decide) (by decide) hgr6
  have hb6 : Below w.heap.size w w6 := hb5.grown hgr6 hb5.size (fun k hk => by cases hk; omega)
  repeat (first | refine c_seq ?_ | refine c_region _ ?_ | refine wpList_nil ?_ | refine c_then ?_ | ((apply st hF); (first | exact d_fieldAddr (fld _ _ _ _ rfl) (isz _ _ rfl) | exact d_load (und _ _ rfl) (e8 _ hg16)); clear hF; clear a; intro a hF))
  refine stc hF (copy_tables w6 ts d.tb d.tbN d.tbC (hin.tabs.below hb6)) cal54 ⟨rfl, trivial⟩ (k := fun a v w7 hR hF => ?_)
  obtain ⟨a2, c2, lt, rfl, hct, hb7⟩ := hR
  have hz7 := hb7.size
  have hg17 := hg16.below hb7
  have hg27 := (hb7.block _ (lt_at hg26)).trans hg26
  have hg37 := (hb7.block _ (lt_at hg6)).trans hg6
  have hmo7 := own_below hmo6 hb7
  have hmk7 : ∀ i, i < ms.length → CopyMOk w4.heap.size w7 ms lm i := fun i hi => (hmk6 i hi).below hb7
  replace hb7 := hb6.trans (hb7.mono hb6.size)
  repeat (((apply st hF); (exact d_fieldAddr (fld _ _ _ _ rfl) (isz _ _ rfl)); clear hF; clear a; intro a hF))
  refine st_store hF (isz _ _ rfl) hg37 (i := 0 + 8) (by show 0 + 8 < 9; decide) rfl rfl rfl (k := fun a w8 hg8 hgr8 hsz8 hF => ?_)
  have hg18 : DgAt w.heap.size d w8 := blk_kept hg17 hgr8 (by simp; omega)
  have hg28 := blk_kept hg27 hgr8 (by simp; omega)
  have hmo8 := own_keptT hmo7 hg37 (by decide) hgr8
  have hmk8 : ∀ i, i < ms.length → CopyMOk w4.heap.size w8 ms lm i := fun i hi => (hmk7 i hi).keptT hg37 (by decide) (by decide) hgr8
  have hct8 : CopyTs w6.heap.size w8 a2 c2 ts lt := ⟨hct.len, own_keptT hct.own hg37 (by decide) hgr8, fun i hi => (hct.ok i hi).keptT hg37 (by decide) hgr8⟩
  have hb8 : Below w.heap.size w w8 := hb7.grown hgr8 hb7.size (fun k hk => by cases hk; omega)
  repeat (first | refine c_seq ?_ | refine c_region _ ?_ | refine wpList_nil ?_ | refine c_then ?_ | ((apply st hF); (first | exact d_fieldAddr (fld _ _ _ _ rfl) (isz _ _ rfl) | exact d_loadAgg (agg _ rfl) (isz _ _ rfl) rfl (e4 _ hg18)); clear hF; clear a; intro a hF))
  refine stc hF (copy_stations w8 d.sline d.scol d.sn d.snN d.snC ss hin.slen (hin.srd.below hb8) hin.sbytes) cal55 ⟨rfl, trivial⟩ (k := fun a v w9 hR hF => ?_)
  obtain ⟨a3, c3, rfl, hcs, hb9⟩ := hR
  have hz9 := hb9.size
  have hg29 := (hb9.block _ (lt_at hg28)).trans hg28
  have hg39 := (hb9.block _ (lt_at hg8)).trans hg8
  have hcd : CopyDb w4.heap.size w9 d ss ms ts a1 c1 lm a2 c2 lt a3 c3 := ⟨hml, own_below hmo8 hb9, fun i hi => (hmk8 i hi).below hb9, (hct8.below hb9).rebase (by omega), own_rebase hcs fun k hk => (by have := (own_geC hcs hk).1; omega)⟩
  replace hb9 := hb8.trans (hb9.mono hb8.size)
  repeat (((apply st hF); (exact d_fieldAddr (fld _ _ _ _ rfl) (isz _ _ rfl)); clear hF; clear a; intro a hF))
  refine st_storePart hF (cs := #[.int .i64 d.sline, .int .i64 d.scol, .slice a3 d.snN c3]) (o := 0 + 4) (isz _ _ rfl) rfl (by show 0 + 4 + 3 ≤ 9; decide) hg39 (fun v hv => by simp at hv; rcases hv with rfl | rfl | rfl <;> rfl) (k := fun a w10 hg10 hgr10 hsz10 hF => ?_)
  have hgX : DgAt w2.heap.size (d.cp a1 c1 a2 c2 a3 c3) w10 := hg10
  have hg210 := blk_kept hg29 hgr10 (by simp; omega)
  have hcd10 := hcd.keptT hg39 hgr10
  have hb10 : Below w.heap.size w w10 := hb9.grown hgr10 hb9.size (fun k hk => by cases hk; omega)
  repeat (first | refine c_seq ?_ | refine c_region _ ?_ | refine wpList_nil ?_ | refine c_then ?_ | ((apply st hF); (exact d_loadAgg (agg _ rfl) (isz _ _ rfl) rfl (cells_at hgX)); clear hF; clear a; intro a hF))
  refine st_storeAgg hF (cs := (Db.cells (d.cp a1 c1 a2 c2 a3 c3)).toArray) (isz _ _ rfl) rfl rfl hg210 (db_cells _) (k := fun a w11 hg11 hgr11 hsz11 hF => ?_)
  have hcd11 := hcd10.keptT hg210 hgr11
  repeat (first | refine wpList_nil ?_ | refine c_then ?_ | refine wp_ret ?_)
  exact ret_c hF rfl (agg _ rfl) (isz _ _ rfl) hg11 rfl ⟨a1, c1, lm, a2, c2, lt, a3, c3, rfl, hcd11.rebase (by omega), hb10.grown hgr11 hb10.size (fun k hk => by cases hk; omega)⟩
end Go.Proofs.YtjomihhpglojpaaDoor
end
section
/- Slices of structs: what a part reads as, and 'append(s, x...)'. Plain lemmas over any program. -/
namespace Go.Proofs.YtjomihhpglojpaaDoor
open Go.RowKit
section
variable {P : Program} {ops : Array Oper} {Q : Exit → Act → World → Prop} {a : Act} {w w' : World} {rest : List Oper} {N : Nat} {l : List (Nat × Value)}
theorem RdS.drop {α : Type} {w : World} {ao : Option Addr} {sz : Nat} {enc : α → List Value} {xs : List α} (h : RdS w ao sz enc xs) (i m : Nat) (hm : xs.length ≤ m) : RdS w (if m = i then ao else ao.map (·.add (i * sz))) sz enc (xs.drop i) := by
  intro j hj
  rw [List.length_drop] at hj
  obtain ⟨b, o, rfl, hc⟩ := h (i + j) (by omega)
  rw [if_neg (by omega)]
  refine ⟨b, o + i * sz, by simp [addr_add], fun q v hq => ?_⟩
  rw [List.getElem_drop] at hq
  have := hc q v hq
  rwa [Nat.add_mul, ← Nat.add_assoc] at this
theorem RdS.take {α : Type} {w : World} {ao : Option Addr} {sz : Nat} {enc : α → List Value} {xs : List α} (h : RdS w ao sz enc xs) (n : Nat) : RdS w ao sz enc (xs.take n) := by
  intro j hj
  rw [List.length_take] at hj
  obtain ⟨b, o, e, hc⟩ := h j (by omega)
  exact ⟨b, o, e, fun q v hq => hc q v (by rw [List.getElem_take] at hq; exact hq)⟩
theorem own_pre {w : World} {base : Nat} {e : TypeId} {s n cap : Nat} {ao : Option Addr} {xs : List Value} (h : w.ownsRow base e s (.slice ao n cap) n xs) {m : Nat} (hm : m ≤ n) : w.ownsRow base e s (.slice ao m cap) m (xs.take (m * s)) := by
  have hl : xs.length = n * s := h.1
  have hms : m * s ≤ n * s := Nat.mul_le_mul_right _ hm
  refine ⟨by rw [List.length_take]; omega, ?_⟩
  rcases h.2 with ⟨h0, h1⟩ | ⟨g, cap', cur, h0, hb, hg, hle, hx, hsz, htk⟩
  · cases h0
    exact .inl ⟨by rw [show m = 0 by omega], by omega⟩
  · cases h0
    refine .inr ⟨_, _, cur, rfl, hb, hg, by omega, hx, hsz, ?_⟩
    rw [← htk, List.take_take, Nat.min_eq_left hms]
theorem flat_len {α : Type} {enc : α → List Value} {sz : Nat} (he : ∀ x, (enc x).length = sz) : ∀ xs : List α, (xs.flatMap enc).length = xs.length * sz
  | [] => by simp
  | x :: xs => by simp [he, flat_len he xs, Nat.add_mul, Nat.add_comm]
theorem flat_take {α : Type} {enc : α → List Value} {sz : Nat} (he : ∀ x, (enc x).length = sz) : ∀ (xs : List α) (n : Nat), (xs.flatMap enc).take (n * sz) = (xs.take n).flatMap enc
  | [], n => by simp
  | x :: xs, 0 => by simp
  | x :: xs, n + 1 => by
    have hx := he x
    rw [List.flatMap_cons, List.take_succ_cons, List.flatMap_cons, ← flat_take he xs n, List.take_append, hx]
    rw [List.take_of_length_le (by rw [hx, Nat.add_mul]; omega)]
    congr 2
    rw [Nat.add_mul]; omega
theorem st_appendS (h : Fr N l a) {α : Type} {enc : α → List Value} {ys : List α} {bo : Option Addr} {m c' sz : Nat} {d : Nat} {s x : Operand} {z : Value} {t e ty : TypeId} {pos : String} {af : Array Edge} {bytes n base cap : Nat} {ao : Option Addr} {xs : List Value}
    (he : ∀ x, (enc x).length = sz) (h0 : 0 < sz) (hU : P.underlying t = some (.slice e)) (hi : (P.info? e).map (fun i => (i.zero, i.size, i.bytes)) = some (some z, sz, bytes)) (hz : z.cells.size = sz)
    (hown : w.ownsRow base e sz (.slice ao n cap) n xs) (hys : ys.length = m) (hR : RdS w bo sz enc ys) (h1 : ∀ y, ∀ v ∈ enc y, v.oneCell' = true) (hbd : (n + m) * bytes ≤ 140737488355328) (hm : n + m ≤ maxLen) (hbase : base ≤ w.heap.size)
    (hs : Ev l s (.slice ao n cap) := by exact rfl) (hx : Ev l x (.slice bo m c') := by exact rfl) (hd : Nat.blt d N = true := by exact rfl)
    (k : ∀ a' ao' cap' w', w'.ownsRow base e sz (.slice ao' (n + m) cap') (n + m) (xs ++ ys.flatMap enc) → w.grownBy w' (Value.slice ao n cap).ownBlock → Fr N ((d, .slice ao' (n + m) cap') :: l) a' → wpList P ops Q rest a' w') :
    wpList P ops Q (⟨some d, .call { callee := .builtin .append, args := [s, x].toArray, argTypes := [t, t].toArray }, ty, pos, af, none⟩ :: rest) a w := by
  obtain ⟨i, g1, g2, g3, g4⟩ := info_parts hi
  by_cases hy0 : ys = []
  · subst hy0
    obtain rfl : m = 0 := by simpa using hys.symm
    obtain ⟨hle, _⟩ := own_cap' hown
    have hsrc : Src P i.size t (.slice bo 0 c') 0 [] w := by
      cases bo with
      | none => exact Src.ofNil w hU c'
      | some ad => exact Src.ofSlice w hU ad 0 c' [] (by simp) (by simp) (by simp)
    have hr := run_append_nothing (P := P) w t t ty e i hU g1 ao n cap hle _ hsrc
    refine st h (v := .slice ao n cap) (w' := w) ?_ hd fun a' hF => k a' ao cap w (by simpa using hown) (World.grownBy.refl w _) hF
    intro ρ hρ d pos af g
    simp [execOp, resolve, invoke, builtin, hρ _ _ hs, hρ _ _ hx, hr]
  · obtain ⟨b, o, rfl, _⟩ := hR 0 (by cases ys with | nil => exact absurd rfl hy0 | cons _ _ => simp)
    refine wpList_append_own_at _ rfl s x t rfl base e i z sz bytes hU g1 g2 g3 g4 hz h0 (.slice ao n cap) n xs (h.eval _ _ hs) hown
      ⟨b, o, none⟩ m c' (ys.flatMap enc) (h.eval _ _ hx) (by rw [flat_len he, hys]) ?_ ?_ hm hbd hbase ?_
    · intro j v hj
      have hjl : j < ys.length * sz := by
        have := (List.getElem?_eq_some_iff.1 hj).1
        rw [flat_len he] at this; exact this
      have hq : j % sz < sz := Nat.mod_lt _ h0
      have hi' : j / sz < ys.length := Nat.div_lt_of_lt_mul (by rw [Nat.mul_comm]; exact hjl)
      obtain ⟨b2, o2, e2, hc⟩ := hR (j / sz) hi'
      cases e2
      have e3 := flat_get he ys (j / sz) hi' (j % sz) hq
      have e4 : j / sz * sz + j % sz = j := by rw [Nat.mul_comm]; exact Nat.div_add_mod j sz
      rw [e4, hj] at e3
      have := hc (j % sz) v e3.symm
      rw [Nat.add_assoc, e4] at this
      rw [addr_add]; exact this
    · intro v hv
      obtain ⟨y, _, hv⟩ := List.mem_flatMap.1 hv
      exact h1 y v hv
    · intro v' w' hown' hgr hnil hat
      obtain ⟨ao', cap', rfl, _, _⟩ := own_form hown'
      exact k _ ao' cap' w' hown' hgr (h.put hd _)
end
end Go.Proofs.YtjomihhpglojpaaDoor
end
section
/- Rows of tables and messages that are left of a database. -/
namespace Go.Proofs.YtjomihhpglojpaaDoor
open Go.RowKit
set_option linter.unusedSimpArgs false
set_option linter.unusedVariables false
attribute [local irreducible] wpList wpQuiet wpStill Code.wp Exit.then Exit.inBlock bodyPost Calls Does Does0
set_option maxRecDepth 100000
theorem filter_emb {α : Type} (p : α → Bool) : ∀ l : List α, ∃ f : Nat → Nat, (∀ i j, i < j → f i < f j) ∧ ∀ i, i < (l.filter p).length → f i < l.length ∧ (l.filter p)[i]? = l[f i]?
  | [] => ⟨id, fun i j h => h, fun i h => absurd h (Nat.not_lt_zero _)⟩
  | x :: l => by
    obtain ⟨f, h1, h2⟩ := filter_emb p l
    cases hp : p x with
    | false =>
      refine ⟨fun i => f i + 1, fun i j h => by have := h1 i j h; show f i + 1 < f j + 1; omega, fun i hi => ?_⟩
      rw [List.filter_cons_of_neg (by simp [hp])] at hi ⊢
      obtain ⟨h3, h4⟩ := h2 i hi
      exact ⟨by simpa using h3, by simpa using h4⟩
    | true =>
      refine ⟨fun i => match i with | 0 => 0 | i + 1 => f i + 1, fun i j h => ?_, fun i hi => ?_⟩
      · rcases i with _ | i <;> rcases j with _ | j
        · omega
        · show 0 < f j + 1; omega
        · omega
        · have := h1 i j (by omega); show f i + 1 < f j + 1; omega
      · rw [List.filter_cons_of_pos hp] at hi ⊢
        rcases i with _ | i
        · exact ⟨by simp, rfl⟩
        · obtain ⟨h3, h4⟩ := h2 i (by simpa using hi)
          exact ⟨by simpa using h3, by simpa using h4⟩
/-- A row of tables that are some of the given, copied or not. -/
theorem tabs_row {base : Nat} {w w0 : World} {ao so : Option Addr} {n cap m sc : Nat} {l : List Tab} {ts : List TabT} (f : Nat → Nat) (hl : l.length = n) (hown : w.ownsRow base 67 6 (.slice ao n cap) n (l.flatMap Tab.cells))
    (hok : ∀ i, i < n → f i < ts.length ∧ ∃ a c, l[i]? = some ((ts_ ts (f i)).cp a c) ∧ RowsIn w ((ts_ ts (f i)).cp a c) (tr_ ts (f i))) (hin : TabsIn w0 so m sc ts) (hnm : n ≤ m) :
    ∃ ts' : List TabT, ts'.length = n ∧ TabsIn w ao n cap ts' ∧ ∀ i, i < n → SameT (ts_ ts' i) (tr_ ts' i) (ts_ ts (f i)) (tr_ ts (f i)) := by
  obtain ⟨t', ht, hP⟩ := list_of (α := TabT) (Pr := fun i x => l[i]? = some x.1 ∧ RowsIn w x.1 x.2 ∧ SameT x.1 x.2 (ts_ ts (f i)) (tr_ ts (f i)) ∧ (0 ≤ x.1.id ∧ x.1.id < 4294967296) ∧ x.1.sig.size ≤ maxLen) n (fun i hi => by
    obtain ⟨hf, a, c, h1, h2⟩ := hok i hi
    have hb := hin.bnd _ (List.getElem_mem hf)
    rw [← ts_lt hf] at hb
    exact ⟨((ts_ ts (f i)).cp a c, tr_ ts (f i)), h1, h2, ⟨rfl, rfl, rfl, rfl⟩, hb.1, hb.2⟩)
  have hmap : t'.map (·.1) = l := by
    apply List.ext_getElem?
    intro i
    by_cases hi : i < t'.length
    · rw [List.getElem?_map, List.getElem?_eq_getElem hi, (hP i hi).1]; rfl
    · rw [List.getElem?_eq_none (by simp; omega), List.getElem?_eq_none (by omega)]
  refine ⟨t', ht, ⟨ht, ?_, fun p hp => ?_, fun p hp => ?_, (own_cap' hown).1, Nat.le_trans (Nat.mul_le_mul_right _ hnm) hin.bytes⟩, fun i hi => ?_⟩
  · rw [hmap]
    rcases Nat.eq_zero_or_pos n with h0 | h0
    · intro i hi; omega
    · obtain ⟨g, rfl, _⟩ := own_some hown h0
      exact own_rdS tabc_len hown hl
  · obtain ⟨i, hi, rfl⟩ := List.getElem_of_mem hp
    exact (hP i hi).2.1
  · obtain ⟨i, hi, rfl⟩ := List.getElem_of_mem hp
    exact (hP i hi).2.2.2
  · have hi' : i < t'.length := by omega
    rw [ts_lt hi', tr_lt hi']
    exact (hP i hi').2.2.1
/-- A copied table. -/
theorem copy_tab {base : Nat} {w w0 : World} {ts : List TabT} {ls : List Tab} {so : Option Addr} {m sc i : Nat} (h : CopyTOk base w ts ls i) (hi : i < ts.length) (hin : TabsIn w0 so m sc ts) : ∃ a c, ls[i]? = some ((ts_ ts i).cp a c) ∧ RowsIn w ((ts_ ts i).cp a c) (tr_ ts i) := by
  obtain ⟨p, a, c, h1, h2, h3⟩ := h
  have e : ts[i] = p := by rw [List.getElem?_eq_getElem hi] at h1; exact Option.some.inj h1
  rw [ts_lt hi, tr_lt hi, e]
  exact ⟨a, c, h2, rowsR_in h3 (hin.each p (by rw [← e]; exact List.getElem_mem hi))⟩
theorem msgs_take {w : World} {ao : Option Addr} {n c m : Nat} {ms : List MsgT} (h : MsgsIn w ao n c ms) (hm : m ≤ n) : MsgsIn w ao m c (ms.take m) := by
  have hl := h.len
  refine ⟨by simp; omega, ?_, fun p hp => h.each p (List.mem_of_mem_take hp), fun p hp => h.bnd p (List.mem_of_mem_take hp), by have := h.cap; omega, by have := h.bytes; omega⟩
  rw [List.map_take]
  exact h.rd.take m
theorem take_ms {ms : List MsgT} {m i : Nat} (hi : i < m) : ms_ (ms.take m) i = ms_ ms i ∧ mp_ (ms.take m) i = mp_ ms i := by
  unfold ms_ mp_
  simp [List.getD, List.getElem?_take, hi]
theorem erase_ix {α : Type} (l : List α) (j i : Nat) : (l.eraseIdx j)[i]? = l[if i < j then i else i + 1]? := by
  rw [List.getElem?_eraseIdx]
  split <;> rfl
theorem skip_mono (j : Nat) : ∀ a b, a < b → (if a < j then a else a + 1) < (if b < j then b else b + 1) := by
  intro a b h
  split <;> split <;> omega
/-- A copied database is one. -/
theorem copyd_in {base : Nat} {w w0 : World} {d : Db} {ss : List ByteArray} {ms : List MsgT} {ts : List TabT} {a1 : Option Addr} {c1 : Nat} {lm : List Msg} {a2 : Option Addr} {c2 : Nat} {lt : List Tab} {a3 : Option Addr} {c3 : Nat} (h : CopyDb base w d ss ms ts a1 c1 lm a2 c2 lt a3 c3) (hin : DbIn w0 d ss ms ts) (hb : Below w0.heap.size w0 w) :
    (ss.length = d.snN ∧ Rd w a3 .string ss ∧ d.snN ≤ c3) ∧ ∃ ms' : List MsgT, ms'.length = ms.length ∧ MsgsIn w a1 d.mgN c1 ms' ∧ ∀ i, i < ms.length → SameM (ms_ ms' i) (mp_ ms' i) (ms_ ms i) (mp_ ms i) := by
  have hs : w.ownsRow base 9 1 (.slice a3 d.snN c3) d.snN (ss.map Value.string) := h.sta
  have e2 := own_rd hs
  exact ⟨⟨hin.slen, e2.2, (own_cap' hs).1⟩, copym_in h.ml h.mown h.mok hin.msgs hb⟩
/-- What is left of a database that may be, may be. -/
theorem few_db {base base2 : Nat} {w w' : World} {d dx : Db} {ss : List ByteArray} {ms : List MsgT} {ts : List TabT} {a1 : Option Addr} {c1 : Nat} {lm : List Msg} {a2 : Option Addr} {c2 : Nat} {a3 : Option Addr} {c3 : Nat} {ao : Option Addr} {cap n m : Nat} {l : List Tab} (f : Nat → Nat)
    (hin : DbIn w d ss ms ts) (hgood : DbGood d ss ms ts) (hml : lm.length = ms.length) (hmown : w'.ownsRow base 27 8 (.slice a1 d.mgN c1) d.mgN (lm.flatMap Msg.cells)) (hmok : ∀ i, i < ms.length → CopyMOk base w' ms lm i) (hsta : CopyT base w' a3 d.snN c3 ss) (hb : Below w.heap.size w w')
    (hl : l.length = n) (hown : w'.ownsRow base2 67 6 (.slice ao n cap) n (l.flatMap Tab.cells)) (hok : ∀ i, i < n → f i < ts.length ∧ ∃ a c, l[i]? = some ((ts_ ts (f i)).cp a c) ∧ RowsIn w' ((ts_ ts (f i)).cp a c) (tr_ ts (f i))) (hn : n ≤ d.tbN) (hm : m ≤ d.mgN)
    (hmono : ∀ i j, i < j → f i < f j) (hlast : ∀ i, i < n → ∀ j, m ≤ j → j < ms.length → ¬ sameId (ms_ ms j) (ts_ ts (f i)).id (ts_ ts (f i)).wide)
    (hdx : dx = { d.cp a1 c1 a2 c2 a3 c3 with mgN := m, tb := ao, tbN := n, tbC := cap }) : ∃ ms' ts', DbIn w' dx ss ms' ts' ∧ dbE dx ss ms' ts' = okE := by
  have hid : ∀ i, i < ms.length → 0 ≤ (ms_ ms i).id ∧ (ms_ ms i).id < 4294967296 := fun i hi => by rw [ms_lt hi]; exact (hin.msgs.bnd _ (List.getElem_mem hi)).2
  obtain ⟨ms', hl1, hm1, hs1⟩ := copym_in hml hmown hmok hin.msgs hb
  obtain ⟨ts', hl2, ht2, hs2⟩ := tabs_row f hl hown hok hin.tabs hn
  have hs : w'.ownsRow base 9 1 (.slice a3 d.snN c3) d.snN (ss.map Value.string) := hsta
  have hml' := hin.msgs.len
  have hlm : (ms'.take m).length = m := by simp; omega
  subst hdx
  refine ⟨ms'.take m, ts', ⟨hin.slen, (own_rd hs).2, (own_cap' hs).1, hin.sbytes, msgs_take hm1 hm, ht2⟩, dbE_good ?_⟩
  refine good_fewer f hgood hid ⟨rfl, rfl⟩ (by omega) (fun i hi => ?_) hmono (fun i hi => ?_) (fun i hi j hj hjl => ?_)
  · rw [hlm] at hi
    rw [(take_ms hi).1, (take_ms hi).2]
    exact hs1 i (by omega)
  · rw [hl2] at hi
    exact ⟨(hok i hi).1, hs2 i hi⟩
  · rw [hl2] at hi
    rw [hlm] at hj
    rw [(hs2 i hi).id, (hs2 i hi).wide]
    exact hlast i hi j hj hjl
end Go.Proofs.YtjomihhpglojpaaDoor
end
section
/- A region that draws its order, walked along a tree: reads (taken first), sole operations, and two that may come up in either order. Plain lemmas over any program. -/
namespace Go.Proofs.YtjomihhpglojpaaDoor
open Go.RowKit
inductive Tr where
  | done
  | read (i : Nat) (k : Tr)
  | sole (t : Nat) (k : Tr)
  | two (t u : Nat) (kt ku : Tr)
section
variable {P : Program} {md : Region.Mode} {Q : Exit → Act → World → Prop} {S : World → Prop}
def treeL (md : Region.Mode) (ops : Array Oper) : Nat → Tr → Array Bool → Bool
  | 0, .done, listed => (Region.ready md ops listed).isEmpty
  | n + 1, .read i k, listed => (Region.ready md ops listed).contains i && Region.free md ops listed i && treeL md ops n k (listed.setIfInBounds i true)
  | n + 1, .sole t k, listed => decide (Region.ready md ops listed = [t]) && treeL md ops n k (listed.setIfInBounds t true)
  | n + 1, .two t u kt ku, listed => (decide (Region.ready md ops listed = [t, u]) || decide (Region.ready md ops listed = [u, t])) && treeL md ops n kt (listed.setIfInBounds t true) && treeL md ops n ku (listed.setIfInBounds u true)
  | _, _, _ => false
def treeB (md : Region.Mode) (ops : Array Oper) (t : Tr) : Bool := Region.noSelect ops && treeL md ops ops.size t (Array.replicate ops.size false)
def wpTree (P : Program) (ops : Array Oper) (Q : Exit → Act → World → Prop) (S : World → Prop) (l : List Oper) : Tr → Act → World → Prop
  | .done, a, w => Q .normal a w
  | .read i k, a, w => ∀ o, l[i]? = some o → ∃ v, YieldsIf P ops S o v a ∧ wpTree P ops Q S l k (a.put o.dst v) w
  | .sole t k, a, w => ∀ o, l[t]? = some o → wpList P ops (fun e a' w' => e = .normal ∧ S w' ∧ wpTree P ops Q S l k a' w') [o] a w
  | .two t u kt ku, a, w => (∀ o, l[t]? = some o → wpList P ops (fun e a' w' => e = .normal ∧ S w' ∧ wpTree P ops Q S l kt a' w') [o] a w) ∧ (∀ o, l[u]? = some o → wpList P ops (fun e a' w' => e = .normal ∧ S w' ∧ wpTree P ops Q S l ku a' w') [o] a w)
theorem op_list {l : List Oper} {i : Nat} {o : Oper} {R : Act → World → Prop} {a : Act} {w : World} (ho : l.toArray[i]? = some o) (h : wpList P l.toArray (fun e a' w' => e = .normal ∧ S w' ∧ R a' w') [o] a w) :
    wpOp P l.toArray (fun e a w => e = .normal ∧ Q .normal a w) i (fun a' w' => S w' ∧ R a' w') a w := by
  simp only [wpList] at h
  unfold wpOp
  simp only [ho]
  split
  · rename_i hw
    rw [if_pos hw] at h
    rcases h with h | ⟨_, x, y, h, _⟩
    · refine .inl (oper_wp_monoQ (Q' := fun e a' w' => e = .normal ∧ S w' ∧ R a' w') (fun e a' w' hn h' => absurd h'.1 hn) (Oper.wp_mono ?_ h))
      rintro a' w' ⟨_, h1, h2⟩
      exact ⟨h1, h2⟩
    · cases h
  · rename_i hw
    rw [if_neg hw] at h
    exact h.2
theorem wpAnyH_tree {l : List Oper} (Q : Exit → Act → World → Prop) (hs : Region.noSelect l.toArray = true) : ∀ (n : Nat) (t : Tr) (listed : Array Bool) (a : Act) (w : World), treeL md l.toArray n t listed = true → S w →
    wpTree P l.toArray Q S l t a w → wpAnyH P md l.toArray (fun e a w => e = .normal ∧ Q .normal a w) S n listed a w
  | 0, .done, listed, a, w, hB, hS, h => ⟨by simpa [treeL] using hB, rfl, by simpa [wpTree] using h⟩
  | n + 1, .read i k, listed, a, w, hB, hS, h => by
    simp only [treeL, Bool.and_eq_true] at hB
    obtain ⟨⟨hr, hf⟩, hB'⟩ := hB
    obtain ⟨o, ho⟩ := mem_ready_lt (by simpa using hr : i ∈ Region.ready md l.toArray listed)
    obtain ⟨v, hy, hk⟩ := h o (by simpa using ho)
    exact wpAnyH_take ho hs hf hr (fun c a w h => by cases h.1) hy hS (wpAnyH_tree Q hs n k _ _ w hB' hS hk)
  | n + 1, .sole t k, listed, a, w, hB, hS, h => by
    simp only [treeL, Bool.and_eq_true, decide_eq_true_eq] at hB
    refine ⟨fun h1 => (by rw [hB.1] at h1; cases h1), fun i hi => ?_⟩
    obtain ⟨o, ho⟩ := mem_ready_lt hi
    rw [hB.1] at hi
    obtain rfl : i = t := by simpa using hi
    refine wpOp_mono ?_ (op_list (R := fun a' w' => wpTree P l.toArray Q S l k a' w') ho (h o (by simpa using ho)))
    rintro a' w' ⟨h3, h4⟩
    exact ⟨h3, wpAnyH_tree Q hs n k _ a' w' hB.2 h3 h4⟩
  | n + 1, .two t u kt ku, listed, a, w, hB, hS, h => by
    simp only [treeL, Bool.and_eq_true, Bool.or_eq_true, decide_eq_true_eq] at hB
    obtain ⟨⟨hr, hB1⟩, hB2⟩ := hB
    have hmem : ∀ i, i ∈ Region.ready md l.toArray listed → i = t ∨ i = u := fun i hi => by
      rcases hr with e | e <;> rw [e] at hi <;> simp at hi <;> omega
    refine ⟨fun h1 => (by rcases hr with e | e <;> (rw [e] at h1; cases h1)), fun i hi => ?_⟩
    obtain ⟨o, ho⟩ := mem_ready_lt hi
    rcases hmem i hi with rfl | rfl
    · refine wpOp_mono ?_ (op_list (R := fun a' w' => wpTree P l.toArray Q S l kt a' w') ho (h.1 o (by simpa using ho)))
      rintro a' w' ⟨h3, h4⟩
      exact ⟨h3, wpAnyH_tree Q hs n kt _ a' w' hB1 h3 h4⟩
    · refine wpOp_mono ?_ (op_list (R := fun a' w' => wpTree P l.toArray Q S l ku a' w') ho (h.2 o (by simpa using ho)))
      rintro a' w' ⟨h3, h4⟩
      exact ⟨h3, wpAnyH_tree Q hs n ku _ a' w' hB2 h3 h4⟩
  | 0, .read _ _, _, _, _, hB, _, _ => by cases hB
  | 0, .sole _ _, _, _, _, hB, _, _ => by cases hB
  | 0, .two _ _ _ _, _, _, _, hB, _, _ => by cases hB
  | _ + 1, .done, _, _, _, hB, _, _ => by cases hB
theorem c_region_tree (S : World → Prop) (t : Tr) (id : Nat) {l' : List Oper} {a : Act} {w : World} (hm : P.follows .mixedOrders = true) (hB : treeB .any l'.toArray t = true) (hS : S (w.drewN 1))
    (h : wpTree P l'.toArray Q S l' t a (w.drewN 1)) : (Code.region id l'.toArray true).wp P Q a w := by
  simp only [treeB, Bool.and_eq_true] at hB
  have := wpAnyH_tree (md := .any) (S := S) Q hB.1 _ t _ a _ hB.2 hS h
  refine wp_region_any hm (wpAny_monoQ ?_ _ _ _ _ (wpAny_of_held _ _ _ _ this))
  rintro e a w ⟨rfl, h⟩
  exact h
variable {ops : Array Oper} {a : Act} {w : World} {N : Nat} {l : List (Nat × Value)} {L : List Oper} {i : Nat} {k : Tr}
theorem r_done (h : Q .normal a w) : wpTree P ops Q S L .done a w := h
theorem r_read (h : Fr N l a) {d : Nat} {op : Op} {ty : TypeId} {pos : String} {af : Array Edge} {v : Value} (ho : L[i]? = some ⟨some d, op, ty, pos, af, none⟩) (hr : ∀ w, S w → Does P l w op ty v w) (hd : Nat.blt d N = true := by exact rfl)
    (k' : ∀ a', Fr N ((d, v) :: l) a' → wpTree P ops Q S L k a' w) : wpTree P ops Q S L (.read i k) a w := by
  intro o ho'
  rw [ho] at ho'
  cases ho'
  exact ⟨v, .inl ⟨by simp [Region.wanted], fun w hw => hr w hw a.eval h.eval _ _ _ _⟩, k' _ (h.put hd v)⟩
theorem r_sole {o : Oper} (ho : L[i]? = some o) (h : wpList P ops (fun e a' w' => e = .normal ∧ S w' ∧ wpTree P ops Q S L k a' w') [o] a w) : wpTree P ops Q S L (.sole i k) a w := by
  intro o' ho'
  rw [ho] at ho'
  cases ho'
  exact h
theorem r_two {t u : Nat} {kt ku : Tr} {o o2 : Oper} (ho : L[t]? = some o) (ho2 : L[u]? = some o2) (h : wpList P ops (fun e a' w' => e = .normal ∧ S w' ∧ wpTree P ops Q S L kt a' w') [o] a w) (h2 : wpList P ops (fun e a' w' => e = .normal ∧ S w' ∧ wpTree P ops Q S L ku a' w') [o2] a w) : wpTree P ops Q S L (.two t u kt ku) a w := by
  refine ⟨fun o' ho' => ?_, fun o' ho' => ?_⟩
  · rw [ho] at ho'; cases ho'; exact h
  · rw [ho2] at ho'; cases ho'; exact h2
end
end Go.Proofs.YtjomihhpglojpaaDoor
end
