/- Laid together by a program of mine: DbE MapG RowsW KeyN. -/
import Derived.Test.YtjomihhpglojpaaDoorSumLawKnownCS12
import Derived.Test.YtjomihhpglojpaaDoorSumLawKnownCS9
import Derived.Test.YtjomihhpglojpaaDoorSumLawKnownCS7
import Derived.WideKeyEntry
import Derived.Test.YtjomihhpglojpaaDoorSumLawKnownCS11
import Derived.Test.YtjomihhpglojpaaDoorSumLawKnownCS6
import Derived.Test.YtjomihhpglojpaaDoorSumLawKnownCS3
import Derived.DeepKeys4
set_option linter.unusedSimpArgs false
set_option linter.unusedVariables false
section
/- What is wrong with a database: plain. -/
namespace Go.Proofs.YtjomihhpglojpaaDoor
open Go.RowKit
set_option linter.unusedSimpArgs false
set_option linter.unusedVariables false
attribute [local irreducible] wpList wpQuiet wpStill Code.wp Exit.then Exit.inBlock bodyPost Calls Does Does0
def nobody : ByteArray := ⟨#[86, 101, 99, 116, 111, 114, 95, 95, 88, 88, 88]⟩
abbrev Err := Int × Int × Int
def okE : Err := (0, 0, 0)
def thenE (r : Option Nat) (e : Nat → Err) (k : Err) : Err := match r with | some i => e i | none => k
def someE (r : Option Nat) (e : Nat → Int) : Int := match r with | some i => e i | none => 0
open Classical in
/-- What is wrong with name number i of the stations. -/
noncomputable def staE (ss : List ByteArray) (i : Nat) : Int :=
  if wordB (ss.getD i ⟨#[]⟩) = false ∨ ss.getD i ⟨#[]⟩ = nobody then 11 else if ∃ k, k < i ∧ ss.getD k ⟨#[]⟩ = ss.getD i ⟨#[]⟩ then 12 else 0
/-- Is a name that of a station, or nobody? -/
def knownB (ss : List ByteArray) (s : ByteArray) : Prop := s ∈ ss ∨ s = nobody
def ms_ (ms : List MsgT) (i : Nat) : Msg := (ms.getD i (⟨0, 0, 0, false, ⟨#[]⟩, 0, ⟨#[]⟩, none, 0, 0⟩, [])).1
def mp_ (ms : List MsgT) (i : Nat) : List SigT := (ms.getD i (⟨0, 0, 0, false, ⟨#[]⟩, 0, ⟨#[]⟩, none, 0, 0⟩, [])).2
theorem ms_lt {ms : List MsgT} {i : Nat} (h : i < ms.length) : ms_ ms i = ms[i].1 := by simp [ms_, List.getD, h]
theorem mp_lt {ms : List MsgT} {i : Nat} (h : i < ms.length) : mp_ ms i = ms[i].2 := by simp [mp_, List.getD, h]
def ts_ (ts : List TabT) (i : Nat) : Tab := (ts.getD i (⟨0, 0, 0, false, ⟨#[]⟩, none, 0, 0⟩, [])).1
def tr_ (ts : List TabT) (i : Nat) : List RowV := (ts.getD i (⟨0, 0, 0, false, ⟨#[]⟩, none, 0, 0⟩, [])).2
theorem ts_lt {ts : List TabT} {i : Nat} (h : i < ts.length) : ts_ ts i = ts[i].1 := by simp [ts_, List.getD, h]
theorem tr_lt {ts : List TabT} {i : Nat} (h : i < ts.length) : tr_ ts i = ts[i].2 := by simp [tr_, List.getD, h]
/-- A signal that names one who is not known. -/
def toB (ss : List ByteArray) (ps : List SigT) (k : Nat) : Prop := ∃ s, s ∈ tx ps k ∧ ¬ knownB ss s
def sameId (m : Msg) (id : Int) (wide : Bool) : Prop := m.id = id ∧ m.wide = wide
open Classical in
/-- What is wrong with message number i. -/
noncomputable def dmE (ss : List ByteArray) (ms : List MsgT) (i : Nat) : Err :=
  if (msgE (ms_ ms i) (mp_ ms i)).1 ≠ 0 then ((msgE (ms_ ms i) (mp_ ms i)).1, placeL (ms_ ms i) (mp_ ms i) (msgE (ms_ ms i) (mp_ ms i)).2, placeC (ms_ ms i) (mp_ ms i) (msgE (ms_ ms i) (mp_ ms i)).2)
  else if ∃ k, k < i ∧ ((ms_ ms k).name = (ms_ ms i).name ∨ sameId (ms_ ms k) (ms_ ms i).id (ms_ ms i).wide) then (12, (ms_ ms i).line, (ms_ ms i).col)
  else if ¬ knownB ss (ms_ ms i).sender then (13, (ms_ ms i).line, (ms_ ms i).col)
  else thenE (firstAt (toB ss (mp_ ms i)) (mp_ ms i).length) (fun k => (13, (sg (mp_ ms i) k).line, (sg (mp_ ms i) k).col)) okE
/-- Has a signal a value? -/
def hasB (s : Sig) (v : Int) : Bool := (s.sgn || decide (0 ≤ v)) && fitsB (if v < 0 then v + 18446744073709551616 else v) s.size s.sgn
def rv_ (rs : List RowV) (i : Nat) : RowV := rs.getD i ⟨0, ⟨#[]⟩⟩
open Classical in
noncomputable def rowE (s : Sig) (rs : List RowV) (i : Nat) : Int :=
  if textE (rv_ rs i).text ≠ 0 then textE (rv_ rs i).text else if hasB s (rv_ rs i).value = false then 19
  else if ∃ k, k < i ∧ (rv_ rs k).value = (rv_ rs i).value then 12 else 0
noncomputable def rowsE (s : Sig) (rs : List RowV) : Int :=
  if 256 < rs.length then 5 else someE (firstAt (fun i => rowE s rs i ≠ 0) rs.length) (rowE s rs)
/-- The signal of that name in a message of that number. -/
def ofB (ms : List MsgT) (id : Int) (wide : Bool) (name : ByteArray) (s : Sig) : Prop := ∃ i k, i < ms.length ∧ k < (mp_ ms i).length ∧ sameId (ms_ ms i) id wide ∧ (sg (mp_ ms i) k).name = name ∧ s = sg (mp_ ms i) k
open Classical in
/-- What is wrong with table number i. -/
noncomputable def dtE (ms : List MsgT) (ts : List TabT) (i : Nat) : Int :=
  if h : ∃ s, ofB ms (ts_ ts i).id (ts_ ts i).wide (ts_ ts i).sig s then
    if ∃ k, k < i ∧ (ts_ ts k).id = (ts_ ts i).id ∧ (ts_ ts k).wide = (ts_ ts i).wide ∧ (ts_ ts k).sig = (ts_ ts i).sig then 12
    else rowsE (Classical.choose h) (tr_ ts i)
  else 13
/-- What is wrong with a database, and where. -/
noncomputable def dbE (d : Db) (ss : List ByteArray) (ms : List MsgT) (ts : List TabT) : Err :=
  if d.hasV = true ∧ textE d.vtext ≠ 0 then (textE d.vtext, d.vline, d.vcol)
  else if 64 < ss.length then (5, d.sline, d.scol)
  else thenE (firstAt (fun i => staE ss i ≠ 0) ss.length) (fun i => (staE ss i, d.sline, d.scol))
    (if 512 < ms.length then (5, (ms_ ms 512).line, (ms_ ms 512).col)
     else thenE (firstAt (fun i => (dmE ss ms i).1 ≠ 0) ms.length) (dmE ss ms)
      (thenE (firstAt (fun i => dtE ms ts i ≠ 0) ts.length) (fun i => (dtE ms ts i, (ts_ ts i).line, (ts_ ts i).col)) okE))
end Go.Proofs.YtjomihhpglojpaaDoor
end
section
/- Maps of the call's own with any elements. Plain lemmas over any program. -/
namespace Go.Proofs.YtjomihhpglojpaaDoor
open Go.RowKit
open Go.Maps (Keyed IsMap)
open Go.WideMaps (KeyLaw)
open Go.MapKept Go.ChangeMaps
section
variable {P : Program} {w w' : World} {l : List (Nat × Value)}
def heldE (v : Value) : Option (DataW Value × List MemPlace) := some (.held v, [])
/-- What the map holds, the latest first. -/
def kvM : List (Lit × Value) → DataW Value
  | [] => .map []
  | p :: r => (kvM r).put p.1 (.held p.2)
open Classical in
noncomputable def kvG (k : Lit) : List (Lit × Value) → Option Value
  | [] => none
  | p :: r => if k = p.1 then some p.2 else kvG k r
theorem kvM_map : ∀ ks, IsMap (kvM ks)
  | [] => ⟨_, rfl⟩
  | p :: r => by
    obtain ⟨es, h⟩ := kvM_map r
    unfold kvM
    rw [h]
    exact ⟨_, rfl⟩
theorem kvM_at (k : Lit) (z : DataW Value) : ∀ ks, (∀ p ∈ ks, WideAt.IsKeyLit p.1) → (kvM ks).atKey k z = match kvG k ks with | some v => .held v | none => z
  | [], _ => rfl
  | p :: r, h => by
    unfold kvM kvG
    by_cases e : k = p.1
    · rw [if_pos e, e, Maps.atKey_put_same (kvM_map r) (h p List.mem_cons_self)]
    · rw [if_neg e, Maps.atKey_put_other e, kvM_at k z r (fun q hq => h q (List.mem_cons_of_mem _ hq))]
/-- Block b is a map of the call's own: it holds ks. -/
def MapG (P : Program) (k : TypeId) (w : World) (b : Nat) (ks : List (Lit × Value)) : Prop := w.ownsMap P k heldE b ks.length (kvM ks) ∧ ∀ p ∈ ks, WideAt.IsKeyLit p.1
theorem MapG.new {k : TypeId} (w : World) : MapG P k (w.alloc (.map #[] 0)) w.heap.size [] := ⟨World.ownsMap_made w P k _, by simp⟩
theorem MapG.kept {k : TypeId} {b : Nat} {ks : List (Lit × Value)} {row : Option Nat} (h : MapG P k w b ks) (hg : w.grownBy w' row) (hne : some b ≠ row) : MapG P k w' b ks := ⟨World.ownsMap.kept h.1 hg hne, h.2⟩
theorem MapG.lt {k : TypeId} {b : Nat} {ks : List (Lit × Value)} (h : MapG P k w b ks) : b < w.heap.size := World.ownsMap.lt h.1
theorem MapG.below {k : TypeId} {b : Nat} {ks : List (Lit × Value)} (h : MapG P k w b ks) (hb : Below w.heap.size w w') : MapG P k w' b ks := by
  have hlt := h.lt
  obtain ⟨⟨es, clock, h1, h2⟩, h3⟩ := h
  exact ⟨⟨es, clock, (hb.block b hlt).trans h1, h2⟩, h3⟩
theorem MapG.look {t k e : TypeId} {b : Nat} {ks : List (Lit × Value)} (h : MapG P k w b ks) (K : Keyed P k) (ht : P.underlying t = some (.map k e)) {z : Value} (hz : (zeroValue e).run P w = .ok z w) {key : Value} {kl : Lit} (hkey : keyOf P k key = some kl) :
    (Instr.lookup t (.map (some b)) key false).run P w = .ok ((kvG kl ks).getD z) w := by
  obtain ⟨v, ps, hr, hv⟩ := World.ownsMap.lookup h.1 K ht hz (zd := .held z) (zp := []) rfl hkey
  rw [kvM_at _ _ _ h.2] at hv
  rw [hr]
  cases hk : kvG kl ks with
  | none => rw [hk] at hv; simp [heldE] at hv; rw [hv.1]; rfl
  | some u => rw [hk] at hv; simp [heldE] at hv; rw [hv.1]; rfl
theorem has_kv (k : Lit) (ks : List (Lit × Value)) (h : ∀ p ∈ ks, WideAt.IsKeyLit p.1) : Maps.has (kvM ks) k = (kvG k ks).isSome := by
  have h1 := kvM_at k (.held (.bool true)) ks h
  have h2 := kvM_at k (.held (.bool false)) ks h
  cases hk : kvG k ks with
  | none =>
    rw [hk] at h1 h2
    refine Maps.has_false_of_atKey (fun z => ?_)
    rw [kvM_at k z ks h, hk]
  | some u =>
    rw [hk] at h1 h2
    refine Maps.has_true_of_atKey (y := .held u) (fun z => ?_)
    rw [kvM_at k z ks h, hk]
theorem MapG.look_ok {t k e : TypeId} {b : Nat} {ks : List (Lit × Value)} (h : MapG P k w b ks) (K : Keyed P k) (ht : P.underlying t = some (.map k e)) {z : Value} (hz : (zeroValue e).run P w = .ok z w) {key : Value} {kl : Lit} (hkey : keyOf P k key = some kl) :
    (Instr.lookup t (.map (some b)) key true).run P w = .ok (.tuple #[(kvG kl ks).getD z, .bool (kvG kl ks).isSome]) w := by
  obtain ⟨v, ps, hr, hv⟩ := World.ownsMap.look_ok h.1 K ht hz (zd := .held z) (zp := []) rfl hkey
  rw [kvM_at _ _ _ h.2] at hv
  rw [hr, has_kv _ _ h.2]
  cases hk : kvG kl ks with
  | none => rw [hk] at hv; simp [heldE] at hv; rw [hv.1]; rfl
  | some u => rw [hk] at hv; simp [heldE] at hv; rw [hv.1]; rfl
theorem MapG.put {t k e : TypeId} {b : Nat} {ks : List (Lit × Value)} (h : MapG P k w b ks) (K : Keyed P k) (ht : P.underlying t = some (.map k e)) {key : Value} {kl : Lit} (hkey : keyOf P k key = some kl) (v : Value) (hn : ks.length < maxLen) :
    ∃ w', (Instr.mapUpdate t (.map (some b)) key v).run P w = .ok () w' ∧ MapG P k w' b ((kl, v) :: ks) ∧ w.grownBy w' (some b) ∧ w'.heap.size = w.heap.size := by
  obtain ⟨w', hr, ho, ht2⟩ := World.ownsMap.store (P := P) (w := w) (b := b) (k := k) (R := heldE) h.1 K ht hn hkey rfl
  refine ⟨w', hr, ⟨ho, fun p hp => ?_⟩, ht2.grown, ?_⟩
  · rcases List.mem_cons.1 hp with rfl | hp
    · exact K.key hkey
    · exact h.2 p hp
  · obtain ⟨_, _, _, _, _, rfl⟩ := ht2
    simp [Go.ChangeMaps.setBlock]
/-- 'm[k] = v' in two steps: the entry, the store. -/
theorem MapG.put2 {t k e : TypeId} {b : Nat} {ks : List (Lit × Value)} (h : MapG P k w b ks) (KL : KeyLaw P k) (ht : P.underlying t = some (.map k e)) {z : Value} (hz : ∀ u : World, (zeroValue e).run P u = .ok z u) {key : Value} {kl : Lit} (hkey : keyOf P k key = some kl) (v : Value) (hn : ks.length < maxLen) :
    ∃ (v0 : Value) (st : Nat) (w1 : World), (Instr.mapEntry t (.map (some b)) key).run P w = .ok (.tuple #[v0, goInt st]) w1 ∧ w.grownBy w1 (some b) ∧ w1.heap.size = w.heap.size ∧
      ∀ w2 : World, w2.heap[b]? = w1.heap[b]? → ∃ w3, (Instr.entryStore t (.map (some b)) (goInt st) v).run P w2 = .ok () w3 ∧ MapG P k w3 b ((kl, v) :: ks) ∧ w2.grownBy w3 (some b) ∧ w3.heap.size = w2.heap.size := by
  have K := Keyed.of_law KL
  obtain ⟨⟨es, clock, hb, F, hs, hD⟩, h3⟩ := h
  obtain ⟨v0, st, es1, clock1, hr1, _, hr2⟩ := WideElems.entry_then_store KL ht hz hb F hkey
  obtain ⟨w', hu, ho, _⟩ := MapG.put (h := ⟨⟨es, clock, hb, F, hs, hD⟩, h3⟩) K ht hkey v hn
  have gr : ∀ (u : World) (o : Obj) (es0 : Array MapEntry) (c0 : Nat), u.heap[b]? = some (.map es0 c0) → u.grownBy (Go.ChangeMaps.setBlock u b o) (some b) ∧ (Go.ChangeMaps.setBlock u b o).heap.size = u.heap.size := fun u o es0 c0 hu =>
    ⟨⟨rfl, rfl, rfl, by simp [Go.ChangeMaps.setBlock], fun i _ hi => heap_setBlock_other hu _ (fun e => hi (by rw [e]))⟩, by simp [Go.ChangeMaps.setBlock]⟩
  refine ⟨v0, st, _, hr1, (gr _ _ _ _ hb).1, (gr _ _ _ _ hb).2, fun w2 hw2 => ?_⟩
  have hw2' : w2.heap[b]? = some (.map es1 clock1) := hw2.trans (heap_setBlock_same hb _)
  obtain ⟨es', clock', hr3, hr4⟩ := hr2 w2 v hw2'
  rw [hu] at hr4
  obtain ⟨⟨es'', clock'', hb'', F'', hs'', hD''⟩, h3''⟩ := ho
  have hw' : w' = Go.ChangeMaps.setBlock w b (.map es' clock') := by injection hr4
  rw [hw', heap_setBlock_same hb _] at hb''
  injection hb'' with hb''
  injection hb'' with e1 e2
  subst e1; subst e2
  exact ⟨_, hr3, ⟨⟨_, _, heap_setBlock_same hw2' _, F'', hs'', hD''⟩, h3''⟩, (gr _ _ _ _ hw2').1, (gr _ _ _ _ hw2').2⟩
theorem d_insert {t ty : TypeId} {m x y : Operand} {mv key v : Value} (hr : (Instr.mapUpdate t mv key v).run P w = .ok () w') (hm : Ev l m mv := by exact rfl) (hx : Ev l x key := by exact rfl) (hy : Ev l y v := by exact rfl) : Does0 P l w (.insert t m x y) ty w' := by
  intro ρ hρ d pos af g
  simp [execOp, hρ _ _ hm, hρ _ _ hx, hρ _ _ hy, hr]
theorem d_mapEntry {t ty : TypeId} {m x : Operand} {mv key v : Value} (hr : (Instr.mapEntry t mv key).run P w = .ok v w') (hm : Ev l m mv := by exact rfl) (hx : Ev l x key := by exact rfl) : Does P l w (.mapEntry t m x) ty v w' := by
  intro ρ hρ d pos af g
  simp [execOp, hρ _ _ hm, hρ _ _ hx, hr]
theorem d_entryStore {t ty : TypeId} {m x y : Operand} {mv s v : Value} (hr : (Instr.entryStore t mv s v).run P w = .ok () w') (hm : Ev l m mv := by exact rfl) (hx : Ev l x s := by exact rfl) (hy : Ev l y v := by exact rfl) : Does0 P l w (.entryStore t m x y) ty w' := by
  intro ρ hρ d pos af g
  simp [execOp, hρ _ _ hm, hρ _ _ hx, hρ _ _ hy, hr]
end
end Go.Proofs.YtjomihhpglojpaaDoor
end
section
/- check.rows, walked. -/
namespace Go.Proofs.YtjomihhpglojpaaDoor
open Go.Maps (Keyed)
open Go.RowKit
set_option linter.unusedSimpArgs false
set_option linter.unusedVariables false
attribute [local irreducible] wpList wpQuiet wpStill Code.wp Exit.then Exit.inBlock bodyPost Calls Does Does0
set_option maxRecDepth 100000
/-- A map that says of these keys: there. -/
def keysF (f : Nat → Lit) : Nat → List (Lit × Value)
  | 0 => []
  | k + 1 => (f k, .bool true) :: keysF f k
theorem keysF_len (f : Nat → Lit) : ∀ k, (keysF f k).length = k
  | 0 => rfl
  | k + 1 => by simp [keysF, keysF_len f k]
theorem keysF_yes {f : Nat → Lit} {kl : Lit} : ∀ {k : Nat}, (∃ j, j < k ∧ f j = kl) → (kvG kl (keysF f k)).getD (.bool false) = .bool true
  | 0, ⟨j, hj, _⟩ => absurd hj (Nat.not_lt_zero _)
  | k + 1, ⟨j, hj, e⟩ => by
    unfold keysF kvG
    by_cases h : kl = f k
    · rw [if_pos h]; rfl
    · rw [if_neg h]
      refine keysF_yes ⟨j, ?_, e⟩
      by_cases e2 : j = k
      · subst e2; exact absurd e.symm h
      · omega
theorem keysF_no {f : Nat → Lit} {kl : Lit} : ∀ {k : Nat}, (¬ ∃ j, j < k ∧ f j = kl) → (kvG kl (keysF f k)).getD (.bool false) = .bool false
  | 0, _ => rfl
  | k + 1, h => by
    unfold keysF kvG
    rw [if_neg (fun e => h ⟨k, by omega, e.symm⟩)]
    exact keysF_no fun ⟨j, hj, e⟩ => h ⟨j, by omega, e⟩
theorem rv_lt {rs : List RowV} {i : Nat} (h : i < rs.length) : rv_ rs i = rs[i] := by simp [rv_, List.getD, h]
theorem wf_mk_i64 {x : Int} (h : -9223372036854775808 ≤ x ∧ x ≤ 9223372036854775807) : (Lit.int .i64 x).wf = true := by
  have e1 : IntKind.i64.min = -9223372036854775808 := by decide
  have e2 : IntKind.i64.max = 9223372036854775807 := by decide
  simp only [Lit.wf, e1, e2, decide_eq_true_eq, Bool.and_eq_true]
  omega
theorem wrap_u64 {v : Int} (h : -9223372036854775808 ≤ v ∧ v ≤ 9223372036854775807) : IntKind.u64.wrap v = if v < 0 then v + 18446744073709551616 else v := by
  simp only [IntKind.wrap, IntKind.signed, IntKind.bits]
  simp
  split <;> omega
def RwAt (B : Nat) (r : RowV) (w : World) : Prop := w.heap[B]? = some (.cells (RowV.cells r).toArray 116 (0, 0))
theorem RwAt.below {B : Nat} {r : RowV} {w w' : World} (h : RwAt B r w) (hb : Below w.heap.size w w') : RwAt B r w' := (hb.block _ (lt_at h)).trans h
theorem RwAt.c {B : Nat} {r : RowV} {w : World} (h : RwAt B r w) (o : Nat) (x : Value) (hx : (RowV.cells r)[o]? = some x) : w.cell? ⟨B, 0 + o, none⟩ = some x := cell_at h (by simpa using hx)
theorem SgAt.c' {B : Nat} {s : Sig} {w : World} (h : SgAt B s w) (o : Nat) (x : Value) (hx : (Sig.cells s)[o]? = some x) : w.cell? ⟨B, 0 + o, none⟩ = some x := cell_at h (by simpa using hx)
set_option maxHeartbeats 16000000 in
theorem rows_ok (w : World) (s : Sig) (ao : Option Addr) (n c : Nat) (rs : List RowV) (hn : rs.length = n) (hR : RdS w ao 2 RowV.cells rs) (hv : ∀ r ∈ rs, -9223372036854775808 ≤ r.value ∧ r.value ≤ 9223372036854775807) (hT : Tabs w) :
    Ret Tryd.prog 52 [.agg (Sig.cells s).toArray, .slice ao n c].toArray w (fun v w' => v = .int .i64 (rowsE s rs) ∧ Below w.heap.size w w') := by
  subst hn
  refine enter2 Tryd.func52 rfl 52 rfl 54 rfl (fun a hF => ?_)
  repeat (first | refine c_seq ?_ | refine c_region _ ?_)
  refine st_box hF (cs := (Sig.cells s).toArray) rfl (k := fun a w1 hg1 hgr1 hsz1 hF => ?_)
  have hb1 : Below w.heap.size w w1 := (Below.refl _ w).grown hgr1 (Nat.le_refl _) (fun k hk => by cases hk)
  have hs1 : SgAt w.heap.size s w1 := hg1
  clear hg1 hgr1
  by_cases hbig : (rs.length : Int) > 256
  · repeat (first | refine c_seq ?_ | refine c_region _ ?_ | refine wpList_nil ?_ | refine c_then ?_ | refine c_then_ret ?_ | refine wp_ret ?_ | ((apply st hF); (first | exact d_move | exact d_assign | exact d_cmpT | exact d_len (und _ _ rfl)); clear hF; clear a; intro a hF) | (apply c_cond_t hF; exact rfl; first | exact rfl | assumption))
    refine ret1 hF rfl rfl ⟨?_, hb1⟩
    unfold rowsE
    rw [if_pos (by omega)]
  have hE : rowsE s rs = someE (firstAt (fun i => rowE s rs i ≠ 0) rs.length) (rowE s rs) := by
    unfold rowsE
    rw [if_neg (by omega)]
  repeat (first | refine c_seq ?_ | refine c_region _ ?_ | refine wpList_nil ?_ | refine c_then ?_ | refine wp_skip ?_ | ((apply st hF); (first | exact d_move | exact d_assign | exact d_cmpF | exact d_len (und _ _ rfl)); clear hF; clear a; intro a hF) | (apply c_cond_f hF; exact rfl; first | exact rfl | assumption))
  refine st hF (d_makeMap Tryd.underlying136) rfl (fun a hF => ?_)
  have hM2 : MapG Tryd.prog 2 (w1.alloc (.map #[] 0)) w1.heap.size [] := MapG.new w1
  have hgr2 : w1.grownBy (w1.alloc (.map #[] 0)) none := World.grownBy_alloc w1 _ none
  generalize w1.alloc (.map #[] 0) = w2 at *
  have hb2 : Below w.heap.size w w2 := hb1.grown hgr2 hb1.size (fun k hk => by cases hk)
  have hs2 : SgAt w.heap.size s w2 := blk_kept hs1 hgr2 (by simp)
  have hz1 := hb1.size
  have hl1 := lt_at hs1
  clear hgr2 hs1
  have K : Keyed Tryd.prog 2 := Go.Maps.int_keyed Tryd.underlying2
  repeat (first | refine c_seq ?_ | refine c_block ?_ | refine c_region _ ?_ | refine wpList_nil ?_ | refine c_then ?_ | ((apply st hF); (first | exact d_move | exact d_assign | exact d_len (und _ _ rfl)); clear hF; clear a; intro a hF))
  refine c_loop (fun q a wr => ∃ k : Nat, k ≤ rs.length ∧ q = rs.length - k ∧ (∀ j, j < k → rowE s rs j = 0) ∧ Fr 54 [(2, .pointer (some ⟨w.heap.size, 0, none⟩)), (5, .map (some w1.heap.size)), (13, .slice ao rs.length c), (14, .int .i64 rs.length), (15, .int .i64 (k : Nat))] a ∧
    SgAt w.heap.size s wr ∧ MapG Tryd.prog 2 wr w1.heap.size (keysF (fun j => .int .i64 (rv_ rs j).value) k) ∧ Below w.heap.size w wr) rs.length
    ⟨0, Nat.zero_le _, rfl, fun j hj => absurd hj (Nat.not_lt_zero _), hF.keep' ⟨rfl, rfl, rfl, rfl, rfl, trivial⟩, hs2, hM2, hb2⟩ ?_
  clear hF a hs2 hM2 hb2 hb1
  rintro q a wr ⟨k, hk, rfl, hok, hF, hs, hM, hbel⟩
  have hz := hbel.size
  by_cases hlt : k < rs.length
  case neg =>
    obtain rfl : k = rs.length := by omega
    repeat (first | refine c_seq ?_ | refine c_region _ ?_ | refine wpList_nil ?_ | refine c_then ?_ | refine c_then_exit ?_ | refine c_in_hit ?_ | refine wp_exit ?_ | refine wp_ret ?_ | ((apply st hF); (first | exact d_assign | exact d_cmpF); clear hF; clear a; intro a hF) | (apply c_cond_f hF; exact rfl; first | exact rfl | assumption))
    refine ret1 hF rfl rfl ⟨?_, hbel⟩
    rw [hE, firstAt_none (fun i hi e => e (hok i hi))]
    rfl
  have hbad : ∀ e, rowE s rs k = e → e ≠ 0 → rowsE s rs = e := fun e he h => by
    rw [hE, firstAt_some hlt (by rw [he]; exact h) (fun j hj e => e (hok j hj))]
    exact he
  obtain ⟨b, o, hao, hc⟩ := hR.below hbel k hlt
  have hvk := hv _ (List.getElem_mem hlt)
  have hrv := rv_lt hlt
  rw [← hrv] at hc hvk
  have hEq : rowE s rs k = rowE s rs k := rfl
  conv at hEq => rhs; unfold rowE
  obtain ⟨r, hr⟩ : ∃ x, x = rv_ rs k := ⟨_, rfl⟩
  rw [← hr] at hc hvk hEq
  rw [hao] at hF
  have hlm := hM.lt
  repeat (first | refine c_seq ?_ | refine c_block ?_ | refine c_region _ ?_ | refine wpList_nil ?_ | refine c_then ?_ | refine wp_skip ?_ | ((apply st hF); (first | exact d_cmpT | exact d_indexAddrS (und _ _ rfl) (isz _ _ rfl) (j := k) | exact d_loadAgg (agg _ rfl) (isz _ _ rfl) rfl (arr_cells hc)); clear hF; clear a; intro a hF) | (apply c_cond_t hF; exact rfl; first | exact rfl | assumption))
  refine st_alloc hF inf116 (k := fun a r1 hg1 hgr1 hsz1 hF => ?_)
  refine st_storeAgg hF (cs := (RowV.cells r).toArray) (isz _ _ rfl) rfl rfl hg1 (row_cells _) (k := fun a r2 hx2 hgr2 hsz2 hF => ?_)
  have hb2 : Below wr.heap.size wr r2 := ((Below.refl _ wr).grown hgr1 (Nat.le_refl _) (fun k hk => by cases hk)).grown hgr2 (by omega) (fun k hk => by cases hk; exact Nat.le_refl _)
  have hx2 : RwAt wr.heap.size r r2 := hx2
  clear hg1 hgr1 hgr2
  have hB2 : Below w.heap.size w r2 := hbel.trans (hb2.mono hz)
  repeat (first | refine c_seq ?_ | refine c_region _ ?_ | refine wpList_nil ?_ | refine c_then ?_ | ((apply st hF); (first | exact d_fieldAddr (fld _ _ _ _ rfl) (isz _ _ rfl) | exact d_load (und _ _ rfl) (hx2.c 1 _ rfl)); clear hF; clear a; intro a hF))
  refine stc hF (text_ok r2 r.text (hT.below hB2)) cal48 ⟨rfl, trivial⟩ (k := fun a v r3 hR3 hF => ?_)
  obtain ⟨⟨te', hte, rfl⟩, hb3⟩ := hR3
  rw [text_is hte] at hF
  have hx3 := hx2.below hb3
  replace hb3 : Below wr.heap.size wr r3 := hb2.trans (hb3.mono hb2.size)
  have hB3 : Below w.heap.size w r3 := hbel.trans (hb3.mono hz)
  have hs3 := hs.below hb3
  have hM3 := hM.below hb3
  clear hx2 hb2 hB2 hte te'
  obtain ⟨te, hte⟩ : ∃ x, x = textE r.text := ⟨_, rfl⟩
  rw [← hte] at hF hEq
  by_cases ht0 : te = 0
  case neg =>
    rw [if_pos ht0] at hEq
    repeat (first | refine c_seq ?_ | refine c_region _ ?_ | refine wpList_nil ?_ | refine c_then ?_ | refine c_then_ret ?_ | refine c_in_ret ?_ | refine wp_ret ?_ | ((apply st hF); (first | exact d_move | exact d_assign | exact d_cmpT); clear hF; clear a; intro a hF) | (apply c_cond_t hF; exact rfl; first | exact rfl | assumption))
    exact ret1 hF rfl rfl ⟨by rw [hbad te hEq ht0], hB3⟩
  rw [if_neg (fun h => h ht0)] at hEq
  have hwrap := wrap_u64 hvk
  obtain ⟨uv, huv⟩ : ∃ x, x = if r.value < 0 then r.value + 18446744073709551616 else r.value := ⟨_, rfl⟩
  rw [← huv] at hwrap
  have hub : 0 ≤ uv ∧ uv < 18446744073709551616 := by rw [huv]; split <;> omega
  have hH : hasB s r.value = ((s.sgn || decide (0 ≤ r.value)) && fitsB uv s.size s.sgn) := by unfold hasB; rw [← huv]
  have hl := hM3.look K Tryd.underlying136 (z := .bool false) (Tryd.zeroValue4 r3) (key := .int .i64 r.value) (kl := .int .i64 r.value) (Go.Maps.keyOf_int_mk Tryd.underlying2 (wf_mk_i64 hvk))
  obtain ⟨r4, hr4, hM4, hgr4, hsz4⟩ := hM3.put K Tryd.underlying136 (key := .int .i64 r.value) (kl := .int .i64 r.value) (Go.Maps.keyOf_int_mk Tryd.underlying2 (wf_mk_i64 hvk)) (.bool true) (by rw [keysF_len]; unfold maxLen; omega)
  have hls := lt_at hs3
  have hs4 : SgAt w.heap.size s r4 := blk_kept hs3 hgr4 (by simp; omega)
  have hB4 : Below w.heap.size w r4 := hB3.grown hgr4 hB3.size (fun k hk => by cases hk; omega)
  have hM4' : MapG Tryd.prog 2 r4 w1.heap.size (keysF (fun j => .int .i64 (rv_ rs j).value) (k + 1)) := by
    unfold keysF
    rw [← hr]
    exact hM4
  have hcast : ∀ (l : List (Nat × Value)) (x : Operand) (ty : TypeId) (wq : World), Ev l x (.int .i64 r.value) → Does Tryd.prog l wq (.convert 2 33 x) ty (.int .u64 uv) wq := fun l x ty wq hx => d_convI (und _ _ rfl) (und _ _ rfl) (hx := hx) (hm := hwrap)
  have hs8 := hs3.c' 8 _ rfl
  have fin : hasB s r.value = true → (∃ j, j < k ∧ (rv_ rs j).value = r.value) ∨ ¬ (∃ j, j < k ∧ (rv_ rs j).value = r.value) := fun _ => Classical.em _
  clear hM4 hgr4
  by_cases hneg : r.value < 0
  · cases hsg : s.sgn with
    | false =>
      rw [hsg] at hs8
      have h1 : hasB s r.value = false := by rw [hH, hsg, decide_eq_false (by omega)]; rfl
      rw [if_pos h1] at hEq
      repeat (first | refine c_seq ?_ | refine c_block ?_ | refine c_region _ ?_ | refine wpList_nil ?_ | refine c_then ?_ | refine c_then_ret ?_ | refine c_in_ret ?_ | refine wp_skip ?_ | refine wp_ret ?_ | ((first | apply st hF | apply stg hF); (first | exact d_move | exact d_assign | exact d_not | exact d_pickT | exact d_cmpT | exact d_cmpF | exact d_fieldAddr (fld _ _ _ _ rfl) (isz _ _ rfl) | exact d_load (und _ _ rfl) hs8 | exact d_load (und _ _ rfl) (hx3.c 0 _ rfl)); clear hF; clear a; intro a hF) | ((apply stm hF); clear hF; clear a; intro a hF) | (apply c_cond_t hF; exact rfl; first | exact rfl | assumption) | (apply c_cond_f hF; exact rfl; first | exact rfl | assumption))
      exact ret1 hF rfl rfl ⟨by rw [hbad 19 hEq (by decide)], hB3⟩
    | true =>
      rw [hsg] at hs8
      rw [hsg, Bool.true_or, Bool.true_and] at hH
      repeat (first | refine c_seq ?_ | refine c_block ?_ | refine c_region _ ?_ | refine wpList_nil ?_ | refine c_then ?_ | refine wp_skip ?_ | ((first | apply st hF | apply stg hF); (first | exact d_move | exact d_assign | exact d_not | exact d_pickT | exact d_cmpT | exact d_cmpF | exact d_fieldAddr (fld _ _ _ _ rfl) (isz _ _ rfl) | exact hcast _ _ _ _ rfl | exact d_load (und _ _ rfl) hs8 | exact d_load (und _ _ rfl) (hs3.c' 6 _ rfl) | exact d_load (und _ _ rfl) (hx3.c 0 _ rfl)); clear hF; clear a; intro a hF) | (apply c_cond_f hF; exact rfl; first | exact rfl | assumption))
      refine stcg hF (fits_ok r3 uv s.size true hub) cal34 ⟨rfl, rfl, rfl, trivial⟩ (k := fun a v r5 hR5 hF => ?_)
      obtain ⟨rfl, rfl⟩ := hR5
      cases hft : fitsB uv s.size true with
      | false =>
        rw [hft] at hF hH
        rw [if_pos hH] at hEq
        repeat (first | refine c_seq ?_ | refine c_region _ ?_ | refine wpList_nil ?_ | refine c_then ?_ | refine c_then_ret ?_ | refine c_in_ret ?_ | refine wp_ret ?_ | ((first | apply st hF | apply stg hF); (first | exact d_assign | exact d_not | exact d_pickF); clear hF; clear a; intro a hF) | (apply c_cond_t hF; exact rfl; first | exact rfl | assumption))
        exact ret1 hF rfl rfl ⟨by rw [hbad 19 hEq (by decide)], hB3⟩
      | true =>
        rw [hft] at hF hH
        rw [if_neg (by rw [hH]; decide)] at hEq
        rcases fin hH with hd | hd
        · rw [if_pos hd] at hEq
          rw [keysF_yes (by obtain ⟨j, hj, e⟩ := hd; exact ⟨j, hj, by rw [e]⟩)] at hl
          repeat (first | refine c_seq ?_ | refine c_region _ ?_ | refine wpList_nil ?_ | refine c_then ?_ | refine c_then_ret ?_ | refine c_in_ret ?_ | refine wp_ret ?_ | ((first | apply st hF | apply stg hF); (first | exact d_move | exact d_assign | exact d_not | exact d_pickF | exact d_fieldAddr (fld _ _ _ _ rfl) (isz _ _ rfl) | exact d_lookup hl | exact d_load (und _ _ rfl) (hx3.c 0 _ rfl)); clear hF; clear a; intro a hF) | (apply c_cond_t hF; exact rfl; first | exact rfl | assumption) | (apply c_cond_f hF; exact rfl; first | exact rfl | assumption))
          exact ret1 hF rfl rfl ⟨by rw [hbad 12 hEq (by decide)], hB3⟩
        · rw [if_neg hd] at hEq
          rw [keysF_no (fun ⟨j, hj, e⟩ => hd ⟨j, hj, by injection e⟩)] at hl
          repeat (first | refine c_seq ?_ | refine c_region _ ?_ | refine wpList_nil ?_ | refine c_then ?_ | refine c_in ?_ | refine wp_skip ?_ | ((first | apply st hF | apply stg hF); (first | exact d_move | exact d_assign | exact d_not | exact d_pickF | exact d_fieldAddr (fld _ _ _ _ rfl) (isz _ _ rfl) | exact d_lookup hl | exact d_load (und _ _ rfl) (hx3.c 0 _ rfl)); clear hF; clear a; intro a hF) | (apply c_cond_f hF; exact rfl; first | exact rfl | assumption))
          refine st0 hF (d_mapUpdate hr4) rfl (fun a hF => ?_)
          repeat (first | refine c_region _ ?_ | refine wpList_nil ?_ | refine c_then ?_ | refine c_in ?_ | ((apply st hF); (first | exact d_move | exact d_add); clear hF; clear a; intro a hF))
          exact ⟨rs.length - (k + 1), by omega, k + 1, by omega, rfl, fun j hj => by
            by_cases e : j = k
            · subst e; exact hEq
            · exact hok j (by omega), by rw [hao]; exact hF.keep' ⟨rfl, rfl, rfl, rfl, rfl, trivial⟩, hs4, hM4', hB4⟩
  · have h0 : decide (0 ≤ r.value) = true := decide_eq_true (by omega)
    rw [h0, Bool.or_true, Bool.true_and] at hH
    repeat (first | refine c_seq ?_ | refine c_block ?_ | refine c_region _ ?_ | refine wpList_nil ?_ | refine c_then ?_ | refine wp_skip ?_ | ((first | apply st hF | apply stg hF); (first | exact d_move | exact d_assign | exact d_pickF | exact d_cmpF | exact d_fieldAddr (fld _ _ _ _ rfl) (isz _ _ rfl) | exact hcast _ _ _ _ rfl | exact d_load (und _ _ rfl) hs8 | exact d_load (und _ _ rfl) (hs3.c' 6 _ rfl) | exact d_load (und _ _ rfl) (hx3.c 0 _ rfl)); clear hF; clear a; intro a hF) | ((apply stm hF); clear hF; clear a; intro a hF) | (apply c_cond_f hF; exact rfl; first | exact rfl | assumption))
    refine stcg hF (fits_ok r3 uv s.size s.sgn hub) cal34 ⟨rfl, rfl, rfl, trivial⟩ (k := fun a v r5 hR5 hF => ?_)
    obtain ⟨rfl, rfl⟩ := hR5
    cases hft : fitsB uv s.size s.sgn with
    | false =>
      rw [hft] at hF hH
      rw [if_pos hH] at hEq
      repeat (first | refine c_seq ?_ | refine c_region _ ?_ | refine wpList_nil ?_ | refine c_then ?_ | refine c_then_ret ?_ | refine c_in_ret ?_ | refine wp_ret ?_ | ((first | apply st hF | apply stg hF); (first | exact d_assign | exact d_not | exact d_pickF); clear hF; clear a; intro a hF) | (apply c_cond_t hF; exact rfl; first | exact rfl | assumption))
      exact ret1 hF rfl rfl ⟨by rw [hbad 19 hEq (by decide)], hB3⟩
    | true =>
      rw [hft] at hF hH
      rw [if_neg (by rw [hH]; decide)] at hEq
      rcases fin hH with hd | hd
      · rw [if_pos hd] at hEq
        rw [keysF_yes (by obtain ⟨j, hj, e⟩ := hd; exact ⟨j, hj, by rw [e]⟩)] at hl
        repeat (first | refine c_seq ?_ | refine c_region _ ?_ | refine wpList_nil ?_ | refine c_then ?_ | refine c_then_ret ?_ | refine c_in_ret ?_ | refine wp_ret ?_ | ((first | apply st hF | apply stg hF); (first | exact d_move | exact d_assign | exact d_not | exact d_pickF | exact d_fieldAddr (fld _ _ _ _ rfl) (isz _ _ rfl) | exact d_lookup hl | exact d_load (und _ _ rfl) (hx3.c 0 _ rfl)); clear hF; clear a; intro a hF) | (apply c_cond_t hF; exact rfl; first | exact rfl | assumption) | (apply c_cond_f hF; exact rfl; first | exact rfl | assumption))
        exact ret1 hF rfl rfl ⟨by rw [hbad 12 hEq (by decide)], hB3⟩
      · rw [if_neg hd] at hEq
        rw [keysF_no (fun ⟨j, hj, e⟩ => hd ⟨j, hj, by injection e⟩)] at hl
        repeat (first | refine c_seq ?_ | refine c_region _ ?_ | refine wpList_nil ?_ | refine c_then ?_ | refine c_in ?_ | refine wp_skip ?_ | ((first | apply st hF | apply stg hF); (first | exact d_move | exact d_assign | exact d_not | exact d_pickF | exact d_fieldAddr (fld _ _ _ _ rfl) (isz _ _ rfl) | exact d_lookup hl | exact d_load (und _ _ rfl) (hx3.c 0 _ rfl)); clear hF; clear a; intro a hF) | (apply c_cond_f hF; exact rfl; first | exact rfl | assumption))
        refine st0 hF (d_mapUpdate hr4) rfl (fun a hF => ?_)
        repeat (first | refine c_region _ ?_ | refine wpList_nil ?_ | refine c_then ?_ | refine c_in ?_ | ((apply st hF); (first | exact d_move | exact d_add); clear hF; clear a; intro a hF))
        exact ⟨rs.length - (k + 1), by omega, k + 1, by omega, rfl, fun j hj => by
          by_cases e : j = k
          · subst e; exact hEq
          · exact hok j (by omega), by rw [hao]; exact hF.keep' ⟨rfl, rfl, rfl, rfl, rfl, trivial⟩, hs4, hM4', hB4⟩
end Go.Proofs.YtjomihhpglojpaaDoor
end
section
/- The key of a signal: a message's number, its kind, a name. -/
namespace Go.Proofs.YtjomihhpglojpaaDoor
open Go.RowKit
set_option linter.unusedSimpArgs false
set_option linter.unusedVariables false
attribute [local irreducible] wpList wpQuiet wpStill Code.wp Exit.then Exit.inBlock bodyPost Calls Does Does0
set_option maxRecDepth 100000
def nmV (id : Int) (wide : Bool) (name : ByteArray) : Value := .agg #[.int .u32 id, .bool wide, .string name]
def keyN (id : Int) (wide : Bool) (name : ByteArray) : Lit := .string (keyBytes [.int .u32 id, .bool wide, .string name.data.toList])
theorem named_law : Go.WideMaps.KeyLaw Tryd.prog 104 := Go.deep_law_laid (m := Tryd.prog.types.size + 1) (by kernel_rfl) (of_decide_eq_true (by kernel_rfl)) (of_decide_eq_true (by kernel_rfl)) (by kernel_rfl) (by kernel_rfl)
theorem named_und : ∃ a b c, Tryd.prog.underlying 104 = some (.struct #[a, b, c]) ∧ a.type = 24 ∧ b.type = 4 ∧ c.type = 9 ∧ a.offset = 0 ∧ b.offset = 1 ∧ c.offset = 2 ∧ a.name = "id" ∧ b.name = "wide" ∧ c.name = "name" := ⟨_, _, _, rfl, rfl, rfl, rfl, rfl, rfl, rfl, rfl, rfl, rfl⟩
theorem key_named {id : Int} {wide : Bool} {name : ByteArray} (hid : (Lit.int .u32 id).wf = true) (hs : name.size ≤ maxLen) : keyOf Tryd.prog 104 (nmV id wide name) = some (keyN id wide name) := by
  obtain ⟨fa, fb, fc, hu, ha, hb, hc, oa, ob, oc, na, nb, nc⟩ := named_und
  have h1 : Tryd.prog.keyType 104 = true := by kernel_rfl
  have h2 : (nmV id wide name).formed Tryd.prog 104 = true := by kernel_rfl
  have h3 : Tryd.prog.cellsOf 104 = 3 := by kernel_rfl
  have c1 : Tryd.prog.cellsOf 24 = 1 := by kernel_rfl
  have c2 : Tryd.prog.cellsOf 4 = 1 := by kernel_rfl
  have c3 : Tryd.prog.cellsOf 9 = 1 := by kernel_rfl
  obtain ⟨n, hn⟩ : ∃ n, Tryd.prog.types.size = n + 1 := ⟨Tryd.prog.types.size - 1, by have : 1 ≤ Tryd.prog.types.size := of_decide_eq_true (by kernel_rfl); omega⟩
  unfold keyOf
  rw [hu]
  dsimp only
  rw [h1, h2]
  simp only [Bool.and_self, if_true]
  rw [hn]
  have e : (nmV id wide name).cells.toList = [.int .u32 id, .bool wide, .string name] := rfl
  rw [e]
  unfold Program.keyLits
  rw [hu]
  simp only [h3, List.length_cons, List.length_nil, List.mapM_cons, List.mapM_nil, ha, hb, hc, oa, ob, oc, c1, c2, c3, List.drop_zero, List.drop_succ_cons, List.take_succ_cons, List.take_zero, Program.keyLits, Tryd.underlying24, Tryd.underlying4, Tryd.underlying9]
  simp [na, nb, nc, hid, hs, keyN]
theorem keyN_inj {id id' : Int} {wide wide' : Bool} {name name' : ByteArray} (hid : (Lit.int .u32 id).wf = true) (hs : name.size ≤ maxLen) (hid' : (Lit.int .u32 id').wf = true) (hs' : name'.size ≤ maxLen) (h : keyN id wide name = keyN id' wide' name') : id = id' ∧ wide = wide' ∧ name = name' := by
  have h1 := key_named (wide := wide) hid hs
  have h2 := key_named (wide := wide') hid' hs'
  rw [← h] at h2
  have e := named_law.inj h1 h2
  unfold nmV at e
  injection e with e
  have := congrArg Array.toList e
  simp at this
  exact ⟨this.1, this.2.1, this.2.2⟩
theorem wf_mk32 {x : Int} (h : 0 ≤ x ∧ x < 4294967296) : (Lit.int .u32 x).wf = true := by
  have e1 : IntKind.u32.min = 0 := by decide
  have e2 : IntKind.u32.max = 4294967295 := by decide
  simp only [Lit.wf, e1, e2, decide_eq_true_eq, Bool.and_eq_true]
  omega
end Go.Proofs.YtjomihhpglojpaaDoor
end
