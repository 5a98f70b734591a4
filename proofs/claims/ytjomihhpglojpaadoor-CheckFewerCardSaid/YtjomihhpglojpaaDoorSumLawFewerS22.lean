/- Laid together by a program of mine: LessL PlacL PlacS DbC DbE MapG. -/
import Derived.Test.YtjomihhpglojpaaDoorSumLawFewerS17
import Derived.Test.YtjomihhpglojpaaDoorSumLawFewerS21
import Derived.Test.YtjomihhpglojpaaDoorSumLawFewerS19
import Derived.Test.YtjomihhpglojpaaDoorSumLawFewerS7
import Derived.Test.YtjomihhpglojpaaDoorSumLawFewerS12
import Derived.Test.YtjomihhpglojpaaDoorSumLawFewerS16
import Derived.WideKeyEntry
set_option linter.unusedSimpArgs false
set_option linter.unusedVariables false
section
/- What may be, may be without some of its signals that are no multiplexor; places do not count. Plain. -/
namespace Go.Proofs.YtjomihhpglojpaaDoor
open Go.RowKit
set_option linter.unusedSimpArgs false
set_option linter.unusedVariables false
attribute [local irreducible] wpList wpQuiet wpStill Code.wp Exit.then Exit.inBlock bodyPost Calls Does Does0
set_option maxRecDepth 100000
theorem alone_congr {s t : Sig} {ss : List ByteArray} {n : Int} (h1 : s.name = t.name) (h2 : s.role = t.role) (h3 : s.branch = t.branch) (h4 : s.start = t.start) (h5 : s.size = t.size) (h6 : s.mot = t.mot)
    (h7 : s.sn = t.sn ∧ s.sd = t.sd ∧ s.fn = t.fn ∧ s.fd = t.fd ∧ s.mn = t.mn ∧ s.md = t.md ∧ s.xn = t.xn ∧ s.xd = t.xd) (h8 : s.unit = t.unit) : aloneE s ss n = aloneE t ss n := by
  obtain ⟨a1, a2, a3, a4, a5, a6, a7, a8⟩ := h7
  have hr : roleB s ↔ roleB t := by unfold roleB; rw [h2, h3]
  have hR : rangedE s = rangedE t := by
    unfold rangedE
    simp only [a1, a2, a3, a4, a5, a6, a7, a8]
  unfold aloneE
  simp only [h1, h4, h5, h6, h8, hR, hr]
/-- The signals qs are some of the signals ps, in their order; the multiplexors are all there. -/
structure Some' (ps qs : List SigT) (f : Nat → Nat) : Prop where
  lt : ∀ i, i < qs.length → f i < ps.length
  mono : ∀ i j, i < j → f i < f j
  sgE : ∀ i, i < qs.length → sg qs i = sg ps (f i)
  txE : ∀ i, i < qs.length → tx qs i = tx ps (f i)
  mux : ∀ k, k < ps.length → (sg ps k).role = 1 → ∃ i, i < qs.length ∧ f i = k
theorem good_some {m m' : Msg} {ps qs : List SigT} {f : Nat → Nat} (h : Some' ps qs f) (hm : MsgGood m ps) (hh : headE m' = 0) (hs : m'.size = m.size) : MsgGood m' qs := by
  refine ⟨hh, fun j hj => ?_, fun j hj hb => ?_, fun j hj hb => ?_⟩
  · have h1 := hm.one (f j) (h.lt j hj)
    refine one_of ?_ ?_ ?_
    · rw [h.sgE j hj, h.txE j hj, hs]; exact alone_of_one h1
    · intro k hk
      rw [h.sgE j hj, h.sgE k (by omega)]
      exact names_of_one h1 (f k) (h.mono k j hk)
    · intro hr k hk
      rw [h.sgE j hj] at hr
      rw [h.sgE k (by omega)]
      exact mux_of_one h1 hr (f k) (h.mono k j hk)
  · refine hm.two (f j) (h.lt j hj) ?_
    obtain ⟨hr, hx⟩ := hb
    rw [h.sgE j hj] at hr hx
    refine ⟨hr, fun k hk => ?_⟩
    obtain ⟨k1, k2, k3⟩ := of_some hk
    obtain ⟨i, hi, rfl⟩ := h.mux k k1 k2
    have e : firstAt (isMux qs) qs.length = some i := by
      refine firstAt_some hi ?_ (fun j' hj' hb' => ?_)
      · unfold isMux; rw [h.sgE i hi]; exact k2
      · unfold isMux at hb'
        rw [h.sgE j' (by omega)] at hb'
        exact k3 (f j') (h.mono j' i hj') hb'
    have := hx i e
    rw [h.sgE i hi] at this
    exact this
  · obtain ⟨k, hk, ht, hsh⟩ := hb
    rw [h.sgE j hj, h.sgE k (by omega)] at ht hsh
    exact hm.meet (f j) (h.lt j hj) ⟨f k, h.mono k j hk, ht, hsh⟩
/-- All but number n. -/
theorem some_erase {ps : List SigT} {n : Nat} (hn : n < ps.length) (hr : (sg ps n).role ≠ 1) : Some' ps (ps.eraseIdx n) (fun i => if i < n then i else i + 1) := by
  have hl : (ps.eraseIdx n).length = ps.length - 1 := List.length_eraseIdx_of_lt hn
  have hg : ∀ i, i < ps.length - 1 → ∀ d, (ps.eraseIdx n).getD i d = ps.getD (if i < n then i else i + 1) d := by
    intro i hi d
    rw [List.getD_eq_getElem?_getD, List.getD_eq_getElem?_getD, List.getElem?_eraseIdx]
    split <;> rfl
  refine ⟨fun i hi => ?_, fun i j hij => ?_, fun i hi => ?_, fun i hi => ?_, fun k hk hr' => ?_⟩
  · split <;> omega
  · show (if i < n then i else i + 1) < (if j < n then j else j + 1)
    split <;> split <;> omega
  · unfold sg; rw [hg i (by omega)]
  · unfold tx; rw [hg i (by omega)]
  · by_cases e : k < n
    · exact ⟨k, by omega, by rw [if_pos e]⟩
    · by_cases e2 : k = n
      · subst e2; exact absurd hr' hr
      · exact ⟨k - 1, by omega, by rw [if_neg (by omega)]; omega⟩
/-- The places do not count. -/
structure SameSig (s t : Sig) : Prop where
  name : s.name = t.name
  role : s.role = t.role
  branch : s.branch = t.branch
  start : s.start = t.start
  size : s.size = t.size
  mot : s.mot = t.mot
  sgn : s.sgn = t.sgn
  rats : s.sn = t.sn ∧ s.sd = t.sd ∧ s.fn = t.fn ∧ s.fd = t.fd ∧ s.mn = t.mn ∧ s.md = t.md ∧ s.xn = t.xn ∧ s.xd = t.xd
  unit : s.unit = t.unit
theorem msgE_same {m m' : Msg} {ps qs : List SigT} (hl : qs.length = ps.length) (hh : headE m' = headE m) (hs : m'.size = m.size) (h : ∀ i, i < ps.length → SameSig (sg qs i) (sg ps i) ∧ tx qs i = tx ps i) : msgE m' qs = msgE m ps := by
  have a1 : ∀ i, i < ps.length → oneE qs m'.size i = oneE ps m.size i := by
    intro i hi
    obtain ⟨h1, h2⟩ := h i hi
    unfold oneE
    rw [h2, hs, alone_congr h1.name h1.role h1.branch h1.start h1.size h1.mot h1.rats h1.unit, h1.role, h1.name]
    have e1 : (∃ k, k < i ∧ (sg qs k).name = (sg ps i).name) ↔ (∃ k, k < i ∧ (sg ps k).name = (sg ps i).name) :=
      ⟨fun ⟨k, hk, e⟩ => ⟨k, hk, by rw [← (h k (by omega)).1.name]; exact e⟩, fun ⟨k, hk, e⟩ => ⟨k, hk, by rw [(h k (by omega)).1.name]; exact e⟩⟩
    have e2 : ((sg ps i).role = 1 ∧ ∃ k, k < i ∧ (sg qs k).role = 1) ↔ ((sg ps i).role = 1 ∧ ∃ k, k < i ∧ (sg ps k).role = 1) :=
      ⟨fun ⟨r, k, hk, e⟩ => ⟨r, k, hk, by rw [← (h k (by omega)).1.role]; exact e⟩, fun ⟨r, k, hk, e⟩ => ⟨r, k, hk, by rw [(h k (by omega)).1.role]; exact e⟩⟩
    simp only [e1, e2]
  have a2 : firstAt (isMux qs) qs.length = firstAt (isMux ps) ps.length := by
    rw [hl]
    exact firstAt_congr fun i hi => by unfold isMux; rw [(h i hi).1.role]
  have a3 : ∀ i, i < ps.length → (twoB qs i ↔ twoB ps i) := by
    intro i hi
    unfold twoB
    rw [a2, (h i hi).1.role, (h i hi).1.branch]
    constructor
    · rintro ⟨r, hx⟩
      exact ⟨r, fun k hk => by have := hx k hk; rw [(h k (of_some hk).1).1.size, (h k (of_some hk).1).1.sgn] at this; exact this⟩
    · rintro ⟨r, hx⟩
      exact ⟨r, fun k hk => by rw [(h k (of_some hk).1).1.size, (h k (of_some hk).1).1.sgn]; exact hx k hk⟩
  have a4 : ∀ i, i < ps.length → (meetB qs i ↔ meetB ps i) := by
    intro i hi
    have key : ∀ k, k < i → togB (sg qs k) (sg qs i) = togB (sg ps k) (sg ps i) ∧ (shareB (sg qs k) (sg qs i) ↔ shareB (sg ps k) (sg ps i)) := by
      intro k hk
      have hk' := (h k (by omega)).1
      have hi' := (h i hi).1
      unfold togB shareB
      rw [hk'.role, hi'.role, hk'.branch, hi'.branch, hk'.start, hk'.size, hk'.mot, hi'.start, hi'.size, hi'.mot]
      exact ⟨rfl, Iff.rfl⟩
    constructor
    · rintro ⟨k, hk, ht, hsh⟩
      exact ⟨k, hk, by rw [← (key k hk).1]; exact ht, (key k hk).2.1 hsh⟩
    · rintro ⟨k, hk, ht, hsh⟩
      exact ⟨k, hk, by rw [(key k hk).1]; exact ht, (key k hk).2.2 hsh⟩
  unfold msgE
  rw [hh, hl, firstAt_congr (fun i hi => by rw [a1 i hi] : ∀ i, i < ps.length → (oneE qs m'.size i ≠ 0 ↔ oneE ps m.size i ≠ 0)), firstAt_congr a3, firstAt_congr a4]
  split
  · rfl
  · rcases firstAt_spec (fun i => oneE ps m.size i ≠ 0) ps.length with ⟨e, _⟩ | ⟨k, e, hk, _⟩
    · rw [e]
      simp only [thenF]
    · rw [e]
      unfold thenF
      dsimp only
      rw [a1 k hk]
end Go.Proofs.YtjomihhpglojpaaDoor
end
section
/- A store of a struct into a part of a block; signals whose places are set. -/
namespace Go.Proofs.YtjomihhpglojpaaDoor
open Go.RowKit
section
variable {P : Program} {ops : Array Oper} {Q : Exit → Act → World → Prop} {a : Act} {w w' : World} {rest : List Oper} {N : Nat} {l : List (Nat × Value)}
theorem st_storePart (h : Fr N l a) {x y : Operand} {g o : Nat} {cs c : Array Value} {e t ty : TypeId} {pos : String} {af : Array Edge} {n : Nat} (hs : (P.info? t).map (·.size) = some n) (hn : cs.size = n) (hc : o + n ≤ c.size) (hg : w.heap[g]? = some (.cells c e (0, 0))) (hv : ∀ v ∈ cs, v.oneCell' = true)
    (hx : Ev l x (.pointer (some ⟨g, o, none⟩)) := by exact rfl) (hy : Ev l y (.agg cs) := by exact rfl)
    (k : ∀ a' w', w'.heap[g]? = some (.cells (c.toList.take o ++ cs.toList ++ c.toList.drop (o + n)).toArray e (0, 0)) → w.grownBy w' (some g) → w'.heap.size = w.heap.size → Fr N l a' → wpList P ops Q rest a' w') :
    wpList P ops Q (⟨none, .store t x y, ty, pos, af, none⟩ :: rest) a w := by
  subst hn
  have hr := run_storeCells_at (P := P) g o e cs.toList 0 c w hg (by simp; omega) (by simpa using hv)
  refine st0 h (w' := w.setRow g (c.toList.take (o + 0) ++ cs.toList ++ c.toList.drop (o + 0 + cs.toList.length)).toArray) ?_ rfl fun a' hF => k a' _ ?_ ?_ (by simp [World.setRow]) hF
  · intro ρ hρ d pos af gd
    obtain ⟨ti, h1, h2⟩ := Option.map_eq_some_iff.1 hs
    have hcs : (Value.agg cs).cells = cs := rfl
    simp [execOp, Instr.storeAt, Instr.sureAddr, storeVar, hρ _ _ hx, hρ _ _ hy, sizeOf, typeInfo, h1, h2, hcs, hr]
  · rw [setRow_heap w g c _ e _ hg]
    simp
  · exact ⟨rfl, rfl, rfl, by simp [World.setRow], fun k hk hne => setRow_other w g k _ (by intro e; exact hne (by rw [e]))⟩
/-- .. into a row of the call's own. -/
theorem st_storeRowPart (h : Fr N l a) {x y : Operand} {g o base m cap sz : Nat} {cs : Array Value} {e t ty : TypeId} {pos : String} {af : Array Edge} {n : Nat} {xs : List Value} (hs : (P.info? t).map (·.size) = some n) (hn : cs.size = n) (hc : o + n ≤ m * sz) (hown : w.ownsRow base e sz (.slice (some ⟨g, 0, none⟩) m cap) m xs) (hv : ∀ v ∈ cs, v.oneCell' = true)
    (hx : Ev l x (.pointer (some ⟨g, o, none⟩)) := by exact rfl) (hy : Ev l y (.agg cs) := by exact rfl)
    (k : ∀ a' w', w'.ownsRow base e sz (.slice (some ⟨g, 0, none⟩) m cap) m (xs.take o ++ cs.toList ++ xs.drop (o + n)) → w.grownBy w' (some g) → w'.heap.size = w.heap.size → Fr N l a' → wpList P ops Q rest a' w') :
    wpList P ops Q (⟨none, .store t x y, ty, pos, af, none⟩ :: rest) a w := by
  have hl : xs.length = m * sz := hown.1
  rcases hown.2 with ⟨h0, _⟩ | ⟨g', cap', cur, h0, hb, hg, hle, hm, hsz, htk⟩
  · cases h0
  · cases h0
    have hcur : m * sz ≤ cur.size := by
      have : xs.length ≤ cur.toList.length := by rw [← htk]; exact List.length_take_le' _ _
      simpa [hl] using this
    refine st_storePart h hs hn (by omega) hg hv hx hy fun a' w' hg' hgr hsz' hF => k a' w' ⟨?_, .inr ⟨_, _, _, rfl, hb, hg', hle, hm, ?_, ?_⟩⟩ hgr hsz' hF
    · simp only [List.length_append, List.length_take, List.length_drop, Array.length_toList, hl, hn]; omega
    · simp only [List.size_toArray, List.length_append, List.length_take, List.length_drop, Array.length_toList, hn]; omega
    · rw [← htk]
      simp only [List.take_append, List.length_take, List.length_append, Array.length_toList]
      rw [List.take_take, List.take_take, List.drop_take]
      have e1 : min (m * sz) o = o := by omega
      have e2 : List.take (m * sz - min o cur.size) cs.toList = cs.toList := List.take_of_length_le (by simp; omega)
      rw [e1, e2]
      congr 1
      · rw [Nat.min_eq_left (by omega : o ≤ m * sz)]
      · have e3 : min o cur.size = o := by omega
        rw [e3, hn]
end
theorem flat_part {α : Type} {enc : α → List Value} {sz : Nat} (he : ∀ x, (enc x).length = sz) {cs : List Value} {p q : Nat} : ∀ (xs : List α) (k : Nat) (hk : k < xs.length) (y : α), q ≤ sz → p ≤ q → enc y = (enc xs[k]).take p ++ cs ++ (enc xs[k]).drop q → (xs.flatMap enc).take (k * sz + p) ++ cs ++ (xs.flatMap enc).drop (k * sz + q) = (xs.set k y).flatMap enc
  | x :: xs, 0, _, y, hq, hp, hy => by
    have hx := he x
    simp only [List.flatMap_cons, List.set_cons_zero, Nat.zero_mul, Nat.zero_add]
    rw [List.take_append_of_le_length (by omega), List.drop_append_of_le_length (by omega), ← List.append_assoc]
    simp only [List.getElem_cons_zero] at hy
    rw [hy]
  | x :: xs, k + 1, hk, y, hq, hp, hy => by
    have hx := he x
    simp only [List.flatMap_cons, List.set_cons_succ]
    rw [← flat_part he xs k (by simpa using hk) y hq hp (by simpa using hy)]
    rw [show (k + 1) * sz + p = sz + (k * sz + p) by rw [Nat.add_mul]; omega, show (k + 1) * sz + q = sz + (k * sz + q) by rw [Nat.add_mul]; omega]
    rw [List.take_append, List.drop_append, hx]
    rw [List.take_of_length_le (l := enc x) (by omega), List.drop_of_length_le (l := enc x) (by omega)]
    simp [Nat.add_sub_cancel_left, List.append_assoc]
open Go.RowKit
set_option linter.unusedSimpArgs false
set_option linter.unusedVariables false
attribute [local irreducible] wpList wpQuiet wpStill Code.wp Exit.then Exit.inBlock bodyPost Calls Does Does0
def Sig.pl (s : Sig) (line col : Int) : Sig := { s with line := line, col := col }
theorem pl_cells (s : Sig) (line col : Int) : Sig.cells (s.pl line col) = (Sig.cells s).take 0 ++ [.int .i64 line, .int .i64 col] ++ (Sig.cells s).drop 2 := rfl
end Go.Proofs.YtjomihhpglojpaaDoor
end
section
/- Copied signals, as a list. -/
namespace Go.Proofs.YtjomihhpglojpaaDoor
open Go.RowKit
set_option linter.unusedSimpArgs false
set_option linter.unusedVariables false
attribute [local irreducible] wpList wpQuiet wpStill Code.wp Exit.then Exit.inBlock bodyPost Calls Does Does0
set_option maxRecDepth 100000
/-- A row of signals of the call's own, each with its texts, is a list of signals. -/
theorem sigs_in {w : World} {base : Nat} {ao : Option Addr} {cap : Nat} {ls : List Sig} {ps : List SigT} (hl : ls.length = ps.length) (hown : w.ownsRow base 38 19 (.slice ao ps.length cap) ps.length (ls.flatMap Sig.cells))
    (ht : ∀ i, i < ps.length → SigIn w (ls.getD i sigM) (tx ps i)) (hby : ps.length * 176 ≤ 140737488351232) : SigsIn w ao ps.length cap (zipP ls ps) := by
  refine ⟨zipP_len hl, ?_, fun p hp => ?_, (own_cap' hown).1, hby⟩
  · rw [zipP_map hl]
    rcases Nat.eq_zero_or_pos ps.length with h0 | h0
    · intro i hi; omega
    · obtain ⟨g, rfl, _⟩ := own_some hown h0
      exact own_rdS sigc_len hown hl
  · obtain ⟨i, hi, rfl⟩ := List.getElem_of_mem hp
    have hi' : i < ps.length := by rw [zipP_len hl] at hi; exact hi
    have h1 := zipP_sg hl hi'
    have h2 := zipP_tx hl hi'
    rw [sg_lt hi] at h1
    rw [tx_lt hi] at h2
    rw [h1, h2]
    exact ht i hi'
/-- A copied signal. -/
theorem copy_sig {base : Nat} {w : World} {ps : List SigT} {ls : List Sig} {i : Nat} (hi : i < ps.length) (h : CopyOk base w ps ls i) (hs : SigIn w (sg ps i) (tx ps i)) : ∃ ao c, ls.getD i sigM = (sg ps i).cp ao c ∧ CopyT base w ao (sg ps i).toN c (tx ps i) ∧ SigIn w ((sg ps i).cp ao c) (tx ps i) := by
  obtain ⟨p, ao, c, h1, h2, h3⟩ := h
  have e : ps[i] = p := by rw [List.getElem?_eq_getElem hi] at h1; exact Option.some.inj h1
  rw [sg_lt hi, tx_lt hi] at *
  subst e
  have e2 := own_rd h3
  exact ⟨ao, c, by simp [List.getD, h2], h3, ⟨hs.len, e2.2, (own_cap' h3).1, hs.bytes⟩⟩
theorem sigB_cp {s : Sig} (h : SigB s) (ao : Option Addr) (c : Nat) : SigB (s.cp ao c) := ⟨h.sn, h.sd, h.fn, h.fd, h.mn, h.md, h.xn, h.xd, h.br⟩
theorem sigB_pl {s : Sig} (h : SigB s) (x y : Int) : SigB (s.pl x y) := ⟨h.sn, h.sd, h.fn, h.fd, h.mn, h.md, h.xn, h.xd, h.br⟩
theorem sigIn_pl {w : World} {s : Sig} {ss : List ByteArray} (h : SigIn w s ss) (x y : Int) : SigIn w (s.pl x y) ss := ⟨h.len, h.rd, h.cap, h.bytes⟩
theorem same_cp (s : Sig) (ao : Option Addr) (c : Nat) : SameSig (s.cp ao c) s := ⟨rfl, rfl, rfl, rfl, rfl, rfl, rfl, ⟨rfl, rfl, rfl, rfl, rfl, rfl, rfl, rfl⟩, rfl⟩
theorem same_pl (s : Sig) (ao : Option Addr) (c : Nat) (x y : Int) : SameSig ((s.cp ao c).pl x y) s := ⟨rfl, rfl, rfl, rfl, rfl, rfl, rfl, ⟨rfl, rfl, rfl, rfl, rfl, rfl, rfl, rfl⟩, rfl⟩
end Go.Proofs.YtjomihhpglojpaaDoor
end
section
/- A database: its cells, and what it is to be there. -/
namespace Go.Proofs.YtjomihhpglojpaaDoor
open Go.RowKit
set_option linter.unusedSimpArgs false
set_option linter.unusedVariables false
attribute [local irreducible] wpList wpQuiet wpStill Code.wp Exit.then Exit.inBlock bodyPost Calls Does Does0
structure RowV where
  value : Int
  text : ByteArray
def RowV.cells (r : RowV) : List Value := [.int .i64 r.value, .string r.text]
theorem rowc_len (r : RowV) : (RowV.cells r).length = 2 := rfl
theorem row_cells (r : RowV) : ∀ v ∈ (RowV.cells r).toArray, v.oneCell' = true := by
  intro v hv; simp [RowV.cells] at hv; rcases hv with rfl | rfl <;> rfl
structure Tab where
  line : Int
  col : Int
  id : Int
  wide : Bool
  sig : ByteArray
  rw : Option Addr
  rwN : Nat
  rwC : Nat
def Tab.cells (t : Tab) : List Value := [.int .i64 t.line, .int .i64 t.col, .int .u32 t.id, .bool t.wide, .string t.sig, .slice t.rw t.rwN t.rwC]
theorem tabc_len (t : Tab) : (Tab.cells t).length = 6 := rfl
theorem tab_cells (t : Tab) : ∀ v ∈ (Tab.cells t).toArray, v.oneCell' = true := by
  intro v hv; simp [Tab.cells] at hv; rcases hv with rfl | rfl | rfl | rfl | rfl | rfl <;> rfl
structure Db where
  hasV : Bool
  vline : Int
  vcol : Int
  vtext : ByteArray
  sline : Int
  scol : Int
  sn : Option Addr
  snN : Nat
  snC : Nat
  mg : Option Addr
  mgN : Nat
  mgC : Nat
  tb : Option Addr
  tbN : Nat
  tbC : Nat
def Db.cells (d : Db) : List Value := [.bool d.hasV, .int .i64 d.vline, .int .i64 d.vcol, .string d.vtext, .int .i64 d.sline, .int .i64 d.scol, .slice d.sn d.snN d.snC, .slice d.mg d.mgN d.mgC, .slice d.tb d.tbN d.tbC]
theorem db_cells (d : Db) : ∀ v ∈ (Db.cells d).toArray, v.oneCell' = true := by
  intro v hv; simp [Db.cells] at hv; rcases hv with rfl | rfl | rfl | rfl | rfl | rfl | rfl | rfl | rfl <;> rfl
theorem msgc_len (m : Msg) : (Msg.cells m).length = 8 := rfl
abbrev MsgT := Msg × List SigT
abbrev TabT := Tab × List RowV
structure RowsIn (w : World) (t : Tab) (rs : List RowV) : Prop where
  len : rs.length = t.rwN
  rd : RdS w t.rw 2 RowV.cells rs
  cap : t.rwN ≤ t.rwC
  bytes : t.rwN * 24 ≤ 140737488351232
  val : ∀ r ∈ rs, -9223372036854775808 ≤ r.value ∧ r.value ≤ 9223372036854775807
theorem RowsIn.below {w w' : World} {t : Tab} {rs : List RowV} (h : RowsIn w t rs) (hb : Below w.heap.size w w') : RowsIn w' t rs := ⟨h.len, h.rd.below hb, h.cap, h.bytes, h.val⟩
structure MsgsIn (w : World) (ao : Option Addr) (n c : Nat) (ms : List MsgT) : Prop where
  len : ms.length = n
  rd : RdS w ao 8 Msg.cells (ms.map (·.1))
  each : ∀ p ∈ ms, MsgIn w p.1 p.2
  bnd : ∀ p ∈ ms, (∀ q ∈ p.2, SigB q.1) ∧ 0 ≤ p.1.id ∧ p.1.id < 4294967296
  cap : n ≤ c
  bytes : n * 88 ≤ 140737488351232
theorem MsgsIn.below {w w' : World} {ao : Option Addr} {n c : Nat} {ms : List MsgT} (h : MsgsIn w ao n c ms) (hb : Below w.heap.size w w') : MsgsIn w' ao n c ms :=
  ⟨h.len, h.rd.below hb, fun p hp => SigsIn.below (h.each p hp) hb, h.bnd, h.cap, h.bytes⟩
structure TabsIn (w : World) (ao : Option Addr) (n c : Nat) (ts : List TabT) : Prop where
  len : ts.length = n
  rd : RdS w ao 6 Tab.cells (ts.map (·.1))
  each : ∀ p ∈ ts, RowsIn w p.1 p.2
  bnd : ∀ p ∈ ts, (0 ≤ p.1.id ∧ p.1.id < 4294967296) ∧ p.1.sig.size ≤ maxLen
  cap : n ≤ c
  bytes : n * 64 ≤ 140737488351232
theorem TabsIn.below {w w' : World} {ao : Option Addr} {n c : Nat} {ts : List TabT} (h : TabsIn w ao n c ts) (hb : Below w.heap.size w w') : TabsIn w' ao n c ts :=
  ⟨h.len, h.rd.below hb, fun p hp => (h.each p hp).below hb, h.bnd, h.cap, h.bytes⟩
structure DbIn (w : World) (d : Db) (ss : List ByteArray) (ms : List MsgT) (ts : List TabT) : Prop where
  slen : ss.length = d.snN
  srd : Rd w d.sn .string ss
  scap : d.snN ≤ d.snC
  sbytes : d.snN * 16 ≤ 140737488351232
  msgs : MsgsIn w d.mg d.mgN d.mgC ms
  tabs : TabsIn w d.tb d.tbN d.tbC ts
theorem DbIn.below {w w' : World} {d : Db} {ss : List ByteArray} {ms : List MsgT} {ts : List TabT} (h : DbIn w d ss ms ts) (hb : Below w.heap.size w w') : DbIn w' d ss ms ts :=
  ⟨h.slen, h.srd.below hb, h.scap, h.sbytes, h.msgs.below hb, h.tabs.below hb⟩
end Go.Proofs.YtjomihhpglojpaaDoor
end
section
/- What is wrong with a database: plain. -/
namespace Go.Proofs.YtjomihhpglojpaaDoor
open Go.RowKit
set_option linter.unusedSimpArgs false
set_option linter.unusedVariables false
attribute [local irreducible] wpList wpQuiet wpStill Code.wp Exit.then Exit.inBlock bodyPost Calls Does Does0
def nobody : ByteArray := ⟨#[86, 101, 99, 116, 111, 114, 95, 95, 88, 88, 88]⟩
abbrev Err := Int × Int × Int
def okE : Err := (0, 0, 0)
def thenE (r : Option Nat) (e : Nat → Err) (k : Err) : Err := match r with | some i => e i | none => k
def someE (r : Option Nat) (e : Nat → Int) : Int := match r with | some i => e i | none => 0
open Classical in
/-- What is wrong with name number i of the stations. -/
noncomputable def staE (ss : List ByteArray) (i : Nat) : Int :=
  if wordB (ss.getD i ⟨#[]⟩) = false ∨ ss.getD i ⟨#[]⟩ = nobody then 11 else if ∃ k, k < i ∧ ss.getD k ⟨#[]⟩ = ss.getD i ⟨#[]⟩ then 12 else 0
/-- Is a name that of a station, or nobody? -/
def knownB (ss : List ByteArray) (s : ByteArray) : Prop := s ∈ ss ∨ s = nobody
def ms_ (ms : List MsgT) (i : Nat) : Msg := (ms.getD i (⟨0, 0, 0, false, ⟨#[]⟩, 0, ⟨#[]⟩, none, 0, 0⟩, [])).1
def mp_ (ms : List MsgT) (i : Nat) : List SigT := (ms.getD i (⟨0, 0, 0, false, ⟨#[]⟩, 0, ⟨#[]⟩, none, 0, 0⟩, [])).2
theorem ms_lt {ms : List MsgT} {i : Nat} (h : i < ms.length) : ms_ ms i = ms[i].1 := by simp [ms_, List.getD, h]
theorem mp_lt {ms : List MsgT} {i : Nat} (h : i < ms.length) : mp_ ms i = ms[i].2 := by simp [mp_, List.getD, h]
def ts_ (ts : List TabT) (i : Nat) : Tab := (ts.getD i (⟨0, 0, 0, false, ⟨#[]⟩, none, 0, 0⟩, [])).1
def tr_ (ts : List TabT) (i : Nat) : List RowV := (ts.getD i (⟨0, 0, 0, false, ⟨#[]⟩, none, 0, 0⟩, [])).2
theorem ts_lt {ts : List TabT} {i : Nat} (h : i < ts.length) : ts_ ts i = ts[i].1 := by simp [ts_, List.getD, h]
theorem tr_lt {ts : List TabT} {i : Nat} (h : i < ts.length) : tr_ ts i = ts[i].2 := by simp [tr_, List.getD, h]
/-- A signal that names one who is not known. -/
def toB (ss : List ByteArray) (ps : List SigT) (k : Nat) : Prop := ∃ s, s ∈ tx ps k ∧ ¬ knownB ss s
def sameId (m : Msg) (id : Int) (wide : Bool) : Prop := m.id = id ∧ m.wide = wide
open Classical in
/-- What is wrong with message number i. -/
noncomputable def dmE (ss : List ByteArray) (ms : List MsgT) (i : Nat) : Err :=
  if (msgE (ms_ ms i) (mp_ ms i)).1 ≠ 0 then ((msgE (ms_ ms i) (mp_ ms i)).1, placeL (ms_ ms i) (mp_ ms i) (msgE (ms_ ms i) (mp_ ms i)).2, placeC (ms_ ms i) (mp_ ms i) (msgE (ms_ ms i) (mp_ ms i)).2)
  else if ∃ k, k < i ∧ ((ms_ ms k).name = (ms_ ms i).name ∨ sameId (ms_ ms k) (ms_ ms i).id (ms_ ms i).wide) then (12, (ms_ ms i).line, (ms_ ms i).col)
  else if ¬ knownB ss (ms_ ms i).sender then (13, (ms_ ms i).line, (ms_ ms i).col)
  else thenE (firstAt (toB ss (mp_ ms i)) (mp_ ms i).length) (fun k => (13, (sg (mp_ ms i) k).line, (sg (mp_ ms i) k).col)) okE
/-- Has a signal a value? -/
def hasB (s : Sig) (v : Int) : Bool := (s.sgn || decide (0 ≤ v)) && fitsB (if v < 0 then v + 18446744073709551616 else v) s.size s.sgn
def rv_ (rs : List RowV) (i : Nat) : RowV := rs.getD i ⟨0, ⟨#[]⟩⟩
open Classical in
noncomputable def rowE (s : Sig) (rs : List RowV) (i : Nat) : Int :=
  if textE (rv_ rs i).text ≠ 0 then textE (rv_ rs i).text else if hasB s (rv_ rs i).value = false then 19
  else if ∃ k, k < i ∧ (rv_ rs k).value = (rv_ rs i).value then 12 else 0
noncomputable def rowsE (s : Sig) (rs : List RowV) : Int :=
  if 256 < rs.length then 5 else someE (firstAt (fun i => rowE s rs i ≠ 0) rs.length) (rowE s rs)
/-- The signal of that name in a message of that number. -/
def ofB (ms : List MsgT) (id : Int) (wide : Bool) (name : ByteArray) (s : Sig) : Prop := ∃ i k, i < ms.length ∧ k < (mp_ ms i).length ∧ sameId (ms_ ms i) id wide ∧ (sg (mp_ ms i) k).name = name ∧ s = sg (mp_ ms i) k
open Classical in
/-- What is wrong with table number i. -/
noncomputable def dtE (ms : List MsgT) (ts : List TabT) (i : Nat) : Int :=
  if h : ∃ s, ofB ms (ts_ ts i).id (ts_ ts i).wide (ts_ ts i).sig s then
    if ∃ k, k < i ∧ (ts_ ts k).id = (ts_ ts i).id ∧ (ts_ ts k).wide = (ts_ ts i).wide ∧ (ts_ ts k).sig = (ts_ ts i).sig then 12
    else rowsE (Classical.choose h) (tr_ ts i)
  else 13
/-- What is wrong with a database, and where. -/
noncomputable def dbE (d : Db) (ss : List ByteArray) (ms : List MsgT) (ts : List TabT) : Err :=
  if d.hasV = true ∧ textE d.vtext ≠ 0 then (textE d.vtext, d.vline, d.vcol)
  else if 64 < ss.length then (5, d.sline, d.scol)
  else thenE (firstAt (fun i => staE ss i ≠ 0) ss.length) (fun i => (staE ss i, d.sline, d.scol))
    (if 512 < ms.length then (5, (ms_ ms 512).line, (ms_ ms 512).col)
     else thenE (firstAt (fun i => (dmE ss ms i).1 ≠ 0) ms.length) (dmE ss ms)
      (thenE (firstAt (fun i => dtE ms ts i ≠ 0) ts.length) (fun i => (dtE ms ts i, (ts_ ts i).line, (ts_ ts i).col)) okE))
end Go.Proofs.YtjomihhpglojpaaDoor
end
section
/- Maps of the call's own with any elements. Plain lemmas over any program. -/
namespace Go.Proofs.YtjomihhpglojpaaDoor
open Go.RowKit
open Go.Maps (Keyed IsMap)
open Go.WideMaps (KeyLaw)
open Go.MapKept Go.ChangeMaps
section
variable {P : Program} {w w' : World} {l : List (Nat × Value)}
def heldE (v : Value) : Option (DataW Value × List MemPlace) := some (.held v, [])
/-- What the map holds, the latest first. -/
def kvM : List (Lit × Value) → DataW Value
  | [] => .map []
  | p :: r => (kvM r).put p.1 (.held p.2)
open Classical in
noncomputable def kvG (k : Lit) : List (Lit × Value) → Option Value
  | [] => none
  | p :: r => if k = p.1 then some p.2 else kvG k r
theorem kvM_map : ∀ ks, IsMap (kvM ks)
  | [] => ⟨_, rfl⟩
  | p :: r => by
    obtain ⟨es, h⟩ := kvM_map r
    unfold kvM
    rw [h]
    exact ⟨_, rfl⟩
theorem kvM_at (k : Lit) (z : DataW Value) : ∀ ks, (∀ p ∈ ks, WideAt.IsKeyLit p.1) → (kvM ks).atKey k z = match kvG k ks with | some v => .held v | none => z
  | [], _ => rfl
  | p :: r, h => by
    unfold kvM kvG
    by_cases e : k = p.1
    · rw [if_pos e, e, Maps.atKey_put_same (kvM_map r) (h p List.mem_cons_self)]
    · rw [if_neg e, Maps.atKey_put_other e, kvM_at k z r (fun q hq => h q (List.mem_cons_of_mem _ hq))]
/-- Block b is a map of the call's own: it holds ks. -/
def MapG (P : Program) (k : TypeId) (w : World) (b : Nat) (ks : List (Lit × Value)) : Prop := w.ownsMap P k heldE b ks.length (kvM ks) ∧ ∀ p ∈ ks, WideAt.IsKeyLit p.1
theorem MapG.new {k : TypeId} (w : World) : MapG P k (w.alloc (.map #[] 0)) w.heap.size [] := ⟨World.ownsMap_made w P k _, by simp⟩
theorem MapG.kept {k : TypeId} {b : Nat} {ks : List (Lit × Value)} {row : Option Nat} (h : MapG P k w b ks) (hg : w.grownBy w' row) (hne : some b ≠ row) : MapG P k w' b ks := ⟨World.ownsMap.kept h.1 hg hne, h.2⟩
theorem MapG.lt {k : TypeId} {b : Nat} {ks : List (Lit × Value)} (h : MapG P k w b ks) : b < w.heap.size := World.ownsMap.lt h.1
theorem MapG.below {k : TypeId} {b : Nat} {ks : List (Lit × Value)} (h : MapG P k w b ks) (hb : Below w.heap.size w w') : MapG P k w' b ks := by
  have hlt := h.lt
  obtain ⟨⟨es, clock, h1, h2⟩, h3⟩ := h
  exact ⟨⟨es, clock, (hb.block b hlt).trans h1, h2⟩, h3⟩
theorem MapG.look {t k e : TypeId} {b : Nat} {ks : List (Lit × Value)} (h : MapG P k w b ks) (K : Keyed P k) (ht : P.underlying t = some (.map k e)) {z : Value} (hz : (zeroValue e).run P w = .ok z w) {key : Value} {kl : Lit} (hkey : keyOf P k key = some kl) :
    (Instr.lookup t (.map (some b)) key false).run P w = .ok ((kvG kl ks).getD z) w := by
  obtain ⟨v, ps, hr, hv⟩ := World.ownsMap.lookup h.1 K ht hz (zd := .held z) (zp := []) rfl hkey
  rw [kvM_at _ _ _ h.2] at hv
  rw [hr]
  cases hk : kvG kl ks with
  | none => rw [hk] at hv; simp [heldE] at hv; rw [hv.1]; rfl
  | some u => rw [hk] at hv; simp [heldE] at hv; rw [hv.1]; rfl
theorem has_kv (k : Lit) (ks : List (Lit × Value)) (h : ∀ p ∈ ks, WideAt.IsKeyLit p.1) : Maps.has (kvM ks) k = (kvG k ks).isSome := by
  have h1 := kvM_at k (.held (.bool true)) ks h
  have h2 := kvM_at k (.held (.bool false)) ks h
  cases hk : kvG k ks with
  | none =>
    rw [hk] at h1 h2
    refine Maps.has_false_of_atKey (fun z => ?_)
    rw [kvM_at k z ks h, hk]
  | some u =>
    rw [hk] at h1 h2
    refine Maps.has_true_of_atKey (y := .held u) (fun z => ?_)
    rw [kvM_at k z ks h, hk]
theorem MapG.look_ok {t k e : TypeId} {b : Nat} {ks : List (Lit × Value)} (h : MapG P k w b ks) (K : Keyed P k) (ht : P.underlying t = some (.map k e)) {z : Value} (hz : (zeroValue e).run P w = .ok z w) {key : Value} {kl : Lit} (hkey : keyOf P k key = some kl) :
    (Instr.lookup t (.map (some b)) key true).run P w = .ok (.tuple #[(kvG kl ks).getD z, .bool (kvG kl ks).isSome]) w := by
  obtain ⟨v, ps, hr, hv⟩ := World.ownsMap.look_ok h.1 K ht hz (zd := .held z) (zp := []) rfl hkey
  rw [kvM_at _ _ _ h.2] at hv
  rw [hr, has_kv _ _ h.2]
  cases hk : kvG kl ks with
  | none => rw [hk] at hv; simp [heldE] at hv; rw [hv.1]; rfl
  | some u => rw [hk] at hv; simp [heldE] at hv; rw [hv.1]; rfl
theorem MapG.put {t k e : TypeId} {b : Nat} {ks : List (Lit × Value)} (h : MapG P k w b ks) (K : Keyed P k) (ht : P.underlying t = some (.map k e)) {key : Value} {kl : Lit} (hkey : keyOf P k key = some kl) (v : Value) (hn : ks.length < maxLen) :
    ∃ w', (Instr.mapUpdate t (.map (some b)) key v).run P w = .ok () w' ∧ MapG P k w' b ((kl, v) :: ks) ∧ w.grownBy w' (some b) ∧ w'.heap.size = w.heap.size := by
  obtain ⟨w', hr, ho, ht2⟩ := World.ownsMap.store (P := P) (w := w) (b := b) (k := k) (R := heldE) h.1 K ht hn hkey rfl
  refine ⟨w', hr, ⟨ho, fun p hp => ?_⟩, ht2.grown, ?_⟩
  · rcases List.mem_cons.1 hp with rfl | hp
    · exact K.key hkey
    · exact h.2 p hp
  · obtain ⟨_, _, _, _, _, rfl⟩ := ht2
    simp [Go.ChangeMaps.setBlock]
/-- 'm[k] = v' in two steps: the entry, the store. -/
theorem MapG.put2 {t k e : TypeId} {b : Nat} {ks : List (Lit × Value)} (h : MapG P k w b ks) (KL : KeyLaw P k) (ht : P.underlying t = some (.map k e)) {z : Value} (hz : ∀ u : World, (zeroValue e).run P u = .ok z u) {key : Value} {kl : Lit} (hkey : keyOf P k key = some kl) (v : Value) (hn : ks.length < maxLen) :
    ∃ (v0 : Value) (st : Nat) (w1 : World), (Instr.mapEntry t (.map (some b)) key).run P w = .ok (.tuple #[v0, goInt st]) w1 ∧ w.grownBy w1 (some b) ∧ w1.heap.size = w.heap.size ∧
      ∀ w2 : World, w2.heap[b]? = w1.heap[b]? → ∃ w3, (Instr.entryStore t (.map (some b)) (goInt st) v).run P w2 = .ok () w3 ∧ MapG P k w3 b ((kl, v) :: ks) ∧ w2.grownBy w3 (some b) ∧ w3.heap.size = w2.heap.size := by
  have K := Keyed.of_law KL
  obtain ⟨⟨es, clock, hb, F, hs, hD⟩, h3⟩ := h
  obtain ⟨v0, st, es1, clock1, hr1, _, hr2⟩ := WideElems.entry_then_store KL ht hz hb F hkey
  obtain ⟨w', hu, ho, _⟩ := MapG.put (h := ⟨⟨es, clock, hb, F, hs, hD⟩, h3⟩) K ht hkey v hn
  have gr : ∀ (u : World) (o : Obj) (es0 : Array MapEntry) (c0 : Nat), u.heap[b]? = some (.map es0 c0) → u.grownBy (Go.ChangeMaps.setBlock u b o) (some b) ∧ (Go.ChangeMaps.setBlock u b o).heap.size = u.heap.size := fun u o es0 c0 hu =>
    ⟨⟨rfl, rfl, rfl, by simp [Go.ChangeMaps.setBlock], fun i _ hi => heap_setBlock_other hu _ (fun e => hi (by rw [e]))⟩, by simp [Go.ChangeMaps.setBlock]⟩
  refine ⟨v0, st, _, hr1, (gr _ _ _ _ hb).1, (gr _ _ _ _ hb).2, fun w2 hw2 => ?_⟩
  have hw2' : w2.heap[b]? = some (.map es1 clock1) := hw2.trans (heap_setBlock_same hb _)
  obtain ⟨es', clock', hr3, hr4⟩ := hr2 w2 v hw2'
  rw [hu] at hr4
  obtain ⟨⟨es'', clock'', hb'', F'', hs'', hD''⟩, h3''⟩ := ho
  have hw' : w' = Go.ChangeMaps.setBlock w b (.map es' clock') := by injection hr4
  rw [hw', heap_setBlock_same hb _] at hb''
  injection hb'' with hb''
  injection hb'' with e1 e2
  subst e1; subst e2
  exact ⟨_, hr3, ⟨⟨_, _, heap_setBlock_same hw2' _, F'', hs'', hD''⟩, h3''⟩, (gr _ _ _ _ hw2').1, (gr _ _ _ _ hw2').2⟩
theorem d_lookupT {t ty : TypeId} {m x : Operand} {mv key v : Value} {c : Bool} {w : World} (hr : (Instr.lookup t mv key c).run P w = .ok v w) (hm : Ev l m mv := by exact rfl) (hx : Ev l x key := by exact rfl) : Does P l w (.lookup t m x c) ty v w := d_lookup hr hm hx
theorem d_insert {t ty : TypeId} {m x y : Operand} {mv key v : Value} (hr : (Instr.mapUpdate t mv key v).run P w = .ok () w') (hm : Ev l m mv := by exact rfl) (hx : Ev l x key := by exact rfl) (hy : Ev l y v := by exact rfl) : Does0 P l w (.insert t m x y) ty w' := by
  intro ρ hρ d pos af g
  simp [execOp, hρ _ _ hm, hρ _ _ hx, hρ _ _ hy, hr]
theorem d_mapEntry {t ty : TypeId} {m x : Operand} {mv key v : Value} (hr : (Instr.mapEntry t mv key).run P w = .ok v w') (hm : Ev l m mv := by exact rfl) (hx : Ev l x key := by exact rfl) : Does P l w (.mapEntry t m x) ty v w' := by
  intro ρ hρ d pos af g
  simp [execOp, hρ _ _ hm, hρ _ _ hx, hr]
theorem d_entryStore {t ty : TypeId} {m x y : Operand} {mv s v : Value} (hr : (Instr.entryStore t mv s v).run P w = .ok () w') (hm : Ev l m mv := by exact rfl) (hx : Ev l x s := by exact rfl) (hy : Ev l y v := by exact rfl) : Does0 P l w (.entryStore t m x y) ty w' := by
  intro ρ hρ d pos af g
  simp [execOp, hρ _ _ hm, hρ _ _ hx, hρ _ _ hy, hr]
end
end Go.Proofs.YtjomihhpglojpaaDoor
end
