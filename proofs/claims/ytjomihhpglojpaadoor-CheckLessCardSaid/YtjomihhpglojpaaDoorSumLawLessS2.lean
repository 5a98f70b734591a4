/- Laid together by a program of mine: LessL PlacL PlacS AppS PermT Pick. -/
import Derived.Test.YtjomihhpglojpaaDoorSumBOneW25
import Derived.Test.YtjomihhpglojpaaDoorSumLawLessS1
import Derived.Test.YtjomihhpglojpaaDoorSumBOneW29
import Derived.Test.YtjomihhpglojpaaDoorSumBOneW31
import Derived.Test.YtjomihhpglojpaaDoorSumBOneW9
import Derived.Test.YtjomihhpglojpaaDoorSumBOneW19
import Derived.Test.YtjomihhpglojpaaDoorSumBOneW4
set_option linter.unusedSimpArgs false
set_option linter.unusedVariables false
section
/- What may be, may be without some of its signals that are no multiplexor; places do not count. Plain. -/
namespace Go.Proofs.YtjomihhpglojpaaDoor
open Go.RowKit
set_option linter.unusedSimpArgs false
set_option linter.unusedVariables false
attribute [local irreducible] wpList wpQuiet wpStill Code.wp Exit.then Exit.inBlock bodyPost Calls Does Does0
set_option maxRecDepth 100000
theorem alone_congr {s t : Sig} {ss : List ByteArray} {n : Int} (h1 : s.name = t.name) (h2 : s.role = t.role) (h3 : s.branch = t.branch) (h4 : s.start = t.start) (h5 : s.size = t.size) (h6 : s.mot = t.mot)
    (h7 : s.sn = t.sn ∧ s.sd = t.sd ∧ s.fn = t.fn ∧ s.fd = t.fd ∧ s.mn = t.mn ∧ s.md = t.md ∧ s.xn = t.xn ∧ s.xd = t.xd) (h8 : s.unit = t.unit) : aloneE s ss n = aloneE t ss n := by
  obtain ⟨a1, a2, a3, a4, a5, a6, a7, a8⟩ := h7
  have hr : roleB s ↔ roleB t := by unfold roleB; rw [h2, h3]
  have hR : rangedE s = rangedE t := by
    unfold rangedE
    simp only [a1, a2, a3, a4, a5, a6, a7, a8]
  unfold aloneE
  simp only [h1, h4, h5, h6, h8, hR, hr]
/-- The signals qs are some of the signals ps, in their order; the multiplexors are all there. -/
structure Some' (ps qs : List SigT) (f : Nat → Nat) : Prop where
  lt : ∀ i, i < qs.length → f i < ps.length
  mono : ∀ i j, i < j → f i < f j
  sgE : ∀ i, i < qs.length → sg qs i = sg ps (f i)
  txE : ∀ i, i < qs.length → tx qs i = tx ps (f i)
  mux : ∀ k, k < ps.length → (sg ps k).role = 1 → ∃ i, i < qs.length ∧ f i = k
theorem good_some {m m' : Msg} {ps qs : List SigT} {f : Nat → Nat} (h : Some' ps qs f) (hm : MsgGood m ps) (hh : headE m' = 0) (hs : m'.size = m.size) : MsgGood m' qs := by
  refine ⟨hh, fun j hj => ?_, fun j hj hb => ?_, fun j hj hb => ?_⟩
  · have h1 := hm.one (f j) (h.lt j hj)
    refine one_of ?_ ?_ ?_
    · rw [h.sgE j hj, h.txE j hj, hs]; exact alone_of_one h1
    · intro k hk
      rw [h.sgE j hj, h.sgE k (by omega)]
      exact names_of_one h1 (f k) (h.mono k j hk)
    · intro hr k hk
      rw [h.sgE j hj] at hr
      rw [h.sgE k (by omega)]
      exact mux_of_one h1 hr (f k) (h.mono k j hk)
  · refine hm.two (f j) (h.lt j hj) ?_
    obtain ⟨hr, hx⟩ := hb
    rw [h.sgE j hj] at hr hx
    refine ⟨hr, fun k hk => ?_⟩
    obtain ⟨k1, k2, k3⟩ := of_some hk
    obtain ⟨i, hi, rfl⟩ := h.mux k k1 k2
    have e : firstAt (isMux qs) qs.length = some i := by
      refine firstAt_some hi ?_ (fun j' hj' hb' => ?_)
      · unfold isMux; rw [h.sgE i hi]; exact k2
      · unfold isMux at hb'
        rw [h.sgE j' (by omega)] at hb'
        exact k3 (f j') (h.mono j' i hj') hb'
    have := hx i e
    rw [h.sgE i hi] at this
    exact this
  · obtain ⟨k, hk, ht, hsh⟩ := hb
    rw [h.sgE j hj, h.sgE k (by omega)] at ht hsh
    exact hm.meet (f j) (h.lt j hj) ⟨f k, h.mono k j hk, ht, hsh⟩
/-- All but number n. -/
theorem some_erase {ps : List SigT} {n : Nat} (hn : n < ps.length) (hr : (sg ps n).role ≠ 1) : Some' ps (ps.eraseIdx n) (fun i => if i < n then i else i + 1) := by
  have hl : (ps.eraseIdx n).length = ps.length - 1 := List.length_eraseIdx_of_lt hn
  have hg : ∀ i, i < ps.length - 1 → ∀ d, (ps.eraseIdx n).getD i d = ps.getD (if i < n then i else i + 1) d := by
    intro i hi d
    rw [List.getD_eq_getElem?_getD, List.getD_eq_getElem?_getD, List.getElem?_eraseIdx]
    split <;> rfl
  refine ⟨fun i hi => ?_, fun i j hij => ?_, fun i hi => ?_, fun i hi => ?_, fun k hk hr' => ?_⟩
  · split <;> omega
  · show (if i < n then i else i + 1) < (if j < n then j else j + 1)
    split <;> split <;> omega
  · unfold sg; rw [hg i (by omega)]
  · unfold tx; rw [hg i (by omega)]
  · by_cases e : k < n
    · exact ⟨k, by omega, by rw [if_pos e]⟩
    · by_cases e2 : k = n
      · subst e2; exact absurd hr' hr
      · exact ⟨k - 1, by omega, by rw [if_neg (by omega)]; omega⟩
/-- The places do not count. -/
structure SameSig (s t : Sig) : Prop where
  name : s.name = t.name
  role : s.role = t.role
  branch : s.branch = t.branch
  start : s.start = t.start
  size : s.size = t.size
  mot : s.mot = t.mot
  sgn : s.sgn = t.sgn
  rats : s.sn = t.sn ∧ s.sd = t.sd ∧ s.fn = t.fn ∧ s.fd = t.fd ∧ s.mn = t.mn ∧ s.md = t.md ∧ s.xn = t.xn ∧ s.xd = t.xd
  unit : s.unit = t.unit
theorem msgE_same {m m' : Msg} {ps qs : List SigT} (hl : qs.length = ps.length) (hh : headE m' = headE m) (hs : m'.size = m.size) (h : ∀ i, i < ps.length → SameSig (sg qs i) (sg ps i) ∧ tx qs i = tx ps i) : msgE m' qs = msgE m ps := by
  have a1 : ∀ i, i < ps.length → oneE qs m'.size i = oneE ps m.size i := by
    intro i hi
    obtain ⟨h1, h2⟩ := h i hi
    unfold oneE
    rw [h2, hs, alone_congr h1.name h1.role h1.branch h1.start h1.size h1.mot h1.rats h1.unit, h1.role, h1.name]
    have e1 : (∃ k, k < i ∧ (sg qs k).name = (sg ps i).name) ↔ (∃ k, k < i ∧ (sg ps k).name = (sg ps i).name) :=
      ⟨fun ⟨k, hk, e⟩ => ⟨k, hk, by rw [← (h k (by omega)).1.name]; exact e⟩, fun ⟨k, hk, e⟩ => ⟨k, hk, by rw [(h k (by omega)).1.name]; exact e⟩⟩
    have e2 : ((sg ps i).role = 1 ∧ ∃ k, k < i ∧ (sg qs k).role = 1) ↔ ((sg ps i).role = 1 ∧ ∃ k, k < i ∧ (sg ps k).role = 1) :=
      ⟨fun ⟨r, k, hk, e⟩ => ⟨r, k, hk, by rw [← (h k (by omega)).1.role]; exact e⟩, fun ⟨r, k, hk, e⟩ => ⟨r, k, hk, by rw [(h k (by omega)).1.role]; exact e⟩⟩
    simp only [e1, e2]
  have a2 : firstAt (isMux qs) qs.length = firstAt (isMux ps) ps.length := by
    rw [hl]
    exact firstAt_congr fun i hi => by unfold isMux; rw [(h i hi).1.role]
  have a3 : ∀ i, i < ps.length → (twoB qs i ↔ twoB ps i) := by
    intro i hi
    unfold twoB
    rw [a2, (h i hi).1.role, (h i hi).1.branch]
    constructor
    · rintro ⟨r, hx⟩
      exact ⟨r, fun k hk => by have := hx k hk; rw [(h k (of_some hk).1).1.size, (h k (of_some hk).1).1.sgn] at this; exact this⟩
    · rintro ⟨r, hx⟩
      exact ⟨r, fun k hk => by rw [(h k (of_some hk).1).1.size, (h k (of_some hk).1).1.sgn]; exact hx k hk⟩
  have a4 : ∀ i, i < ps.length → (meetB qs i ↔ meetB ps i) := by
    intro i hi
    have key : ∀ k, k < i → togB (sg qs k) (sg qs i) = togB (sg ps k) (sg ps i) ∧ (shareB (sg qs k) (sg qs i) ↔ shareB (sg ps k) (sg ps i)) := by
      intro k hk
      have hk' := (h k (by omega)).1
      have hi' := (h i hi).1
      unfold togB shareB
      rw [hk'.role, hi'.role, hk'.branch, hi'.branch, hk'.start, hk'.size, hk'.mot, hi'.start, hi'.size, hi'.mot]
      exact ⟨rfl, Iff.rfl⟩
    constructor
    · rintro ⟨k, hk, ht, hsh⟩
      exact ⟨k, hk, by rw [← (key k hk).1]; exact ht, (key k hk).2.1 hsh⟩
    · rintro ⟨k, hk, ht, hsh⟩
      exact ⟨k, hk, by rw [(key k hk).1]; exact ht, (key k hk).2.2 hsh⟩
  unfold msgE
  rw [hh, hl, firstAt_congr (fun i hi => by rw [a1 i hi] : ∀ i, i < ps.length → (oneE qs m'.size i ≠ 0 ↔ oneE ps m.size i ≠ 0)), firstAt_congr a3, firstAt_congr a4]
  split
  · rfl
  · rcases firstAt_spec (fun i => oneE ps m.size i ≠ 0) ps.length with ⟨e, _⟩ | ⟨k, e, hk, _⟩
    · rw [e]
      simp only [thenF]
    · rw [e]
      unfold thenF
      dsimp only
      rw [a1 k hk]
end Go.Proofs.YtjomihhpglojpaaDoor
end
section
/- A store of a struct into a part of a block; signals whose places are set. -/
namespace Go.Proofs.YtjomihhpglojpaaDoor
open Go.RowKit
section
variable {P : Program} {ops : Array Oper} {Q : Exit → Act → World → Prop} {a : Act} {w w' : World} {rest : List Oper} {N : Nat} {l : List (Nat × Value)}
theorem st_storePart (h : Fr N l a) {x y : Operand} {g o : Nat} {cs c : Array Value} {e t ty : TypeId} {pos : String} {af : Array Edge} {n : Nat} (hs : (P.info? t).map (·.size) = some n) (hn : cs.size = n) (hc : o + n ≤ c.size) (hg : w.heap[g]? = some (.cells c e (0, 0))) (hv : ∀ v ∈ cs, v.oneCell' = true)
    (hx : Ev l x (.pointer (some ⟨g, o, none⟩)) := by exact rfl) (hy : Ev l y (.agg cs) := by exact rfl)
    (k : ∀ a' w', w'.heap[g]? = some (.cells (c.toList.take o ++ cs.toList ++ c.toList.drop (o + n)).toArray e (0, 0)) → w.grownBy w' (some g) → w'.heap.size = w.heap.size → Fr N l a' → wpList P ops Q rest a' w') :
    wpList P ops Q (⟨none, .store t x y, ty, pos, af, none⟩ :: rest) a w := by
  subst hn
  have hr := run_storeCells_at (P := P) g o e cs.toList 0 c w hg (by simp; omega) (by simpa using hv)
  refine st0 h (w' := w.setRow g (c.toList.take (o + 0) ++ cs.toList ++ c.toList.drop (o + 0 + cs.toList.length)).toArray) ?_ rfl fun a' hF => k a' _ ?_ ?_ (by simp [World.setRow]) hF
  · intro ρ hρ d pos af gd
    obtain ⟨ti, h1, h2⟩ := Option.map_eq_some_iff.1 hs
    have hcs : (Value.agg cs).cells = cs := rfl
    simp [execOp, Instr.storeAt, Instr.sureAddr, storeVar, hρ _ _ hx, hρ _ _ hy, sizeOf, typeInfo, h1, h2, hcs, hr]
  · rw [setRow_heap w g c _ e _ hg]
    simp
  · exact ⟨rfl, rfl, rfl, by simp [World.setRow], fun k hk hne => setRow_other w g k _ (by intro e; exact hne (by rw [e]))⟩
/-- .. into a row of the call's own. -/
theorem st_storeRowPart (h : Fr N l a) {x y : Operand} {g o base m cap sz : Nat} {cs : Array Value} {e t ty : TypeId} {pos : String} {af : Array Edge} {n : Nat} {xs : List Value} (hs : (P.info? t).map (·.size) = some n) (hn : cs.size = n) (hc : o + n ≤ m * sz) (hown : w.ownsRow base e sz (.slice (some ⟨g, 0, none⟩) m cap) m xs) (hv : ∀ v ∈ cs, v.oneCell' = true)
    (hx : Ev l x (.pointer (some ⟨g, o, none⟩)) := by exact rfl) (hy : Ev l y (.agg cs) := by exact rfl)
    (k : ∀ a' w', w'.ownsRow base e sz (.slice (some ⟨g, 0, none⟩) m cap) m (xs.take o ++ cs.toList ++ xs.drop (o + n)) → w.grownBy w' (some g) → w'.heap.size = w.heap.size → Fr N l a' → wpList P ops Q rest a' w') :
    wpList P ops Q (⟨none, .store t x y, ty, pos, af, none⟩ :: rest) a w := by
  have hl : xs.length = m * sz := hown.1
  rcases hown.2 with ⟨h0, _⟩ | ⟨g', cap', cur, h0, hb, hg, hle, hm, hsz, htk⟩
  · cases h0
  · cases h0
    have hcur : m * sz ≤ cur.size := by
      have : xs.length ≤ cur.toList.length := by rw [← htk]; exact List.length_take_le' _ _
      simpa [hl] using this
    refine st_storePart h hs hn (by omega) hg hv hx hy fun a' w' hg' hgr hsz' hF => k a' w' ⟨?_, .inr ⟨_, _, _, rfl, hb, hg', hle, hm, ?_, ?_⟩⟩ hgr hsz' hF
    · simp only [List.length_append, List.length_take, List.length_drop, Array.length_toList, hl, hn]; omega
    · simp only [List.size_toArray, List.length_append, List.length_take, List.length_drop, Array.length_toList, hn]; omega
    · rw [← htk]
      simp only [List.take_append, List.length_take, List.length_append, Array.length_toList]
      rw [List.take_take, List.take_take, List.drop_take]
      have e1 : min (m * sz) o = o := by omega
      have e2 : List.take (m * sz - min o cur.size) cs.toList = cs.toList := List.take_of_length_le (by simp; omega)
      rw [e1, e2]
      congr 1
      · rw [Nat.min_eq_left (by omega : o ≤ m * sz)]
      · have e3 : min o cur.size = o := by omega
        rw [e3, hn]
end
theorem flat_part {α : Type} {enc : α → List Value} {sz : Nat} (he : ∀ x, (enc x).length = sz) {cs : List Value} {p q : Nat} : ∀ (xs : List α) (k : Nat) (hk : k < xs.length) (y : α), q ≤ sz → p ≤ q → enc y = (enc xs[k]).take p ++ cs ++ (enc xs[k]).drop q → (xs.flatMap enc).take (k * sz + p) ++ cs ++ (xs.flatMap enc).drop (k * sz + q) = (xs.set k y).flatMap enc
  | x :: xs, 0, _, y, hq, hp, hy => by
    have hx := he x
    simp only [List.flatMap_cons, List.set_cons_zero, Nat.zero_mul, Nat.zero_add]
    rw [List.take_append_of_le_length (by omega), List.drop_append_of_le_length (by omega), ← List.append_assoc]
    simp only [List.getElem_cons_zero] at hy
    rw [hy]
  | x :: xs, k + 1, hk, y, hq, hp, hy => by
    have hx := he x
    simp only [List.flatMap_cons, List.set_cons_succ]
    rw [← flat_part he xs k (by simpa using hk) y hq hp (by simpa using hy)]
    rw [show (k + 1) * sz + p = sz + (k * sz + p) by rw [Nat.add_mul]; omega, show (k + 1) * sz + q = sz + (k * sz + q) by rw [Nat.add_mul]; omega]
    rw [List.take_append, List.drop_append, hx]
    rw [List.take_of_length_le (l := enc x) (by omega), List.drop_of_length_le (l := enc x) (by omega)]
    simp [Nat.add_sub_cancel_left, List.append_assoc]
open Go.RowKit
set_option linter.unusedSimpArgs false
set_option linter.unusedVariables false
attribute [local irreducible] wpList wpQuiet wpStill Code.wp Exit.then Exit.inBlock bodyPost Calls Does Does0
def Sig.pl (s : Sig) (line col : Int) : Sig := { s with line := line, col := col }
theorem pl_cells (s : Sig) (line col : Int) : Sig.cells (s.pl line col) = (Sig.cells s).take 0 ++ [.int .i64 line, .int .i64 col] ++ (Sig.cells s).drop 2 := rfl
end Go.Proofs.YtjomihhpglojpaaDoor
end
section
/- Copied signals, as a list. -/
namespace Go.Proofs.YtjomihhpglojpaaDoor
open Go.RowKit
set_option linter.unusedSimpArgs false
set_option linter.unusedVariables false
attribute [local irreducible] wpList wpQuiet wpStill Code.wp Exit.then Exit.inBlock bodyPost Calls Does Does0
set_option maxRecDepth 100000
theorem msgE_idx {m : Msg} {ps : List SigT} {i : Nat} (h : (msgE m ps).2 = some i) : i < ps.length := by
  unfold msgE at h
  split at h
  · cases h
  · unfold thenF at h
    split at h
    · rename_i k hk
      cases h
      exact (of_some hk).1
    · split at h
      · rename_i k hk
        cases h
        exact (of_some hk).1
      · split at h
        · rename_i k hk
          cases h
          exact (of_some hk).1
        · cases h
/-- The signals with their texts, zipped. -/
def zipP (ls : List Sig) (ps : List SigT) : List SigT := ls.zip (ps.map (·.2))
theorem zipP_len {ls : List Sig} {ps : List SigT} (h : ls.length = ps.length) : (zipP ls ps).length = ps.length := by simp [zipP, h]
theorem zipP_sg {ls : List Sig} {ps : List SigT} (h : ls.length = ps.length) {i : Nat} (hi : i < ps.length) : sg (zipP ls ps) i = ls.getD i sigM := by
  rw [sg_lt (by rw [zipP_len h]; exact hi)]
  simp [zipP, List.getD, h, hi]
theorem zipP_tx {ls : List Sig} {ps : List SigT} (h : ls.length = ps.length) {i : Nat} (hi : i < ps.length) : tx (zipP ls ps) i = tx ps i := by
  rw [tx_lt (by rw [zipP_len h]; exact hi), tx_lt hi]
  simp [zipP]
theorem zipP_map {ls : List Sig} {ps : List SigT} (h : ls.length = ps.length) : (zipP ls ps).map (·.1) = ls := by
  unfold zipP
  exact List.map_fst_zip (by simp [h])
/-- A row of signals of the call's own, each with its texts, is a list of signals. -/
theorem sigs_in {w : World} {base : Nat} {ao : Option Addr} {cap : Nat} {ls : List Sig} {ps : List SigT} (hl : ls.length = ps.length) (hown : w.ownsRow base 38 19 (.slice ao ps.length cap) ps.length (ls.flatMap Sig.cells))
    (ht : ∀ i, i < ps.length → SigIn w (ls.getD i sigM) (tx ps i)) (hby : ps.length * 176 ≤ 140737488351232) : SigsIn w ao ps.length cap (zipP ls ps) := by
  refine ⟨zipP_len hl, ?_, fun p hp => ?_, (own_cap' hown).1, hby⟩
  · rw [zipP_map hl]
    rcases Nat.eq_zero_or_pos ps.length with h0 | h0
    · intro i hi; omega
    · obtain ⟨g, rfl, _⟩ := own_some hown h0
      exact own_rdS sigc_len hown hl
  · obtain ⟨i, hi, rfl⟩ := List.getElem_of_mem hp
    have hi' : i < ps.length := by rw [zipP_len hl] at hi; exact hi
    have h1 := zipP_sg hl hi'
    have h2 := zipP_tx hl hi'
    rw [sg_lt hi] at h1
    rw [tx_lt hi] at h2
    rw [h1, h2]
    exact ht i hi'
/-- A copied signal. -/
theorem copy_sig {base : Nat} {w : World} {ps : List SigT} {ls : List Sig} {i : Nat} (hi : i < ps.length) (h : CopyOk base w ps ls i) (hs : SigIn w (sg ps i) (tx ps i)) : ∃ ao c, ls.getD i sigM = (sg ps i).cp ao c ∧ CopyT base w ao (sg ps i).toN c (tx ps i) ∧ SigIn w ((sg ps i).cp ao c) (tx ps i) := by
  obtain ⟨p, ao, c, h1, h2, h3⟩ := h
  have e : ps[i] = p := by rw [List.getElem?_eq_getElem hi] at h1; exact Option.some.inj h1
  rw [sg_lt hi, tx_lt hi] at *
  subst e
  have e2 := own_rd h3
  exact ⟨ao, c, by simp [List.getD, h2], h3, ⟨hs.len, e2.2, (own_cap' h3).1, hs.bytes⟩⟩
theorem sigB_cp {s : Sig} (h : SigB s) (ao : Option Addr) (c : Nat) : SigB (s.cp ao c) := ⟨h.sn, h.sd, h.fn, h.fd, h.mn, h.md, h.xn, h.xd, h.br⟩
theorem sigB_pl {s : Sig} (h : SigB s) (x y : Int) : SigB (s.pl x y) := ⟨h.sn, h.sd, h.fn, h.fd, h.mn, h.md, h.xn, h.xd, h.br⟩
theorem sigIn_pl {w : World} {s : Sig} {ss : List ByteArray} (h : SigIn w s ss) (x y : Int) : SigIn w (s.pl x y) ss := ⟨h.len, h.rd, h.cap, h.bytes⟩
theorem same_cp (s : Sig) (ao : Option Addr) (c : Nat) : SameSig (s.cp ao c) s := ⟨rfl, rfl, rfl, rfl, rfl, rfl, rfl, ⟨rfl, rfl, rfl, rfl, rfl, rfl, rfl, rfl⟩, rfl⟩
theorem same_pl (s : Sig) (ao : Option Addr) (c : Nat) (x y : Int) : SameSig ((s.cp ao c).pl x y) s := ⟨rfl, rfl, rfl, rfl, rfl, rfl, rfl, ⟨rfl, rfl, rfl, rfl, rfl, rfl, rfl, rfl⟩, rfl⟩
end Go.Proofs.YtjomihhpglojpaaDoor
end
section
/- Slices of structs: what a part reads as, and 'append(s, x...)'. Plain lemmas over any program. -/
namespace Go.Proofs.YtjomihhpglojpaaDoor
open Go.RowKit
section
variable {P : Program} {ops : Array Oper} {Q : Exit → Act → World → Prop} {a : Act} {w w' : World} {rest : List Oper} {N : Nat} {l : List (Nat × Value)}
theorem RdS.drop {α : Type} {w : World} {ao : Option Addr} {sz : Nat} {enc : α → List Value} {xs : List α} (h : RdS w ao sz enc xs) (i m : Nat) (hm : xs.length ≤ m) : RdS w (if m = i then ao else ao.map (·.add (i * sz))) sz enc (xs.drop i) := by
  intro j hj
  rw [List.length_drop] at hj
  obtain ⟨b, o, rfl, hc⟩ := h (i + j) (by omega)
  rw [if_neg (by omega)]
  refine ⟨b, o + i * sz, by simp [addr_add], fun q v hq => ?_⟩
  rw [List.getElem_drop] at hq
  have := hc q v hq
  rwa [Nat.add_mul, ← Nat.add_assoc] at this
theorem RdS.take {α : Type} {w : World} {ao : Option Addr} {sz : Nat} {enc : α → List Value} {xs : List α} (h : RdS w ao sz enc xs) (n : Nat) : RdS w ao sz enc (xs.take n) := by
  intro j hj
  rw [List.length_take] at hj
  obtain ⟨b, o, e, hc⟩ := h j (by omega)
  exact ⟨b, o, e, fun q v hq => hc q v (by rw [List.getElem_take] at hq; exact hq)⟩
theorem own_pre {w : World} {base : Nat} {e : TypeId} {s n cap : Nat} {ao : Option Addr} {xs : List Value} (h : w.ownsRow base e s (.slice ao n cap) n xs) {m : Nat} (hm : m ≤ n) : w.ownsRow base e s (.slice ao m cap) m (xs.take (m * s)) := by
  have hl : xs.length = n * s := h.1
  have hms : m * s ≤ n * s := Nat.mul_le_mul_right _ hm
  refine ⟨by rw [List.length_take]; omega, ?_⟩
  rcases h.2 with ⟨h0, h1⟩ | ⟨g, cap', cur, h0, hb, hg, hle, hx, hsz, htk⟩
  · cases h0
    exact .inl ⟨by rw [show m = 0 by omega], by omega⟩
  · cases h0
    refine .inr ⟨_, _, cur, rfl, hb, hg, by omega, hx, hsz, ?_⟩
    rw [← htk, List.take_take, Nat.min_eq_left hms]
theorem flat_len {α : Type} {enc : α → List Value} {sz : Nat} (he : ∀ x, (enc x).length = sz) : ∀ xs : List α, (xs.flatMap enc).length = xs.length * sz
  | [] => by simp
  | x :: xs => by simp [he, flat_len he xs, Nat.add_mul, Nat.add_comm]
theorem flat_take {α : Type} {enc : α → List Value} {sz : Nat} (he : ∀ x, (enc x).length = sz) : ∀ (xs : List α) (n : Nat), (xs.flatMap enc).take (n * sz) = (xs.take n).flatMap enc
  | [], n => by simp
  | x :: xs, 0 => by simp
  | x :: xs, n + 1 => by
    have hx := he x
    rw [List.flatMap_cons, List.take_succ_cons, List.flatMap_cons, ← flat_take he xs n, List.take_append, hx]
    rw [List.take_of_length_le (by rw [hx, Nat.add_mul]; omega)]
    congr 2
    rw [Nat.add_mul]; omega
theorem st_appendS (h : Fr N l a) {α : Type} {enc : α → List Value} {ys : List α} {bo : Option Addr} {m c' sz : Nat} {d : Nat} {s x : Operand} {z : Value} {t e ty : TypeId} {pos : String} {af : Array Edge} {bytes n base cap : Nat} {ao : Option Addr} {xs : List Value}
    (he : ∀ x, (enc x).length = sz) (h0 : 0 < sz) (hU : P.underlying t = some (.slice e)) (hi : (P.info? e).map (fun i => (i.zero, i.size, i.bytes)) = some (some z, sz, bytes)) (hz : z.cells.size = sz)
    (hown : w.ownsRow base e sz (.slice ao n cap) n xs) (hys : ys.length = m) (hR : RdS w bo sz enc ys) (h1 : ∀ y, ∀ v ∈ enc y, v.oneCell' = true) (hbd : (n + m) * bytes ≤ 140737488355328) (hm : n + m ≤ maxLen) (hbase : base ≤ w.heap.size)
    (hs : Ev l s (.slice ao n cap) := by exact rfl) (hx : Ev l x (.slice bo m c') := by exact rfl) (hd : Nat.blt d N = true := by exact rfl)
    (k : ∀ a' ao' cap' w', w'.ownsRow base e sz (.slice ao' (n + m) cap') (n + m) (xs ++ ys.flatMap enc) → w.grownBy w' (Value.slice ao n cap).ownBlock → Fr N ((d, .slice ao' (n + m) cap') :: l) a' → wpList P ops Q rest a' w') :
    wpList P ops Q (⟨some d, .call { callee := .builtin .append, args := [s, x].toArray, argTypes := [t, t].toArray }, ty, pos, af, none⟩ :: rest) a w := by
  obtain ⟨i, g1, g2, g3, g4⟩ := info_parts hi
  by_cases hy0 : ys = []
  · subst hy0
    obtain rfl : m = 0 := by simpa using hys.symm
    obtain ⟨hle, _⟩ := own_cap' hown
    have hsrc : Src P i.size t (.slice bo 0 c') 0 [] w := by
      cases bo with
      | none => exact Src.ofNil w hU c'
      | some ad => exact Src.ofSlice w hU ad 0 c' [] (by simp) (by simp) (by simp)
    have hr := run_append_nothing (P := P) w t t ty e i hU g1 ao n cap hle _ hsrc
    refine st h (v := .slice ao n cap) (w' := w) ?_ hd fun a' hF => k a' ao cap w (by simpa using hown) (World.grownBy.refl w _) hF
    intro ρ hρ d pos af g
    simp [execOp, resolve, invoke, builtin, hρ _ _ hs, hρ _ _ hx, hr]
  · obtain ⟨b, o, rfl, _⟩ := hR 0 (by cases ys with | nil => exact absurd rfl hy0 | cons _ _ => simp)
    refine wpList_append_own_at _ rfl s x t rfl base e i z sz bytes hU g1 g2 g3 g4 hz h0 (.slice ao n cap) n xs (h.eval _ _ hs) hown
      ⟨b, o, none⟩ m c' (ys.flatMap enc) (h.eval _ _ hx) (by rw [flat_len he, hys]) ?_ ?_ hm hbd hbase ?_
    · intro j v hj
      have hjl : j < ys.length * sz := by
        have := (List.getElem?_eq_some_iff.1 hj).1
        rw [flat_len he] at this; exact this
      have hq : j % sz < sz := Nat.mod_lt _ h0
      have hi' : j / sz < ys.length := Nat.div_lt_of_lt_mul (by rw [Nat.mul_comm]; exact hjl)
      obtain ⟨b2, o2, e2, hc⟩ := hR (j / sz) hi'
      cases e2
      have e3 := flat_get he ys (j / sz) hi' (j % sz) hq
      have e4 : j / sz * sz + j % sz = j := by rw [Nat.mul_comm]; exact Nat.div_add_mod j sz
      rw [e4, hj] at e3
      have := hc (j % sz) v e3.symm
      rw [Nat.add_assoc, e4] at this
      rw [addr_add]; exact this
    · intro v hv
      obtain ⟨y, _, hv⟩ := List.mem_flatMap.1 hv
      exact h1 y v hv
    · intro v' w' hown' hgr hnil hat
      obtain ⟨ao', cap', rfl, _, _⟩ := own_form hown'
      exact k _ ao' cap' w' hown' hgr (h.put hd _)
end
end Go.Proofs.YtjomihhpglojpaaDoor
end
section
/- A region that draws its order, walked along a tree: reads (taken first), sole operations, and two that may come up in either order. Plain lemmas over any program. -/
namespace Go.Proofs.YtjomihhpglojpaaDoor
open Go.RowKit
inductive Tr where
  | done
  | read (i : Nat) (k : Tr)
  | sole (t : Nat) (k : Tr)
  | two (t u : Nat) (kt ku : Tr)
section
variable {P : Program} {md : Region.Mode} {Q : Exit → Act → World → Prop} {S : World → Prop}
def treeL (md : Region.Mode) (ops : Array Oper) : Nat → Tr → Array Bool → Bool
  | 0, .done, listed => (Region.ready md ops listed).isEmpty
  | n + 1, .read i k, listed => (Region.ready md ops listed).contains i && Region.free md ops listed i && treeL md ops n k (listed.setIfInBounds i true)
  | n + 1, .sole t k, listed => decide (Region.ready md ops listed = [t]) && treeL md ops n k (listed.setIfInBounds t true)
  | n + 1, .two t u kt ku, listed => (decide (Region.ready md ops listed = [t, u]) || decide (Region.ready md ops listed = [u, t])) && treeL md ops n kt (listed.setIfInBounds t true) && treeL md ops n ku (listed.setIfInBounds u true)
  | _, _, _ => false
def treeB (md : Region.Mode) (ops : Array Oper) (t : Tr) : Bool := Region.noSelect ops && treeL md ops ops.size t (Array.replicate ops.size false)
def wpTree (P : Program) (ops : Array Oper) (Q : Exit → Act → World → Prop) (S : World → Prop) (l : List Oper) : Tr → Act → World → Prop
  | .done, a, w => Q .normal a w
  | .read i k, a, w => ∀ o, l[i]? = some o → ∃ v, YieldsIf P ops S o v a ∧ wpTree P ops Q S l k (a.put o.dst v) w
  | .sole t k, a, w => ∀ o, l[t]? = some o → wpList P ops (fun e a' w' => e = .normal ∧ S w' ∧ wpTree P ops Q S l k a' w') [o] a w
  | .two t u kt ku, a, w => (∀ o, l[t]? = some o → wpList P ops (fun e a' w' => e = .normal ∧ S w' ∧ wpTree P ops Q S l kt a' w') [o] a w) ∧ (∀ o, l[u]? = some o → wpList P ops (fun e a' w' => e = .normal ∧ S w' ∧ wpTree P ops Q S l ku a' w') [o] a w)
theorem op_list {l : List Oper} {i : Nat} {o : Oper} {R : Act → World → Prop} {a : Act} {w : World} (ho : l.toArray[i]? = some o) (h : wpList P l.toArray (fun e a' w' => e = .normal ∧ S w' ∧ R a' w') [o] a w) :
    wpOp P l.toArray (fun e a w => e = .normal ∧ Q .normal a w) i (fun a' w' => S w' ∧ R a' w') a w := by
  simp only [wpList] at h
  unfold wpOp
  simp only [ho]
  split
  · rename_i hw
    rw [if_pos hw] at h
    rcases h with h | ⟨_, x, y, h, _⟩
    · refine .inl (oper_wp_monoQ (Q' := fun e a' w' => e = .normal ∧ S w' ∧ R a' w') (fun e a' w' hn h' => absurd h'.1 hn) (Oper.wp_mono ?_ h))
      rintro a' w' ⟨_, h1, h2⟩
      exact ⟨h1, h2⟩
    · cases h
  · rename_i hw
    rw [if_neg hw] at h
    exact h.2
theorem wpAnyH_tree {l : List Oper} (Q : Exit → Act → World → Prop) (hs : Region.noSelect l.toArray = true) : ∀ (n : Nat) (t : Tr) (listed : Array Bool) (a : Act) (w : World), treeL md l.toArray n t listed = true → S w →
    wpTree P l.toArray Q S l t a w → wpAnyH P md l.toArray (fun e a w => e = .normal ∧ Q .normal a w) S n listed a w
  | 0, .done, listed, a, w, hB, hS, h => ⟨by simpa [treeL] using hB, rfl, by simpa [wpTree] using h⟩
  | n + 1, .read i k, listed, a, w, hB, hS, h => by
    simp only [treeL, Bool.and_eq_true] at hB
    obtain ⟨⟨hr, hf⟩, hB'⟩ := hB
    obtain ⟨o, ho⟩ := mem_ready_lt (by simpa using hr : i ∈ Region.ready md l.toArray listed)
    obtain ⟨v, hy, hk⟩ := h o (by simpa using ho)
    exact wpAnyH_take ho hs hf hr (fun c a w h => by cases h.1) hy hS (wpAnyH_tree Q hs n k _ _ w hB' hS hk)
  | n + 1, .sole t k, listed, a, w, hB, hS, h => by
    simp only [treeL, Bool.and_eq_true, decide_eq_true_eq] at hB
    refine ⟨fun h1 => (by rw [hB.1] at h1; cases h1), fun i hi => ?_⟩
    obtain ⟨o, ho⟩ := mem_ready_lt hi
    rw [hB.1] at hi
    obtain rfl : i = t := by simpa using hi
    refine wpOp_mono ?_ (op_list (R := fun a' w' => wpTree P l.toArray Q S l k a' w') ho (h o (by simpa using ho)))
    rintro a' w' ⟨h3, h4⟩
    exact ⟨h3, wpAnyH_tree Q hs n k _ a' w' hB.2 h3 h4⟩
  | n + 1, .two t u kt ku, listed, a, w, hB, hS, h => by
    simp only [treeL, Bool.and_eq_true, Bool.or_eq_true, decide_eq_true_eq] at hB
    obtain ⟨⟨hr, hB1⟩, hB2⟩ := hB
    have hmem : ∀ i, i ∈ Region.ready md l.toArray listed → i = t ∨ i = u := fun i hi => by
      rcases hr with e | e <;> rw [e] at hi <;> simp at hi <;> omega
    refine ⟨fun h1 => (by rcases hr with e | e <;> (rw [e] at h1; cases h1)), fun i hi => ?_⟩
    obtain ⟨o, ho⟩ := mem_ready_lt hi
    rcases hmem i hi with rfl | rfl
    · refine wpOp_mono ?_ (op_list (R := fun a' w' => wpTree P l.toArray Q S l kt a' w') ho (h.1 o (by simpa using ho)))
      rintro a' w' ⟨h3, h4⟩
      exact ⟨h3, wpAnyH_tree Q hs n kt _ a' w' hB1 h3 h4⟩
    · refine wpOp_mono ?_ (op_list (R := fun a' w' => wpTree P l.toArray Q S l ku a' w') ho (h.2 o (by simpa using ho)))
      rintro a' w' ⟨h3, h4⟩
      exact ⟨h3, wpAnyH_tree Q hs n ku _ a' w' hB2 h3 h4⟩
  | 0, .read _ _, _, _, _, hB, _, _ => by cases hB
  | 0, .sole _ _, _, _, _, hB, _, _ => by cases hB
  | 0, .two _ _ _ _, _, _, _, hB, _, _ => by cases hB
  | _ + 1, .done, _, _, _, hB, _, _ => by cases hB
theorem c_region_tree (S : World → Prop) (t : Tr) (id : Nat) {l' : List Oper} {a : Act} {w : World} (hm : P.follows .mixedOrders = true) (hB : treeB .any l'.toArray t = true) (hS : S (w.drewN 1))
    (h : wpTree P l'.toArray Q S l' t a (w.drewN 1)) : (Code.region id l'.toArray true).wp P Q a w := by
  simp only [treeB, Bool.and_eq_true] at hB
  have := wpAnyH_tree (md := .any) (S := S) Q hB.1 _ t _ a _ hB.2 hS h
  refine wp_region_any hm (wpAny_monoQ ?_ _ _ _ _ (wpAny_of_held _ _ _ _ this))
  rintro e a w ⟨rfl, h⟩
  exact h
variable {ops : Array Oper} {a : Act} {w : World} {N : Nat} {l : List (Nat × Value)} {L : List Oper} {i : Nat} {k : Tr}
theorem r_done (h : Q .normal a w) : wpTree P ops Q S L .done a w := h
theorem r_read (h : Fr N l a) {d : Nat} {op : Op} {ty : TypeId} {pos : String} {af : Array Edge} {v : Value} (ho : L[i]? = some ⟨some d, op, ty, pos, af, none⟩) (hr : ∀ w, S w → Does P l w op ty v w) (hd : Nat.blt d N = true := by exact rfl)
    (k' : ∀ a', Fr N ((d, v) :: l) a' → wpTree P ops Q S L k a' w) : wpTree P ops Q S L (.read i k) a w := by
  intro o ho'
  rw [ho] at ho'
  cases ho'
  exact ⟨v, .inl ⟨by simp [Region.wanted], fun w hw => hr w hw a.eval h.eval _ _ _ _⟩, k' _ (h.put hd v)⟩
theorem r_sole {o : Oper} (ho : L[i]? = some o) (h : wpList P ops (fun e a' w' => e = .normal ∧ S w' ∧ wpTree P ops Q S L k a' w') [o] a w) : wpTree P ops Q S L (.sole i k) a w := by
  intro o' ho'
  rw [ho] at ho'
  cases ho'
  exact h
theorem r_two {t u : Nat} {kt ku : Tr} {o o2 : Oper} (ho : L[t]? = some o) (ho2 : L[u]? = some o2) (h : wpList P ops (fun e a' w' => e = .normal ∧ S w' ∧ wpTree P ops Q S L kt a' w') [o] a w) (h2 : wpList P ops (fun e a' w' => e = .normal ∧ S w' ∧ wpTree P ops Q S L ku a' w') [o2] a w) : wpTree P ops Q S L (.two t u kt ku) a w := by
  refine ⟨fun o' ho' => ?_, fun o' ho' => ?_⟩
  · rw [ho] at ho'; cases ho'; exact h
  · rw [ho2] at ho'; cases ho'; exact h2
end
end Go.Proofs.YtjomihhpglojpaaDoor
end
section
/- Pick: a number below n out of any. -/
namespace Go.Proofs.YtjomihhpglojpaaDoor
open Go.RowKit
set_option linter.unusedSimpArgs false
set_option linter.unusedVariables false
attribute [local irreducible] wpList wpQuiet wpStill Code.wp Exit.then Exit.inBlock bodyPost Calls Does Does0

set_option maxHeartbeats 2000000 in
theorem pick_ok (w : World) (k n : Int) (h1 : 1 ≤ n) (h2 : n ≤ 4611686018427387904) :
    Ret Tryd.prog 11 #[.int .i64 k, .int .i64 n] w (fun v w' => v = .int .i64 (k % n) ∧ w' = w) := by
  have b0 := Int.emod_nonneg k (show n ≠ 0 by omega)
  have b1 := Int.emod_lt_of_pos k (show 0 < n by omega)
  by_cases hk : 0 ≤ k
  · refine enter2 Tryd.func11 rfl 14 rfl 16 rfl (fun a hF => ?_)
    repeat (first | refine c_seq ?_ | refine c_block ?_ | refine c_region _ ?_ | refine wpList_nil ?_ | refine c_then ?_ | refine c_then_exit ?_ | refine c_then_ret ?_ | refine c_in ?_ | refine c_in_ret ?_ | refine c_in_hit ?_ | refine wp_skip ?_ | refine wp_exit ?_ | refine wp_ret ?_ | refine c_in_miss rfl ?_ | ((first | apply st hF | apply stg hF | apply s_step hF | apply s_stg hF); (first | exact d_move | exact d_assign | exact d_add | exact d_rem | exact d_cmpT | exact d_cmpF | exact d_cmp); clear hF; clear a; intro a hF) | ((first | apply stm hF | apply stu hF); clear hF; clear a; intro a hF) | (apply c_cond_t hF; exact rfl; first | exact rfl | assumption) | (apply c_cond_f hF; exact rfl; first | exact rfl | assumption) | refine s_nil ?_)
    exact ret1 hF rfl rfl ⟨rfl, rfl⟩
  · have e1 : k.tmod n = -((-k) % n) := by
      rw [← Int.tmod_eq_emod_of_nonneg (by omega), Int.neg_tmod]; simp
    have c0 := Int.emod_nonneg (-k) (show n ≠ 0 by omega)
    have c1 := Int.emod_lt_of_pos (-k) (show 0 < n by omega)
    have c2 := Int.emod_add_mul_ediv (-k) n
    by_cases hr : (-k) % n = 0
    · have e2 : k % n = k.tmod n := emod_unique (q := -((-k) / n)) (by omega) (by omega) (by rw [Int.mul_neg]; omega)
      have e3 : k.tmod n = 0 := by omega
      clear b0 b1 c2
      refine enter2 Tryd.func11 rfl 14 rfl 16 rfl (fun a hF => ?_)
      repeat (first | refine c_seq ?_ | refine c_block ?_ | refine c_region _ ?_ | refine wpList_nil ?_ | refine c_then ?_ | refine c_then_exit ?_ | refine c_then_ret ?_ | refine c_in ?_ | refine c_in_ret ?_ | refine c_in_hit ?_ | refine wp_skip ?_ | refine wp_exit ?_ | refine wp_ret ?_ | refine c_in_miss rfl ?_ | ((first | apply st hF | apply stg hF | apply s_step hF | apply s_stg hF); (first | exact d_move | exact d_assign | exact d_add | exact d_rem | exact d_cmpT | exact d_cmpF | exact d_cmp | exact d_remt (h := by omega)); clear hF; clear a; intro a hF) | ((first | apply stm hF | apply stu hF); clear hF; clear a; intro a hF) | (apply c_cond_t hF; exact rfl; first | exact rfl | assumption) | (apply c_cond_f hF; exact rfl; first | exact rfl | assumption) | refine s_nil ?_)
      exact ret1 hF rfl rfl ⟨by rw [e2], rfl⟩
    · have e2 : k % n = k.tmod n + n := emod_unique (q := -((-k) / n) - 1) (by omega) (by omega) (by rw [Int.mul_sub, Int.mul_neg]; omega)
      have e3 : k.tmod n < 0 ∧ -4611686018427387904 < k.tmod n := by omega
      clear b0 b1 c2
      refine enter2 Tryd.func11 rfl 14 rfl 16 rfl (fun a hF => ?_)
      repeat (first | refine c_seq ?_ | refine c_block ?_ | refine c_region _ ?_ | refine wpList_nil ?_ | refine c_then ?_ | refine c_then_exit ?_ | refine c_then_ret ?_ | refine c_in ?_ | refine c_in_ret ?_ | refine c_in_hit ?_ | refine wp_skip ?_ | refine wp_exit ?_ | refine wp_ret ?_ | refine c_in_miss rfl ?_ | ((first | apply st hF | apply stg hF | apply s_step hF | apply s_stg hF); (first | exact d_move | exact d_assign | exact d_add | exact d_rem | exact d_cmpT | exact d_cmpF | exact d_cmp | exact d_remt (h := by omega)); clear hF; clear a; intro a hF) | ((first | apply stm hF | apply stu hF); clear hF; clear a; intro a hF) | (apply c_cond_t hF; exact rfl; first | exact rfl | assumption) | (apply c_cond_f hF; exact rfl; first | exact rfl | assumption) | refine s_nil ?_)
      exact ret1 hF rfl rfl ⟨by rw [e2], rfl⟩
end Go.Proofs.YtjomihhpglojpaaDoor
end
