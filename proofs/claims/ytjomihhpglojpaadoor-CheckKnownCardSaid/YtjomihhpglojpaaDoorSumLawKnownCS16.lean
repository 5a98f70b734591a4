/- Laid together by a program of mine: LessL FewL KnV RCtl UncL UnitsW RMay PermA Cut RefC RefS RefA AloneW TolW SigL ZipS. -/
import Derived.Test.YtjomihhpglojpaaDoorSumLawKnownCS9
import Derived.Test.YtjomihhpglojpaaDoorSumLawKnownCS15
import Derived.Test.YtjomihhpglojpaaDoorSumLawKnownCS12
import Derived.Test.YtjomihhpglojpaaDoorSumLawKnownCS13
import Derived.Test.YtjomihhpglojpaaDoorSumLawKnownCS6
import Derived.Test.YtjomihhpglojpaaDoorSumLawKnownCS3
import Derived.Test.YtjomihhpglojpaaDoorSumLawKnownCS2
import Derived.Test.YtjomihhpglojpaaDoorSumLawKnownCS4
import Derived.Test.YtjomihhpglojpaaDoorSumLawKnownCS7
import Derived.Laws.IdiomStrings
import Derived.Laws.Cover3
import Derived.Laws.Concat
import Derived.Test.YtjomihhpglojpaaDoorSumLawKnownCS8
import Derived.Test.YtjomihhpglojpaaDoorSumLawKnownCS11
set_option linter.unusedSimpArgs false
set_option linter.unusedVariables false
section
/- What may be, may be without some of its signals that are no multiplexor; places do not count. Plain. -/
namespace Go.Proofs.YtjomihhpglojpaaDoor
open Go.RowKit
set_option linter.unusedSimpArgs false
set_option linter.unusedVariables false
attribute [local irreducible] wpList wpQuiet wpStill Code.wp Exit.then Exit.inBlock bodyPost Calls Does Does0
set_option maxRecDepth 100000
theorem alone_congr {s t : Sig} {ss : List ByteArray} {n : Int} (h1 : s.name = t.name) (h2 : s.role = t.role) (h3 : s.branch = t.branch) (h4 : s.start = t.start) (h5 : s.size = t.size) (h6 : s.mot = t.mot)
    (h7 : s.sn = t.sn ∧ s.sd = t.sd ∧ s.fn = t.fn ∧ s.fd = t.fd ∧ s.mn = t.mn ∧ s.md = t.md ∧ s.xn = t.xn ∧ s.xd = t.xd) (h8 : s.unit = t.unit) : aloneE s ss n = aloneE t ss n := by
  obtain ⟨a1, a2, a3, a4, a5, a6, a7, a8⟩ := h7
  have hr : roleB s ↔ roleB t := by unfold roleB; rw [h2, h3]
  have hR : rangedE s = rangedE t := by
    unfold rangedE
    simp only [a1, a2, a3, a4, a5, a6, a7, a8]
  unfold aloneE
  simp only [h1, h4, h5, h6, h8, hR, hr]
/-- The places do not count. -/
structure SameSig (s t : Sig) : Prop where
  name : s.name = t.name
  role : s.role = t.role
  branch : s.branch = t.branch
  start : s.start = t.start
  size : s.size = t.size
  mot : s.mot = t.mot
  sgn : s.sgn = t.sgn
  rats : s.sn = t.sn ∧ s.sd = t.sd ∧ s.fn = t.fn ∧ s.fd = t.fd ∧ s.mn = t.mn ∧ s.md = t.md ∧ s.xn = t.xn ∧ s.xd = t.xd
  unit : s.unit = t.unit
theorem msgE_same {m m' : Msg} {ps qs : List SigT} (hl : qs.length = ps.length) (hh : headE m' = headE m) (hs : m'.size = m.size) (h : ∀ i, i < ps.length → SameSig (sg qs i) (sg ps i) ∧ tx qs i = tx ps i) : msgE m' qs = msgE m ps := by
  have a1 : ∀ i, i < ps.length → oneE qs m'.size i = oneE ps m.size i := by
    intro i hi
    obtain ⟨h1, h2⟩ := h i hi
    unfold oneE
    rw [h2, hs, alone_congr h1.name h1.role h1.branch h1.start h1.size h1.mot h1.rats h1.unit, h1.role, h1.name]
    have e1 : (∃ k, k < i ∧ (sg qs k).name = (sg ps i).name) ↔ (∃ k, k < i ∧ (sg ps k).name = (sg ps i).name) :=
      ⟨fun ⟨k, hk, e⟩ => ⟨k, hk, by rw [← (h k (by omega)).1.name]; exact e⟩, fun ⟨k, hk, e⟩ => ⟨k, hk, by rw [(h k (by omega)).1.name]; exact e⟩⟩
    have e2 : ((sg ps i).role = 1 ∧ ∃ k, k < i ∧ (sg qs k).role = 1) ↔ ((sg ps i).role = 1 ∧ ∃ k, k < i ∧ (sg ps k).role = 1) :=
      ⟨fun ⟨r, k, hk, e⟩ => ⟨r, k, hk, by rw [← (h k (by omega)).1.role]; exact e⟩, fun ⟨r, k, hk, e⟩ => ⟨r, k, hk, by rw [(h k (by omega)).1.role]; exact e⟩⟩
    simp only [e1, e2]
  have a2 : firstAt (isMux qs) qs.length = firstAt (isMux ps) ps.length := by
    rw [hl]
    exact firstAt_congr fun i hi => by unfold isMux; rw [(h i hi).1.role]
  have a3 : ∀ i, i < ps.length → (twoB qs i ↔ twoB ps i) := by
    intro i hi
    unfold twoB
    rw [a2, (h i hi).1.role, (h i hi).1.branch]
    constructor
    · rintro ⟨r, hx⟩
      exact ⟨r, fun k hk => by have := hx k hk; rw [(h k (of_some hk).1).1.size, (h k (of_some hk).1).1.sgn] at this; exact this⟩
    · rintro ⟨r, hx⟩
      exact ⟨r, fun k hk => by rw [(h k (of_some hk).1).1.size, (h k (of_some hk).1).1.sgn]; exact hx k hk⟩
  have a4 : ∀ i, i < ps.length → (meetB qs i ↔ meetB ps i) := by
    intro i hi
    have key : ∀ k, k < i → togB (sg qs k) (sg qs i) = togB (sg ps k) (sg ps i) ∧ (shareB (sg qs k) (sg qs i) ↔ shareB (sg ps k) (sg ps i)) := by
      intro k hk
      have hk' := (h k (by omega)).1
      have hi' := (h i hi).1
      unfold togB shareB
      rw [hk'.role, hi'.role, hk'.branch, hi'.branch, hk'.start, hk'.size, hk'.mot, hi'.start, hi'.size, hi'.mot]
      exact ⟨rfl, Iff.rfl⟩
    constructor
    · rintro ⟨k, hk, ht, hsh⟩
      exact ⟨k, hk, by rw [← (key k hk).1]; exact ht, (key k hk).2.1 hsh⟩
    · rintro ⟨k, hk, ht, hsh⟩
      exact ⟨k, hk, by rw [(key k hk).1]; exact ht, (key k hk).2.2 hsh⟩
  unfold msgE
  rw [hh, hl, firstAt_congr (fun i hi => by rw [a1 i hi] : ∀ i, i < ps.length → (oneE qs m'.size i ≠ 0 ↔ oneE ps m.size i ≠ 0)), firstAt_congr a3, firstAt_congr a4]
  split
  · rfl
  · rcases firstAt_spec (fun i => oneE ps m.size i ≠ 0) ps.length with ⟨e, _⟩ | ⟨k, e, hk, _⟩
    · rw [e]
      simp only [thenF]
    · rw [e]
      unfold thenF
      dsimp only
      rw [a1 k hk]
end Go.Proofs.YtjomihhpglojpaaDoor
end
section
/- What may be, may be with fewer messages and tables. Plain. -/
namespace Go.Proofs.YtjomihhpglojpaaDoor
open Go.RowKit
set_option linter.unusedSimpArgs false
set_option linter.unusedVariables false
attribute [local irreducible] wpList wpQuiet wpStill Code.wp Exit.then Exit.inBlock bodyPost Calls Does Does0
set_option maxRecDepth 100000
structure DbGood (d : Db) (ss : List ByteArray) (ms : List MsgT) (ts : List TabT) : Prop where
  ver : ¬ (d.hasV = true ∧ textE d.vtext ≠ 0)
  few : ss.length ≤ 64
  sta : ∀ i, i < ss.length → staE ss i = 0
  mfew : ms.length ≤ 512
  msg : ∀ i, i < ms.length → (dmE ss ms i).1 = 0
  tab : ∀ i, i < ts.length → dtE ms ts i = 0
theorem dbE_good {d : Db} {ss : List ByteArray} {ms : List MsgT} {ts : List TabT} (h : DbGood d ss ms ts) : dbE d ss ms ts = okE := by
  unfold dbE
  rw [if_neg h.ver, if_neg (by have := h.few; omega), firstAt_none (fun i hi e => e (h.sta i hi)), if_neg (by have := h.mfew; omega), firstAt_none (fun i hi e => e (h.msg i hi)), firstAt_none (fun i hi e => e (h.tab i hi))]
  rfl
theorem dbE_zero {d : Db} {ss : List ByteArray} {ms : List MsgT} {ts : List TabT} (h : (dbE d ss ms ts).1 = 0) : DbGood d ss ms ts := by
  unfold dbE at h
  by_cases e1 : d.hasV = true ∧ textE d.vtext ≠ 0
  · rw [if_pos e1] at h; exact absurd h e1.2
  rw [if_neg e1] at h
  by_cases e2 : 64 < ss.length
  · rw [if_pos e2] at h; cases h
  rw [if_neg e2] at h
  rcases firstAt_spec (fun i => staE ss i ≠ 0) ss.length with ⟨h1, n1⟩ | ⟨i, h1, _, hb, _⟩
  case inr => rw [h1] at h; exact absurd h hb
  rw [h1] at h
  replace h : (if 512 < ms.length then ((5, (ms_ ms 512).line, (ms_ ms 512).col) : Err) else thenE (firstAt (fun i => (dmE ss ms i).1 ≠ 0) ms.length) (dmE ss ms) (thenE (firstAt (fun i => dtE ms ts i ≠ 0) ts.length) (fun i => (dtE ms ts i, (ts_ ts i).line, (ts_ ts i).col)) okE)).1 = 0 := h
  by_cases e3 : 512 < ms.length
  · rw [if_pos e3] at h; cases h
  rw [if_neg e3] at h
  rcases firstAt_spec (fun i => (dmE ss ms i).1 ≠ 0) ms.length with ⟨h2, n2⟩ | ⟨i, h2, _, hb, _⟩
  case inr => rw [h2] at h; exact absurd h hb
  rw [h2] at h
  replace h : (thenE (firstAt (fun i => dtE ms ts i ≠ 0) ts.length) (fun i => (dtE ms ts i, (ts_ ts i).line, (ts_ ts i).col)) okE).1 = 0 := h
  rcases firstAt_spec (fun i => dtE ms ts i ≠ 0) ts.length with ⟨h3, n3⟩ | ⟨i, h3, _, hb, _⟩
  case inr => rw [h3] at h; exact absurd h hb
  exact ⟨e1, by omega, fun i hi => Classical.byContradiction (n1 i hi), by omega, fun i hi => Classical.byContradiction (n2 i hi), fun i hi => Classical.byContradiction (n3 i hi)⟩
structure SameM (m' : Msg) (ps' : List SigT) (m : Msg) (ps : List SigT) : Prop where
  name : m'.name = m.name
  id : m'.id = m.id
  wide : m'.wide = m.wide
  size : m'.size = m.size
  sender : m'.sender = m.sender
  sgN : m'.sgN = m.sgN
  len : ps'.length = ps.length
  sig : ∀ i, i < ps.length → SameSig (sg ps' i) (sg ps i) ∧ tx ps' i = tx ps i
theorem SameM.msgE {m' m : Msg} {ps' ps : List SigT} (h : SameM m' ps' m ps) : msgE m' ps' = msgE m ps := by
  refine msgE_same h.len ?_ h.size h.sig
  have hmo : mostE m' = mostE m := by unfold mostE; rw [h.wide]
  unfold headE
  rw [h.name, hmo, h.id, h.size, h.sender, h.sgN]
structure SameT (t' : Tab) (rs' : List RowV) (t : Tab) (rs : List RowV) : Prop where
  id : t'.id = t.id
  wide : t'.wide = t.wide
  sig : t'.sig = t.sig
  rows : rs' = rs
theorem rowsE_same {s' s : Sig} (h : SameSig s' s) (rs : List RowV) : rowsE s' rs = rowsE s rs := by
  have h1 : ∀ i, rowE s' rs i = rowE s rs i := fun i => by unfold rowE hasB; rw [h.size, h.sgn]
  have h2 : rowE s' rs = rowE s rs := funext h1
  unfold rowsE
  rw [h2]
theorem dt_zero {ms : List MsgT} {ts : List TabT} {i : Nat} (H : Entered ms ms.length) : dtE ms ts i = 0 ↔ (∃ s, ofB ms (ts_ ts i).id (ts_ ts i).wide (ts_ ts i).sig s ∧ rowsE s (tr_ ts i) = 0) ∧ ¬ ∃ k, k < i ∧ (ts_ ts k).id = (ts_ ts i).id ∧ (ts_ ts k).wide = (ts_ ts i).wide ∧ (ts_ ts k).sig = (ts_ ts i).sig := by
  by_cases h : ∃ s, ofB ms (ts_ ts i).id (ts_ ts i).wide (ts_ ts i).sig s
  · obtain ⟨s, hs⟩ := h
    by_cases h2 : ∃ k, k < i ∧ (ts_ ts k).id = (ts_ ts i).id ∧ (ts_ ts k).wide = (ts_ ts i).wide ∧ (ts_ ts k).sig = (ts_ ts i).sig
    · rw [dt_two hs h2]
      exact ⟨fun e => (by cases e), fun e => absurd h2 e.2⟩
    · rw [dt_rows H hs h2]
      exact ⟨fun e => ⟨⟨s, hs, e⟩, h2⟩, fun ⟨⟨s', hs', e⟩, _⟩ => by rw [of_unique H hs hs']; exact e⟩
  · rw [dt_none h]
    exact ⟨fun e => (by cases e), fun ⟨⟨s, hs, _⟩, _⟩ => absurd ⟨s, hs⟩ h⟩
theorem good_fewer {d d' : Db} {ss : List ByteArray} {ms ms' : List MsgT} {ts ts' : List TabT} (f : Nat → Nat) (H : DbGood d ss ms ts) (hid : ∀ i, i < ms.length → 0 ≤ (ms_ ms i).id ∧ (ms_ ms i).id < 4294967296)
    (hv : d'.hasV = d.hasV ∧ d'.vtext = d.vtext) (hl : ms'.length ≤ ms.length) (hm : ∀ i, i < ms'.length → SameM (ms_ ms' i) (mp_ ms' i) (ms_ ms i) (mp_ ms i))
    (hmono : ∀ i j, i < j → f i < f j) (hf : ∀ i, i < ts'.length → f i < ts.length ∧ SameT (ts_ ts' i) (tr_ ts' i) (ts_ ts (f i)) (tr_ ts (f i)))
    (hlast : ∀ i, i < ts'.length → ∀ j, ms'.length ≤ j → j < ms.length → ¬ sameId (ms_ ms j) (ts_ ts' i).id (ts_ ts' i).wide) : DbGood d' ss ms' ts' := by
  have hent := entered hid H.msg
  have hmsg : ∀ i, i < ms'.length → (dmE ss ms' i).1 = 0 := by
    intro i hi
    obtain ⟨h1, h2, h3, h4⟩ := dmE_zero (H.msg i (by omega))
    have hs := hm i hi
    rw [dm_of (by rw [hs.msgE]; exact h1) (fun j hj => ?_) (by rw [hs.sender]; exact h3) (fun k hk => ?_)]
    · rfl
    · have hsj := hm j (by omega)
      unfold sameId
      rw [hsj.name, hsj.id, hsj.wide, hs.name, hs.id, hs.wide]
      exact h2 j hj
    · rw [hs.len] at hk
      have := h4 k hk
      unfold toB at this ⊢
      rw [(hs.sig k hk).2]
      exact this
  have hid' : ∀ i, i < ms'.length → 0 ≤ (ms_ ms' i).id ∧ (ms_ ms' i).id < 4294967296 := fun i hi => by rw [(hm i hi).id]; exact hid i (by omega)
  have hent' := entered hid' hmsg
  refine ⟨by rw [hv.1, hv.2]; exact H.ver, H.few, H.sta, by have := H.mfew; omega, hmsg, fun i hi => ?_⟩
  obtain ⟨hfl, hst⟩ := hf i hi
  obtain ⟨⟨s, hs, hr⟩, hnd⟩ := (dt_zero hent).1 (H.tab (f i) hfl)
  refine (dt_zero hent').2 ⟨?_, ?_⟩
  · obtain ⟨a, k, ha, hk, hsi, hnm, rfl⟩ := hs
    have hal : a < ms'.length := Classical.byContradiction fun h => hlast i hi a (by omega) ha (by rw [hst.id, hst.wide]; exact hsi)
    have hsm := hm a hal
    refine ⟨sg (mp_ ms' a) k, ⟨a, k, hal, by rw [hsm.len]; exact hk, ⟨by rw [hsm.id, hst.id]; exact hsi.1, by rw [hsm.wide, hst.wide]; exact hsi.2⟩, by rw [(hsm.sig k hk).1.name, hst.sig]; exact hnm, rfl⟩, ?_⟩
    rw [rowsE_same (hsm.sig k hk).1, hst.rows]
    exact hr
  · rintro ⟨k, hk, e1, e2, e3⟩
    obtain ⟨_, hsk⟩ := hf k (by omega)
    refine hnd ⟨f k, hmono k i hk, ?_, ?_, ?_⟩
    · rw [← hsk.id, ← hst.id]; exact e1
    · rw [← hsk.wide, ← hst.wide]; exact e2
    · rw [← hsk.sig, ← hst.sig]; exact e3
end Go.Proofs.YtjomihhpglojpaaDoor
end
section
/- What is wrong with a closed signal, message or database, by reckoning. Plain. -/
namespace Go.Proofs.YtjomihhpglojpaaDoor
open Go.RowKit
set_option linter.unusedSimpArgs false
set_option linter.unusedVariables false
attribute [local irreducible] wpList wpQuiet wpStill Code.wp Exit.then Exit.inBlock bodyPost Calls Does Does0
set_option maxRecDepth 100000
/-! ### signals -/
def aloneC (s : Sig) (ss : List ByteArray) (n te : Int) : Int :=
  if wordB s.name = false then 11 else if roleB s then 14
  else if Pl.whereE s.start s.size s.mot n ≠ 0 then Pl.whereE s.start s.size s.mot n
  else if rangedE s ≠ 0 then rangedE s
  else if te ≠ 0 then te
  else namesE ss
theorem alone_C {s : Sig} {ss : List ByteArray} {n : Int} (te : Int) (h : textE s.unit = te) : aloneE s ss n = aloneC s ss n te := by unfold aloneE aloneC; rw [h]
theorem textE_nl : textE ⟨#[10]⟩ = 6 := by
  unfold textE
  rw [if_neg (by decide), if_neg]
  intro h
  have h0 : (uSt ⟨#[10]⟩ 0).1 < (⟨#[10]⟩ : ByteArray).size := by show 0 < 1; decide
  have := (h 0 h0).2
  have e : ctl (uR ⟨#[10]⟩ 0) = true := by kernel_rfl
  rw [e] at this
  cases this
/-! ### messages -/
def findC (f : Nat → Bool) : Nat → Option Nat
  | 0 => none
  | n + 1 => match findC f n with | some i => some i | none => if f n then some n else none
theorem first_C {bad : Nat → Prop} {f : Nat → Bool} : ∀ {n : Nat}, (∀ i, i < n → (bad i ↔ f i = true)) → firstAt bad n = findC f n
  | 0, _ => rfl
  | n + 1, h => by
    have ih := first_C (n := n) fun i hi => h i (by omega)
    unfold firstAt findC
    rw [ih]
    cases findC f n with
    | some i => rfl
    | none =>
      dsimp only
      by_cases hb : bad n
      · rw [if_pos hb, if_pos ((h n (by omega)).1 hb)]
      · rw [if_neg hb, if_neg (fun e => hb ((h n (by omega)).2 e))]
def anyC (f : Nat → Bool) (n : Nat) : Bool := (List.range n).any f
theorem any_C {p : Nat → Prop} {f : Nat → Bool} {n : Nat} (h : ∀ i, i < n → (p i ↔ f i = true)) : (∃ k, k < n ∧ p k) ↔ anyC f n = true := by
  unfold anyC
  rw [List.any_eq_true]
  constructor
  · rintro ⟨k, hk, hp⟩
    exact ⟨k, List.mem_range.2 hk, (h k hk).1 hp⟩
  · rintro ⟨k, hk, hp⟩
    exact ⟨k, List.mem_range.1 hk, (h k (List.mem_range.1 hk)).2 hp⟩
def oneC (ps : List SigT) (n : Int) (i : Nat) : Int :=
  if aloneC (sg ps i) (tx ps i) n 0 ≠ 0 then aloneC (sg ps i) (tx ps i) n 0
  else if anyC (fun k => decide ((sg ps k).name = (sg ps i).name)) i = true then 12
  else if (sg ps i).role = 1 ∧ anyC (fun k => decide ((sg ps k).role = 1)) i = true then 14 else 0
theorem one_C {ps : List SigT} {n : Int} {i : Nat} (hu : textE (sg ps i).unit = 0) : oneE ps n i = oneC ps n i := by
  unfold oneE oneC
  rw [alone_C 0 hu]
  have e1 : (∃ k, k < i ∧ (sg ps k).name = (sg ps i).name) ↔ anyC (fun k => decide ((sg ps k).name = (sg ps i).name)) i = true := any_C fun k _ => by simp
  have e2 : (∃ k, k < i ∧ (sg ps k).role = 1) ↔ anyC (fun k => decide ((sg ps k).role = 1)) i = true := any_C fun k _ => by simp
  by_cases c1 : aloneC (sg ps i) (tx ps i) n 0 ≠ 0
  · rw [if_pos c1, if_pos c1]
  rw [if_neg c1, if_neg c1]
  by_cases c2 : ∃ k, k < i ∧ (sg ps k).name = (sg ps i).name
  · rw [if_pos c2, if_pos (e1.1 c2)]
  rw [if_neg c2, if_neg (fun h => c2 (e1.2 h))]
  by_cases c3 : (sg ps i).role = 1 ∧ ∃ k, k < i ∧ (sg ps k).role = 1
  · rw [if_pos c3, if_pos ⟨c3.1, e2.1 c3.2⟩]
  · rw [if_neg c3, if_neg (fun h => c3 ⟨h.1, e2.2 h.2⟩)]
def twoC (ps : List SigT) (i : Nat) : Bool := decide ((sg ps i).role = 2) && (match findC (fun k => decide ((sg ps k).role = 1)) ps.length with | some k => !fitsB (sg ps i).branch (sg ps k).size (sg ps k).sgn | none => true)
theorem two_C {ps : List SigT} {i : Nat} : twoB ps i ↔ twoC ps i = true := by
  have e : firstAt (isMux ps) ps.length = findC (fun k => decide ((sg ps k).role = 1)) ps.length := first_C fun k _ => by unfold isMux; simp
  unfold twoB twoC
  rw [e]
  cases findC (fun k => decide ((sg ps k).role = 1)) ps.length with
  | none => simp
  | some k => simp
def meetC (ps : List SigT) (i : Nat) : Bool := anyC (fun k => togB (sg ps k) (sg ps i) && shareN (sg ps k).start (sg ps k).size (sg ps k).mot (sg ps i).start (sg ps i).size (sg ps i).mot) i
theorem meet_C {ps : List SigT} {i : Nat} : meetB ps i ↔ meetC ps i = true := by
  unfold meetB meetC
  refine any_C fun k _ => ?_
  rw [share_dec, Bool.and_eq_true]
def msgC (m : Msg) (ps : List SigT) : Int × Option Nat :=
  if headE m ≠ 0 then (headE m, none)
  else thenF (findC (fun i => decide (oneC ps m.size i ≠ 0)) ps.length) (oneC ps m.size)
    (thenF (findC (twoC ps) ps.length) (fun _ => 14)
      (thenF (findC (meetC ps) ps.length) (fun _ => 17) (0, none)))
theorem findC_lt {f : Nat → Bool} : ∀ {n i : Nat}, findC f n = some i → i < n
  | 0, _, h => by cases h
  | n + 1, i, h => by
    unfold findC at h
    split at h
    · rename_i k hk
      cases h
      have := findC_lt hk
      omega
    · split at h
      · cases h; omega
      · cases h
theorem msg_C {m : Msg} {ps : List SigT} (hu : ∀ i, i < ps.length → textE (sg ps i).unit = 0) : msgE m ps = msgC m ps := by
  unfold msgE msgC
  have e1 : firstAt (fun i => oneE ps m.size i ≠ 0) ps.length = findC (fun i => decide (oneC ps m.size i ≠ 0)) ps.length := first_C fun i hi => by rw [one_C (hu i hi)]; simp
  have e2 : firstAt (twoB ps) ps.length = findC (twoC ps) ps.length := first_C fun i _ => two_C
  have e3 : firstAt (meetB ps) ps.length = findC (meetC ps) ps.length := first_C fun i _ => meet_C
  rw [e1, e2, e3]
  by_cases h : headE m ≠ 0
  · rw [if_pos h, if_pos h]
  rw [if_neg h, if_neg h]
  cases hf : findC (fun i => decide (oneC ps m.size i ≠ 0)) ps.length with
  | none => rfl
  | some i =>
    unfold thenF
    dsimp only
    rw [one_C (hu i (findC_lt hf))]
/-- The units of a list of signals are empty. -/
theorem unit_mem {ps : List SigT} (h : ∀ p ∈ ps, p.1.unit = ⟨#[]⟩) : ∀ i, i < ps.length → textE (sg ps i).unit = 0 := fun i hi => by
  rw [sg_lt hi, h _ (List.getElem_mem hi)]
  exact textE_empty
/-! ### databases -/
def knownC (ss : List ByteArray) (s : ByteArray) : Bool := ss.any (fun x => decide (x = s)) || decide (s = nobody)
theorem known_C {ss : List ByteArray} {s : ByteArray} : knownB ss s ↔ knownC ss s = true := by
  unfold knownB knownC
  rw [Bool.or_eq_true, List.any_eq_true, decide_eq_true_eq]
  constructor
  · rintro (h | h)
    · exact .inl ⟨s, h, by simp⟩
    · exact .inr h
  · rintro (⟨x, h, e⟩ | h)
    · rw [decide_eq_true_eq] at e; subst e; exact .inl h
    · exact .inr h
def staC' (ss : List ByteArray) (i : Nat) : Int :=
  if wordB (ss.getD i ⟨#[]⟩) = false ∨ ss.getD i ⟨#[]⟩ = nobody then 11 else if anyC (fun k => decide (ss.getD k ⟨#[]⟩ = ss.getD i ⟨#[]⟩)) i = true then 12 else 0
theorem sta_C {ss : List ByteArray} {i : Nat} : staE ss i = staC' ss i := by
  have e1 : (∃ k, k < i ∧ ss.getD k ⟨#[]⟩ = ss.getD i ⟨#[]⟩) ↔ anyC (fun k => decide (ss.getD k ⟨#[]⟩ = ss.getD i ⟨#[]⟩)) i = true := any_C fun k _ => by simp
  unfold staE staC'
  by_cases c1 : wordB (ss.getD i ⟨#[]⟩) = false ∨ ss.getD i ⟨#[]⟩ = nobody
  · rw [if_pos c1, if_pos c1]
  rw [if_neg c1, if_neg c1]
  by_cases c2 : ∃ k, k < i ∧ ss.getD k ⟨#[]⟩ = ss.getD i ⟨#[]⟩
  · rw [if_pos c2, if_pos (e1.1 c2)]
  · rw [if_neg c2, if_neg (fun h => c2 (e1.2 h))]
def toC' (ss : List ByteArray) (ps : List SigT) (k : Nat) : Bool := (tx ps k).any fun s => !knownC ss s
theorem to_C {ss : List ByteArray} {ps : List SigT} {k : Nat} : toB ss ps k ↔ toC' ss ps k = true := by
  unfold toB toC'
  rw [List.any_eq_true]
  constructor
  · rintro ⟨s, h1, h2⟩
    exact ⟨s, h1, by cases h : knownC ss s; rfl; exact absurd (known_C.2 h) h2⟩
  · rintro ⟨s, h1, h2⟩
    exact ⟨s, h1, fun h => by rw [known_C.1 h] at h2; cases h2⟩
def dmC (ss : List ByteArray) (ms : List MsgT) (i : Nat) : Err :=
  if (msgC (ms_ ms i) (mp_ ms i)).1 ≠ 0 then ((msgC (ms_ ms i) (mp_ ms i)).1, placeL (ms_ ms i) (mp_ ms i) (msgC (ms_ ms i) (mp_ ms i)).2, placeC (ms_ ms i) (mp_ ms i) (msgC (ms_ ms i) (mp_ ms i)).2)
  else if anyC (fun k => decide ((ms_ ms k).name = (ms_ ms i).name) || (decide ((ms_ ms k).id = (ms_ ms i).id) && decide ((ms_ ms k).wide = (ms_ ms i).wide))) i = true then (12, (ms_ ms i).line, (ms_ ms i).col)
  else if knownC ss (ms_ ms i).sender = false then (13, (ms_ ms i).line, (ms_ ms i).col)
  else thenE (findC (toC' ss (mp_ ms i)) (mp_ ms i).length) (fun k => (13, (sg (mp_ ms i) k).line, (sg (mp_ ms i) k).col)) okE
theorem dm_C {ss : List ByteArray} {ms : List MsgT} {i : Nat} (hu : ∀ k, k < (mp_ ms i).length → textE (sg (mp_ ms i) k).unit = 0) : dmE ss ms i = dmC ss ms i := by
  have e1 : (∃ k, k < i ∧ ((ms_ ms k).name = (ms_ ms i).name ∨ sameId (ms_ ms k) (ms_ ms i).id (ms_ ms i).wide)) ↔ anyC (fun k => decide ((ms_ ms k).name = (ms_ ms i).name) || (decide ((ms_ ms k).id = (ms_ ms i).id) && decide ((ms_ ms k).wide = (ms_ ms i).wide))) i = true := any_C fun k _ => by unfold sameId; simp
  have e2 : firstAt (toB ss (mp_ ms i)) (mp_ ms i).length = findC (toC' ss (mp_ ms i)) (mp_ ms i).length := first_C fun k _ => to_C
  unfold dmE dmC
  rw [msg_C hu, e2]
  by_cases c1 : (msgC (ms_ ms i) (mp_ ms i)).1 ≠ 0
  · rw [if_pos c1, if_pos c1]
  rw [if_neg c1, if_neg c1]
  by_cases c2 : ∃ k, k < i ∧ ((ms_ ms k).name = (ms_ ms i).name ∨ sameId (ms_ ms k) (ms_ ms i).id (ms_ ms i).wide)
  · rw [if_pos c2, if_pos (e1.1 c2)]
  rw [if_neg c2, if_neg (fun h => c2 (e1.2 h))]
  by_cases c3 : knownB ss (ms_ ms i).sender
  · rw [if_neg (fun h => h c3), if_neg (fun h => by rw [known_C.1 c3] at h; cases h)]
  · rw [if_pos c3, if_pos (by cases h : knownC ss (ms_ ms i).sender; rfl; exact absurd (known_C.2 h) c3)]
def rowC (s : Sig) (rs : List RowV) (i : Nat) : Int :=
  if hasB s (rv_ rs i).value = false then 19
  else if anyC (fun k => decide ((rv_ rs k).value = (rv_ rs i).value)) i = true then 12 else 0
theorem row_C {s : Sig} {rs : List RowV} {i : Nat} (h : textE (rv_ rs i).text = 0) : rowE s rs i = rowC s rs i := by
  have e1 : (∃ k, k < i ∧ (rv_ rs k).value = (rv_ rs i).value) ↔ anyC (fun k => decide ((rv_ rs k).value = (rv_ rs i).value)) i = true := any_C fun k _ => by simp
  unfold rowE rowC
  rw [if_neg (fun e => e h)]
  by_cases c1 : hasB s (rv_ rs i).value = false
  · rw [if_pos c1, if_pos c1]
  rw [if_neg c1, if_neg c1]
  by_cases c2 : ∃ k, k < i ∧ (rv_ rs k).value = (rv_ rs i).value
  · rw [if_pos c2, if_pos (e1.1 c2)]
  · rw [if_neg c2, if_neg (fun h => c2 (e1.2 h))]
def rowsC (s : Sig) (rs : List RowV) : Int :=
  if 256 < rs.length then 5 else someE (findC (fun i => decide (rowC s rs i ≠ 0)) rs.length) (rowC s rs)
theorem rows_C {s : Sig} {rs : List RowV} (h : ∀ i, i < rs.length → textE (rv_ rs i).text = 0) : rowsE s rs = rowsC s rs := by
  have e1 : firstAt (fun i => rowE s rs i ≠ 0) rs.length = findC (fun i => decide (rowC s rs i ≠ 0)) rs.length := first_C fun i hi => by rw [row_C (h i hi)]; simp
  unfold rowsE rowsC
  rw [e1]
  by_cases c : 256 < rs.length
  · rw [if_pos c, if_pos c]
  rw [if_neg c, if_neg c]
  cases hf : findC (fun i => decide (rowC s rs i ≠ 0)) rs.length with
  | none => rfl
  | some i => exact row_C (h i (findC_lt hf))
/-- The first signal of that name in a message of that number. -/
def ofS (ps : List SigT) (name : ByteArray) : Nat → Option Sig
  | 0 => none
  | k + 1 => if (sg ps k).name = name then some (sg ps k) else ofS ps name k
def ofC (ms : List MsgT) (id : Int) (wide : Bool) (name : ByteArray) : Nat → Option Sig
  | 0 => none
  | i + 1 => if (ms_ ms i).id = id ∧ (ms_ ms i).wide = wide then (match ofS (mp_ ms i) name (mp_ ms i).length with | some s => some s | none => ofC ms id wide name i) else ofC ms id wide name i
theorem ofS_some {ps : List SigT} {name : ByteArray} {s : Sig} : ∀ {n : Nat}, ofS ps name n = some s → ∃ k, k < n ∧ (sg ps k).name = name ∧ s = sg ps k
  | 0, h => by cases h
  | n + 1, h => by
    unfold ofS at h
    split at h
    · rename_i e; cases h; exact ⟨n, by omega, e, rfl⟩
    · obtain ⟨k, hk, h1, h2⟩ := ofS_some h
      exact ⟨k, by omega, h1, h2⟩
theorem ofS_none {ps : List SigT} {name : ByteArray} : ∀ {n : Nat}, ofS ps name n = none → ∀ k, k < n → (sg ps k).name ≠ name
  | 0, _, k, hk => absurd hk (Nat.not_lt_zero _)
  | n + 1, h, k, hk => by
    unfold ofS at h
    split at h
    · cases h
    · rename_i e
      by_cases ek : k = n
      · subst ek; exact e
      · exact ofS_none h k (by omega)
theorem ofC_some {ms : List MsgT} {id : Int} {wide : Bool} {name : ByteArray} {s : Sig} : ∀ {n : Nat}, n ≤ ms.length → ofC ms id wide name n = some s → ofB ms id wide name s
  | 0, _, h => by cases h
  | n + 1, hn, h => by
    unfold ofC at h
    split at h
    · rename_i e
      split at h
      · rename_i s' hs
        cases h
        obtain ⟨k, hk, h1, h2⟩ := ofS_some hs
        exact ⟨n, k, by omega, hk, e, h1, h2⟩
      · exact ofC_some (by omega) h
    · exact ofC_some (by omega) h
theorem ofC_none {ms : List MsgT} {id : Int} {wide : Bool} {name : ByteArray} : ∀ {n : Nat}, ofC ms id wide name n = none → ∀ i, i < n → ∀ k, k < (mp_ ms i).length → ¬ (sameId (ms_ ms i) id wide ∧ (sg (mp_ ms i) k).name = name)
  | 0, _, i, hi, _, _ => absurd hi (Nat.not_lt_zero _)
  | n + 1, h, i, hi, k, hk => by
    rintro ⟨h1, h2⟩
    unfold ofC at h
    split at h
    · split at h
      · cases h
      · rename_i hs
        by_cases e : i = n
        · subst e; exact ofS_none hs k hk h2
        · exact ofC_none h i (by omega) k hk ⟨h1, h2⟩
    · rename_i e0
      by_cases e : i = n
      · subst e; exact e0 h1
      · exact ofC_none h i (by omega) k hk ⟨h1, h2⟩
def dtC (ms : List MsgT) (ts : List TabT) (i : Nat) : Int :=
  match ofC ms (ts_ ts i).id (ts_ ts i).wide (ts_ ts i).sig ms.length with
  | none => 13
  | some s => if anyC (fun k => decide ((ts_ ts k).id = (ts_ ts i).id) && (decide ((ts_ ts k).wide = (ts_ ts i).wide) && decide ((ts_ ts k).sig = (ts_ ts i).sig))) i = true then 12 else rowsC s (tr_ ts i)
theorem dt_C {ms : List MsgT} {ts : List TabT} {i : Nat} (H : Entered ms ms.length) (h : ∀ k, k < (tr_ ts i).length → textE (rv_ (tr_ ts i) k).text = 0) : dtE ms ts i = dtC ms ts i := by
  have e1 : (∃ k, k < i ∧ ((ts_ ts k).id = (ts_ ts i).id ∧ (ts_ ts k).wide = (ts_ ts i).wide ∧ (ts_ ts k).sig = (ts_ ts i).sig)) ↔ anyC (fun k => decide ((ts_ ts k).id = (ts_ ts i).id) && (decide ((ts_ ts k).wide = (ts_ ts i).wide) && decide ((ts_ ts k).sig = (ts_ ts i).sig))) i = true := any_C fun k _ => by simp
  unfold dtC
  cases ho : ofC ms (ts_ ts i).id (ts_ ts i).wide (ts_ ts i).sig ms.length with
  | none =>
    dsimp only
    rw [dt_none]
    rintro ⟨s, a, k, ha, hk, h1, h2, _⟩
    exact ofC_none ho a ha k hk ⟨h1, h2⟩
  | some s =>
    dsimp only
    have hof := ofC_some (Nat.le_refl _) ho
    by_cases c : ∃ k, k < i ∧ ((ts_ ts k).id = (ts_ ts i).id ∧ (ts_ ts k).wide = (ts_ ts i).wide ∧ (ts_ ts k).sig = (ts_ ts i).sig)
    · rw [if_pos (e1.1 c), dt_two hof c]
    · rw [if_neg (fun h => c (e1.2 h)), dt_rows H hof c, rows_C h]
def dbC (d : Db) (ss : List ByteArray) (ms : List MsgT) (ts : List TabT) : Err :=
  if 64 < ss.length then (5, d.sline, d.scol)
  else thenE (findC (fun i => decide (staC' ss i ≠ 0)) ss.length) (fun i => (staC' ss i, d.sline, d.scol))
    (if 512 < ms.length then (5, (ms_ ms 512).line, (ms_ ms 512).col)
     else thenE (findC (fun i => decide ((dmC ss ms i).1 ≠ 0)) ms.length) (dmC ss ms)
      (thenE (findC (fun i => decide (dtC ms ts i ≠ 0)) ts.length) (fun i => (dtC ms ts i, (ts_ ts i).line, (ts_ ts i).col)) okE))
theorem thenE_C {r r' : Option Nat} {e e' : Nat → Err} {k k' : Err} (h0 : r = r') (h : ∀ i, r' = some i → e i = e' i) (hk : r' = none → k = k') : thenE r e k = thenE r' e' k' := by
  subst h0
  cases r with
  | none => exact hk rfl
  | some i => exact h i rfl
theorem db_C {d : Db} {ss : List ByteArray} {ms : List MsgT} {ts : List TabT} (hv : d.hasV = false) (hid : ∀ i, i < ms.length → 0 ≤ (ms_ ms i).id ∧ (ms_ ms i).id < 4294967296)
    (hu : ∀ i, i < ms.length → ∀ k, k < (mp_ ms i).length → textE (sg (mp_ ms i) k).unit = 0) (ht : ∀ i, i < ts.length → ∀ k, k < (tr_ ts i).length → textE (rv_ (tr_ ts i) k).text = 0) : dbE d ss ms ts = dbC d ss ms ts := by
  unfold dbE dbC
  rw [if_neg (by rw [hv]; exact fun h => Bool.noConfusion h.1)]
  by_cases c1 : 64 < ss.length
  · rw [if_pos c1, if_pos c1]
  rw [if_neg c1, if_neg c1]
  refine thenE_C (first_C fun i _ => by rw [sta_C]; simp) (fun i _ => by rw [sta_C]) (fun _ => ?_)
  by_cases c2 : 512 < ms.length
  · rw [if_pos c2, if_pos c2]
  rw [if_neg c2, if_neg c2]
  have e1 : firstAt (fun i => (dmE ss ms i).1 ≠ 0) ms.length = findC (fun i => decide ((dmC ss ms i).1 ≠ 0)) ms.length := first_C fun i hi => by rw [dm_C (hu i hi)]; simp
  refine thenE_C e1 (fun i hi => dm_C (hu i (findC_lt hi))) (fun hn => ?_)
  have H := entered (ss := ss) hid fun i hi => Classical.byContradiction (not_of_none (e1.trans hn) hi)
  refine thenE_C (first_C fun i hi => by rw [dt_C H (ht i hi)]; simp) (fun i hi => by rw [dt_C H (ht i (findC_lt hi))]) (fun _ => rfl)
end Go.Proofs.YtjomihhpglojpaaDoor
end
section
/- The reference's Control, walked. -/
namespace Go.Proofs.YtjomihhpglojpaaDoor
open Go.RowKit
set_option linter.unusedSimpArgs false
set_option linter.unusedVariables false
attribute [local irreducible] wpList wpQuiet wpStill Code.wp Exit.then Exit.inBlock bodyPost Calls Does Does0
end Go.Proofs.YtjomihhpglojpaaDoor
end
section
/- Rows of units: plain laws. -/
namespace Go.Proofs.YtjomihhpglojpaaDoor
open Go.RowKit

end Go.Proofs.YtjomihhpglojpaaDoor
end
section
/- The reference's Units, walked. -/
namespace Go.Proofs.YtjomihhpglojpaaDoor
open Go.RowKit
set_option linter.unusedSimpArgs false
set_option linter.unusedVariables false
attribute [local irreducible] wpList wpQuiet wpStill Code.wp Exit.then Exit.inBlock bodyPost Calls Does Does0
end Go.Proofs.YtjomihhpglojpaaDoor
end
section
/- The reference's May, walked. -/
namespace Go.Proofs.YtjomihhpglojpaaDoor
open Go.RowKit
set_option linter.unusedSimpArgs false
set_option linter.unusedVariables false
attribute [local irreducible] wpList wpQuiet wpStill Code.wp Exit.then Exit.inBlock bodyPost Calls Does Does0
end Go.Proofs.YtjomihhpglojpaaDoor
end
section
/- A region that draws its order: reads, a chain, and one operation more that may come at any time (a variable that is made). -/
namespace Go.Proofs.YtjomihhpglojpaaDoor
open Go.RowKit
section
variable {P : Program} {md : Region.Mode} {Q : Exit → Act → World → Prop} {S : World → Prop}
end
end Go.Proofs.YtjomihhpglojpaaDoor
end
section
/- A place in the text where all ways meet; a slice against nil; a slice from some place on. Plain lemmas over any program. -/
namespace Go.Proofs.YtjomihhpglojpaaDoor
open Go.RowKit
section
variable {P : Program} {ops : Array Oper} {Q : Exit → Act → World → Prop} {rest : List Oper} {a : Act} {w : World} {N : Nat} {l : List (Nat × Value)}
end
end Go.Proofs.YtjomihhpglojpaaDoor
end
section
/- The reference's fractions: Of, opposite, sum, Cmp, Above: walked. -/
namespace Go.Proofs.YtjomihhpglojpaaDoor
open Go.RowKit
set_option linter.unusedSimpArgs false
set_option linter.unusedVariables false
attribute [local irreducible] wpList wpQuiet wpStill Code.wp Exit.then Exit.inBlock bodyPost Calls Does Does0
open Nn
end Go.Proofs.YtjomihhpglojpaaDoor
end
section
/- The reference's fractions: sum, Cmp, Above: walked. -/
namespace Go.Proofs.YtjomihhpglojpaaDoor
open Go.RowKit
section
variable {P : Program} {ops : Array Oper} {Q : Exit → Act → World → Prop} {S : World → Prop} {al : Oper} {L : List Oper} {is : List (Nat × Nat)} {N : Nat} {l : List (Nat × Value)} {a : Act} {w : World}
end
open Go.RowKit
set_option linter.unusedSimpArgs false
set_option linter.unusedVariables false
attribute [local irreducible] wpList wpQuiet wpStill Code.wp Exit.then Exit.inBlock bodyPost Calls Does Does0
open Nn
end Go.Proofs.YtjomihhpglojpaaDoor
end
section
/- The reference's fractions: Cmp, Above: walked. -/
namespace Go.Proofs.YtjomihhpglojpaaDoor
open Go.RowKit
set_option linter.unusedSimpArgs false
set_option linter.unusedVariables false
attribute [local irreducible] wpList wpQuiet wpStill Code.wp Exit.then Exit.inBlock bodyPost Calls Does Does0
open Nn
end Go.Proofs.YtjomihhpglojpaaDoor
end
section
/- The reference's alone, walked. -/
namespace Go.Proofs.YtjomihhpglojpaaDoor
open Go.RowKit
set_option linter.unusedSimpArgs false
set_option linter.unusedVariables false
attribute [local irreducible] wpList wpQuiet wpStill Code.wp Exit.then Exit.inBlock bodyPost Calls Does Does0
set_option maxRecDepth 100000
end Go.Proofs.YtjomihhpglojpaaDoor
end
section
/- The reference's at, and told, walked. -/
namespace Go.Proofs.YtjomihhpglojpaaDoor
open Go.RowKit
set_option linter.unusedSimpArgs false
set_option linter.unusedVariables false
attribute [local irreducible] wpList wpQuiet wpStill Code.wp Exit.then Exit.inBlock bodyPost Calls Does Does0
set_option maxRecDepth 100000
end Go.Proofs.YtjomihhpglojpaaDoor
end
section
/- CheckSignal, walked. -/
namespace Go.Proofs.YtjomihhpglojpaaDoor
open Go.RowKit
set_option linter.unusedSimpArgs false
set_option linter.unusedVariables false
attribute [local irreducible] wpList wpQuiet wpStill Code.wp Exit.then Exit.inBlock bodyPost Calls Does Does0
set_option maxRecDepth 100000
set_option maxHeartbeats 4000000 in
theorem csig_ok (w : World) (s : Sig) (ss : List ByteArray) (n : Int) (hlen : ss.length = s.toN) (hrd : Rd w s.toA .string ss) (hB : SigB s) (hT : Tabs w) :
    Ret Tryd.prog 18 [.agg (Sig.cells s).toArray, .int .i64 n].toArray w (fun v w' => v = atV (aloneE s ss n) s.line s.col ∧ Below w.heap.size w w') := by
  refine enter2 Tryd.func18 rfl 9 rfl 11 rfl (fun a hF => ?_)
  repeat (first | refine c_seq ?_ | refine c_region _ ?_)
  refine st_box hF (cs := (Sig.cells s).toArray) rfl (k := fun a w1 hg1 hgr1 hsz1 hF => ?_)
  have hb1 : Below w.heap.size w w1 := (Below.refl _ w).grown hgr1 (Nat.le_refl _) (fun k hk => by cases hk)
  have hs1 : SgAt w.heap.size s w1 := hg1
  repeat (first | (refine c_region_mix (SgAt w.heap.size s) [(0, true), (1, true), (3, true), (4, true), (2, false), (5, false), (6, true)] 1 mixed (by kernel_rfl) hs1 ?_; simp only [pickX, List.filterMap_cons, List.getElem?_cons_zero, List.getElem?_cons_succ, List.filterMap_nil, Option.map_some]) | refine c_seq ?_ | refine wpList_nil ?_ | refine c_then ?_ | ((apply st hF); (exact d_assign); clear hF; clear a; intro a hF))
  have hdb : Below w.heap.size w (w1.drewN 1) := below_more hb1 1
  have hsD : SgAt w.heap.size s (w1.drewN 1) := hs1
  generalize w1.drewN 1 = w2 at *
  repeat (((apply x_step hF); intro wq hwq; (first | exact d_move | exact d_fieldAddr (fld _ _ _ _ rfl) (isz _ _ rfl) | exact d_loadAgg (agg _ rfl) (isz _ _ rfl) rfl (cells_at hwq) | exact d_loadAgg (agg _ rfl) (isz _ _ rfl) rfl hwq.pl); clear hF; clear a; intro a hF))
  refine x_one ?_
  refine stc hF (alone_ok w2 s ss n hlen (hrd.below hdb) hB (hT.below hdb)) cal33 ⟨rfl, rfl, trivial⟩ (k := fun a v w3 hR hF => ?_)
  obtain ⟨rfl, hb3⟩ := hR
  have hs3 := hsD.below hb3
  refine wpList_nil ⟨rfl, hs3, x_one ?_⟩
  refine stc hF (cat_ok w3 (aloneE s ss n) s.line s.col) cal32 ⟨rfl, rfl, trivial⟩ (k := fun a v w4 hR hF => ?_)
  obtain ⟨rfl, hb4⟩ := hR
  have hs4 := hs3.below hb4
  refine wpList_nil ⟨rfl, hs4, ?_⟩
  repeat (((apply x_step hF); intro wq hwq; (exact d_assign); clear hF; clear a; intro a hF))
  refine x_nil ?_
  repeat (first | refine c_then ?_ | refine wp_ret ?_)
  exact ret1 hF rfl rfl ⟨rfl, (hdb.trans (hb3.mono hdb.size)).trans (hb4.mono (Nat.le_trans hdb.size hb3.size))⟩
end Go.Proofs.YtjomihhpglojpaaDoor
end
section
/- Signals with their texts, zipped. Plain. -/
namespace Go.Proofs.YtjomihhpglojpaaDoor
open Go.RowKit
set_option linter.unusedSimpArgs false
set_option linter.unusedVariables false
attribute [local irreducible] wpList wpQuiet wpStill Code.wp Exit.then Exit.inBlock bodyPost Calls Does Does0
/-- The signals with their texts, zipped. -/
def zipP (ls : List Sig) (ps : List SigT) : List SigT := ls.zip (ps.map (·.2))
theorem zipP_len {ls : List Sig} {ps : List SigT} (h : ls.length = ps.length) : (zipP ls ps).length = ps.length := by simp [zipP, h]
theorem zipP_sg {ls : List Sig} {ps : List SigT} (h : ls.length = ps.length) {i : Nat} (hi : i < ps.length) : sg (zipP ls ps) i = ls.getD i sigM := by
  rw [sg_lt (by rw [zipP_len h]; exact hi)]
  simp [zipP, List.getD, h, hi]
theorem zipP_tx {ls : List Sig} {ps : List SigT} (h : ls.length = ps.length) {i : Nat} (hi : i < ps.length) : tx (zipP ls ps) i = tx ps i := by
  rw [tx_lt (by rw [zipP_len h]; exact hi), tx_lt hi]
  simp [zipP]
theorem zipP_map {ls : List Sig} {ps : List SigT} (h : ls.length = ps.length) : (zipP ls ps).map (·.1) = ls := by
  unfold zipP
  exact List.map_fst_zip (by simp [h])
end Go.Proofs.YtjomihhpglojpaaDoor
end
