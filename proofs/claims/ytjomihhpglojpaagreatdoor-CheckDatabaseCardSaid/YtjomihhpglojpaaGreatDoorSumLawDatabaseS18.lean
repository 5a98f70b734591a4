/- Laid together by a program of mine: MsgE DbE LessL MapG Num IsF. -/
import Derived.Test.YtjomihhpglojpaaGreatDoorSumLawDatabaseS17
import Derived.Test.YtjomihhpglojpaaGreatDoorSumLawDatabaseS7
import Derived.Test.YtjomihhpglojpaaGreatDoorSumLawDatabaseS11
import Derived.Test.YtjomihhpglojpaaGreatDoorSumLawDatabaseS16
import Derived.WideKeyEntry
import Derived.Test.YtjomihhpglojpaaGreatDoorSumLawDatabaseS13
set_option linter.unusedSimpArgs false
set_option linter.unusedVariables false
section
/- What is wrong with a message: plain. -/
namespace Go.Proofs.YtjomihhpglojpaaGreatDoor
open Go.RowKit
set_option linter.unusedSimpArgs false
set_option linter.unusedVariables false
attribute [local irreducible] wpList wpQuiet wpStill Code.wp Exit.then Exit.inBlock bodyPost Calls Does Does0
open Classical in
/-- The first so many numbers: the first bad one. -/
noncomputable def firstAt (bad : Nat → Prop) : Nat → Option Nat
  | 0 => none
  | n + 1 => match firstAt bad n with
    | some i => some i
    | none => if bad n then some n else none
theorem firstAt_spec (bad : Nat → Prop) : ∀ n, (firstAt bad n = none ∧ ∀ i, i < n → ¬ bad i) ∨ ∃ i, firstAt bad n = some i ∧ i < n ∧ bad i ∧ ∀ j, j < i → ¬ bad j
  | 0 => .inl ⟨rfl, fun i hi => absurd hi (Nat.not_lt_zero _)⟩
  | n + 1 => by
    unfold firstAt
    rcases firstAt_spec bad n with ⟨h1, h2⟩ | ⟨i, h1, h2, h3, h4⟩
    · rw [h1]
      by_cases hb : bad n
      · exact .inr ⟨n, if_pos hb, by omega, hb, h2⟩
      · refine .inl ⟨if_neg hb, fun i hi => ?_⟩
        by_cases e : i = n
        · subst e; exact hb
        · exact h2 i (by omega)
    · rw [h1]
      exact .inr ⟨i, rfl, by omega, h3, h4⟩
theorem firstAt_none {bad : Nat → Prop} {n : Nat} (h : ∀ i, i < n → ¬ bad i) : firstAt bad n = none := by
  rcases firstAt_spec bad n with ⟨h1, _⟩ | ⟨i, h1, h2, h3, h4⟩
  · exact h1
  · exact absurd h3 (h i h2)
theorem firstAt_some {bad : Nat → Prop} {n i : Nat} (h : i < n) (hb : bad i) (hn : ∀ j, j < i → ¬ bad j) : firstAt bad n = some i := by
  rcases firstAt_spec bad n with ⟨h1, h2⟩ | ⟨k, h1, h2, h3, h4⟩
  · exact absurd hb (h2 i h)
  · by_cases e : k < i
    · exact absurd h3 (hn k e)
    · by_cases e2 : i < k
      · exact absurd hb (h4 i e2)
      · rw [h1, show k = i by omega]
theorem not_of_none {bad : Nat → Prop} {n i : Nat} (h : firstAt bad n = none) (hi : i < n) : ¬ bad i := by
  rcases firstAt_spec bad n with ⟨_, h2⟩ | ⟨k, h1, _⟩
  · exact h2 i hi
  · rw [h] at h1; cases h1
theorem of_some {bad : Nat → Prop} {n i : Nat} (h : firstAt bad n = some i) : i < n ∧ bad i ∧ ∀ j, j < i → ¬ bad j := by
  rcases firstAt_spec bad n with ⟨h1, _⟩ | ⟨k, h1, h2⟩
  · rw [h] at h1; cases h1
  · rw [h] at h1; cases h1; exact h2
theorem firstAt_congr {bad bad' : Nat → Prop} {n : Nat} (h : ∀ i, i < n → (bad i ↔ bad' i)) : firstAt bad n = firstAt bad' n := by
  rcases firstAt_spec bad n with ⟨h1, h2⟩ | ⟨k, h1, h2, h3, h4⟩
  · rw [h1, firstAt_none fun i hi hb => h2 i hi ((h i hi).2 hb)]
  · rw [h1, firstAt_some h2 ((h k h2).1 h3) fun j hj hb => h4 j hj ((h j (by omega)).2 hb)]

/-- Signal number i and its texts. -/
def sg (ps : List SigT) (i : Nat) : Sig := (ps.getD i (sigM, [])).1
def tx (ps : List SigT) (i : Nat) : List ByteArray := (ps.getD i (sigM, [])).2
theorem sg_lt {ps : List SigT} {i : Nat} (h : i < ps.length) : sg ps i = ps[i].1 := by simp [sg, List.getD, h]
theorem tx_lt {ps : List SigT} {i : Nat} (h : i < ps.length) : tx ps i = ps[i].2 := by simp [tx, List.getD, h]
/-- May both be there at once? -/
def togB (s t : Sig) : Bool := decide (s.role ≠ 2 ∨ t.role ≠ 2 ∨ s.branch = t.branch)
/-- The first multiplexor among the first so many. -/
def MuxR (l : List Sig) (n : Nat) (v : Int) : Prop :=
  (∃ i : Nat, ∃ h : i < l.length, i < n ∧ l[i].role = 1 ∧ (∀ j (hj : j < l.length), j < i → l[j].role ≠ 1) ∧ v = (i : Int)) ∨ ((∀ j (hj : j < l.length), j < n → l[j].role ≠ 1) ∧ v = -1)
/-- Have two signals a bit in common? -/
def shareB (s t : Sig) : Prop := ∃ l m x, Pl.bitsOfSig s.start s.size s.mot = .ok l ∧ Pl.bitsOfSig t.start t.size t.mot = .ok m ∧ x ∈ l ∧ x ∈ m
open Classical in
/-- What is wrong with signal number i, by itself and beside those ahead of it. -/
noncomputable def oneE (ps : List SigT) (n : Int) (i : Nat) : Int :=
  if aloneE (sg ps i) (tx ps i) n ≠ 0 then aloneE (sg ps i) (tx ps i) n
  else if ∃ k, k < i ∧ (sg ps k).name = (sg ps i).name then 12
  else if (sg ps i).role = 1 ∧ ∃ k, k < i ∧ (sg ps k).role = 1 then 14 else 0
def isMux (ps : List SigT) (i : Nat) : Prop := (sg ps i).role = 1
/-- A branch without a multiplexor, or with a value that does not fit it. -/
def twoB (ps : List SigT) (i : Nat) : Prop := (sg ps i).role = 2 ∧ ∀ k, firstAt (isMux ps) ps.length = some k → fitsB (sg ps i).branch (sg ps k).size (sg ps k).sgn = false
/-- It meets one ahead of it. -/
def meetB (ps : List SigT) (i : Nat) : Prop := ∃ k, k < i ∧ togB (sg ps k) (sg ps i) = true ∧ shareB (sg ps k) (sg ps i)
def thenF (r : Option Nat) (e : Nat → Int) (k : Int × Option Nat) : Int × Option Nat := match r with | some i => (e i, some i) | none => k
/-- What is wrong with a message, and with which of its signals. -/
noncomputable def msgE (m : Msg) (ps : List SigT) : Int × Option Nat :=
  if headE m ≠ 0 then (headE m, none)
  else thenF (firstAt (fun i => oneE ps m.size i ≠ 0) ps.length) (oneE ps m.size)
    (thenF (firstAt (twoB ps) ps.length) (fun _ => 14)
      (thenF (firstAt (meetB ps) ps.length) (fun _ => 17) (0, none)))
/-- The place of the message, or of a signal. -/
def placeL (m : Msg) (ps : List SigT) : Option Nat → Int
  | none => m.line
  | some i => (sg ps i).line
def placeC (m : Msg) (ps : List SigT) : Option Nat → Int
  | none => m.col
  | some i => (sg ps i).col
theorem oneE_bnd (ps : List SigT) (n : Int) (i : Nat) : 0 ≤ oneE ps n i ∧ oneE ps n i ≤ 26 := by
  have := alone_bnd (sg ps i) (tx ps i) n
  unfold oneE
  repeat' split
  all_goals omega
theorem msgE_bnd (m : Msg) (ps : List SigT) : 0 ≤ (msgE m ps).1 ∧ (msgE m ps).1 ≤ 26 := by
  unfold msgE
  split
  · exact head_bnd m
  · unfold thenF
    split
    · exact oneE_bnd _ _ _
    · split
      · simp
      · split <;> simp
/-- What the three loops find. -/
theorem msgE_head {m : Msg} {ps : List SigT} (h : headE m ≠ 0) : msgE m ps = (headE m, none) := if_pos h
theorem msgE_one {m : Msg} {ps : List SigT} {i : Nat} (h : headE m = 0) (hi : i < ps.length) (hb : oneE ps m.size i ≠ 0) (hn : ∀ j, j < i → oneE ps m.size j = 0) : msgE m ps = (oneE ps m.size i, some i) := by
  unfold msgE
  rw [if_neg (fun e => e h), firstAt_some hi hb (fun j hj e => e (hn j hj))]
  rfl
theorem msgE_two {m : Msg} {ps : List SigT} {i : Nat} (h : headE m = 0) (h1 : ∀ j, j < ps.length → oneE ps m.size j = 0) (hi : i < ps.length) (hb : twoB ps i) (hn : ∀ j, j < i → ¬ twoB ps j) : msgE m ps = (14, some i) := by
  unfold msgE
  rw [if_neg (fun e => e h), firstAt_none (fun j hj e => e (h1 j hj)), firstAt_some hi hb hn]
  rfl
theorem msgE_meet {m : Msg} {ps : List SigT} {i : Nat} (h : headE m = 0) (h1 : ∀ j, j < ps.length → oneE ps m.size j = 0) (h2 : ∀ j, j < ps.length → ¬ twoB ps j) (hi : i < ps.length) (hb : meetB ps i) (hn : ∀ j, j < i → ¬ meetB ps j) : msgE m ps = (17, some i) := by
  unfold msgE
  rw [if_neg (fun e => e h), firstAt_none (fun j hj e => e (h1 j hj)), firstAt_none h2, firstAt_some hi hb hn]
  rfl
theorem msgE_ok {m : Msg} {ps : List SigT} (h : headE m = 0) (h1 : ∀ j, j < ps.length → oneE ps m.size j = 0) (h2 : ∀ j, j < ps.length → ¬ twoB ps j) (h3 : ∀ j, j < ps.length → ¬ meetB ps j) : msgE m ps = (0, none) := by
  unfold msgE
  rw [if_neg (fun e => e h), firstAt_none (fun j hj e => e (h1 j hj)), firstAt_none h2, firstAt_none h3]
  rfl
/-- Nothing is wrong. -/
structure MsgGood (m : Msg) (ps : List SigT) : Prop where
  head : headE m = 0
  one : ∀ j, j < ps.length → oneE ps m.size j = 0
  two : ∀ j, j < ps.length → ¬ twoB ps j
  meet : ∀ j, j < ps.length → ¬ meetB ps j
theorem msgE_zero {m : Msg} {ps : List SigT} : (msgE m ps).1 = 0 ↔ MsgGood m ps := by
  constructor
  · intro h
    by_cases h0 : headE m = 0
    · rcases firstAt_spec (fun i => oneE ps m.size i ≠ 0) ps.length with ⟨e1, n1⟩ | ⟨i, _, a1, a2, a3⟩
      · have k1 : ∀ j, j < ps.length → oneE ps m.size j = 0 := fun j hj => Classical.byContradiction fun e => n1 j hj e
        rcases firstAt_spec (twoB ps) ps.length with ⟨e2, n2⟩ | ⟨i, _, a1, a2, a3⟩
        · rcases firstAt_spec (meetB ps) ps.length with ⟨e3, n3⟩ | ⟨i, _, a1, a2, a3⟩
          · exact ⟨h0, k1, n2, n3⟩
          · rw [msgE_meet h0 k1 n2 a1 a2 a3] at h; simp at h
        · rw [msgE_two h0 k1 a1 a2 a3] at h; simp at h
      · rw [msgE_one h0 a1 a2 (fun j hj => Classical.byContradiction fun e => a3 j hj e)] at h
        exact absurd h a2
    · rw [msgE_head h0] at h
      exact absurd h h0
  · intro h
    rw [msgE_ok h.head h.one h.two h.meet]
theorem msgE_none {m : Msg} {ps : List SigT} (h : (msgE m ps).1 = 0) : msgE m ps = (0, none) := by
  have := msgE_zero.1 h
  exact msgE_ok this.head this.one this.two this.meet
theorem alone_of_one {ps : List SigT} {n : Int} {i : Nat} (h : oneE ps n i = 0) : aloneE (sg ps i) (tx ps i) n = 0 := by
  unfold oneE at h
  split at h
  · exact h
  · rename_i e; exact Classical.byContradiction e
theorem names_of_one {ps : List SigT} {n : Int} {i : Nat} (h : oneE ps n i = 0) : ∀ k, k < i → (sg ps k).name ≠ (sg ps i).name := by
  intro k hk e
  unfold oneE at h
  rw [if_neg (fun x => x (alone_of_one (by unfold oneE; exact h))), if_pos ⟨k, hk, e⟩] at h
  cases h
theorem mux_of_one {ps : List SigT} {n : Int} {i : Nat} (h : oneE ps n i = 0) (hr : (sg ps i).role = 1) : ∀ k, k < i → (sg ps k).role ≠ 1 := by
  intro k hk e
  have h0 := alone_of_one h
  have h1 := names_of_one h
  unfold oneE at h
  rw [if_neg (fun x => x h0), if_neg (fun ⟨k, hk, e⟩ => h1 k hk e), if_pos ⟨hr, k, hk, e⟩] at h
  cases h
theorem one_of {ps : List SigT} {n : Int} {i : Nat} (h0 : aloneE (sg ps i) (tx ps i) n = 0) (h1 : ∀ k, k < i → (sg ps k).name ≠ (sg ps i).name) (h2 : (sg ps i).role = 1 → ∀ k, k < i → (sg ps k).role ≠ 1) : oneE ps n i = 0 := by
  unfold oneE
  rw [if_neg (fun x => x h0), if_neg (fun ⟨k, hk, e⟩ => h1 k hk e), if_neg (fun ⟨hr, k, hk, e⟩ => h2 hr k hk e)]
theorem where_of_alone {s : Sig} {ss : List ByteArray} {n : Int} (h : aloneE s ss n = 0) : Pl.whereE s.start s.size s.mot n = 0 := by
  unfold aloneE at h
  split at h
  · cases h
  · split at h
    · cases h
    · split at h
      · exact h
      · rename_i e; exact Classical.byContradiction e
theorem name_of_alone {s : Sig} {ss : List ByteArray} {n : Int} (h : aloneE s ss n = 0) : wordB s.name = true := by
  unfold aloneE at h
  split at h
  · cases h
  · rename_i e; simpa using e
theorem role_of_alone {s : Sig} {ss : List ByteArray} {n : Int} (h : aloneE s ss n = 0) : ¬ roleB s := by
  unfold aloneE at h
  split at h
  · cases h
  · split at h
    · cases h
    · rename_i e; exact e
end Go.Proofs.YtjomihhpglojpaaGreatDoor
end
section
/- What is wrong with a database: plain. -/
namespace Go.Proofs.YtjomihhpglojpaaGreatDoor
open Go.RowKit
set_option linter.unusedSimpArgs false
set_option linter.unusedVariables false
attribute [local irreducible] wpList wpQuiet wpStill Code.wp Exit.then Exit.inBlock bodyPost Calls Does Does0
def nobody : ByteArray := ⟨#[86, 101, 99, 116, 111, 114, 95, 95, 88, 88, 88]⟩
abbrev Err := Int × Int × Int
def okE : Err := (0, 0, 0)
def thenE (r : Option Nat) (e : Nat → Err) (k : Err) : Err := match r with | some i => e i | none => k
def someE (r : Option Nat) (e : Nat → Int) : Int := match r with | some i => e i | none => 0
open Classical in
/-- What is wrong with name number i of the stations. -/
noncomputable def staE (ss : List ByteArray) (i : Nat) : Int :=
  if wordB (ss.getD i ⟨#[]⟩) = false ∨ ss.getD i ⟨#[]⟩ = nobody then 11 else if ∃ k, k < i ∧ ss.getD k ⟨#[]⟩ = ss.getD i ⟨#[]⟩ then 12 else 0
/-- Is a name that of a station, or nobody? -/
def knownB (ss : List ByteArray) (s : ByteArray) : Prop := s ∈ ss ∨ s = nobody
def ms_ (ms : List MsgT) (i : Nat) : Msg := (ms.getD i (⟨0, 0, 0, false, ⟨#[]⟩, 0, ⟨#[]⟩, none, 0, 0⟩, [])).1
def mp_ (ms : List MsgT) (i : Nat) : List SigT := (ms.getD i (⟨0, 0, 0, false, ⟨#[]⟩, 0, ⟨#[]⟩, none, 0, 0⟩, [])).2
theorem ms_lt {ms : List MsgT} {i : Nat} (h : i < ms.length) : ms_ ms i = ms[i].1 := by simp [ms_, List.getD, h]
theorem mp_lt {ms : List MsgT} {i : Nat} (h : i < ms.length) : mp_ ms i = ms[i].2 := by simp [mp_, List.getD, h]
def ts_ (ts : List TabT) (i : Nat) : Tab := (ts.getD i (⟨0, 0, 0, false, ⟨#[]⟩, none, 0, 0⟩, [])).1
def tr_ (ts : List TabT) (i : Nat) : List RowV := (ts.getD i (⟨0, 0, 0, false, ⟨#[]⟩, none, 0, 0⟩, [])).2
theorem ts_lt {ts : List TabT} {i : Nat} (h : i < ts.length) : ts_ ts i = ts[i].1 := by simp [ts_, List.getD, h]
theorem tr_lt {ts : List TabT} {i : Nat} (h : i < ts.length) : tr_ ts i = ts[i].2 := by simp [tr_, List.getD, h]
/-- A signal that names one who is not known. -/
def toB (ss : List ByteArray) (ps : List SigT) (k : Nat) : Prop := ∃ s, s ∈ tx ps k ∧ ¬ knownB ss s
def sameId (m : Msg) (id : Int) (wide : Bool) : Prop := m.id = id ∧ m.wide = wide
open Classical in
/-- What is wrong with message number i. -/
noncomputable def dmE (ss : List ByteArray) (ms : List MsgT) (i : Nat) : Err :=
  if (msgE (ms_ ms i) (mp_ ms i)).1 ≠ 0 then ((msgE (ms_ ms i) (mp_ ms i)).1, placeL (ms_ ms i) (mp_ ms i) (msgE (ms_ ms i) (mp_ ms i)).2, placeC (ms_ ms i) (mp_ ms i) (msgE (ms_ ms i) (mp_ ms i)).2)
  else if ∃ k, k < i ∧ ((ms_ ms k).name = (ms_ ms i).name ∨ sameId (ms_ ms k) (ms_ ms i).id (ms_ ms i).wide) then (12, (ms_ ms i).line, (ms_ ms i).col)
  else if ¬ knownB ss (ms_ ms i).sender then (13, (ms_ ms i).line, (ms_ ms i).col)
  else thenE (firstAt (toB ss (mp_ ms i)) (mp_ ms i).length) (fun k => (13, (sg (mp_ ms i) k).line, (sg (mp_ ms i) k).col)) okE
/-- Has a signal a value? -/
def hasB (s : Sig) (v : Int) : Bool := (s.sgn || decide (0 ≤ v)) && fitsB (if v < 0 then v + 18446744073709551616 else v) s.size s.sgn
def rv_ (rs : List RowV) (i : Nat) : RowV := rs.getD i ⟨0, ⟨#[]⟩⟩
open Classical in
noncomputable def rowE (s : Sig) (rs : List RowV) (i : Nat) : Int :=
  if textE (rv_ rs i).text ≠ 0 then textE (rv_ rs i).text else if hasB s (rv_ rs i).value = false then 19
  else if ∃ k, k < i ∧ (rv_ rs k).value = (rv_ rs i).value then 12 else 0
noncomputable def rowsE (s : Sig) (rs : List RowV) : Int :=
  if 256 < rs.length then 5 else someE (firstAt (fun i => rowE s rs i ≠ 0) rs.length) (rowE s rs)
/-- The signal of that name in a message of that number. -/
def ofB (ms : List MsgT) (id : Int) (wide : Bool) (name : ByteArray) (s : Sig) : Prop := ∃ i k, i < ms.length ∧ k < (mp_ ms i).length ∧ sameId (ms_ ms i) id wide ∧ (sg (mp_ ms i) k).name = name ∧ s = sg (mp_ ms i) k
open Classical in
/-- What is wrong with table number i. -/
noncomputable def dtE (ms : List MsgT) (ts : List TabT) (i : Nat) : Int :=
  if h : ∃ s, ofB ms (ts_ ts i).id (ts_ ts i).wide (ts_ ts i).sig s then
    if ∃ k, k < i ∧ (ts_ ts k).id = (ts_ ts i).id ∧ (ts_ ts k).wide = (ts_ ts i).wide ∧ (ts_ ts k).sig = (ts_ ts i).sig then 12
    else rowsE (Classical.choose h) (tr_ ts i)
  else 13
/-- What is wrong with a database, and where. -/
noncomputable def dbE (d : Db) (ss : List ByteArray) (ms : List MsgT) (ts : List TabT) : Err :=
  if d.hasV = true ∧ textE d.vtext ≠ 0 then (textE d.vtext, d.vline, d.vcol)
  else if 64 < ss.length then (5, d.sline, d.scol)
  else thenE (firstAt (fun i => staE ss i ≠ 0) ss.length) (fun i => (staE ss i, d.sline, d.scol))
    (if 512 < ms.length then (5, (ms_ ms 512).line, (ms_ ms 512).col)
     else thenE (firstAt (fun i => (dmE ss ms i).1 ≠ 0) ms.length) (dmE ss ms)
      (thenE (firstAt (fun i => dtE ms ts i ≠ 0) ts.length) (fun i => (dtE ms ts i, (ts_ ts i).line, (ts_ ts i).col)) okE))
end Go.Proofs.YtjomihhpglojpaaGreatDoor
end
section
/- What may be, may be without some of its signals that are no multiplexor; places do not count. Plain. -/
namespace Go.Proofs.YtjomihhpglojpaaGreatDoor
open Go.RowKit
set_option linter.unusedSimpArgs false
set_option linter.unusedVariables false
attribute [local irreducible] wpList wpQuiet wpStill Code.wp Exit.then Exit.inBlock bodyPost Calls Does Does0
set_option maxRecDepth 100000
theorem alone_congr {s t : Sig} {ss : List ByteArray} {n : Int} (h1 : s.name = t.name) (h2 : s.role = t.role) (h3 : s.branch = t.branch) (h4 : s.start = t.start) (h5 : s.size = t.size) (h6 : s.mot = t.mot)
    (h7 : s.sn = t.sn ∧ s.sd = t.sd ∧ s.fn = t.fn ∧ s.fd = t.fd ∧ s.mn = t.mn ∧ s.md = t.md ∧ s.xn = t.xn ∧ s.xd = t.xd) (h8 : s.unit = t.unit) : aloneE s ss n = aloneE t ss n := by
  obtain ⟨a1, a2, a3, a4, a5, a6, a7, a8⟩ := h7
  have hr : roleB s ↔ roleB t := by unfold roleB; rw [h2, h3]
  have hR : rangedE s = rangedE t := by
    unfold rangedE
    simp only [a1, a2, a3, a4, a5, a6, a7, a8]
  unfold aloneE
  simp only [h1, h4, h5, h6, h8, hR, hr]
/-- The signals qs are some of the signals ps, in their order; the multiplexors are all there. -/
structure Some' (ps qs : List SigT) (f : Nat → Nat) : Prop where
  lt : ∀ i, i < qs.length → f i < ps.length
  mono : ∀ i j, i < j → f i < f j
  sgE : ∀ i, i < qs.length → sg qs i = sg ps (f i)
  txE : ∀ i, i < qs.length → tx qs i = tx ps (f i)
  mux : ∀ k, k < ps.length → (sg ps k).role = 1 → ∃ i, i < qs.length ∧ f i = k
theorem good_some {m m' : Msg} {ps qs : List SigT} {f : Nat → Nat} (h : Some' ps qs f) (hm : MsgGood m ps) (hh : headE m' = 0) (hs : m'.size = m.size) : MsgGood m' qs := by
  refine ⟨hh, fun j hj => ?_, fun j hj hb => ?_, fun j hj hb => ?_⟩
  · have h1 := hm.one (f j) (h.lt j hj)
    refine one_of ?_ ?_ ?_
    · rw [h.sgE j hj, h.txE j hj, hs]; exact alone_of_one h1
    · intro k hk
      rw [h.sgE j hj, h.sgE k (by omega)]
      exact names_of_one h1 (f k) (h.mono k j hk)
    · intro hr k hk
      rw [h.sgE j hj] at hr
      rw [h.sgE k (by omega)]
      exact mux_of_one h1 hr (f k) (h.mono k j hk)
  · refine hm.two (f j) (h.lt j hj) ?_
    obtain ⟨hr, hx⟩ := hb
    rw [h.sgE j hj] at hr hx
    refine ⟨hr, fun k hk => ?_⟩
    obtain ⟨k1, k2, k3⟩ := of_some hk
    obtain ⟨i, hi, rfl⟩ := h.mux k k1 k2
    have e : firstAt (isMux qs) qs.length = some i := by
      refine firstAt_some hi ?_ (fun j' hj' hb' => ?_)
      · unfold isMux; rw [h.sgE i hi]; exact k2
      · unfold isMux at hb'
        rw [h.sgE j' (by omega)] at hb'
        exact k3 (f j') (h.mono j' i hj') hb'
    have := hx i e
    rw [h.sgE i hi] at this
    exact this
  · obtain ⟨k, hk, ht, hsh⟩ := hb
    rw [h.sgE j hj, h.sgE k (by omega)] at ht hsh
    exact hm.meet (f j) (h.lt j hj) ⟨f k, h.mono k j hk, ht, hsh⟩
/-- All but number n. -/
theorem some_erase {ps : List SigT} {n : Nat} (hn : n < ps.length) (hr : (sg ps n).role ≠ 1) : Some' ps (ps.eraseIdx n) (fun i => if i < n then i else i + 1) := by
  have hl : (ps.eraseIdx n).length = ps.length - 1 := List.length_eraseIdx_of_lt hn
  have hg : ∀ i, i < ps.length - 1 → ∀ d, (ps.eraseIdx n).getD i d = ps.getD (if i < n then i else i + 1) d := by
    intro i hi d
    rw [List.getD_eq_getElem?_getD, List.getD_eq_getElem?_getD, List.getElem?_eraseIdx]
    split <;> rfl
  refine ⟨fun i hi => ?_, fun i j hij => ?_, fun i hi => ?_, fun i hi => ?_, fun k hk hr' => ?_⟩
  · split <;> omega
  · show (if i < n then i else i + 1) < (if j < n then j else j + 1)
    split <;> split <;> omega
  · unfold sg; rw [hg i (by omega)]
  · unfold tx; rw [hg i (by omega)]
  · by_cases e : k < n
    · exact ⟨k, by omega, by rw [if_pos e]⟩
    · by_cases e2 : k = n
      · subst e2; exact absurd hr' hr
      · exact ⟨k - 1, by omega, by rw [if_neg (by omega)]; omega⟩
/-- The places do not count. -/
structure SameSig (s t : Sig) : Prop where
  name : s.name = t.name
  role : s.role = t.role
  branch : s.branch = t.branch
  start : s.start = t.start
  size : s.size = t.size
  mot : s.mot = t.mot
  sgn : s.sgn = t.sgn
  rats : s.sn = t.sn ∧ s.sd = t.sd ∧ s.fn = t.fn ∧ s.fd = t.fd ∧ s.mn = t.mn ∧ s.md = t.md ∧ s.xn = t.xn ∧ s.xd = t.xd
  unit : s.unit = t.unit
theorem msgE_same {m m' : Msg} {ps qs : List SigT} (hl : qs.length = ps.length) (hh : headE m' = headE m) (hs : m'.size = m.size) (h : ∀ i, i < ps.length → SameSig (sg qs i) (sg ps i) ∧ tx qs i = tx ps i) : msgE m' qs = msgE m ps := by
  have a1 : ∀ i, i < ps.length → oneE qs m'.size i = oneE ps m.size i := by
    intro i hi
    obtain ⟨h1, h2⟩ := h i hi
    unfold oneE
    rw [h2, hs, alone_congr h1.name h1.role h1.branch h1.start h1.size h1.mot h1.rats h1.unit, h1.role, h1.name]
    have e1 : (∃ k, k < i ∧ (sg qs k).name = (sg ps i).name) ↔ (∃ k, k < i ∧ (sg ps k).name = (sg ps i).name) :=
      ⟨fun ⟨k, hk, e⟩ => ⟨k, hk, by rw [← (h k (by omega)).1.name]; exact e⟩, fun ⟨k, hk, e⟩ => ⟨k, hk, by rw [(h k (by omega)).1.name]; exact e⟩⟩
    have e2 : ((sg ps i).role = 1 ∧ ∃ k, k < i ∧ (sg qs k).role = 1) ↔ ((sg ps i).role = 1 ∧ ∃ k, k < i ∧ (sg ps k).role = 1) :=
      ⟨fun ⟨r, k, hk, e⟩ => ⟨r, k, hk, by rw [← (h k (by omega)).1.role]; exact e⟩, fun ⟨r, k, hk, e⟩ => ⟨r, k, hk, by rw [(h k (by omega)).1.role]; exact e⟩⟩
    simp only [e1, e2]
  have a2 : firstAt (isMux qs) qs.length = firstAt (isMux ps) ps.length := by
    rw [hl]
    exact firstAt_congr fun i hi => by unfold isMux; rw [(h i hi).1.role]
  have a3 : ∀ i, i < ps.length → (twoB qs i ↔ twoB ps i) := by
    intro i hi
    unfold twoB
    rw [a2, (h i hi).1.role, (h i hi).1.branch]
    constructor
    · rintro ⟨r, hx⟩
      exact ⟨r, fun k hk => by have := hx k hk; rw [(h k (of_some hk).1).1.size, (h k (of_some hk).1).1.sgn] at this; exact this⟩
    · rintro ⟨r, hx⟩
      exact ⟨r, fun k hk => by rw [(h k (of_some hk).1).1.size, (h k (of_some hk).1).1.sgn]; exact hx k hk⟩
  have a4 : ∀ i, i < ps.length → (meetB qs i ↔ meetB ps i) := by
    intro i hi
    have key : ∀ k, k < i → togB (sg qs k) (sg qs i) = togB (sg ps k) (sg ps i) ∧ (shareB (sg qs k) (sg qs i) ↔ shareB (sg ps k) (sg ps i)) := by
      intro k hk
      have hk' := (h k (by omega)).1
      have hi' := (h i hi).1
      unfold togB shareB
      rw [hk'.role, hi'.role, hk'.branch, hi'.branch, hk'.start, hk'.size, hk'.mot, hi'.start, hi'.size, hi'.mot]
      exact ⟨rfl, Iff.rfl⟩
    constructor
    · rintro ⟨k, hk, ht, hsh⟩
      exact ⟨k, hk, by rw [← (key k hk).1]; exact ht, (key k hk).2.1 hsh⟩
    · rintro ⟨k, hk, ht, hsh⟩
      exact ⟨k, hk, by rw [(key k hk).1]; exact ht, (key k hk).2.2 hsh⟩
  unfold msgE
  rw [hh, hl, firstAt_congr (fun i hi => by rw [a1 i hi] : ∀ i, i < ps.length → (oneE qs m'.size i ≠ 0 ↔ oneE ps m.size i ≠ 0)), firstAt_congr a3, firstAt_congr a4]
  split
  · rfl
  · rcases firstAt_spec (fun i => oneE ps m.size i ≠ 0) ps.length with ⟨e, _⟩ | ⟨k, e, hk, _⟩
    · rw [e]
      simp only [thenF]
    · rw [e]
      unfold thenF
      dsimp only
      rw [a1 k hk]
end Go.Proofs.YtjomihhpglojpaaGreatDoor
end
section
/- Maps of the call's own with any elements. Plain lemmas over any program. -/
namespace Go.Proofs.YtjomihhpglojpaaGreatDoor
open Go.RowKit
open Go.Maps (Keyed IsMap)
open Go.WideMaps (KeyLaw)
open Go.MapKept Go.ChangeMaps
section
variable {P : Program} {w w' : World} {l : List (Nat × Value)}
def heldE (v : Value) : Option (DataW Value × List MemPlace) := some (.held v, [])
/-- What the map holds, the latest first. -/
def kvM : List (Lit × Value) → DataW Value
  | [] => .map []
  | p :: r => (kvM r).put p.1 (.held p.2)
open Classical in
noncomputable def kvG (k : Lit) : List (Lit × Value) → Option Value
  | [] => none
  | p :: r => if k = p.1 then some p.2 else kvG k r
theorem kvM_map : ∀ ks, IsMap (kvM ks)
  | [] => ⟨_, rfl⟩
  | p :: r => by
    obtain ⟨es, h⟩ := kvM_map r
    unfold kvM
    rw [h]
    exact ⟨_, rfl⟩
theorem kvM_at (k : Lit) (z : DataW Value) : ∀ ks, (∀ p ∈ ks, WideAt.IsKeyLit p.1) → (kvM ks).atKey k z = match kvG k ks with | some v => .held v | none => z
  | [], _ => rfl
  | p :: r, h => by
    unfold kvM kvG
    by_cases e : k = p.1
    · rw [if_pos e, e, Maps.atKey_put_same (kvM_map r) (h p List.mem_cons_self)]
    · rw [if_neg e, Maps.atKey_put_other e, kvM_at k z r (fun q hq => h q (List.mem_cons_of_mem _ hq))]
/-- Block b is a map of the call's own: it holds ks. -/
def MapG (P : Program) (k : TypeId) (w : World) (b : Nat) (ks : List (Lit × Value)) : Prop := w.ownsMap P k heldE b ks.length (kvM ks) ∧ ∀ p ∈ ks, WideAt.IsKeyLit p.1
theorem MapG.new {k : TypeId} (w : World) : MapG P k (w.alloc (.map #[] 0)) w.heap.size [] := ⟨World.ownsMap_made w P k _, by simp⟩
theorem MapG.kept {k : TypeId} {b : Nat} {ks : List (Lit × Value)} {row : Option Nat} (h : MapG P k w b ks) (hg : w.grownBy w' row) (hne : some b ≠ row) : MapG P k w' b ks := ⟨World.ownsMap.kept h.1 hg hne, h.2⟩
theorem MapG.lt {k : TypeId} {b : Nat} {ks : List (Lit × Value)} (h : MapG P k w b ks) : b < w.heap.size := World.ownsMap.lt h.1
theorem MapG.below {k : TypeId} {b : Nat} {ks : List (Lit × Value)} (h : MapG P k w b ks) (hb : Below w.heap.size w w') : MapG P k w' b ks := by
  have hlt := h.lt
  obtain ⟨⟨es, clock, h1, h2⟩, h3⟩ := h
  exact ⟨⟨es, clock, (hb.block b hlt).trans h1, h2⟩, h3⟩
theorem MapG.look {t k e : TypeId} {b : Nat} {ks : List (Lit × Value)} (h : MapG P k w b ks) (K : Keyed P k) (ht : P.underlying t = some (.map k e)) {z : Value} (hz : (zeroValue e).run P w = .ok z w) {key : Value} {kl : Lit} (hkey : keyOf P k key = some kl) :
    (Instr.lookup t (.map (some b)) key false).run P w = .ok ((kvG kl ks).getD z) w := by
  obtain ⟨v, ps, hr, hv⟩ := World.ownsMap.lookup h.1 K ht hz (zd := .held z) (zp := []) rfl hkey
  rw [kvM_at _ _ _ h.2] at hv
  rw [hr]
  cases hk : kvG kl ks with
  | none => rw [hk] at hv; simp [heldE] at hv; rw [hv.1]; rfl
  | some u => rw [hk] at hv; simp [heldE] at hv; rw [hv.1]; rfl
theorem has_kv (k : Lit) (ks : List (Lit × Value)) (h : ∀ p ∈ ks, WideAt.IsKeyLit p.1) : Maps.has (kvM ks) k = (kvG k ks).isSome := by
  have h1 := kvM_at k (.held (.bool true)) ks h
  have h2 := kvM_at k (.held (.bool false)) ks h
  cases hk : kvG k ks with
  | none =>
    rw [hk] at h1 h2
    refine Maps.has_false_of_atKey (fun z => ?_)
    rw [kvM_at k z ks h, hk]
  | some u =>
    rw [hk] at h1 h2
    refine Maps.has_true_of_atKey (y := .held u) (fun z => ?_)
    rw [kvM_at k z ks h, hk]
theorem MapG.look_ok {t k e : TypeId} {b : Nat} {ks : List (Lit × Value)} (h : MapG P k w b ks) (K : Keyed P k) (ht : P.underlying t = some (.map k e)) {z : Value} (hz : (zeroValue e).run P w = .ok z w) {key : Value} {kl : Lit} (hkey : keyOf P k key = some kl) :
    (Instr.lookup t (.map (some b)) key true).run P w = .ok (.tuple #[(kvG kl ks).getD z, .bool (kvG kl ks).isSome]) w := by
  obtain ⟨v, ps, hr, hv⟩ := World.ownsMap.look_ok h.1 K ht hz (zd := .held z) (zp := []) rfl hkey
  rw [kvM_at _ _ _ h.2] at hv
  rw [hr, has_kv _ _ h.2]
  cases hk : kvG kl ks with
  | none => rw [hk] at hv; simp [heldE] at hv; rw [hv.1]; rfl
  | some u => rw [hk] at hv; simp [heldE] at hv; rw [hv.1]; rfl
theorem MapG.put {t k e : TypeId} {b : Nat} {ks : List (Lit × Value)} (h : MapG P k w b ks) (K : Keyed P k) (ht : P.underlying t = some (.map k e)) {key : Value} {kl : Lit} (hkey : keyOf P k key = some kl) (v : Value) (hn : ks.length < maxLen) :
    ∃ w', (Instr.mapUpdate t (.map (some b)) key v).run P w = .ok () w' ∧ MapG P k w' b ((kl, v) :: ks) ∧ w.grownBy w' (some b) ∧ w'.heap.size = w.heap.size := by
  obtain ⟨w', hr, ho, ht2⟩ := World.ownsMap.store (P := P) (w := w) (b := b) (k := k) (R := heldE) h.1 K ht hn hkey rfl
  refine ⟨w', hr, ⟨ho, fun p hp => ?_⟩, ht2.grown, ?_⟩
  · rcases List.mem_cons.1 hp with rfl | hp
    · exact K.key hkey
    · exact h.2 p hp
  · obtain ⟨_, _, _, _, _, rfl⟩ := ht2
    simp [Go.ChangeMaps.setBlock]
/-- 'm[k] = v' in two steps: the entry, the store. -/
theorem MapG.put2 {t k e : TypeId} {b : Nat} {ks : List (Lit × Value)} (h : MapG P k w b ks) (KL : KeyLaw P k) (ht : P.underlying t = some (.map k e)) {z : Value} (hz : ∀ u : World, (zeroValue e).run P u = .ok z u) {key : Value} {kl : Lit} (hkey : keyOf P k key = some kl) (v : Value) (hn : ks.length < maxLen) :
    ∃ (v0 : Value) (st : Nat) (w1 : World), (Instr.mapEntry t (.map (some b)) key).run P w = .ok (.tuple #[v0, goInt st]) w1 ∧ w.grownBy w1 (some b) ∧ w1.heap.size = w.heap.size ∧
      ∀ w2 : World, w2.heap[b]? = w1.heap[b]? → ∃ w3, (Instr.entryStore t (.map (some b)) (goInt st) v).run P w2 = .ok () w3 ∧ MapG P k w3 b ((kl, v) :: ks) ∧ w2.grownBy w3 (some b) ∧ w3.heap.size = w2.heap.size := by
  have K := Keyed.of_law KL
  obtain ⟨⟨es, clock, hb, F, hs, hD⟩, h3⟩ := h
  obtain ⟨v0, st, es1, clock1, hr1, _, hr2⟩ := WideElems.entry_then_store KL ht hz hb F hkey
  obtain ⟨w', hu, ho, _⟩ := MapG.put (h := ⟨⟨es, clock, hb, F, hs, hD⟩, h3⟩) K ht hkey v hn
  have gr : ∀ (u : World) (o : Obj) (es0 : Array MapEntry) (c0 : Nat), u.heap[b]? = some (.map es0 c0) → u.grownBy (Go.ChangeMaps.setBlock u b o) (some b) ∧ (Go.ChangeMaps.setBlock u b o).heap.size = u.heap.size := fun u o es0 c0 hu =>
    ⟨⟨rfl, rfl, rfl, by simp [Go.ChangeMaps.setBlock], fun i _ hi => heap_setBlock_other hu _ (fun e => hi (by rw [e]))⟩, by simp [Go.ChangeMaps.setBlock]⟩
  refine ⟨v0, st, _, hr1, (gr _ _ _ _ hb).1, (gr _ _ _ _ hb).2, fun w2 hw2 => ?_⟩
  have hw2' : w2.heap[b]? = some (.map es1 clock1) := hw2.trans (heap_setBlock_same hb _)
  obtain ⟨es', clock', hr3, hr4⟩ := hr2 w2 v hw2'
  rw [hu] at hr4
  obtain ⟨⟨es'', clock'', hb'', F'', hs'', hD''⟩, h3''⟩ := ho
  have hw' : w' = Go.ChangeMaps.setBlock w b (.map es' clock') := by injection hr4
  rw [hw', heap_setBlock_same hb _] at hb''
  injection hb'' with hb''
  injection hb'' with e1 e2
  subst e1; subst e2
  exact ⟨_, hr3, ⟨⟨_, _, heap_setBlock_same hw2' _, F'', hs'', hD''⟩, h3''⟩, (gr _ _ _ _ hw2').1, (gr _ _ _ _ hw2').2⟩
theorem d_lookupT {t ty : TypeId} {m x : Operand} {mv key v : Value} {c : Bool} {w : World} (hr : (Instr.lookup t mv key c).run P w = .ok v w) (hm : Ev l m mv := by exact rfl) (hx : Ev l x key := by exact rfl) : Does P l w (.lookup t m x c) ty v w := d_lookup hr hm hx
theorem d_insert {t ty : TypeId} {m x y : Operand} {mv key v : Value} (hr : (Instr.mapUpdate t mv key v).run P w = .ok () w') (hm : Ev l m mv := by exact rfl) (hx : Ev l x key := by exact rfl) (hy : Ev l y v := by exact rfl) : Does0 P l w (.insert t m x y) ty w' := by
  intro ρ hρ d pos af g
  simp [execOp, hρ _ _ hm, hρ _ _ hx, hρ _ _ hy, hr]
theorem d_mapEntry {t ty : TypeId} {m x : Operand} {mv key v : Value} (hr : (Instr.mapEntry t mv key).run P w = .ok v w') (hm : Ev l m mv := by exact rfl) (hx : Ev l x key := by exact rfl) : Does P l w (.mapEntry t m x) ty v w' := by
  intro ρ hρ d pos af g
  simp [execOp, hρ _ _ hm, hρ _ _ hx, hr]
theorem d_entryStore {t ty : TypeId} {m x y : Operand} {mv s v : Value} (hr : (Instr.entryStore t mv s v).run P w = .ok () w') (hm : Ev l m mv := by exact rfl) (hx : Ev l x s := by exact rfl) (hy : Ev l y v := by exact rfl) : Does0 P l w (.entryStore t m x y) ty w' := by
  intro ρ hρ d pos af g
  simp [execOp, hρ _ _ hm, hρ _ _ hx, hρ _ _ hy, hr]
end
end Go.Proofs.YtjomihhpglojpaaGreatDoor
end
section
/- busbarkit.Num: an error's number. -/
namespace Go.Proofs.YtjomihhpglojpaaGreatDoor
open Go.RowKit
set_option linter.unusedSimpArgs false
set_option linter.unusedVariables false
attribute [local irreducible] wpList wpQuiet wpStill Code.wp Exit.then Exit.inBlock bodyPost Calls Does Does0

theorem num_nil (w : World) : Ret Tryz.prog 46 #[.nilIface] w (fun v w' => v = .int .i64 0 ∧ w' = w) := by
  refine enter1 Tryz.func46 rfl 25 rfl 26 rfl (fun a hF => ?_)
  repeat (first | refine c_seq ?_ | refine c_region _ ?_ | refine wpList_nil ?_ | refine c_then ?_ | refine c_then_ret ?_ | refine wp_ret ?_ | ((apply st hF); (first | exact d_move | exact d_assign | exact d_eqN (ifc _ rfl)); clear hF; clear a; intro a hF) | (apply c_cond_t hF; exact rfl; first | exact rfl | assumption))
  exact ret1 hF rfl rfl ⟨rfl, rfl⟩

theorem num_ok (w : World) (k : Int) (h1 : 1 ≤ k) (h2 : k ≤ 26) : Ret Tryz.prog 46 #[.iface 54 (.int .i64 k)] w (fun v w' => v = .int .i64 k ∧ w' = w) := by
  refine enter1 Tryz.func46 rfl 25 rfl 26 rfl (fun a hF => ?_)
  repeat (first | refine c_seq ?_ | refine c_block ?_ | refine c_region _ ?_ | refine wpList_nil ?_ | refine c_then ?_ | refine wp_skip ?_ | ((apply st hF); (first | exact d_move | exact d_assign | exact d_eqN (ifc _ rfl)); clear hF; clear a; intro a hF) | (apply c_cond_f hF; exact rfl; first | exact rfl | assumption))
  refine c_loop (fun q a w' => ∃ n : Nat, 1 ≤ n ∧ n ≤ 27 ∧ q = 27 - n ∧ Fr 26 [(0, .iface 54 (.int .i64 k)), (3, .int .i64 (if k < n then k else 0)), (4, .int .i64 (n : Nat))] a ∧ w' = w) 26
    ⟨1, by omega, by omega, rfl, (by rw [if_neg (by omega)]; exact hF.keep' ⟨rfl, rfl, rfl, trivial⟩), rfl⟩ ?_
  clear hF a
  rintro q a w' ⟨n, hn1, hn, rfl, hF, rfl⟩
  by_cases hlt : n ≤ 26
  · repeat (first | refine c_seq ?_ | refine c_block ?_ | refine c_region _ ?_ | refine wpList_nil ?_ | refine c_then ?_ | refine wp_skip ?_ | ((apply st hF); (first | exact d_move | exact d_cmpT | exact d_makeI (con _ rfl)); clear hF; clear a; intro a hF) | (apply c_cond_t hF; exact rfl; first | exact rfl | assumption))
    refine stc hF (is_ok w' k n) cal72 ⟨rfl, rfl, trivial⟩ (k := fun a v w2 hR hF => ?_)
    obtain ⟨rfl, rfl⟩ := hR
    by_cases hk : k = (n : Int)
    · rw [if_neg (by omega)] at hF
      rw [show (k == (n : Int)) = true from beq_iff_eq.2 hk] at hF
      repeat (first | refine c_seq ?_ | refine c_region _ ?_ | refine wpList_nil ?_ | refine c_then ?_ | refine c_in ?_ | refine wp_skip ?_ | ((apply st hF); (first | exact d_move | exact d_assign | exact d_add | exact d_cmpF); clear hF; clear a; intro a hF) | (apply c_cond_t hF; exact rfl; first | exact rfl | assumption) | (apply c_cond_f hF; exact rfl; first | exact rfl | assumption))
      refine ⟨27 - (n + 1), by omega, n + 1, by omega, by omega, rfl, ?_, rfl⟩
      rw [if_pos (by omega), hk]
      rw [hk] at hF
      exact hF.keep' ⟨rfl, rfl, rfl, trivial⟩
    · rw [show (k == (n : Int)) = false from beq_eq_false_iff_ne.2 hk] at hF
      repeat (first | refine c_region _ ?_ | refine wpList_nil ?_ | refine c_then ?_ | refine c_in ?_ | refine wp_skip ?_ | ((apply st hF); (first | exact d_move | exact d_assign | exact d_add); clear hF; clear a; intro a hF) | (apply c_cond_f hF; exact rfl; first | exact rfl | assumption))
      refine ⟨27 - (n + 1), by omega, n + 1, by omega, by omega, rfl, ?_, rfl⟩
      by_cases hkl : k < n
      · rw [if_pos (by omega)]
        rw [if_pos hkl] at hF
        exact hF.keep' ⟨rfl, rfl, rfl, trivial⟩
      · rw [if_neg (by omega)]
        rw [if_neg hkl] at hF
        exact hF.keep' ⟨rfl, rfl, rfl, trivial⟩
  · rw [if_pos (by omega)] at hF
    repeat (first | refine c_seq ?_ | refine c_region _ ?_ | refine wpList_nil ?_ | refine c_then ?_ | refine c_then_exit ?_ | refine c_in_hit ?_ | refine wp_exit ?_ | ((first | apply st hF | apply stg hF); (first | exact d_move | exact d_cmpF | exact d_makeI (con _ rfl)); clear hF; clear a; intro a hF) | (apply c_cond_f hF; exact rfl; first | exact rfl | assumption))
    refine stcg hF (is_ok w' k 0) cal72 ⟨rfl, rfl, trivial⟩ (k := fun a v w2 hR hF => ?_)
    obtain ⟨rfl, rfl⟩ := hR
    rw [show (k == 0) = false from beq_eq_false_iff_ne.2 (by omega)] at hF
    repeat (first | refine c_seq ?_ | refine c_region _ ?_ | refine wpList_nil ?_ | refine c_then ?_ | refine wp_skip ?_ | refine wp_ret ?_ | ((apply st hF); (first | exact d_move | exact d_assign | exact d_pickF); clear hF; clear a; intro a hF) | (apply c_cond_f hF; exact rfl; first | exact rfl | assumption))
    exact ret1 hF rfl rfl ⟨rfl, rfl⟩
end Go.Proofs.YtjomihhpglojpaaGreatDoor
end
section
/- errors.Is over a fault: an error with a place, which wraps its number. busbarkit.Num of it. -/
namespace Go.Proofs.YtjomihhpglojpaaGreatDoor
open Go.RowKit Go.Extern.Stop Go.Stop Go.Extern

/-- A fault, as an error. -/
def fltV (n x y : Int) : Value := .iface 100 (.agg #[.int .i64 n, .int .i64 x, .int .i64 y])

theorem noIsF (v : Value) (xT : TypeId) (w : World) : (Instr.typeAssert (.iface 100 v) xT 206 true).run Tryz.prog w = .ok (.tuple #[.nilIface, .bool false]) w := run_typeAssert_lacksB Tryz.underlying206 (by kernel_rfl) (by kernel_rfl) v xT w
theorem unwrapF (v : Value) (xT : TypeId) (w : World) : (Instr.typeAssert (.iface 100 v) xT 201 true).run Tryz.prog w = .ok (.tuple #[.iface 100 v, .bool true]) w := run_typeAssert_hasB Tryz.underlying201 (by kernel_rfl) v xT w
theorem isMethodUnwrap (v : Value) (w : World) : (Go.method 342 100 v "Unwrap").run Tryz.prog w = .ok (146, v) w := by kernel_rfl
theorem isNeF (v u : Value) (w : World) : (binOp .eql 31 (.iface 100 v) (.iface 54 u)).run Tryz.prog w = .ok (.bool false) w := run_eql_iface_types _ _ v u Tryz.underlying31 (by decide) w

section
open Go.RowKit
set_option linter.unusedSimpArgs false
set_option linter.unusedVariables false
attribute [local irreducible] wpList wpQuiet wpStill Code.wp Exit.then Exit.inBlock bodyPost Calls Does Does0
theorem unwrapF_ok (w : World) (n x y : Int) : Ret Tryz.prog 146 #[.agg #[.int .i64 n, .int .i64 x, .int .i64 y]] w (fun v w' => v = .iface 54 (.int .i64 n) ∧ w' = w.alloc (.cells #[.int .i64 n, .int .i64 x, .int .i64 y] 100)) := by
  refine enter1 Tryz.func146 rfl 5 rfl 6 rfl (fun a hF => ?_)
  repeat (first | refine c_seq ?_ | refine c_region _ ?_)
  refine st hF (d_box rfl) rfl (fun a hF => ?_)
  have c0 : (w.alloc (.cells (Value.agg #[.int .i64 n, .int .i64 x, .int .i64 y]).cells 100)).cell? ⟨w.heap.size, 0, none⟩ = some (.int .i64 n) := cell_at (heap_alloc_new w _) rfl
  repeat (first | refine c_seq ?_ | refine c_region _ ?_ | refine wpList_nil ?_ | refine c_then ?_ | refine wp_ret ?_ | ((apply st hF); (first | exact d_assign | exact d_fieldAddr (fld _ _ _ _ rfl) (isz _ _ rfl) | exact d_makeI (con _ rfl) | exact d_load (und _ _ rfl) c0); clear hF; clear a; intro a hF))
  exact ret1 hF rfl rfl ⟨rfl, rfl⟩
end

set_option maxRecDepth 100000 in
set_option maxHeartbeats 8000000 in
theorem isF_calls (n x y b : Int) (w : World) :
    Calls Tryz.prog 72 #[fltV n x y, .iface 54 (.int .i64 b)] w fun e w' => e = .returned (.bool (n == b)) ∧ w' = w.alloc (.cells #[.int .i64 n, .int .i64 x, .int .i64 y] 100) := by
  unfold fltV
  have h8 := @run_callFunc_extern Tryz.prog 97 _ Extern.ReflectliteType.typeOf Tryz.func97 (by kernel_rfl) (by kernel_rfl) (by kernel_rfl) (by kernel_rfl)
  have tT := isTypeOf
  have cT := isComparable
  have mR := isMethodComparable
  have nE := noIsE
  have uE := noUnwrapE
  have vE := noUnwrapsE
  have nF := noIsF
  have uF := unwrapF
  have mU := isMethodUnwrap
  have qF := isNeF
  have heq := fun w => Go.Lib.run_eql_iface_int (P := Tryz.prog) w (t := 31) (tx := 54) (k := .i64) n b Tryz.underlying31 isCompE Tryz.underlying54
  cases hab : (n == b) with
  | true =>
    rw [hab] at heq
    go_enter Tryz.func72, Tryz.ntmps72
    go_wp2
    refine wp_loop_rounds 2 ?_
    rw [rounds_succ]
    go_wp2_with (first | (go_at_call 146; refine Calls.mono (unwrapF_ok _ n x y) ?_; rintro e w' ⟨v, rfl, rfl, rfl⟩) | go_in)
    rw [rounds_succ]
    go_wp2
    go_ret
    exact ⟨rfl, rfl⟩
  | false =>
    rw [hab] at heq
    go_enter Tryz.func72, Tryz.ntmps72
    go_wp2
    refine wp_loop_rounds 2 ?_
    rw [rounds_succ]
    go_wp2_with (first | (go_at_call 146; refine Calls.mono (unwrapF_ok _ n x y) ?_; rintro e w' ⟨v, rfl, rfl, rfl⟩) | go_in)
    rw [rounds_succ]
    go_wp2
    go_ret
    exact ⟨rfl, rfl⟩
theorem isF_ok (w : World) (n x y b : Int) : Ret Tryz.prog 72 #[fltV n x y, .iface 54 (.int .i64 b)] w (fun v w' => v = .bool (n == b) ∧ Below w.heap.size w w') :=
  Calls.mono (isF_calls n x y b w) fun e w' h => ⟨_, h.1, rfl, by rw [h.2]; exact (Below.refl _ w).grown (World.grownBy_alloc _ _ none) (Nat.le_refl _) (fun k hk => by cases hk)⟩
end Go.Proofs.YtjomihhpglojpaaGreatDoor
end
