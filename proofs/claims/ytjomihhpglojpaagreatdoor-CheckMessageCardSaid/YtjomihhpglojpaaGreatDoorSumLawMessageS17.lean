/- Laid together by a program of mine: MsgE MapU MeetL UnionW Num. -/
import Derived.Test.YtjomihhpglojpaaGreatDoorSumLawMessageS16
import Derived.Test.YtjomihhpglojpaaGreatDoorSumLawMessageS7
import Derived.Test.YtjomihhpglojpaaGreatDoorSumLawMessageS15
import Derived.Test.YtjomihhpglojpaaGreatDoorSumLawMessageS13
set_option linter.unusedSimpArgs false
set_option linter.unusedVariables false
section
/- What is wrong with a message: plain. -/
namespace Go.Proofs.YtjomihhpglojpaaGreatDoor
open Go.RowKit
set_option linter.unusedSimpArgs false
set_option linter.unusedVariables false
attribute [local irreducible] wpList wpQuiet wpStill Code.wp Exit.then Exit.inBlock bodyPost Calls Does Does0
open Classical in
/-- The first so many numbers: the first bad one. -/
noncomputable def firstAt (bad : Nat → Prop) : Nat → Option Nat
  | 0 => none
  | n + 1 => match firstAt bad n with
    | some i => some i
    | none => if bad n then some n else none
theorem firstAt_spec (bad : Nat → Prop) : ∀ n, (firstAt bad n = none ∧ ∀ i, i < n → ¬ bad i) ∨ ∃ i, firstAt bad n = some i ∧ i < n ∧ bad i ∧ ∀ j, j < i → ¬ bad j
  | 0 => .inl ⟨rfl, fun i hi => absurd hi (Nat.not_lt_zero _)⟩
  | n + 1 => by
    unfold firstAt
    rcases firstAt_spec bad n with ⟨h1, h2⟩ | ⟨i, h1, h2, h3, h4⟩
    · rw [h1]
      by_cases hb : bad n
      · exact .inr ⟨n, if_pos hb, by omega, hb, h2⟩
      · refine .inl ⟨if_neg hb, fun i hi => ?_⟩
        by_cases e : i = n
        · subst e; exact hb
        · exact h2 i (by omega)
    · rw [h1]
      exact .inr ⟨i, rfl, by omega, h3, h4⟩
theorem firstAt_none {bad : Nat → Prop} {n : Nat} (h : ∀ i, i < n → ¬ bad i) : firstAt bad n = none := by
  rcases firstAt_spec bad n with ⟨h1, _⟩ | ⟨i, h1, h2, h3, h4⟩
  · exact h1
  · exact absurd h3 (h i h2)
theorem firstAt_some {bad : Nat → Prop} {n i : Nat} (h : i < n) (hb : bad i) (hn : ∀ j, j < i → ¬ bad j) : firstAt bad n = some i := by
  rcases firstAt_spec bad n with ⟨h1, h2⟩ | ⟨k, h1, h2, h3, h4⟩
  · exact absurd hb (h2 i h)
  · by_cases e : k < i
    · exact absurd h3 (hn k e)
    · by_cases e2 : i < k
      · exact absurd hb (h4 i e2)
      · rw [h1, show k = i by omega]
theorem not_of_none {bad : Nat → Prop} {n i : Nat} (h : firstAt bad n = none) (hi : i < n) : ¬ bad i := by
  rcases firstAt_spec bad n with ⟨_, h2⟩ | ⟨k, h1, _⟩
  · exact h2 i hi
  · rw [h] at h1; cases h1
theorem of_some {bad : Nat → Prop} {n i : Nat} (h : firstAt bad n = some i) : i < n ∧ bad i ∧ ∀ j, j < i → ¬ bad j := by
  rcases firstAt_spec bad n with ⟨h1, _⟩ | ⟨k, h1, h2⟩
  · rw [h] at h1; cases h1
  · rw [h] at h1; cases h1; exact h2
theorem firstAt_congr {bad bad' : Nat → Prop} {n : Nat} (h : ∀ i, i < n → (bad i ↔ bad' i)) : firstAt bad n = firstAt bad' n := by
  rcases firstAt_spec bad n with ⟨h1, h2⟩ | ⟨k, h1, h2, h3, h4⟩
  · rw [h1, firstAt_none fun i hi hb => h2 i hi ((h i hi).2 hb)]
  · rw [h1, firstAt_some h2 ((h k h2).1 h3) fun j hj hb => h4 j hj ((h j (by omega)).2 hb)]

/-- Signal number i and its texts. -/
def sg (ps : List SigT) (i : Nat) : Sig := (ps.getD i (sigM, [])).1
def tx (ps : List SigT) (i : Nat) : List ByteArray := (ps.getD i (sigM, [])).2
theorem sg_lt {ps : List SigT} {i : Nat} (h : i < ps.length) : sg ps i = ps[i].1 := by simp [sg, List.getD, h]
theorem tx_lt {ps : List SigT} {i : Nat} (h : i < ps.length) : tx ps i = ps[i].2 := by simp [tx, List.getD, h]
/-- May both be there at once? -/
def togB (s t : Sig) : Bool := decide (s.role ≠ 2 ∨ t.role ≠ 2 ∨ s.branch = t.branch)
/-- The first multiplexor among the first so many. -/
def MuxR (l : List Sig) (n : Nat) (v : Int) : Prop :=
  (∃ i : Nat, ∃ h : i < l.length, i < n ∧ l[i].role = 1 ∧ (∀ j (hj : j < l.length), j < i → l[j].role ≠ 1) ∧ v = (i : Int)) ∨ ((∀ j (hj : j < l.length), j < n → l[j].role ≠ 1) ∧ v = -1)
/-- Have two signals a bit in common? -/
def shareB (s t : Sig) : Prop := ∃ l m x, Pl.bitsOfSig s.start s.size s.mot = .ok l ∧ Pl.bitsOfSig t.start t.size t.mot = .ok m ∧ x ∈ l ∧ x ∈ m
open Classical in
/-- What is wrong with signal number i, by itself and beside those ahead of it. -/
noncomputable def oneE (ps : List SigT) (n : Int) (i : Nat) : Int :=
  if aloneE (sg ps i) (tx ps i) n ≠ 0 then aloneE (sg ps i) (tx ps i) n
  else if ∃ k, k < i ∧ (sg ps k).name = (sg ps i).name then 12
  else if (sg ps i).role = 1 ∧ ∃ k, k < i ∧ (sg ps k).role = 1 then 14 else 0
def isMux (ps : List SigT) (i : Nat) : Prop := (sg ps i).role = 1
/-- A branch without a multiplexor, or with a value that does not fit it. -/
def twoB (ps : List SigT) (i : Nat) : Prop := (sg ps i).role = 2 ∧ ∀ k, firstAt (isMux ps) ps.length = some k → fitsB (sg ps i).branch (sg ps k).size (sg ps k).sgn = false
/-- It meets one ahead of it. -/
def meetB (ps : List SigT) (i : Nat) : Prop := ∃ k, k < i ∧ togB (sg ps k) (sg ps i) = true ∧ shareB (sg ps k) (sg ps i)
def thenF (r : Option Nat) (e : Nat → Int) (k : Int × Option Nat) : Int × Option Nat := match r with | some i => (e i, some i) | none => k
/-- What is wrong with a message, and with which of its signals. -/
noncomputable def msgE (m : Msg) (ps : List SigT) : Int × Option Nat :=
  if headE m ≠ 0 then (headE m, none)
  else thenF (firstAt (fun i => oneE ps m.size i ≠ 0) ps.length) (oneE ps m.size)
    (thenF (firstAt (twoB ps) ps.length) (fun _ => 14)
      (thenF (firstAt (meetB ps) ps.length) (fun _ => 17) (0, none)))
/-- The place of the message, or of a signal. -/
def placeL (m : Msg) (ps : List SigT) : Option Nat → Int
  | none => m.line
  | some i => (sg ps i).line
def placeC (m : Msg) (ps : List SigT) : Option Nat → Int
  | none => m.col
  | some i => (sg ps i).col
theorem oneE_bnd (ps : List SigT) (n : Int) (i : Nat) : 0 ≤ oneE ps n i ∧ oneE ps n i ≤ 26 := by
  have := alone_bnd (sg ps i) (tx ps i) n
  unfold oneE
  repeat' split
  all_goals omega
theorem msgE_bnd (m : Msg) (ps : List SigT) : 0 ≤ (msgE m ps).1 ∧ (msgE m ps).1 ≤ 26 := by
  unfold msgE
  split
  · exact head_bnd m
  · unfold thenF
    split
    · exact oneE_bnd _ _ _
    · split
      · simp
      · split <;> simp
/-- What the three loops find. -/
theorem msgE_head {m : Msg} {ps : List SigT} (h : headE m ≠ 0) : msgE m ps = (headE m, none) := if_pos h
theorem msgE_one {m : Msg} {ps : List SigT} {i : Nat} (h : headE m = 0) (hi : i < ps.length) (hb : oneE ps m.size i ≠ 0) (hn : ∀ j, j < i → oneE ps m.size j = 0) : msgE m ps = (oneE ps m.size i, some i) := by
  unfold msgE
  rw [if_neg (fun e => e h), firstAt_some hi hb (fun j hj e => e (hn j hj))]
  rfl
theorem msgE_two {m : Msg} {ps : List SigT} {i : Nat} (h : headE m = 0) (h1 : ∀ j, j < ps.length → oneE ps m.size j = 0) (hi : i < ps.length) (hb : twoB ps i) (hn : ∀ j, j < i → ¬ twoB ps j) : msgE m ps = (14, some i) := by
  unfold msgE
  rw [if_neg (fun e => e h), firstAt_none (fun j hj e => e (h1 j hj)), firstAt_some hi hb hn]
  rfl
theorem msgE_meet {m : Msg} {ps : List SigT} {i : Nat} (h : headE m = 0) (h1 : ∀ j, j < ps.length → oneE ps m.size j = 0) (h2 : ∀ j, j < ps.length → ¬ twoB ps j) (hi : i < ps.length) (hb : meetB ps i) (hn : ∀ j, j < i → ¬ meetB ps j) : msgE m ps = (17, some i) := by
  unfold msgE
  rw [if_neg (fun e => e h), firstAt_none (fun j hj e => e (h1 j hj)), firstAt_none h2, firstAt_some hi hb hn]
  rfl
theorem msgE_ok {m : Msg} {ps : List SigT} (h : headE m = 0) (h1 : ∀ j, j < ps.length → oneE ps m.size j = 0) (h2 : ∀ j, j < ps.length → ¬ twoB ps j) (h3 : ∀ j, j < ps.length → ¬ meetB ps j) : msgE m ps = (0, none) := by
  unfold msgE
  rw [if_neg (fun e => e h), firstAt_none (fun j hj e => e (h1 j hj)), firstAt_none h2, firstAt_none h3]
  rfl
/-- Nothing is wrong. -/
structure MsgGood (m : Msg) (ps : List SigT) : Prop where
  head : headE m = 0
  one : ∀ j, j < ps.length → oneE ps m.size j = 0
  two : ∀ j, j < ps.length → ¬ twoB ps j
  meet : ∀ j, j < ps.length → ¬ meetB ps j
theorem msgE_zero {m : Msg} {ps : List SigT} : (msgE m ps).1 = 0 ↔ MsgGood m ps := by
  constructor
  · intro h
    by_cases h0 : headE m = 0
    · rcases firstAt_spec (fun i => oneE ps m.size i ≠ 0) ps.length with ⟨e1, n1⟩ | ⟨i, _, a1, a2, a3⟩
      · have k1 : ∀ j, j < ps.length → oneE ps m.size j = 0 := fun j hj => Classical.byContradiction fun e => n1 j hj e
        rcases firstAt_spec (twoB ps) ps.length with ⟨e2, n2⟩ | ⟨i, _, a1, a2, a3⟩
        · rcases firstAt_spec (meetB ps) ps.length with ⟨e3, n3⟩ | ⟨i, _, a1, a2, a3⟩
          · exact ⟨h0, k1, n2, n3⟩
          · rw [msgE_meet h0 k1 n2 a1 a2 a3] at h; simp at h
        · rw [msgE_two h0 k1 a1 a2 a3] at h; simp at h
      · rw [msgE_one h0 a1 a2 (fun j hj => Classical.byContradiction fun e => a3 j hj e)] at h
        exact absurd h a2
    · rw [msgE_head h0] at h
      exact absurd h h0
  · intro h
    rw [msgE_ok h.head h.one h.two h.meet]
theorem msgE_none {m : Msg} {ps : List SigT} (h : (msgE m ps).1 = 0) : msgE m ps = (0, none) := by
  have := msgE_zero.1 h
  exact msgE_ok this.head this.one this.two this.meet
theorem alone_of_one {ps : List SigT} {n : Int} {i : Nat} (h : oneE ps n i = 0) : aloneE (sg ps i) (tx ps i) n = 0 := by
  unfold oneE at h
  split at h
  · exact h
  · rename_i e; exact Classical.byContradiction e
theorem names_of_one {ps : List SigT} {n : Int} {i : Nat} (h : oneE ps n i = 0) : ∀ k, k < i → (sg ps k).name ≠ (sg ps i).name := by
  intro k hk e
  unfold oneE at h
  rw [if_neg (fun x => x (alone_of_one (by unfold oneE; exact h))), if_pos ⟨k, hk, e⟩] at h
  cases h
theorem mux_of_one {ps : List SigT} {n : Int} {i : Nat} (h : oneE ps n i = 0) (hr : (sg ps i).role = 1) : ∀ k, k < i → (sg ps k).role ≠ 1 := by
  intro k hk e
  have h0 := alone_of_one h
  have h1 := names_of_one h
  unfold oneE at h
  rw [if_neg (fun x => x h0), if_neg (fun ⟨k, hk, e⟩ => h1 k hk e), if_pos ⟨hr, k, hk, e⟩] at h
  cases h
theorem one_of {ps : List SigT} {n : Int} {i : Nat} (h0 : aloneE (sg ps i) (tx ps i) n = 0) (h1 : ∀ k, k < i → (sg ps k).name ≠ (sg ps i).name) (h2 : (sg ps i).role = 1 → ∀ k, k < i → (sg ps k).role ≠ 1) : oneE ps n i = 0 := by
  unfold oneE
  rw [if_neg (fun x => x h0), if_neg (fun ⟨k, hk, e⟩ => h1 k hk e), if_neg (fun ⟨hr, k, hk, e⟩ => h2 hr k hk e)]
theorem where_of_alone {s : Sig} {ss : List ByteArray} {n : Int} (h : aloneE s ss n = 0) : Pl.whereE s.start s.size s.mot n = 0 := by
  unfold aloneE at h
  split at h
  · cases h
  · split at h
    · cases h
    · split at h
      · exact h
      · rename_i e; exact Classical.byContradiction e
theorem name_of_alone {s : Sig} {ss : List ByteArray} {n : Int} (h : aloneE s ss n = 0) : wordB s.name = true := by
  unfold aloneE at h
  split at h
  · cases h
  · rename_i e; simpa using e
theorem role_of_alone {s : Sig} {ss : List ByteArray} {n : Int} (h : aloneE s ss n = 0) : ¬ roleB s := by
  unfold aloneE at h
  split at h
  · cases h
  · split at h
    · cases h
    · rename_i e; exact e
end Go.Proofs.YtjomihhpglojpaaGreatDoor
end
section
/- Maps of the call's own from numbers to sets of bits. -/
namespace Go.Proofs.YtjomihhpglojpaaGreatDoor
open Go.RowKit
open Go.Maps (Keyed IsMap)
section
variable {P : Program} {w w' : World}
def encB (s : List Bool) : List UInt8 := s.map fun b => if b then 1 else 0
theorem encB_inj : ∀ {s t : List Bool}, encB s = encB t → s = t
  | [], [], _ => rfl
  | [], _ :: _, h => by simp [encB] at h
  | _ :: _, [], h => by simp [encB] at h
  | a :: s, b :: t, h => by
    unfold encB at h
    rw [List.map_cons, List.map_cons, List.cons.injEq] at h
    have h2 := encB_inj (s := s) (t := t) h.2
    subst h2
    cases a <;> cases b <;> simp at h <;> rfl
theorem setC_one {s t : List Bool} (h : setC s = setC t) : s = t := by
  have e : s.map Value.bool = t.map Value.bool := by
    have := congrArg Array.toList h
    simpa [setC] using this
  exact (List.map_inj_right (fun a b hab => Value.bool.inj hab)).1 e
open Classical in
noncomputable def setElem (v : Value) : Option (DataW Unit × List MemPlace) :=
  if h : ∃ s : List Bool, v = .agg (setC s) then some (.lit (.string (encB (Classical.choose h))), []) else none
theorem setElem_set (s : List Bool) : setElem (.agg (setC s)) = some (.lit (.string (encB s)), []) := by
  unfold setElem
  have h : ∃ t : List Bool, Value.agg (setC s) = .agg (setC t) := ⟨s, rfl⟩
  rw [dif_pos h]
  have hc := Classical.choose_spec h
  have e : Classical.choose h = s := (setC_one (Value.agg.inj hc)).symm
  rw [e]
theorem setElem_inv {v : Value} {s : List Bool} {ps : List MemPlace} (h : setElem v = some (.lit (.string (encB s)), ps)) : v = .agg (setC s) := by
  unfold setElem at h
  split at h
  · rename_i hx
    have hc := Classical.choose_spec hx
    injection h with h
    injection h with h1 h2
    injection h1 with h1
    injection h1 with h1
    rw [← encB_inj h1]; exact hc
  · cases h
def keyU (k : Int) : Lit := .int .u64 k
/-- What the map holds, the latest first. -/
def kvD : List (Int × List Bool) → DataW Unit
  | [] => .map []
  | p :: r => (kvD r).put (keyU p.1) (.lit (.string (encB p.2)))
def kvAt (k : Int) : List (Int × List Bool) → List Bool
  | [] => Pl.emptyS
  | p :: r => if k = p.1 then p.2 else kvAt k r
theorem kvD_map : ∀ ks, IsMap (kvD ks)
  | [] => ⟨_, rfl⟩
  | p :: r => by
    obtain ⟨es, h⟩ := kvD_map r
    unfold kvD
    rw [h]
    exact ⟨_, rfl⟩
theorem kvD_at (t : Int) : ∀ ks, (kvD ks).atKey (keyU t) (.lit (.string (encB Pl.emptyS))) = .lit (.string (encB (kvAt t ks)))
  | [] => rfl
  | p :: r => by
    unfold kvD kvAt
    by_cases e : t = p.1
    · rw [if_pos e, e, Maps.atKey_put_same (kvD_map r) (by trivial)]
    · rw [if_neg e, Maps.atKey_put_other (fun h => e (by injection h)), kvD_at t r]
/-- Block b is a map of the call's own: it holds ks. -/
def SetU (P : Program) (k : TypeId) (w : World) (b : Nat) (ks : List (Int × List Bool)) : Prop := w.ownsMap P k setElem b ks.length (kvD ks)
theorem SetU.new {k : TypeId} (w : World) : SetU P k (w.alloc (.map #[] 0)) w.heap.size [] := World.ownsMap_made w P k _
theorem SetU.kept {k : TypeId} {b : Nat} {ks : List (Int × List Bool)} {row : Option Nat} (h : SetU P k w b ks) (hg : w.grownBy w' row) (hne : some b ≠ row) : SetU P k w' b ks := World.ownsMap.kept h hg hne
theorem SetU.lt {k : TypeId} {b : Nat} {ks : List (Int × List Bool)} (h : SetU P k w b ks) : b < w.heap.size := World.ownsMap.lt h
theorem SetU.below {k : TypeId} {b : Nat} {ks : List (Int × List Bool)} (h : SetU P k w b ks) (hb : Below w.heap.size w w') : SetU P k w' b ks := by
  have hlt := h.lt
  obtain ⟨es, clock, h1, h2⟩ := h
  exact ⟨es, clock, (hb.block b hlt).trans h1, h2⟩
theorem key_u64 {k : TypeId} (hk : P.underlying k = some (.int .u64)) {v : Int} (hw : (Lit.int .u64 v).wf = true) : keyOf P k (.int .u64 v) = some (keyU v) := Go.Maps.keyOf_int_mk hk hw
theorem SetU.look {t k e : TypeId} {b : Nat} {ks : List (Int × List Bool)} (h : SetU P k w b ks) (ht : P.underlying t = some (.map k e)) (hk : P.underlying k = some (.int .u64)) (hz : (zeroValue e).run P w = .ok (.agg (setC Pl.emptyS)) w) (v : Int) (hw : (Lit.int .u64 v).wf = true) :
    (Instr.lookup t (.map (some b)) (.int .u64 v) false).run P w = .ok (.agg (setC (kvAt v ks))) w := by
  obtain ⟨x, ps, hr, hv⟩ := World.ownsMap.lookup h (Maps.int_keyed hk) ht hz (setElem_set _) (key_u64 hk hw)
  rw [kvD_at] at hv
  rw [hr, setElem_inv hv]
theorem SetU.put {t k e : TypeId} {b : Nat} {ks : List (Int × List Bool)} (h : SetU P k w b ks) (ht : P.underlying t = some (.map k e)) (hk : P.underlying k = some (.int .u64)) (v : Int) (hw : (Lit.int .u64 v).wf = true) (s : List Bool) (hn : ks.length < maxLen) :
    ∃ w', (Instr.mapUpdate t (.map (some b)) (.int .u64 v) (.agg (setC s))).run P w = .ok () w' ∧ SetU P k w' b ((v, s) :: ks) ∧ w.grownBy w' (some b) ∧ w'.heap.size = w.heap.size := by
  obtain ⟨w', hr, ho, ht2⟩ := World.ownsMap.store (P := P) (w := w) (b := b) (k := k) (R := setElem) h (Maps.int_keyed hk) ht hn (key_u64 hk hw) (setElem_set s)
  refine ⟨w', hr, ho, ht2.grown, ?_⟩
  obtain ⟨_, _, _, _, _, rfl⟩ := ht2
  simp [Go.ChangeMaps.setBlock]
end
end Go.Proofs.YtjomihhpglojpaaGreatDoor
end
section
/- Sets of bits, kept while the signals are gone through: which meet. Plain. -/
namespace Go.Proofs.YtjomihhpglojpaaGreatDoor
open Go.RowKit
set_option linter.unusedSimpArgs false
set_option linter.unusedVariables false
attribute [local irreducible] wpList wpQuiet wpStill Code.wp Exit.then Exit.inBlock bodyPost Calls Does Does0
/-- Has the signal this bit? -/
def inB (s : Sig) (x : Nat) : Prop := ∃ l, Pl.bitsOfSig s.start s.size s.mot = .ok l ∧ (x : Int) ∈ l
theorem inB_lt {s : Sig} {x : Nat} (h : inB s x) : x < 64 := by
  obtain ⟨l, h1, h2⟩ := h
  have := (Pl.row_set' h1).2.1 _ h2
  omega
theorem share_in {s t : Sig} : shareB s t ↔ ∃ x, inB s x ∧ inB t x := by
  constructor
  · rintro ⟨l, m, x, h1, h2, h3, h4⟩
    have := (Pl.row_set' h1).2.1 _ h3
    obtain ⟨n, rfl⟩ : ∃ n : Nat, x = (n : Int) := ⟨x.toNat, by omega⟩
    exact ⟨n, ⟨l, h1, h3⟩, ⟨m, h2, h4⟩⟩
  · rintro ⟨x, ⟨l, h1, h3⟩, ⟨m, h2, h4⟩⟩
    exact ⟨l, m, x, h1, h2, h3, h4⟩
/-- The set is the signal's bits. -/
structure SetIs (s : Sig) (t : List Bool) : Prop where
  len : t.length = 64
  at_ : ∀ x, x < 64 → (t.getD x false = true ↔ inB s x)
theorem set_is {s : Sig} {l : List Int} {t : List Bool} (h1 : Pl.bitsOfSig s.start s.size s.mot = .ok l) (h2 : Pl.setOf l = .ok t) : SetIs s t := by
  obtain ⟨_, _, t', e, hl, hg⟩ := Pl.row_set' h1
  rw [h2] at e
  cases e
  refine ⟨hl, fun x hx => ?_⟩
  rw [hg x]
  constructor
  · intro h; exact ⟨l, h1, of_decide_eq_true h⟩
  · rintro ⟨l', e, hm⟩
    rw [h1] at e
    cases e
    exact decide_eq_true hm
structure ApI (ps : List SigT) (k : Nat) (sa sn : List Bool) (kv : List (Int × List Bool)) : Prop where
  la : sa.length = 64
  ln : sn.length = 64
  lk : ∀ v, (kvAt v kv).length = 64
  al : ∀ x, x < 64 → (sa.getD x false = true ↔ ∃ j, j < k ∧ (sg ps j).role ≠ 2 ∧ inB (sg ps j) x)
  an : ∀ x, x < 64 → (sn.getD x false = true ↔ ∃ j, j < k ∧ (sg ps j).role = 2 ∧ inB (sg ps j) x)
  br : ∀ v x, x < 64 → ((kvAt v kv).getD x false = true ↔ ∃ j, j < k ∧ (sg ps j).role = 2 ∧ (sg ps j).branch = v ∧ inB (sg ps j) x)
  no : ∀ j, j < k → ¬ meetB ps j
  kl : kv.length ≤ k
theorem ApI.zero (ps : List SigT) : ApI ps 0 Pl.emptyS Pl.emptyS [] := by
  have e : ∀ x, ¬ Pl.emptyS.getD x false = true := fun x => by rw [Pl.emptyS_get]; simp
  exact ⟨emptyS_len, emptyS_len, fun _ => emptyS_len, fun x _ => ⟨fun h => absurd h (e x), fun ⟨j, hj, _⟩ => absurd hj (Nat.not_lt_zero _)⟩, fun x _ => ⟨fun h => absurd h (e x), fun ⟨j, hj, _⟩ => absurd hj (Nat.not_lt_zero _)⟩, fun v x _ => ⟨fun h => absurd h (e x), fun ⟨j, hj, _⟩ => absurd hj (Nat.not_lt_zero _)⟩, fun j hj => absurd hj (Nat.not_lt_zero _), Nat.le_refl _⟩
theorem or_get {s t : List Bool} {x : Nat} (h : x < 64) : (Pl.zipS (· || ·) s t).getD x false = true ↔ (s.getD x false = true ∨ t.getD x false = true) := by
  rw [Pl.zipS_get _ _ _ _ h, Bool.or_eq_true]
theorem and_empty {s t : List Bool} : Pl.zipS (· && ·) s t = Pl.emptyS ↔ ∀ x, x < 64 → ¬ (s.getD x false = true ∧ t.getD x false = true) := by
  constructor
  · intro h x hx ⟨h1, h2⟩
    have := Pl.zipS_get (· && ·) s t x hx
    rw [h, Pl.emptyS_get, h1, h2] at this
    simp at this
  · intro h
    refine Pl.bools_ext (Pl.zipS_len _ _ _) emptyS_len fun x hx => ?_
    rw [Pl.zipS_get _ _ _ _ hx, Pl.emptyS_get]
    have := h x hx
    cases h1 : s.getD x false <;> cases h2 : t.getD x false <;> simp_all
/-- What signal number k must not meet. -/
def withS (ps : List SigT) (k : Nat) (sa sn : List Bool) (kv : List (Int × List Bool)) : List Bool :=
  if (sg ps k).role = 2 then Pl.zipS (· || ·) sa (kvAt (sg ps k).branch kv) else Pl.zipS (· || ·) sa sn
theorem ApI.meet {ps : List SigT} {k : Nat} {sa sn : List Bool} {kv : List (Int × List Bool)} (h : ApI ps k sa sn kv) {t : List Bool} (ht : SetIs (sg ps k) t) : Pl.zipS (· && ·) t (withS ps k sa sn kv) = Pl.emptyS ↔ ¬ meetB ps k := by
  have key : ∀ x, x < 64 → ((withS ps k sa sn kv).getD x false = true ↔ ∃ j, j < k ∧ togB (sg ps j) (sg ps k) = true ∧ inB (sg ps j) x) := by
    intro x hx
    unfold withS togB
    simp only [decide_eq_true_eq]
    by_cases hr : (sg ps k).role = 2
    · rw [if_pos hr, or_get hx, h.al x hx, h.br _ x hx]
      constructor
      · rintro (⟨j, a, b, c⟩ | ⟨j, a, b, c, d⟩)
        · exact ⟨j, a, .inl b, c⟩
        · exact ⟨j, a, .inr (.inr c), d⟩
      · rintro ⟨j, a, b, c⟩
        by_cases e : (sg ps j).role = 2
        · rcases b with b | b | b
          · exact absurd e b
          · exact absurd hr b
          · exact .inr ⟨j, a, e, b, c⟩
        · exact .inl ⟨j, a, e, c⟩
    · rw [if_neg hr, or_get hx, h.al x hx, h.an x hx]
      constructor
      · rintro (⟨j, a, b, c⟩ | ⟨j, a, b, c⟩)
        · exact ⟨j, a, .inl b, c⟩
        · exact ⟨j, a, .inr (.inl hr), c⟩
      · rintro ⟨j, a, b, c⟩
        by_cases e : (sg ps j).role = 2
        · exact .inr ⟨j, a, e, c⟩
        · exact .inl ⟨j, a, e, c⟩
  rw [and_empty]
  constructor
  · rintro hx ⟨j, hj, ht', hs⟩
    obtain ⟨x, h1, h2⟩ := share_in.1 hs
    exact hx x (inB_lt h2) ⟨(ht.at_ x (inB_lt h2)).2 h2, (key x (inB_lt h2)).2 ⟨j, hj, ht', h1⟩⟩
  · rintro hn x hx ⟨h1, h2⟩
    obtain ⟨j, hj, ht', hi⟩ := (key x hx).1 h2
    exact hn ⟨j, hj, ht', share_in.2 ⟨x, hi, (ht.at_ x hx).1 h1⟩⟩
theorem ex_succ {k : Nat} {p : Nat → Prop} : (∃ j, j < k + 1 ∧ p j) ↔ (∃ j, j < k ∧ p j) ∨ p k := by
  constructor
  · rintro ⟨j, hj, hp⟩
    by_cases e : j = k
    · subst e; exact .inr hp
    · exact .inl ⟨j, by omega, hp⟩
  · rintro (⟨j, hj, hp⟩ | hp)
    · exact ⟨j, by omega, hp⟩
    · exact ⟨k, by omega, hp⟩
theorem ApI.always {ps : List SigT} {k : Nat} {sa sn : List Bool} {kv : List (Int × List Bool)} (h : ApI ps k sa sn kv) {t : List Bool} (ht : SetIs (sg ps k) t) (hr : (sg ps k).role ≠ 2) (hn : ¬ meetB ps k) : ApI ps (k + 1) (Pl.zipS (· || ·) sa t) sn kv := by
  refine ⟨Pl.zipS_len _ _ _, h.ln, h.lk, fun x hx => ?_, fun x hx => ?_, fun v x hx => ?_, fun j hj => ?_, Nat.le_succ_of_le h.kl⟩
  · rw [or_get hx, h.al x hx, ht.at_ x hx, ex_succ]
    exact or_congr Iff.rfl ⟨fun e => ⟨hr, e⟩, fun e => e.2⟩
  · rw [h.an x hx, ex_succ]
    exact ⟨.inl, fun e => e.elim id fun e => absurd e.1 hr⟩
  · rw [h.br v x hx, ex_succ]
    exact ⟨.inl, fun e => e.elim id fun e => absurd e.1 hr⟩
  · by_cases e : j = k
    · subst e; exact hn
    · exact h.no j (by omega)
theorem ApI.branch {ps : List SigT} {k : Nat} {sa sn : List Bool} {kv : List (Int × List Bool)} (h : ApI ps k sa sn kv) {t : List Bool} (ht : SetIs (sg ps k) t) (hr : (sg ps k).role = 2) (hn : ¬ meetB ps k) :
    ApI ps (k + 1) sa (Pl.zipS (· || ·) sn t) (((sg ps k).branch, Pl.zipS (· || ·) (kvAt (sg ps k).branch kv) t) :: kv) := by
  refine ⟨h.la, Pl.zipS_len _ _ _, fun v => ?_, fun x hx => ?_, fun x hx => ?_, fun v x hx => ?_, fun j hj => ?_, by simpa using h.kl⟩
  · unfold kvAt
    split
    · exact Pl.zipS_len _ _ _
    · exact h.lk v
  · rw [h.al x hx, ex_succ]
    exact ⟨.inl, fun e => e.elim id fun e => absurd hr e.1⟩
  · rw [or_get hx, h.an x hx, ht.at_ x hx, ex_succ]
    exact or_congr Iff.rfl ⟨fun e => ⟨hr, e⟩, fun e => e.2⟩
  · unfold kvAt
    rw [ex_succ]
    by_cases e : v = (sg ps k).branch
    · subst e
      rw [if_pos rfl, or_get hx, h.br _ x hx, ht.at_ x hx]
      exact or_congr Iff.rfl ⟨fun e => ⟨hr, rfl, e⟩, fun e => e.2.2⟩
    · rw [if_neg e, h.br v x hx]
      exact ⟨.inl, fun e' => e'.elim id fun e' => absurd e'.2.1.symm e⟩
  · by_cases e : j = k
    · subst e; exact hn
    · exact h.no j (by omega)
theorem withS_len {ps : List SigT} {k : Nat} {sa sn : List Bool} {kv : List (Int × List Bool)} : (withS ps k sa sn kv).length = 64 := by
  unfold withS
  split <;> exact Pl.zipS_len _ _ _
end Go.Proofs.YtjomihhpglojpaaGreatDoor
end
section
/- bits.Union and bits.Meet, walked. -/
namespace Go.Proofs.YtjomihhpglojpaaGreatDoor
open Go.RowKit
set_option linter.unusedSimpArgs false
set_option linter.unusedVariables false
attribute [local irreducible] wpList wpQuiet wpStill Code.wp Exit.then Exit.inBlock bodyPost Calls Does Does0

set_option maxHeartbeats 4000000 in
theorem union_of (w : World) (s t : List Bool) (hs : s.length = 64) (ht : t.length = 64) :
    Ret Tryz.prog 49 #[.agg (setC s), .agg (setC t)] w (fun v w' => v = .agg (setC (Pl.zipS (· || ·) s t)) ∧ Below w.heap.size w w') := by
  refine enter2 Tryz.func49 rfl 20 rfl 22 rfl (fun a hF => ?_)
  repeat (first | refine c_seq ?_ | refine c_region _ ?_)
  refine st_box hF (cs := setC s) rfl (k := fun a w1 hg2 hgr1 hsz1 hF => ?_)
  have hb1 : Below w.heap.size w w1 := (Below.refl _ w).grown hgr1 (Nat.le_refl _) (fun k hk => by cases hk)
  skip
  refine st_box hF (cs := setC t) rfl (k := fun a w2 hg3 hgr2 hsz2 hF => ?_)
  have hb2 : Below w.heap.size w w2 := hb1.grown hgr2 hb1.size (fun k hk => by cases hk)
  replace hg2 := blk_kept hg2 hgr2 (by simp)
  skip
  refine st_alloc hF inf102 (k := fun a w3 hg4 hgr3 hsz3 hF => ?_)
  replace hg4 : SetIn w3 w2.heap.size Pl.emptyS := hg4
  have hb3 : Below w.heap.size w w3 := hb2.grown hgr3 hb2.size (fun k hk => by cases hk)
  replace hg2 := blk_kept hg2 hgr3 (by simp)
  replace hg3 := blk_kept hg3 hgr3 (by simp)
  repeat (first | refine c_seq ?_ | refine c_block ?_ | refine c_region _ ?_ | refine wpList_nil ?_ | refine c_then ?_ | ((apply st hF); (first | exact d_move | exact d_loadAgg (agg _ rfl) (isz _ _ rfl) ((setC_size t).trans ht) (cells_at hg3)); clear hF; clear a; intro a hF))
  refine c_loop (fun n a wr => ∃ k, k ≤ 64 ∧ n = 64 - k ∧ Fr 22 [(2, .pointer (some ⟨w.heap.size, 0, none⟩)), (4, .pointer (some ⟨w2.heap.size, 0, none⟩)), (7, .agg (setC t)), (8, .int .i64 (k : Nat))] a ∧
    SetIn wr w.heap.size (Pl.zipTo (· || ·) s t k) ∧ SetIn wr w2.heap.size Pl.emptyS ∧ Below w.heap.size w wr) 64
    ⟨0, by omega, rfl, hF.keep' ⟨rfl, rfl, rfl, rfl, trivial⟩, by rw [Pl.zipTo_zero _ _ hs]; exact hg2, hg4, hb3⟩ ?_
  clear hF a hg2 hg4 hb3 hg3 hgr3 hsz3 w3
  rintro n a wr ⟨k, hk, rfl, hF, hg2, hg4, hbel⟩
  have hz := hbel.size
  have hzl := Pl.zipTo_len (· || ·) s t k
  by_cases hlt : k < 64
  · have hk' : k < t.length := by omega
    have hks : k < s.length := by omega
    have hget := setC_get hk'
    have htk : t.getD k false = t[k] := by simp [List.getD, hk']
    have c2 : wr.cell? ⟨w.heap.size, 0 + k, none⟩ = some (.bool (s.getD k false)) := by
      have := cells_at hg2 k _ (setC_get (by omega))
      rw [Pl.zipTo_get _ _ _ _ _ hlt, if_neg (by omega)] at this
      exact this
    have hsucc := Pl.zipTo_succ (· || ·) s t k hlt
    rw [htk] at hsucc
    cases hb : s.getD k false with
    | true =>
      rw [hb] at c2 hsucc
      repeat (first | refine c_seq ?_ | refine c_block ?_ | refine c_region _ ?_ | refine wpList_nil ?_ | refine c_then ?_ | refine wp_skip ?_ | ((apply st hF); (first | exact d_move | exact d_assign | exact d_pickT | exact d_cmpT | exact d_indexA (und _ _ rfl) (und _ _ rfl) rfl (isz _ _ rfl) hget | exact d_indexAddrA (und _ _ rfl) (isz _ _ rfl) | exact d_load (und _ _ rfl) c2); clear hF; clear a; intro a hF) | ((apply stm hF); clear hF; clear a; intro a hF) | (apply c_cond_t hF; exact rfl; first | exact rfl | assumption))
      refine st_store hF (isz _ _ rfl) hg2 (i := 0 + k) (by rw [setC_size]; omega) rfl rfl rfl fun a w5 hg5 hgr5 hsz5 hF => ?_
      rw [setC_set] at hg5
      repeat (first | refine c_region _ ?_ | refine wpList_nil ?_ | refine c_then ?_ | refine c_in ?_ | ((apply st hF); (first | exact d_move | exact d_add); clear hF; clear a; intro a hF))
      refine ⟨64 - (k + 1), by omega, k + 1, by omega, rfl, hF.keep' ⟨rfl, rfl, rfl, rfl, trivial⟩, ?_, blk_kept hg4 hgr5 (by simp; omega), hbel.grown hgr5 hz (fun k hk => by cases hk; omega)⟩
      rw [← hsucc]; exact hg5
    | false =>
      rw [hb] at c2 hsucc
      repeat (first | refine c_seq ?_ | refine c_block ?_ | refine c_region _ ?_ | refine wpList_nil ?_ | refine c_then ?_ | refine wp_skip ?_ | ((first | apply st hF | apply stg hF); (first | exact d_move | exact d_assign | exact d_pickF | exact d_cmpT | exact d_indexA (und _ _ rfl) (und _ _ rfl) rfl (isz _ _ rfl) hget | exact d_indexAddrA (und _ _ rfl) (isz _ _ rfl) | exact d_load (und _ _ rfl) c2); clear hF; clear a; intro a hF) | (apply c_cond_t hF; exact rfl; first | exact rfl | assumption))
      refine st_store hF (isz _ _ rfl) hg2 (i := 0 + k) (by rw [setC_size]; omega) rfl rfl rfl fun a w5 hg5 hgr5 hsz5 hF => ?_
      rw [setC_set] at hg5
      repeat (first | refine c_region _ ?_ | refine wpList_nil ?_ | refine c_then ?_ | refine c_in ?_ | ((apply st hF); (first | exact d_move | exact d_add); clear hF; clear a; intro a hF))
      refine ⟨64 - (k + 1), by omega, k + 1, by omega, rfl, hF.keep' ⟨rfl, rfl, rfl, rfl, trivial⟩, ?_, blk_kept hg4 hgr5 (by simp; omega), hbel.grown hgr5 hz (fun k hk => by cases hk; omega)⟩
      rw [← hsucc]; unfold SetIn; simpa using hg5
  · obtain rfl : k = 64 := by omega
    rw [Pl.zipTo_end] at hg2
    have hzl := Pl.zipS_len (· || ·) s t
    repeat (first | refine c_seq ?_ | refine c_region _ ?_ | refine wpList_nil ?_ | refine c_then ?_ | refine c_then_exit ?_ | refine c_in_hit ?_ | refine wp_exit ?_ | ((apply st hF); (first | exact d_cmpF | exact d_loadAgg (agg _ rfl) (isz _ _ rfl) ((setC_size _).trans hzl) (cells_at hg2)); clear hF; clear a; intro a hF) | (apply c_cond_f hF; exact rfl; first | exact rfl | assumption))
    refine st_storeAgg hF (cs := setC (Pl.zipS (· || ·) s t)) (isz _ _ rfl) ((setC_size _).trans hzl) rfl hg4 (setC_cells _) (k := fun a w5 hg5 hgr5 hsz5 hF => ?_)
    repeat (first | refine wpList_nil ?_ | refine c_then ?_ | refine wp_ret ?_)
    exact ret_c hF rfl (agg _ rfl) (by rw [setC_size, hzl]; exact isz _ _ rfl) hg5 rfl ⟨rfl, hbel.grown hgr5 hz (fun k hk => by cases hk; omega)⟩

set_option maxHeartbeats 4000000 in
theorem meet_of (w : World) (s t : List Bool) (hs : s.length = 64) (ht : t.length = 64) :
    Ret Tryz.prog 50 #[.agg (setC s), .agg (setC t)] w (fun v w' => v = .agg (setC (Pl.zipS (· && ·) s t)) ∧ Below w.heap.size w w') := by
  refine enter2 Tryz.func50 rfl 20 rfl 22 rfl (fun a hF => ?_)
  repeat (first | refine c_seq ?_ | refine c_region _ ?_)
  refine st_box hF (cs := setC s) rfl (k := fun a w1 hg2 hgr1 hsz1 hF => ?_)
  have hb1 : Below w.heap.size w w1 := (Below.refl _ w).grown hgr1 (Nat.le_refl _) (fun k hk => by cases hk)
  skip
  refine st_box hF (cs := setC t) rfl (k := fun a w2 hg3 hgr2 hsz2 hF => ?_)
  have hb2 : Below w.heap.size w w2 := hb1.grown hgr2 hb1.size (fun k hk => by cases hk)
  replace hg2 := blk_kept hg2 hgr2 (by simp)
  skip
  refine st_alloc hF inf102 (k := fun a w3 hg4 hgr3 hsz3 hF => ?_)
  replace hg4 : SetIn w3 w2.heap.size Pl.emptyS := hg4
  have hb3 : Below w.heap.size w w3 := hb2.grown hgr3 hb2.size (fun k hk => by cases hk)
  replace hg2 := blk_kept hg2 hgr3 (by simp)
  replace hg3 := blk_kept hg3 hgr3 (by simp)
  repeat (first | refine c_seq ?_ | refine c_block ?_ | refine c_region _ ?_ | refine wpList_nil ?_ | refine c_then ?_ | ((apply st hF); (first | exact d_move | exact d_loadAgg (agg _ rfl) (isz _ _ rfl) ((setC_size t).trans ht) (cells_at hg3)); clear hF; clear a; intro a hF))
  refine c_loop (fun n a wr => ∃ k, k ≤ 64 ∧ n = 64 - k ∧ Fr 22 [(2, .pointer (some ⟨w.heap.size, 0, none⟩)), (4, .pointer (some ⟨w2.heap.size, 0, none⟩)), (7, .agg (setC t)), (8, .int .i64 (k : Nat))] a ∧
    SetIn wr w.heap.size (Pl.zipTo (· && ·) s t k) ∧ SetIn wr w2.heap.size Pl.emptyS ∧ Below w.heap.size w wr) 64
    ⟨0, by omega, rfl, hF.keep' ⟨rfl, rfl, rfl, rfl, trivial⟩, by rw [Pl.zipTo_zero _ _ hs]; exact hg2, hg4, hb3⟩ ?_
  clear hF a hg2 hg4 hb3 hg3 hgr3 hsz3 w3
  rintro n a wr ⟨k, hk, rfl, hF, hg2, hg4, hbel⟩
  have hz := hbel.size
  have hzl := Pl.zipTo_len (· && ·) s t k
  by_cases hlt : k < 64
  · have hk' : k < t.length := by omega
    have hks : k < s.length := by omega
    have hget := setC_get hk'
    have htk : t.getD k false = t[k] := by simp [List.getD, hk']
    have c2 : wr.cell? ⟨w.heap.size, 0 + k, none⟩ = some (.bool (s.getD k false)) := by
      have := cells_at hg2 k _ (setC_get (by omega))
      rw [Pl.zipTo_get _ _ _ _ _ hlt, if_neg (by omega)] at this
      exact this
    have hsucc := Pl.zipTo_succ (· && ·) s t k hlt
    rw [htk] at hsucc
    cases hb : s.getD k false with
    | true =>
      rw [hb] at c2 hsucc
      repeat (first | refine c_seq ?_ | refine c_block ?_ | refine c_region _ ?_ | refine wpList_nil ?_ | refine c_then ?_ | refine wp_skip ?_ | ((first | apply st hF | apply stg hF); (first | exact d_move | exact d_assign | exact d_pickT | exact d_cmpT | exact d_indexA (und _ _ rfl) (und _ _ rfl) rfl (isz _ _ rfl) hget | exact d_indexAddrA (und _ _ rfl) (isz _ _ rfl) | exact d_load (und _ _ rfl) c2); clear hF; clear a; intro a hF) | (apply c_cond_t hF; exact rfl; first | exact rfl | assumption))
      refine st_store hF (isz _ _ rfl) hg2 (i := 0 + k) (by rw [setC_size]; omega) rfl rfl rfl fun a w5 hg5 hgr5 hsz5 hF => ?_
      rw [setC_set] at hg5
      repeat (first | refine c_region _ ?_ | refine wpList_nil ?_ | refine c_then ?_ | refine c_in ?_ | ((apply st hF); (first | exact d_move | exact d_add); clear hF; clear a; intro a hF))
      refine ⟨64 - (k + 1), by omega, k + 1, by omega, rfl, hF.keep' ⟨rfl, rfl, rfl, rfl, trivial⟩, ?_, blk_kept hg4 hgr5 (by simp; omega), hbel.grown hgr5 hz (fun k hk => by cases hk; omega)⟩
      rw [← hsucc]; unfold SetIn; simpa using hg5
    | false =>
      rw [hb] at c2 hsucc
      repeat (first | refine c_seq ?_ | refine c_block ?_ | refine c_region _ ?_ | refine wpList_nil ?_ | refine c_then ?_ | refine wp_skip ?_ | ((apply st hF); (first | exact d_move | exact d_assign | exact d_pickF | exact d_cmpT | exact d_indexA (und _ _ rfl) (und _ _ rfl) rfl (isz _ _ rfl) hget | exact d_indexAddrA (und _ _ rfl) (isz _ _ rfl) | exact d_load (und _ _ rfl) c2); clear hF; clear a; intro a hF) | ((apply stm hF); clear hF; clear a; intro a hF) | (apply c_cond_t hF; exact rfl; first | exact rfl | assumption))
      refine st_store hF (isz _ _ rfl) hg2 (i := 0 + k) (by rw [setC_size]; omega) rfl rfl rfl fun a w5 hg5 hgr5 hsz5 hF => ?_
      rw [setC_set] at hg5
      repeat (first | refine c_region _ ?_ | refine wpList_nil ?_ | refine c_then ?_ | refine c_in ?_ | ((apply st hF); (first | exact d_move | exact d_add); clear hF; clear a; intro a hF))
      refine ⟨64 - (k + 1), by omega, k + 1, by omega, rfl, hF.keep' ⟨rfl, rfl, rfl, rfl, trivial⟩, ?_, blk_kept hg4 hgr5 (by simp; omega), hbel.grown hgr5 hz (fun k hk => by cases hk; omega)⟩
      rw [← hsucc]; exact hg5
  · obtain rfl : k = 64 := by omega
    rw [Pl.zipTo_end] at hg2
    have hzl := Pl.zipS_len (· && ·) s t
    repeat (first | refine c_seq ?_ | refine c_region _ ?_ | refine wpList_nil ?_ | refine c_then ?_ | refine c_then_exit ?_ | refine c_in_hit ?_ | refine wp_exit ?_ | ((apply st hF); (first | exact d_cmpF | exact d_loadAgg (agg _ rfl) (isz _ _ rfl) ((setC_size _).trans hzl) (cells_at hg2)); clear hF; clear a; intro a hF) | (apply c_cond_f hF; exact rfl; first | exact rfl | assumption))
    refine st_storeAgg hF (cs := setC (Pl.zipS (· && ·) s t)) (isz _ _ rfl) ((setC_size _).trans hzl) rfl hg4 (setC_cells _) (k := fun a w5 hg5 hgr5 hsz5 hF => ?_)
    repeat (first | refine wpList_nil ?_ | refine c_then ?_ | refine wp_ret ?_)
    exact ret_c hF rfl (agg _ rfl) (by rw [setC_size, hzl]; exact isz _ _ rfl) hg5 rfl ⟨rfl, hbel.grown hgr5 hz (fun k hk => by cases hk; omega)⟩
end Go.Proofs.YtjomihhpglojpaaGreatDoor
end
section
/- busbarkit.Num: an error's number. -/
namespace Go.Proofs.YtjomihhpglojpaaGreatDoor
open Go.RowKit
set_option linter.unusedSimpArgs false
set_option linter.unusedVariables false
attribute [local irreducible] wpList wpQuiet wpStill Code.wp Exit.then Exit.inBlock bodyPost Calls Does Does0

theorem num_nil (w : World) : Ret Tryz.prog 46 #[.nilIface] w (fun v w' => v = .int .i64 0 ∧ w' = w) := by
  refine enter1 Tryz.func46 rfl 25 rfl 26 rfl (fun a hF => ?_)
  repeat (first | refine c_seq ?_ | refine c_region _ ?_ | refine wpList_nil ?_ | refine c_then ?_ | refine c_then_ret ?_ | refine wp_ret ?_ | ((apply st hF); (first | exact d_move | exact d_assign | exact d_eqN (ifc _ rfl)); clear hF; clear a; intro a hF) | (apply c_cond_t hF; exact rfl; first | exact rfl | assumption))
  exact ret1 hF rfl rfl ⟨rfl, rfl⟩

theorem num_ok (w : World) (k : Int) (h1 : 1 ≤ k) (h2 : k ≤ 26) : Ret Tryz.prog 46 #[.iface 54 (.int .i64 k)] w (fun v w' => v = .int .i64 k ∧ w' = w) := by
  refine enter1 Tryz.func46 rfl 25 rfl 26 rfl (fun a hF => ?_)
  repeat (first | refine c_seq ?_ | refine c_block ?_ | refine c_region _ ?_ | refine wpList_nil ?_ | refine c_then ?_ | refine wp_skip ?_ | ((apply st hF); (first | exact d_move | exact d_assign | exact d_eqN (ifc _ rfl)); clear hF; clear a; intro a hF) | (apply c_cond_f hF; exact rfl; first | exact rfl | assumption))
  refine c_loop (fun q a w' => ∃ n : Nat, 1 ≤ n ∧ n ≤ 27 ∧ q = 27 - n ∧ Fr 26 [(0, .iface 54 (.int .i64 k)), (3, .int .i64 (if k < n then k else 0)), (4, .int .i64 (n : Nat))] a ∧ w' = w) 26
    ⟨1, by omega, by omega, rfl, (by rw [if_neg (by omega)]; exact hF.keep' ⟨rfl, rfl, rfl, trivial⟩), rfl⟩ ?_
  clear hF a
  rintro q a w' ⟨n, hn1, hn, rfl, hF, rfl⟩
  by_cases hlt : n ≤ 26
  · repeat (first | refine c_seq ?_ | refine c_block ?_ | refine c_region _ ?_ | refine wpList_nil ?_ | refine c_then ?_ | refine wp_skip ?_ | ((apply st hF); (first | exact d_move | exact d_cmpT | exact d_makeI (con _ rfl)); clear hF; clear a; intro a hF) | (apply c_cond_t hF; exact rfl; first | exact rfl | assumption))
    refine stc hF (is_ok w' k n) cal72 ⟨rfl, rfl, trivial⟩ (k := fun a v w2 hR hF => ?_)
    obtain ⟨rfl, rfl⟩ := hR
    by_cases hk : k = (n : Int)
    · rw [if_neg (by omega)] at hF
      rw [show (k == (n : Int)) = true from beq_iff_eq.2 hk] at hF
      repeat (first | refine c_seq ?_ | refine c_region _ ?_ | refine wpList_nil ?_ | refine c_then ?_ | refine c_in ?_ | refine wp_skip ?_ | ((apply st hF); (first | exact d_move | exact d_assign | exact d_add | exact d_cmpF); clear hF; clear a; intro a hF) | (apply c_cond_t hF; exact rfl; first | exact rfl | assumption) | (apply c_cond_f hF; exact rfl; first | exact rfl | assumption))
      refine ⟨27 - (n + 1), by omega, n + 1, by omega, by omega, rfl, ?_, rfl⟩
      rw [if_pos (by omega), hk]
      rw [hk] at hF
      exact hF.keep' ⟨rfl, rfl, rfl, trivial⟩
    · rw [show (k == (n : Int)) = false from beq_eq_false_iff_ne.2 hk] at hF
      repeat (first | refine c_region _ ?_ | refine wpList_nil ?_ | refine c_then ?_ | refine c_in ?_ | refine wp_skip ?_ | ((apply st hF); (first | exact d_move | exact d_assign | exact d_add); clear hF; clear a; intro a hF) | (apply c_cond_f hF; exact rfl; first | exact rfl | assumption))
      refine ⟨27 - (n + 1), by omega, n + 1, by omega, by omega, rfl, ?_, rfl⟩
      by_cases hkl : k < n
      · rw [if_pos (by omega)]
        rw [if_pos hkl] at hF
        exact hF.keep' ⟨rfl, rfl, rfl, trivial⟩
      · rw [if_neg (by omega)]
        rw [if_neg hkl] at hF
        exact hF.keep' ⟨rfl, rfl, rfl, trivial⟩
  · rw [if_pos (by omega)] at hF
    repeat (first | refine c_seq ?_ | refine c_region _ ?_ | refine wpList_nil ?_ | refine c_then ?_ | refine c_then_exit ?_ | refine c_in_hit ?_ | refine wp_exit ?_ | ((first | apply st hF | apply stg hF); (first | exact d_move | exact d_cmpF | exact d_makeI (con _ rfl)); clear hF; clear a; intro a hF) | (apply c_cond_f hF; exact rfl; first | exact rfl | assumption))
    refine stcg hF (is_ok w' k 0) cal72 ⟨rfl, rfl, trivial⟩ (k := fun a v w2 hR hF => ?_)
    obtain ⟨rfl, rfl⟩ := hR
    rw [show (k == 0) = false from beq_eq_false_iff_ne.2 (by omega)] at hF
    repeat (first | refine c_seq ?_ | refine c_region _ ?_ | refine wpList_nil ?_ | refine c_then ?_ | refine wp_skip ?_ | refine wp_ret ?_ | ((apply st hF); (first | exact d_move | exact d_assign | exact d_pickF); clear hF; clear a; intro a hF) | (apply c_cond_f hF; exact rfl; first | exact rfl | assumption))
    exact ret1 hF rfl rfl ⟨rfl, rfl⟩
end Go.Proofs.YtjomihhpglojpaaGreatDoor
end
