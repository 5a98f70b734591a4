/- Laid together by a program of mine: Sync Perm InW Mk. -/
import Derived.Test.YtnohefaifbghiaaGreatDoorSumLawKnownS4
import Derived.Test.YtnohefaifbghiaaGreatDoorSumLawKnownS2
import Derived.Laws.LoneSync
import Derived.Laws.Cover3
import Derived.Laws.IdiomStrings
import Derived.Test.YtnohefaifbghiaaGreatDoorSumLawKnownS3
import Derived.OrdersHeld
import Derived.OrdersIn
import Derived.RangeFuncRecord
import Derived.TacticsIn
import Derived.RangeFuncLeaves
import Derived.Laws.Small
set_option linter.unusedSimpArgs false
set_option linter.unusedVariables false
section
/- The library's locks and atomics, one goroutine: walked. -/
namespace Go.Proofs.YtnohefaifbghiaaGreatDoor
open Go.RowKit
section
variable {P : Program} {l : List (Nat × Value)} {w w' : World}
/-- A call that the model carries out at once. -/
theorem d_ext {f : FuncId} {xs : List Operand} {vs : List Value} {ats : Array TypeId} {ty : TypeId} {v : Value} (hc : (callFunc f vs.toArray).run P w = .ok (.value v) w') (hx : Evs l xs vs) : Does P l w (.call { callee := .value (.func f), args := xs.toArray, argTypes := ats }) ty v w' := by
  intro ρ hρ d pos af g
  have e1 : ρ (.func f) = .func (.func f) #[] #[] := hρ _ _ rfl
  have e2 := Evs.map hρ hx
  simp only [execOp, resolve, Deferred.ofValue, invoke, e1, e2, Sem.run_bind, Sem.run_pure, Result.andThen_ok, List.map_toArray, Array.append_empty, List.append_toArray, List.nil_append]
  simp [hc]
theorem d_unsafe {x : Operand} {a : Addr} {v : Value} {src dst t ty : TypeId} (hs : P.underlying src = some (.pointer t)) (hd : P.underlying dst = some .unsafePointer) (hsz : (P.info? t).map (fun i => decide (i.size = 0)) = some false) (hc : w.cell? a = some v) (hx : Ev l x (.pointer (some a)) := by exact rfl) :
    Does P l w (.convert src dst x) ty (.pointer (some a)) w := by
  intro ρ hρ d pos af g
  simp [execOp, hρ _ _ hx, run_convert_to_unsafe hs hd hsz hc]
/-- A slice against nil. -/
theorem d_eqSl {x : Operand} {ao : Option Addr} {n c : Nat} {t t' e ty : TypeId} (hU : P.underlying t = some (.slice e)) (hx : Ev l x (.slice ao n c) := by exact rfl) : Does P l w (.binOp .eql t x (.const (.slice none 0 0)) t') ty (.bool ao.isNone) w := by
  intro ρ hρ d pos af g
  have e1 : ρ (.const (.slice none 0 0)) = .slice none 0 0 := hρ _ _ rfl
  have h : (Op.equal t (.slice ao n c) (.slice none 0 0)).run P w = .ok ao.isNone w := run_equal_slice_nil w t e ao n c hU
  have e2 : (eqGuard .eql t x (.const (.slice none 0 0)) (.slice ao n c) (.slice none 0 0)).run P w = .ok () w := rfl
  simp only [execOp, hρ _ _ hx, e1, Sem.run_bind, e2, Result.andThen_ok]
  show ((do pure (Value.bool (← Op.equal t (.slice ao n c) (.slice none 0 0))) : Sem Value).run P w).andThen _ = _
  rw [Sem.run_bind, h]; rfl
/-- '[]byte(s)'. -/
theorem d_convSB {x : Operand} {s : ByteArray} {src dst e ty : TypeId} (hs : P.underlying src = some .string) (hd : P.underlying dst = some (.slice e)) (he : P.underlying e = some (.int .u8)) (hx : Ev l x (.string s) := by exact rfl) :
    Does P l w (.convert src dst x) ty (.slice (some ⟨w.heap.size, 0, none⟩) s.size (grownCap w s.size 0 e)) (w.drew.alloc (.cells (bytesRow s (grownCap w s.size 0 e)) e ((bytesRow s (grownCap w s.size 0 e)).size, (bytesRow s (grownCap w s.size 0 e)).size + 1))) := by
  intro ρ hρ d pos af g
  simp [execOp, hρ _ _ hx, run_bytes_of_string w src dst e s hs hd he]
end
theorem setCell_facts {w : World} {b i : Nat} {c : Array Value} {e : TypeId} {v : Value} (hg : w.heap[b]? = some (.cells c e (0, 0))) : (w.setCell ⟨b, i, none⟩ v).heap[b]? = some (.cells (c.setIfInBounds i v) e (0, 0)) ∧ w.grownBy (w.setCell ⟨b, i, none⟩ v) (some b) ∧ (w.setCell ⟨b, i, none⟩ v).heap.size = w.heap.size := by
  refine ⟨by simp [World.setCell, Array.getElem?_modify, hg], ⟨rfl, rfl, rfl, by simp, fun k hk hne => ?_⟩, by simp⟩
  simp only [World.setCell, Array.getElem?_modify]
  rw [if_neg (fun e => hne (by rw [e]))]
end Go.Proofs.YtnohefaifbghiaaGreatDoor
end
section
/- A region that draws its order and holds reads, and besides a chain of operations that change memory (an alloc, a store, an append): the reads are taken first, in an order that is named, in every world that meets a condition; the chain behind them, each of its operations showing the condition anew. Plain lemmas over any program. -/
namespace Go.Proofs.YtnohefaifbghiaaGreatDoor
open Go.RowKit

section
variable {P : Program} {ops : Array Oper} {md : Region.Mode} {S : World → Prop} {Q Q' : Exit → Act → World → Prop}

theorem oper_wp_monoQ {o : Oper} {a : Act} {w : World} {K : Act → World → Prop} (hq : ∀ e a w, e ≠ .normal → Q' e a w → Q e a w) (hh : o.wp P a w K Q') : o.wp P a w K Q := by
  unfold Oper.wp at *
  generalize (execOp a.eval o).run P w = r at *
  cases r with
  | ok n w' =>
    cases n <;> simp only [Oper.upon] at hh ⊢ <;>
      first
        | exact hh
        | exact Calls.mono hh (fun e w'' he => by
            cases e with
            | returned v => exact he
            | panicked c => exact hq _ _ _ (by simp) he
            | outgrown => obtain ⟨x, y, h⟩ := he; exact ⟨x, y, hq _ _ _ (by simp) h⟩)
  | halt x w' =>
    cases x <;> simp only [Oper.upon] at hh ⊢ <;> first | exact hh | exact hq _ _ _ (by simp) hh
theorem letsOut_mono (hq : ∀ e a w, Q' e a w → Q e a w) (h : LetsOut Q') : LetsOut Q := by
  obtain ⟨x, y, h⟩ := h; exact ⟨x, y, hq _ _ _ h⟩
theorem wpOp_monoQ {i : Nat} {a : Act} {w : World} {K : Act → World → Prop} (hq : ∀ e a w, Q' e a w → Q e a w) (hh : wpOp P ops Q' i K a w) : wpOp P ops Q i K a w := by
  unfold wpOp at *
  split
  · simpa [*] using hh
  · rename_i o ho
    simp only [ho] at hh
    split
    · rename_i hw; simp only [hw, if_true] at hh; exact hh.imp (oper_wp_monoQ (fun e a w _ => hq e a w)) (fun ⟨h1, h2⟩ => ⟨h1, letsOut_mono hq h2⟩)
    · rename_i hw; simp only [hw] at hh; exact hh
theorem wpAny_monoQ (hq : ∀ e a w, Q' e a w → Q e a w) : ∀ (fuel : Nat) (listed : Array Bool) (a : Act) (w : World), wpAny P md ops Q' fuel listed a w → wpAny P md ops Q fuel listed a w
  | 0, _, _, _, h => ⟨h.1, hq _ _ _ h.2⟩
  | fuel + 1, _, _, _, h => ⟨fun h0 => hq _ _ _ (h.1 h0), fun i hi => wpOp_mono (fun a' w' h' => wpAny_monoQ hq fuel _ a' w' h') (wpOp_monoQ hq (h.2 i hi))⟩

/-- The chain: each operation shows the condition anew. -/
def wpTail (P : Program) (ops : Array Oper) (Q : Exit → Act → World → Prop) (S : World → Prop) : List Oper → Act → World → Prop
  | [], a, w => Q .normal a w
  | o :: rest, a, w => wpList P ops (fun e a' w' => e = .normal ∧ S w' ∧ wpTail P ops Q S rest a' w') [o] a w

/-- The reads: each yields its value in every world that meets the condition. -/
def wpIf (P : Program) (ops : Array Oper) (S : World → Prop) (K : Act → Prop) : List Oper → Act → Prop
  | [], a => K a
  | o :: rest, a => ∃ v, YieldsIf P ops S o v a ∧ wpIf P ops S K rest (a.put o.dst v)

def seqL (md : Region.Mode) (ops : Array Oper) : List Nat → Array Bool → Bool
  | [], listed => (Region.ready md ops listed).isEmpty
  | t :: ts, listed => decide (Region.ready md ops listed = [t]) && seqL md ops ts (listed.setIfInBounds t true)
def headL (md : Region.Mode) (ops : Array Oper) (ts : List Nat) : List Nat → Array Bool → Bool
  | [], listed => seqL md ops ts listed
  | i :: rs, listed => (Region.ready md ops listed).contains i && Region.free md ops listed i && headL md ops ts rs (listed.setIfInBounds i true)
def permB (md : Region.Mode) (ops : Array Oper) (rs ts : List Nat) : Bool :=
  Region.noSelect ops && decide (rs.length + ts.length = ops.size) && headL md ops ts rs (Array.replicate ops.size false)
def pickL (l : List Oper) (is : List Nat) : List Oper := is.filterMap (l[·]?)

theorem mem_ready_lt {j : Nat} {listed : Array Bool} (h : j ∈ Region.ready md ops listed) : ∃ o, ops[j]? = some o := by
  obtain ⟨_, o, ho, _⟩ := mem_ready.1 h; exact ⟨o, ho⟩
theorem pickL_cons {l : List Oper} {i : Nat} {is : List Nat} {o : Oper} (h : l[i]? = some o) : pickL l (i :: is) = o :: pickL l is := by simp [pickL, h]

theorem wpAnyH_seq {l : List Oper} (Q : Exit → Act → World → Prop) : ∀ (ts : List Nat) (listed : Array Bool) (a : Act) (w : World), seqL md l.toArray ts listed = true →
    wpTail P l.toArray Q S (pickL l ts) a w → wpAnyH P md l.toArray (fun e a w => e = .normal ∧ Q .normal a w) S ts.length listed a w
  | [], listed, a, w, hB, h => ⟨by simpa [seqL] using hB, rfl, by simpa [pickL, wpTail] using h⟩
  | t :: ts, listed, a, w, hB, h => by
    simp only [seqL, Bool.and_eq_true, decide_eq_true_eq] at hB
    refine ⟨fun h1 => (by rw [hB.1] at h1; cases h1), fun i hi => ?_⟩
    obtain ⟨o, ho⟩ := mem_ready_lt hi
    rw [hB.1] at hi
    have hik : i = t := by simpa using hi
    subst hik
    rw [pickL_cons (by simpa using ho)] at h
    simp only [wpTail, wpList] at h
    unfold wpOp
    simp only [ho]
    split
    · rename_i hw
      rw [if_pos hw] at h
      rcases h with h | ⟨_, x, y, h, _⟩
      · refine .inl (oper_wp_monoQ (Q' := fun e a' w' => e = .normal ∧ S w' ∧ wpTail P l.toArray Q S (pickL l ts) a' w') (fun e a' w' hn h' => absurd h'.1 hn) (Oper.wp_mono ?_ h))
        rintro a' w' ⟨_, h1, h2⟩
        exact ⟨h1, wpAnyH_seq Q ts _ a' w' hB.2 h2⟩
      · cases h
    · rename_i hw
      rw [if_neg hw] at h
      exact ⟨h.2.1, wpAnyH_seq Q ts _ _ _ hB.2 h.2.2⟩

theorem wpAnyH_head {l : List Oper} (Q : Exit → Act → World → Prop) (ts : List Nat) (hs : Region.noSelect l.toArray = true) : ∀ (rs : List Nat) (listed : Array Bool) (a : Act) (w : World), headL md l.toArray ts rs listed = true → S w →
    wpIf P l.toArray S (fun a' => ∀ w', S w' → wpTail P l.toArray Q S (pickL l ts) a' w') (pickL l rs) a → wpAnyH P md l.toArray (fun e a w => e = .normal ∧ Q .normal a w) S (rs.length + ts.length) listed a w
  | [], listed, a, w, hB, hS, h => by
    simp only [headL] at hB
    simp only [List.length_nil, Nat.zero_add]
    exact wpAnyH_seq Q ts listed a w hB (h w hS)
  | i :: rs, listed, a, w, hB, hS, h => by
    simp only [headL, Bool.and_eq_true] at hB
    obtain ⟨⟨hr, hf⟩, hB'⟩ := hB
    obtain ⟨o, ho⟩ := mem_ready_lt (by simpa using hr : i ∈ Region.ready md l.toArray listed)
    rw [pickL_cons (by simpa using ho)] at h
    obtain ⟨v, hy, hk⟩ := h
    rw [show (i :: rs).length + ts.length = (rs.length + ts.length) + 1 by simp; omega]
    exact wpAnyH_take ho hs hf hr (fun c a w h => by cases h.1) hy hS (wpAnyH_head Q ts hs rs _ _ w hB' hS hk)

/-- The region: reads rs first, in the order named, the chain ts behind. -/
theorem c_region_perm (S : World → Prop) (rs ts : List Nat) (id : Nat) {l' : List Oper} {a : Act} {w : World} (hm : P.follows .mixedOrders = true) (hB : permB .any l'.toArray rs ts = true) (hS : S (w.drewN 1))
    (h : wpIf P l'.toArray S (fun a' => ∀ w', S w' → wpTail P l'.toArray Q S (pickL l' ts) a' w') (pickL l' rs) a) : (Code.region id l'.toArray true).wp P Q a w := by
  simp only [permB, Bool.and_eq_true, decide_eq_true_eq] at hB
  obtain ⟨⟨h1, h2⟩, h3⟩ := hB
  have := wpAnyH_head (md := .any) (S := S) Q ts h1 rs _ a _ h3 hS h
  rw [h2] at this
  refine wp_region_any hm (wpAny_monoQ ?_ _ _ _ _ (wpAny_of_held _ _ _ _ this))
  rintro e a w ⟨rfl, h⟩
  exact h

/-! ### steps -/
variable {a : Act} {w w' : World} {rest : List Oper} {N : Nat} {l : List (Nat × Value)} {K : Act → Prop}
theorem p_nil (h : K a) : wpIf P ops S K [] a := h
theorem p_step (h : Fr N l a) {d : Nat} {op : Op} {ty : TypeId} {pos : String} {af : Array Edge} {v : Value} (hr : ∀ w, S w → Does P l w op ty v w) (hd : Nat.blt d N = true := by exact rfl)
    (k : ∀ a', Fr N ((d, v) :: l) a' → wpIf P ops S K rest a') : wpIf P ops S K (⟨some d, op, ty, pos, af, none⟩ :: rest) a :=
  ⟨v, .inl ⟨by simp [Region.wanted], fun w hw => hr w hw a.eval h.eval _ _ _ _⟩, k _ (h.put hd v)⟩
theorem t_nil (h : Q .normal a w) : wpTail P ops Q S [] a w := h
theorem t_one {o : Oper} (h : wpList P ops (fun e a' w' => e = .normal ∧ S w' ∧ wpTail P ops Q S rest a' w') [o] a w) : wpTail P ops Q S (o :: rest) a w := h

/-! ### reads and sole operations in one order -/
/-- Each is a read, that yields its value in every world that meets the condition, or the only one that may come up. -/
def wpMix (P : Program) (ops : Array Oper) (Q : Exit → Act → World → Prop) (S : World → Prop) : List (Oper × Bool) → Act → World → Prop
  | [], a, w => Q .normal a w
  | (o, true) :: rest, a, w => ∃ v, YieldsIf P ops S o v a ∧ wpMix P ops Q S rest (a.put o.dst v) w
  | (o, false) :: rest, a, w => wpList P ops (fun e a' w' => e = .normal ∧ S w' ∧ wpMix P ops Q S rest a' w') [o] a w
def mixL (md : Region.Mode) (ops : Array Oper) : List (Nat × Bool) → Array Bool → Bool
  | [], listed => (Region.ready md ops listed).isEmpty
  | (i, true) :: is, listed => (Region.ready md ops listed).contains i && Region.free md ops listed i && mixL md ops is (listed.setIfInBounds i true)
  | (t, false) :: is, listed => decide (Region.ready md ops listed = [t]) && mixL md ops is (listed.setIfInBounds t true)
def mixB (md : Region.Mode) (ops : Array Oper) (is : List (Nat × Bool)) : Bool :=
  Region.noSelect ops && decide (is.length = ops.size) && mixL md ops is (Array.replicate ops.size false)
def pickX (l : List Oper) (is : List (Nat × Bool)) : List (Oper × Bool) := is.filterMap fun i => (l[i.1]?).map (·, i.2)
theorem pickX_cons {l : List Oper} {i : Nat} {b : Bool} {is : List (Nat × Bool)} {o : Oper} (h : l[i]? = some o) : pickX l ((i, b) :: is) = (o, b) :: pickX l is := by simp [pickX, h]
theorem wpAnyH_mix {l : List Oper} (Q : Exit → Act → World → Prop) (hs : Region.noSelect l.toArray = true) : ∀ (is : List (Nat × Bool)) (listed : Array Bool) (a : Act) (w : World), mixL md l.toArray is listed = true → S w →
    wpMix P l.toArray Q S (pickX l is) a w → wpAnyH P md l.toArray (fun e a w => e = .normal ∧ Q .normal a w) S is.length listed a w
  | [], listed, a, w, hB, _, h => ⟨by simpa [mixL] using hB, rfl, by simpa [pickX, wpMix] using h⟩
  | (i, true) :: is, listed, a, w, hB, hS, h => by
    simp only [mixL, Bool.and_eq_true] at hB
    obtain ⟨⟨hr, hf⟩, hB'⟩ := hB
    obtain ⟨o, ho⟩ := mem_ready_lt (by simpa using hr : i ∈ Region.ready md l.toArray listed)
    rw [pickX_cons (by simpa using ho)] at h
    obtain ⟨v, hy, hk⟩ := h
    exact wpAnyH_take ho hs hf hr (fun c a w h => by cases h.1) hy hS (wpAnyH_mix Q hs is _ _ w hB' hS hk)
  | (t, false) :: is, listed, a, w, hB, hS, h => by
    simp only [mixL, Bool.and_eq_true, decide_eq_true_eq] at hB
    refine ⟨fun h1 => (by rw [hB.1] at h1; cases h1), fun i hi => ?_⟩
    obtain ⟨o, ho⟩ := mem_ready_lt hi
    rw [hB.1] at hi
    have hik : i = t := by simpa using hi
    subst hik
    rw [pickX_cons (by simpa using ho)] at h
    simp only [wpMix, wpList] at h
    unfold wpOp
    simp only [ho]
    split
    · rename_i hw
      rw [if_pos hw] at h
      rcases h with h | ⟨_, x, y, h, _⟩
      · refine .inl (oper_wp_monoQ (Q' := fun e a' w' => e = .normal ∧ S w' ∧ wpMix P l.toArray Q S (pickX l is) a' w') (fun e a' w' hn h' => absurd h'.1 hn) (Oper.wp_mono ?_ h))
        rintro a' w' ⟨_, h1, h2⟩
        exact ⟨h1, wpAnyH_mix Q hs is _ a' w' hB.2 h1 h2⟩
      · cases h
    · rename_i hw
      rw [if_neg hw] at h
      exact ⟨h.2.1, wpAnyH_mix Q hs is _ _ _ hB.2 h.2.1 h.2.2⟩
theorem c_region_mix (S : World → Prop) (is : List (Nat × Bool)) (id : Nat) {l' : List Oper} {a : Act} {w : World} (hm : P.follows .mixedOrders = true) (hB : mixB .any l'.toArray is = true) (hS : S (w.drewN 1))
    (h : wpMix P l'.toArray Q S (pickX l' is) a (w.drewN 1)) : (Code.region id l'.toArray true).wp P Q a w := by
  simp only [mixB, Bool.and_eq_true, decide_eq_true_eq] at hB
  obtain ⟨⟨h1, h2⟩, h3⟩ := hB
  have := wpAnyH_mix (md := .any) (S := S) Q h1 is _ a _ h3 hS h
  rw [h2] at this
  refine wp_region_any hm (wpAny_monoQ ?_ _ _ _ _ (wpAny_of_held _ _ _ _ this))
  rintro e a w ⟨rfl, h⟩
  exact h
section
variable {a : Act} {w : World} {restx : List (Oper × Bool)} {N : Nat} {l : List (Nat × Value)}
theorem x_nil (h : Q .normal a w) : wpMix P ops Q S [] a w := h
theorem x_step (h : Fr N l a) {d : Nat} {op : Op} {ty : TypeId} {pos : String} {af : Array Edge} {v : Value} (hr : ∀ w, S w → Does P l w op ty v w) (hd : Nat.blt d N = true := by exact rfl)
    (k : ∀ a', Fr N ((d, v) :: l) a' → wpMix P ops Q S restx a' w) : wpMix P ops Q S ((⟨some d, op, ty, pos, af, none⟩, true) :: restx) a w :=
  ⟨v, .inl ⟨by simp [Region.wanted], fun w hw => hr w hw a.eval h.eval _ _ _ _⟩, k _ (h.put hd v)⟩
theorem x_stg (h : Fr N l a) {d : Nat} {op : Op} {ty : TypeId} {pos : String} {af : Array Edge} {v : Value} {j e : Nat} {b : Bool} (hj : (ops[j]?).bind (·.dst) = some e := by exact rfl) (hb : look l e = some (.bool b) := by exact rfl)
    (hr : ∀ w, S w → Does P l w op ty v w) (hd : Nat.blt d N = true := by exact rfl)
    (k : ∀ a', Fr N ((d, v) :: l) a' → wpMix P ops Q S restx a' w) : wpMix P ops Q S ((⟨some d, op, ty, pos, af, some (j, b)⟩, true) :: restx) a w :=
  ⟨v, .inl ⟨by simp [Region.wanted, yielded_of (ops := ops) h hj hb], fun w hw => hr w hw a.eval h.eval _ _ _ _⟩, k _ (h.put hd v)⟩
theorem x_stm (h : Fr N l a) {d : Nat} {op : Op} {ty : TypeId} {pos : String} {af : Array Edge} {j e : Nat} {b c : Bool} (hj : (ops[j]?).bind (·.dst) = some e := by exact rfl) (hb : look l e = some (.bool c) := by exact rfl) (hne : c = !b := by exact rfl) (hd : Nat.blt d N = true := by exact rfl)
    (k : ∀ a', Fr N ((d, undef) :: l) a' → wpMix P ops Q S restx a' w) : wpMix P ops Q S ((⟨some d, op, ty, pos, af, some (j, b)⟩, true) :: restx) a w :=
  ⟨undef, .inr ⟨by subst hne; simp [Region.wanted, yielded_of (ops := ops) h hj hb], rfl⟩, k _ (h.put hd _)⟩
theorem x_stu (h : Fr N l a) {d : Nat} {op : Op} {ty : TypeId} {pos : String} {af : Array Edge} {j e : Nat} {b : Bool} (hj : (ops[j]?).bind (·.dst) = some e := by exact rfl) (hb : look l e = some undef := by exact rfl) (hd : Nat.blt d N = true := by exact rfl)
    (k : ∀ a', Fr N ((d, undef) :: l) a' → wpMix P ops Q S restx a' w) : wpMix P ops Q S ((⟨some d, op, ty, pos, af, some (j, b)⟩, true) :: restx) a w :=
  ⟨undef, .inr ⟨by simp [Region.wanted, yielded_undef (ops := ops) h hj hb], rfl⟩, k _ (h.put hd _)⟩
theorem x_one {o : Oper} (h : wpList P ops (fun e a' w' => e = .normal ∧ S w' ∧ wpMix P ops Q S restx a' w') [o] a w) : wpMix P ops Q S ((o, false) :: restx) a w := h
end
end
end Go.Proofs.YtnohefaifbghiaaGreatDoor
end
section
/- Walks within a round of a range over a function, and of a function that calls yield: from the plain list's walk to the fenced one. Plain lemmas over any program. -/
namespace Go.Proofs.YtnohefaifbghiaaGreatDoor
open Go.RowKit

/-- No bounds: the wide fence, or a round within it. -/
def IsW (F : Fence) : Prop := F = Fence.wide ∨ ∃ l, F = Fence.wide.inRound l
theorem isW_wide : IsW Fence.wide := .inl rfl
theorem isW_round (l : Nat) : IsW (Fence.wide.inRound l) := .inr ⟨l, rfl⟩
/-- Left in any way but one. -/
def Qx (Q : Exit → Act → World → Prop) : Exit → Act → World → Prop := fun e a w => e ≠ .outgrown ∧ Q e a w
theorem not_letsOut_Qx {Q : Exit → Act → World → Prop} : ¬ LetsOut (Qx Q) := by rintro ⟨a, w, h, _⟩; exact h rfl
def nodefB (o : Oper) : Bool := match o.op with | .defer _ => false | _ => true
theorem nodef_of {o : Oper} (h : nodefB o = true) (c : Call) : o.op ≠ .defer c := by
  intro e; simp [nodefB, e] at h

section
variable {F : Fence} {n : Nat} {P : Program} {ops : Array Oper} {Q : Exit → Act → World → Prop} {a : Act} {w : World} {md : Region.Mode}

theorem isW_fn (hF : IsW F) (f : FuncId) : F.fn f := by
  rcases hF with rfl | ⟨l, rfl⟩ <;> exact trivial
theorem isW_depth (hF : IsW F) : F.depth.isSome = true → 1 ≤ n := by
  rcases hF with rfl | ⟨l, rfl⟩ <;> intro h <;> exact absurd h (by simp [Fence.wide, Fence.inRound])
theorem calls_in (hF : IsW F) {f : FuncId} {args : Array Value} {R : Ending → World → Prop} (h : Calls P f args w R) : CallsIn F n P f args w R := by
  rcases hF with rfl | ⟨l, rfl⟩
  · exact callsIn_wide.2 h
  · exact (callsIn_wide.2 h : CallsIn Fence.wide n P f args w R)
theorem rows_in (hF : IsW F) {row : String} {args : Array Value} {R : Value → World → Prop} (h : Rows P row args w R) : RowsIn F n P row args w R := by
  rcases hF with rfl | ⟨l, rfl⟩
  · exact fun c cs _ => let ⟨v, w', r, s⟩ := h c cs; ⟨v, w', r, stepsIn_wide.2 s⟩
  · exact fun c cs _ => let ⟨v, w', r, s⟩ := h c cs; ⟨v, w', r, (stepsIn_wide.2 s : StepsIn (Machine.fenced P Fence.wide) P _ _)⟩
theorem oper_in (hF : IsW F) {o : Oper} (hd : nodefB o = true) {K : Act → World → Prop} (h : o.wp P a w K (Qx Q)) : o.wpIn F n P a w K Q := by
  refine ⟨fun f _ => isW_fn hF f, ?_⟩
  rw [Oper.semAt_eq _ _ _ (nodef_of hd)]
  unfold Oper.wp at h
  generalize (execOp a.eval o).run P w = r at *
  cases r with
  | ok x w' =>
    cases x <;> simp only [Oper.upon] at h <;> simp only [Oper.uponIn]
    case value v => exact h
    case skip => exact h
    case defer d => exact h
    case enter f args =>
      exact ⟨isW_depth hF, calls_in hF (Calls.mono h fun e w'' he => by
        cases e with
        | returned v => exact he
        | panicked c => exact he.2
        | outgrown => exact absurd he not_letsOut_Qx)⟩
    case row row args => exact ⟨isW_depth hF, rows_in hF h⟩
  | halt x w' =>
    cases x <;> simp only [Oper.upon] at h <;> simp only [Oper.uponIn]
    case panic v => exact h.2
theorem list_in (hF : IsW F) : ∀ {l : List Oper} {a : Act} {w : World}, l.all nodefB = true → wpList P ops (Qx Q) l a w → wpListIn F n P ops Q l a w
  | [], _, _, _, h => h.2
  | o :: l, a, w, hd, h => by
    simp only [List.all_cons, Bool.and_eq_true] at hd
    simp only [wpList] at h
    simp only [wpListIn]
    split
    · rename_i hw
      rw [if_pos hw] at h
      rcases h with h | ⟨_, h⟩
      · exact Oper.wpIn_mono (fun a' w' h' => list_in hF hd.2 h') (oper_in hF hd.1 h)
      · exact absurd h not_letsOut_Qx
    · rename_i hw
      rw [if_neg hw] at h
      exact ⟨fun f _ => isW_fn hF f, list_in hF hd.2 h⟩
theorem any_in (hF : IsW F) (hd : ops.all nodefB = true) : ∀ (fuel : Nat) (listed : Array Bool) (a : Act) (w : World), wpAny P md ops (Qx Q) fuel listed a w → wpAnyIn F n P md ops Q fuel listed a w
  | 0, _, _, _, h => ⟨h.1, h.2.2⟩
  | fuel + 1, listed, a, w, h => by
    refine ⟨fun h0 => (h.1 h0).2, fun i hi => ?_⟩
    have h1 := h.2 i hi
    unfold wpOp at h1
    unfold wpOpIn
    cases ho : ops[i]? with
    | none => rw [ho] at h1; exact any_in hF hd fuel _ _ _ h1
    | some o =>
      rw [ho] at h1
      have hdo : nodefB o = true := by
        have := Array.all_eq_true.1 hd i (Array.getElem?_eq_some_iff.1 ho).1
        rwa [(Array.getElem?_eq_some_iff.1 ho).2] at this
      simp only at h1 ⊢
      split
      · rename_i hw
        rw [if_pos hw] at h1
        rcases h1 with h1 | ⟨_, h1⟩
        · exact Oper.wpIn_mono (fun a' w' h' => any_in hF hd fuel _ a' w' h') (oper_in hF hdo h1)
        · exact absurd h1 not_letsOut_Qx
      · rename_i hw
        rw [if_neg hw] at h1
        exact ⟨fun f _ => isW_fn hF f, any_in hF hd fuel _ _ _ h1⟩

/-! ### control -/
theorem i_region (id : Nat) {l' : List Oper} (hF : IsW F) (hd : l'.all nodefB = true) (h : wpList P l'.toArray (Qx Q) l' a w) : (Code.region id l'.toArray false).wpIn F n P Q a w :=
  wpIn_region_lit (list_in hF hd h)
theorem i_nil (h : Q .normal a w) : wpList P ops (Qx Q) [] a w := ⟨by simp, h⟩
theorem i_any (id : Nat) {l' : List Oper} (hF : IsW F) (hd : l'.all nodefB = true) (hm : P.follows .mixedOrders = true) (h : wpAny P .any l'.toArray (Qx Q) l'.toArray.size (Array.replicate l'.toArray.size false) a (w.drewN 1)) : (Code.region id l'.toArray true).wpIn F n P Q a w :=
  wpIn_region_any hm (any_in hF (by rw [Array.all_toList.symm]; simpa using hd) _ _ _ _ h)
theorem i_region_drawC (C : World → Prop) (id : Nat) {l' : List Oper} (hF : IsW F) (hd : l'.all nodefB = true) (hm : P.follows .mixedOrders = true) (hB : Region.lexB .any l'.toArray = true) (hC : C (w.drewN 1))
    (h : wpQuiet P l'.toArray C (fun a' => ∀ w', C w' → Q .normal a' w') l' a) : (Code.region id l'.toArray true).wpIn F n P Q a w := by
  simp only [Region.lexB, Bool.and_eq_true] at hB
  refine i_any id hF hd hm (wpAny_of_quiet (Q := fun a' => ∀ w', C w' → Q .normal a' w') (fun _ w' hw' h => ⟨by simp, h w' hw'⟩) _ _ _ _ hC ?_)
  have := wpAnyQ_lex (C := C) (md := .any) hB.1 l'.toArray.toList 0 (Array.replicate l'.toArray.size false) a (by simp) (by simpa using hB.2) (by simpa using h)
  simpa using this
theorem i_region_draw (id : Nat) {l' : List Oper} (hF : IsW F) (hd : l'.all nodefB = true) (hm : P.follows .mixedOrders = true) (hB : Region.lexB .any l'.toArray = true)
    (h : wpQuiet P l'.toArray (fun w' => ∃ n, w' = w.drewN n) (fun a' => ∀ w', (∃ n, w' = w.drewN n) → Q .normal a' w') l' a) : (Code.region id l'.toArray true).wpIn F n P Q a w :=
  i_region_drawC _ id hF hd hm hB ⟨1, rfl⟩ h
theorem i_cond_t {N : Nat} {l : List (Nat × Value)} (h : Fr N l a) {c : Operand} {x y : Code} {t : Bool} (hc : Ev l c (.bool t)) (ht : t = true) (hx : x.wpIn F n P Q a w) : (Code.cond c x y).wpIn F n P Q a w :=
  wpIn_cond_true (by rw [h.eval _ _ hc, ht]) hx
theorem i_cond_f {N : Nat} {l : List (Nat × Value)} (h : Fr N l a) {c : Operand} {x y : Code} {t : Bool} (hc : Ev l c (.bool t)) (ht : t = false) (hy : y.wpIn F n P Q a w) : (Code.cond c x y).wpIn F n P Q a w :=
  wpIn_cond_false (by rw [h.eval _ _ hc, ht]) hy
/-- A loop: a relation that bears a number, which every round lowers. -/
theorem i_loop {c : Code} (I : Nat → Act → World → Prop) (n₀ : Nat) (h₀ : I n₀ a w)
    (round : ∀ m a w, I m a w → c.wpIn F n P (Exit.then (fun a' w' => ∃ m', m' < m ∧ I m' a' w') Q) a w) : (Code.loop c).wpIn F n P Q a w := by
  intro b k cs hro hb hr
  have key : ∀ j a w, I j a w → ∃ e a' w', Q e a' w' ∧ ArrivesIn (Machine.fenced P F) P (lone (b.atR a (.code c :: .inLoop c :: k)) cs w) b k cs e a' w' := by
    intro j
    induction j using Nat.strongRecOn with
    | _ j ih =>
      intro a w hI
      obtain ⟨e, a₁, w₁, hq, harr⟩ := round j a w hI b (.inLoop c :: k) cs hro hb hr
      cases e with
      | normal =>
        obtain ⟨m', hlt, hI₁⟩ := hq
        obtain ⟨e₂, a₂, w₂, hq₂, harr₂⟩ := ih m' hlt a₁ w₁ hI₁
        exact ⟨e₂, a₂, w₂, hq₂, .of_steps (StepsIn.trans harr (.one (fenced_calm hb hr rfl) stepR_inLoop)) harr₂⟩
      | exit id => exact ⟨_, a₁, w₁, hq, .pass (x := .inLoop c) rfl (fun _ _ => .inl (by simp)) harr⟩
      | goto l => exact ⟨_, a₁, w₁, hq, .pass (x := .inLoop c) rfl (fun _ _ => .inl (by simp)) harr⟩
      | ret => exact ⟨_, a₁, w₁, hq, .pass (x := .inLoop c) rfl (fun _ _ => .inl (by simp)) harr⟩
      | panic ch => exact ⟨_, a₁, w₁, hq, .pass (x := .inLoop c) rfl (fun _ _ => .inl (by simp)) harr⟩
      | outgrown => exact ⟨_, a₁, w₁, hq, .pass (x := .inLoop c) rfl (fun _ _ => .inl (by simp)) harr⟩
  obtain ⟨e, a', w', hq, harr⟩ := key n₀ a w h₀
  exact ⟨e, a', w', hq, .of_steps (.one (fenced_calm hb hr rfl) stepR_loop) harr⟩
end
end Go.Proofs.YtnohefaifbghiaaGreatDoor
end
section
/- Functions that hold a range over a function: their frames bear marks among the deferred calls. Plain lemmas over any program. -/
namespace Go.Proofs.YtnohefaifbghiaaGreatDoor
open Go.RowKit

/-- The frame, with these deferred calls. -/
def withD (a : Act) (ds : List Deferred) : Act := { tmps := a.tmps, defers := a.defers ++ ds }
theorem withD_nil (a : Act) : withD a [] = a := by cases a; simp [withD]
theorem withD_cons {a : Act} (h : a.defers = []) (d : Deferred) (ds : List Deferred) : { withD a ds with defers := d :: (withD a ds).defers } = withD a (d :: ds) := by simp [withD, h]
/-- The mark of a loop. -/
def markD (D : Nat) : Deferred := { target := .collected D, args := #[] }
/-- The world but for these blocks. -/
structure Shut (Ds : List Nat) (w w' : World) : Prop where
  os : w'.os = w.os
  tape : w'.tape = w.tape
  output : w'.output = w.output
  size : w'.heap.size = w.heap.size
  same : ∀ i, i ∉ Ds → w'.heap[i]? = w.heap[i]?
theorem Shut.refl (Ds : List Nat) (w : World) : Shut Ds w w := ⟨rfl, rfl, rfl, rfl, fun _ _ => rfl⟩
theorem Shut.below {Ds : List Nat} {w0 w w' : World} {B : Nat} (h : Shut Ds w w') (hb : Below B w0 w) (hD : ∀ D ∈ Ds, B ≤ D) : Below B w0 w' :=
  hb.trans ⟨h.os, h.tape, h.output, Nat.le_of_eq h.size.symm, fun k hk => h.same k (fun hm => by have := hD k hm; omega)⟩
theorem Shut.cell {Ds : List Nat} {w w' : World} (h : Shut Ds w w') {g i : Nat} (hg : g ∉ Ds) : w'.cell? ⟨g, i, none⟩ = w.cell? ⟨g, i, none⟩ := by
  simp only [World.cell?, h.same g hg]

section
variable {F : Fence} {n : Nat} {P : Program} {ops : Array Oper} {Q : Exit → Act → World → Prop} {a : Act} {w : World} {N : Nat} {l : List (Nat × Value)} {ds : List Deferred}

theorem oper_D {o : Oper} {K : Act → World → Prop} (h : o.wp P a w (fun a' w' => K (withD a' ds) w') (fun e a' w' => Q e (withD a' ds) w')) : o.wp P (withD a ds) w K Q := by
  unfold Oper.wp at *
  have he : (withD a ds).eval = a.eval := funext fun x => by cases x <;> rfl
  rw [he]
  have hp : ∀ v, (withD a ds).put o.dst v = withD (a.put o.dst v) ds := fun v => by cases o.dst <;> rfl
  generalize hr : (execOp a.eval o).run P w = r at *
  cases r with
  | ok x w' =>
    cases x <;> simp only [Oper.upon] at h ⊢
    case value v => rw [hp]; exact h
    case skip => rw [hp]; exact h
    case defer d =>
      have hp2 : ({ withD a ds with defers := d :: (withD a ds).defers } : Act).put o.dst undef = withD (({ a with defers := d :: a.defers } : Act).put o.dst undef) ds := by cases o.dst <;> rfl
      rw [hp2]; exact h
    case enter f args =>
      refine Calls.mono h fun e w'' he => ?_
      cases e with
      | returned v => simp only at he ⊢; rw [hp]; exact he
      | panicked c => exact he
      | outgrown => obtain ⟨x, y, h⟩ := he; exact ⟨_, y, h⟩
    case row row args => exact Rows.mono h fun v w'' he => by rw [hp]; exact he
  | halt x w' =>
    cases x <;> simp only [Oper.upon] at h ⊢
    case panic v => exact h
theorem list_D : ∀ {l : List Oper} {a : Act} {w : World}, wpList P ops (fun e a' w' => Q e (withD a' ds) w') l a w → wpList P ops Q l (withD a ds) w
  | [], _, _, h => h
  | o :: l, a, w, h => by
    simp only [wpList] at h ⊢
    have ht : (withD a ds).tmps = a.tmps := rfl
    rw [ht]
    split
    · rename_i hw
      rw [if_pos hw] at h
      rcases h with h | ⟨h1, x, y, h2⟩
      · exact .inl (oper_D (Oper.wp_mono (fun a' w' h' => list_D h') h))
      · refine .inr ⟨?_, _, y, h2⟩
        unfold Oper.asks at h1 ⊢
        have he : (withD a ds).eval = a.eval := funext fun x => by cases x <;> rfl
        rw [he]; exact h1
    · rename_i hw
      rw [if_neg hw] at h
      have hp : (withD a ds).put o.dst undef = withD (a.put o.dst undef) ds := by cases o.dst <;> rfl
      rw [hp]
      exact list_D h
theorem any_D {md : Region.Mode} : ∀ {fuel : Nat} {listed : Array Bool} {a : Act} {w : World}, wpAny P md ops (fun e a' w' => Q e (withD a' ds) w') fuel listed a w → wpAny P md ops Q fuel listed (withD a ds) w
  | 0, _, _, _, h => h
  | fuel + 1, listed, a, w, h => by
    refine ⟨h.1, fun i hi => ?_⟩
    have h1 := h.2 i hi
    unfold wpOp at h1 ⊢
    cases ho : ops[i]? with
    | none => rw [ho] at h1; exact any_D h1
    | some o =>
      rw [ho] at h1
      simp only at h1 ⊢
      have ht : (withD a ds).tmps = a.tmps := rfl
      rw [ht]
      split
      · rename_i hw
        rw [if_pos hw] at h1
        rcases h1 with h1 | ⟨h2, x, y, h3⟩
        · exact .inl (oper_D (Oper.wp_mono (fun a' w' h' => any_D h') h1))
        · refine .inr ⟨?_, _, y, h3⟩
          unfold Oper.asks at h2 ⊢
          have he : (withD a ds).eval = a.eval := funext fun x => by cases x <;> rfl
          rw [he]; exact h2
      · rename_i hw
        rw [if_neg hw] at h1
        have hp : (withD a ds).put o.dst undef = withD (a.put o.dst undef) ds := by cases o.dst <;> rfl
        rw [hp]
        exact any_D h1
/-! ### control -/
theorem m_region (id : Nat) {l' : List Oper} (hF : IsW F) (hd : l'.all nodefB = true) (h : wpList P l'.toArray (Qx fun e a' w' => Q e (withD a' ds) w') l' a w) : (Code.region id l'.toArray false).wpIn F n P Q (withD a ds) w :=
  i_region id hF hd (list_D (Q := Qx Q) h)
theorem m_cond_t (h : Fr N l a) {c : Operand} {x y : Code} {t : Bool} (hc : Ev l c (.bool t)) (ht : t = true) (hx : x.wpIn F n P Q (withD a ds) w) : (Code.cond c x y).wpIn F n P Q (withD a ds) w :=
  wpIn_cond_true (by have : (withD a ds).eval c = a.eval c := by cases c <;> rfl
                     rw [this, h.eval _ _ hc, ht]) hx
theorem m_cond_f (h : Fr N l a) {c : Operand} {x y : Code} {t : Bool} (hc : Ev l c (.bool t)) (ht : t = false) (hy : y.wpIn F n P Q (withD a ds) w) : (Code.cond c x y).wpIn F n P Q (withD a ds) w :=
  wpIn_cond_false (by have : (withD a ds).eval c = a.eval c := by cases c <;> rfl
                      rw [this, h.eval _ _ hc, ht]) hy
theorem m_region_drawC (C : World → Prop) (id : Nat) {l' : List Oper} (hF : IsW F) (hd : l'.all nodefB = true) (hm : P.follows .mixedOrders = true) (hB : Region.lexB .any l'.toArray = true) (hC : C (w.drewN 1))
    (h : wpQuiet P l'.toArray C (fun a' => ∀ w', C w' → Q .normal (withD a' ds) w') l' a) : (Code.region id l'.toArray true).wpIn F n P Q (withD a ds) w := by
  simp only [Region.lexB, Bool.and_eq_true] at hB
  refine i_any id hF hd hm (any_D (Q := Qx Q) (wpAny_of_quiet (Q := fun a' => ∀ w', C w' → Q .normal (withD a' ds) w') (fun _ w' hw' h => ⟨by simp, h w' hw'⟩) _ _ _ _ hC ?_))
  have := wpAnyQ_lex (C := C) (md := .any) hB.1 l'.toArray.toList 0 (Array.replicate l'.toArray.size false) a (by simp) (by simpa using hB.2) (by simpa using h)
  simpa using this
theorem m_region_draw (id : Nat) {l' : List Oper} (hF : IsW F) (hd : l'.all nodefB = true) (hm : P.follows .mixedOrders = true) (hB : Region.lexB .any l'.toArray = true)
    (h : wpQuiet P l'.toArray (fun w' => ∃ n, w' = w.drewN n) (fun a' => ∀ w', (∃ n, w' = w.drewN n) → Q .normal (withD a' ds) w') l' a) : (Code.region id l'.toArray true).wpIn F n P Q (withD a ds) w :=
  m_region_drawC _ id hF hd hm hB ⟨1, rfl⟩ h
/-- A round's frame: the loop variables in their slots. -/
theorem Fr.round {p0 p1 : Nat} {v0 v1 : Value} (h : Fr N l a) (h0 : Nat.blt p0 N = true) (h1 : Nat.blt p1 N = true) : Fr N ((p1, v1) :: (p0, v0) :: l) { tmps := ((withD a ds).tmps.setIfInBounds p0 v0).setIfInBounds p1 v1, defers := [] } := by
  have h2 := (h.put h0 v0).put h1 v1
  have e : (({ tmps := ((withD a ds).tmps.setIfInBounds p0 v0).setIfInBounds p1 v1, defers := [] } : Act)) = ((a.put (some p0) v0).put (some p1) v1) := by
    have hd := h.defers
    cases a
    simp only at hd
    subst hd
    rfl
  rw [e]; exact h2
theorem round_in {p0 p1 : Nat} {v0 v1 : Value} {C : Code} (h : Fr N l a) (h0 : Nat.blt p0 N = true) (h1 : Nat.blt p1 N = true) (k : ∀ a', Fr N ((p1, v1) :: (p0, v0) :: l) a' → C.wpIn F n P Q a' w) : C.wpIn F n P Q { tmps := ((withD a ds).tmps.setIfInBounds p0 v0).setIfInBounds p1 v1, defers := [] } w :=
  k _ (h.round h0 h1)
theorem mark_more (h : Fr N l a) (D : Nat) (Ds : List Nat) : ({ withD a (Ds.map markD) with defers := { target := .collected D, args := #[] } :: (withD a (Ds.map markD)).defers } : Act) = withD a ((D :: Ds).map markD) := withD_cons h.defers _ _
theorem eval_D (h : Fr N l a) {o : Operand} {v : Value} (he : Ev l o v) : (withD a ds).eval o = v := by
  have : (withD a ds).eval o = a.eval o := by cases o <;> rfl
  rw [this]; exact h.eval _ _ he
/-! ### the way out -/
theorem leaves_marks {fn : Func} {tmps : Array Value} {R : Ending → World → Prop} : ∀ (Ds : List Nat) (w : World), Ds.Nodup → (∀ D ∈ Ds, w.heap[D]? = some (.deferred (some []))) →
    (∀ w', Shut Ds w w' → ∃ v, (results fn tmps).run P w' = .ok v w' ∧ R (.returned v) w') → LeavesInM F n P fn tmps R (Ds.map markD) .returning w
  | [], w, _, _, h => h w (Shut.refl _ w)
  | D :: Ds, w, hn, hD, h => by
    have hD0 := hD D List.mem_cons_self
    have hlt := lt_at hD0
    refine ⟨by simp, .inl ⟨D, _, rfl, run_takeDeferred hD0, leaves_marks Ds _ (List.nodup_cons.1 hn).2 (fun E hE => ?_) (fun w' hw' => h w' ⟨hw'.os, hw'.tape, hw'.output, by rw [hw'.size]; simp, fun i hi => ?_⟩)⟩⟩
    · have hne : E ≠ D := fun e => (List.nodup_cons.1 hn).1 (e ▸ hE)
      rw [World.putObj_heap_other hne]
      exact hD E (List.mem_cons_of_mem _ hE)
    · rw [hw'.same i (fun hm => hi (List.mem_cons_of_mem _ hm)), World.putObj_heap_other (fun e => hi (by subst e; exact List.mem_cons_self))]
theorem m_ret {fn : Func} {R : Ending → World → Prop} {Ds : List Nat} (h : Fr N l a) (hn : Ds.Nodup) (hD : ∀ D ∈ Ds, w.heap[D]? = some (.deferred (some []))) (hR : ∀ w', Shut Ds w w' → ∃ v, (results fn a.tmps).run P w' = .ok v w' ∧ R (.returned v) w') :
    bodyPostM F n P fn R .ret (withD a (Ds.map markD)) w := by
  show LeavesInM F n P fn (withD a (Ds.map markD)).tmps R (withD a (Ds.map markD)).defers .returning w
  have e : (withD a (Ds.map markD)).defers = Ds.map markD := by simp [withD, h.defers]
  rw [e]
  exact leaves_marks Ds w hn hD hR
theorem results_cell1 {fn : Func} {p : Nat} {ty : TypeId} {dd : TypeDesc} {ad : Addr} {v : Value} (h : Fr N l a) (hres : fn.results = #[.cell p ty]) (hU : P.underlying ty = some dd) (h1 : oneCellType dd = true) (hv : look l p = some (.pointer (some ad))) (hc : w.cell? ad = some v) : (results fn a.tmps).run P w = .ok v w := by
  have e1 : a.tmps[p]? = some (.pointer (some ad)) := h.at_ _ _ hv
  have e2 : (loadVar ty ad).run P w = .ok v w := by
    cases dd <;> simp [oneCellType] at h1 <;> simp [loadVar, isAgg, run_underlying hU, hc]
  have e3 : a.tmps[p]?.getD undef = .pointer (some ad) := by simp [e1]
  simp [results, hres, e3, asAddr, e2]
/-- The function is entered. -/
theorem enterM {f : FuncId} {fn : Func} {c : Code} {args : List Value} {R : Value → World → Prop} (hf : P.funcs[f]? = some fn) (hb : fn.body = some c) (k : Nat) (hk : fn.ntmps - args.length = k) (N : Nat) (hN : args.length + k = N)
    (h : ∀ a, Fr N (args.zipIdx.map fun p => (p.2, p.1)) a → c.wpIn Fence.wide 9 P (bodyPostM Fence.wide 9 P fn (fun e w' => ∃ v, e = .returned v ∧ R v w')) (withD a []) w) : Ret P f args.toArray w R := by
  refine callsIn_wide.1 (callsIn_of_wp_marks (n := 9) hf hb trivial ?_ rfl)
  have := Fr.enter args N k hN
  have h2 := h _ this
  rw [withD_nil] at h2
  simpa [hk] using h2
/-! ### functions, the least and the greatest -/
def isFnT (d : TypeDesc) : Bool := match d with | .func _ _ _ => true | _ => false
theorem run_equalIn_func (d : Nat) {t : TypeId} {f : Fn} {xs ys : Array Value} (hU : (P.underlying t).map isFnT = some true) : (Op.equalIn (d + 1) t (.func f xs ys) .nilFunc).run P w = .ok false w := by
  obtain ⟨dd, hU, hd⟩ := Option.map_eq_some_iff.1 hU
  cases dd <;> simp [isFnT] at hd <;> simp [Op.equalIn, run_underlying hU]
theorem d_eqF {x : Operand} {f : Fn} {xs ys : Array Value} {t t' ty : TypeId} (hU : (P.underlying t).map isFnT = some true) (hx : Ev l x (.func f xs ys) := by exact rfl) : Does P l w (.binOp .eql t x (.const .nilFunc) t') ty (.bool false) w := by
  intro ρ hρ d pos af g
  have e1 : ρ (.const .nilFunc) = .nilFunc := hρ _ _ rfl
  have h : (Op.equal t (.func f xs ys) .nilFunc).run P w = .ok false w := run_equalIn_func 9999 hU
  have e2 : (eqGuard .eql t x (.const .nilFunc) (.func f xs ys) .nilFunc).run P w = .ok () w := rfl
  simp only [execOp, hρ _ _ hx, e1, Sem.run_bind, e2, Result.andThen_ok]
  show ((do pure (Value.bool (← Op.equal t (.func f xs ys) .nilFunc)) : Sem Value).run P w).andThen _ = _
  rw [Sem.run_bind, h]; rfl
theorem d_maxv {x y : Operand} {k k' : IntKind} {m p v : Int} {t t' ty : TypeId} (hv : (if m < p then p else m) = v) (hx : Ev l x (.int k m) := by exact rfl) (hy : Ev l y (.int k' p) := by exact rfl) : Does P l w (.call { callee := .builtin .max, args := [x, y].toArray, argTypes := [t, t'].toArray }) ty (.int k v) w := by subst hv; exact d_max hx hy
theorem d_minv {x y : Operand} {k k' : IntKind} {m p v : Int} {t t' ty : TypeId} (hv : (if p < m then p else m) = v) (hx : Ev l x (.int k m) := by exact rfl) (hy : Ev l y (.int k' p) := by exact rfl) : Does P l w (.call { callee := .builtin .min, args := [x, y].toArray, argTypes := [t, t'].toArray }) ty (.int k v) w := by subst hv; exact d_min hx hy
end
theorem grown_more {w w1 w2 : World} {row r : Option Nat} (h : w.grownBy w1 row) (k : w1.grownBy w2 r) (hr : ∀ q, r = some q → row = some q ∨ w.heap.size ≤ q) : w.grownBy w2 row :=
  ⟨k.os.trans h.os, k.tape.trans h.tape, k.output.trans h.output, Nat.le_trans h.size k.size, fun i hi hne => (k.block i (by have := h.size; omega) (fun e => by
    rcases hr i e.symm with q | q
    · exact hne q.symm
    · omega)).trans (h.block i hi hne)⟩
theorem below_grown {w w' : World} (h : w.grownBy w' none) : Below w.heap.size w w' := (Below.refl _ w).grown h (Nat.le_refl _) (fun k hk => by cases hk)
end Go.Proofs.YtnohefaifbghiaaGreatDoor
end
