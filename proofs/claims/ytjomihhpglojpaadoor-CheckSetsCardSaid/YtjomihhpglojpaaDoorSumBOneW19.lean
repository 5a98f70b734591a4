/- Laid together by a program of mine: Perm. -/
import Derived.Test.YtjomihhpglojpaaDoorSumBOneW3
import Derived.OrdersHeld
set_option linter.unusedSimpArgs false
set_option linter.unusedVariables false
section
/- A region that draws its order and holds reads, and besides a chain of operations that change memory (an alloc, a store, an append): the reads are taken first, in an order that is named, in every world that meets a condition; the chain behind them, each of its operations showing the condition anew. Plain lemmas over any program. -/
namespace Go.Proofs.YtjomihhpglojpaaDoor
open Go.RowKit

section
variable {P : Program} {ops : Array Oper} {md : Region.Mode} {S : World → Prop} {Q Q' : Exit → Act → World → Prop}

theorem oper_wp_monoQ {o : Oper} {a : Act} {w : World} {K : Act → World → Prop} (hq : ∀ e a w, e ≠ .normal → Q' e a w → Q e a w) (hh : o.wp P a w K Q') : o.wp P a w K Q := by
  unfold Oper.wp at *
  generalize (execOp a.eval o).run P w = r at *
  cases r with
  | ok n w' =>
    cases n <;> simp only [Oper.upon] at hh ⊢ <;>
      first
        | exact hh
        | exact Calls.mono hh (fun e w'' he => by
            cases e with
            | returned v => exact he
            | panicked c => exact hq _ _ _ (by simp) he
            | outgrown => obtain ⟨x, y, h⟩ := he; exact ⟨x, y, hq _ _ _ (by simp) h⟩)
  | halt x w' =>
    cases x <;> simp only [Oper.upon] at hh ⊢ <;> first | exact hh | exact hq _ _ _ (by simp) hh
theorem letsOut_mono (hq : ∀ e a w, Q' e a w → Q e a w) (h : LetsOut Q') : LetsOut Q := by
  obtain ⟨x, y, h⟩ := h; exact ⟨x, y, hq _ _ _ h⟩
theorem wpOp_monoQ {i : Nat} {a : Act} {w : World} {K : Act → World → Prop} (hq : ∀ e a w, Q' e a w → Q e a w) (hh : wpOp P ops Q' i K a w) : wpOp P ops Q i K a w := by
  unfold wpOp at *
  split
  · simpa [*] using hh
  · rename_i o ho
    simp only [ho] at hh
    split
    · rename_i hw; simp only [hw, if_true] at hh; exact hh.imp (oper_wp_monoQ (fun e a w _ => hq e a w)) (fun ⟨h1, h2⟩ => ⟨h1, letsOut_mono hq h2⟩)
    · rename_i hw; simp only [hw] at hh; exact hh
theorem wpAny_monoQ (hq : ∀ e a w, Q' e a w → Q e a w) : ∀ (fuel : Nat) (listed : Array Bool) (a : Act) (w : World), wpAny P md ops Q' fuel listed a w → wpAny P md ops Q fuel listed a w
  | 0, _, _, _, h => ⟨h.1, hq _ _ _ h.2⟩
  | fuel + 1, _, _, _, h => ⟨fun h0 => hq _ _ _ (h.1 h0), fun i hi => wpOp_mono (fun a' w' h' => wpAny_monoQ hq fuel _ a' w' h') (wpOp_monoQ hq (h.2 i hi))⟩

/-- The chain: each operation shows the condition anew. -/
def wpTail (P : Program) (ops : Array Oper) (Q : Exit → Act → World → Prop) (S : World → Prop) : List Oper → Act → World → Prop
  | [], a, w => Q .normal a w
  | o :: rest, a, w => wpList P ops (fun e a' w' => e = .normal ∧ S w' ∧ wpTail P ops Q S rest a' w') [o] a w

/-- The reads: each yields its value in every world that meets the condition. -/
def wpIf (P : Program) (ops : Array Oper) (S : World → Prop) (K : Act → Prop) : List Oper → Act → Prop
  | [], a => K a
  | o :: rest, a => ∃ v, YieldsIf P ops S o v a ∧ wpIf P ops S K rest (a.put o.dst v)

def seqL (md : Region.Mode) (ops : Array Oper) : List Nat → Array Bool → Bool
  | [], listed => (Region.ready md ops listed).isEmpty
  | t :: ts, listed => decide (Region.ready md ops listed = [t]) && seqL md ops ts (listed.setIfInBounds t true)
def headL (md : Region.Mode) (ops : Array Oper) (ts : List Nat) : List Nat → Array Bool → Bool
  | [], listed => seqL md ops ts listed
  | i :: rs, listed => (Region.ready md ops listed).contains i && Region.free md ops listed i && headL md ops ts rs (listed.setIfInBounds i true)
def permB (md : Region.Mode) (ops : Array Oper) (rs ts : List Nat) : Bool :=
  Region.noSelect ops && decide (rs.length + ts.length = ops.size) && headL md ops ts rs (Array.replicate ops.size false)
def pickL (l : List Oper) (is : List Nat) : List Oper := is.filterMap (l[·]?)

theorem mem_ready_lt {j : Nat} {listed : Array Bool} (h : j ∈ Region.ready md ops listed) : ∃ o, ops[j]? = some o := by
  obtain ⟨_, o, ho, _⟩ := mem_ready.1 h; exact ⟨o, ho⟩
theorem pickL_cons {l : List Oper} {i : Nat} {is : List Nat} {o : Oper} (h : l[i]? = some o) : pickL l (i :: is) = o :: pickL l is := by simp [pickL, h]

theorem wpAnyH_seq {l : List Oper} (Q : Exit → Act → World → Prop) : ∀ (ts : List Nat) (listed : Array Bool) (a : Act) (w : World), seqL md l.toArray ts listed = true →
    wpTail P l.toArray Q S (pickL l ts) a w → wpAnyH P md l.toArray (fun e a w => e = .normal ∧ Q .normal a w) S ts.length listed a w
  | [], listed, a, w, hB, h => ⟨by simpa [seqL] using hB, rfl, by simpa [pickL, wpTail] using h⟩
  | t :: ts, listed, a, w, hB, h => by
    simp only [seqL, Bool.and_eq_true, decide_eq_true_eq] at hB
    refine ⟨fun h1 => (by rw [hB.1] at h1; cases h1), fun i hi => ?_⟩
    obtain ⟨o, ho⟩ := mem_ready_lt hi
    rw [hB.1] at hi
    have hik : i = t := by simpa using hi
    subst hik
    rw [pickL_cons (by simpa using ho)] at h
    simp only [wpTail, wpList] at h
    unfold wpOp
    simp only [ho]
    split
    · rename_i hw
      rw [if_pos hw] at h
      rcases h with h | ⟨_, x, y, h, _⟩
      · refine .inl (oper_wp_monoQ (Q' := fun e a' w' => e = .normal ∧ S w' ∧ wpTail P l.toArray Q S (pickL l ts) a' w') (fun e a' w' hn h' => absurd h'.1 hn) (Oper.wp_mono ?_ h))
        rintro a' w' ⟨_, h1, h2⟩
        exact ⟨h1, wpAnyH_seq Q ts _ a' w' hB.2 h2⟩
      · cases h
    · rename_i hw
      rw [if_neg hw] at h
      exact ⟨h.2.1, wpAnyH_seq Q ts _ _ _ hB.2 h.2.2⟩

theorem wpAnyH_head {l : List Oper} (Q : Exit → Act → World → Prop) (ts : List Nat) (hs : Region.noSelect l.toArray = true) : ∀ (rs : List Nat) (listed : Array Bool) (a : Act) (w : World), headL md l.toArray ts rs listed = true → S w →
    wpIf P l.toArray S (fun a' => ∀ w', S w' → wpTail P l.toArray Q S (pickL l ts) a' w') (pickL l rs) a → wpAnyH P md l.toArray (fun e a w => e = .normal ∧ Q .normal a w) S (rs.length + ts.length) listed a w
  | [], listed, a, w, hB, hS, h => by
    simp only [headL] at hB
    simp only [List.length_nil, Nat.zero_add]
    exact wpAnyH_seq Q ts listed a w hB (h w hS)
  | i :: rs, listed, a, w, hB, hS, h => by
    simp only [headL, Bool.and_eq_true] at hB
    obtain ⟨⟨hr, hf⟩, hB'⟩ := hB
    obtain ⟨o, ho⟩ := mem_ready_lt (by simpa using hr : i ∈ Region.ready md l.toArray listed)
    rw [pickL_cons (by simpa using ho)] at h
    obtain ⟨v, hy, hk⟩ := h
    rw [show (i :: rs).length + ts.length = (rs.length + ts.length) + 1 by simp; omega]
    exact wpAnyH_take ho hs hf hr (fun c a w h => by cases h.1) hy hS (wpAnyH_head Q ts hs rs _ _ w hB' hS hk)

/-- The region: reads rs first, in the order named, the chain ts behind. -/
theorem c_region_perm (S : World → Prop) (rs ts : List Nat) (id : Nat) {l' : List Oper} {a : Act} {w : World} (hm : P.follows .mixedOrders = true) (hB : permB .any l'.toArray rs ts = true) (hS : S (w.drewN 1))
    (h : wpIf P l'.toArray S (fun a' => ∀ w', S w' → wpTail P l'.toArray Q S (pickL l' ts) a' w') (pickL l' rs) a) : (Code.region id l'.toArray true).wp P Q a w := by
  simp only [permB, Bool.and_eq_true, decide_eq_true_eq] at hB
  obtain ⟨⟨h1, h2⟩, h3⟩ := hB
  have := wpAnyH_head (md := .any) (S := S) Q ts h1 rs _ a _ h3 hS h
  rw [h2] at this
  refine wp_region_any hm (wpAny_monoQ ?_ _ _ _ _ (wpAny_of_held _ _ _ _ this))
  rintro e a w ⟨rfl, h⟩
  exact h

/-! ### steps -/
variable {a : Act} {w w' : World} {rest : List Oper} {N : Nat} {l : List (Nat × Value)} {K : Act → Prop}
theorem p_nil (h : K a) : wpIf P ops S K [] a := h
theorem p_step (h : Fr N l a) {d : Nat} {op : Op} {ty : TypeId} {pos : String} {af : Array Edge} {v : Value} (hr : ∀ w, S w → Does P l w op ty v w) (hd : Nat.blt d N = true := by exact rfl)
    (k : ∀ a', Fr N ((d, v) :: l) a' → wpIf P ops S K rest a') : wpIf P ops S K (⟨some d, op, ty, pos, af, none⟩ :: rest) a :=
  ⟨v, .inl ⟨by simp [Region.wanted], fun w hw => hr w hw a.eval h.eval _ _ _ _⟩, k _ (h.put hd v)⟩
theorem t_nil (h : Q .normal a w) : wpTail P ops Q S [] a w := h
theorem t_one {o : Oper} (h : wpList P ops (fun e a' w' => e = .normal ∧ S w' ∧ wpTail P ops Q S rest a' w') [o] a w) : wpTail P ops Q S (o :: rest) a w := h

/-! ### reads and sole operations in one order -/
/-- Each is a read, that yields its value in every world that meets the condition, or the only one that may come up. -/
def wpMix (P : Program) (ops : Array Oper) (Q : Exit → Act → World → Prop) (S : World → Prop) : List (Oper × Bool) → Act → World → Prop
  | [], a, w => Q .normal a w
  | (o, true) :: rest, a, w => ∃ v, YieldsIf P ops S o v a ∧ wpMix P ops Q S rest (a.put o.dst v) w
  | (o, false) :: rest, a, w => wpList P ops (fun e a' w' => e = .normal ∧ S w' ∧ wpMix P ops Q S rest a' w') [o] a w
def mixL (md : Region.Mode) (ops : Array Oper) : List (Nat × Bool) → Array Bool → Bool
  | [], listed => (Region.ready md ops listed).isEmpty
  | (i, true) :: is, listed => (Region.ready md ops listed).contains i && Region.free md ops listed i && mixL md ops is (listed.setIfInBounds i true)
  | (t, false) :: is, listed => decide (Region.ready md ops listed = [t]) && mixL md ops is (listed.setIfInBounds t true)
def mixB (md : Region.Mode) (ops : Array Oper) (is : List (Nat × Bool)) : Bool :=
  Region.noSelect ops && decide (is.length = ops.size) && mixL md ops is (Array.replicate ops.size false)
def pickX (l : List Oper) (is : List (Nat × Bool)) : List (Oper × Bool) := is.filterMap fun i => (l[i.1]?).map (·, i.2)
theorem pickX_cons {l : List Oper} {i : Nat} {b : Bool} {is : List (Nat × Bool)} {o : Oper} (h : l[i]? = some o) : pickX l ((i, b) :: is) = (o, b) :: pickX l is := by simp [pickX, h]
theorem wpAnyH_mix {l : List Oper} (Q : Exit → Act → World → Prop) (hs : Region.noSelect l.toArray = true) : ∀ (is : List (Nat × Bool)) (listed : Array Bool) (a : Act) (w : World), mixL md l.toArray is listed = true → S w →
    wpMix P l.toArray Q S (pickX l is) a w → wpAnyH P md l.toArray (fun e a w => e = .normal ∧ Q .normal a w) S is.length listed a w
  | [], listed, a, w, hB, _, h => ⟨by simpa [mixL] using hB, rfl, by simpa [pickX, wpMix] using h⟩
  | (i, true) :: is, listed, a, w, hB, hS, h => by
    simp only [mixL, Bool.and_eq_true] at hB
    obtain ⟨⟨hr, hf⟩, hB'⟩ := hB
    obtain ⟨o, ho⟩ := mem_ready_lt (by simpa using hr : i ∈ Region.ready md l.toArray listed)
    rw [pickX_cons (by simpa using ho)] at h
    obtain ⟨v, hy, hk⟩ := h
    exact wpAnyH_take ho hs hf hr (fun c a w h => by cases h.1) hy hS (wpAnyH_mix Q hs is _ _ w hB' hS hk)
  | (t, false) :: is, listed, a, w, hB, hS, h => by
    simp only [mixL, Bool.and_eq_true, decide_eq_true_eq] at hB
    refine ⟨fun h1 => (by rw [hB.1] at h1; cases h1), fun i hi => ?_⟩
    obtain ⟨o, ho⟩ := mem_ready_lt hi
    rw [hB.1] at hi
    have hik : i = t := by simpa using hi
    subst hik
    rw [pickX_cons (by simpa using ho)] at h
    simp only [wpMix, wpList] at h
    unfold wpOp
    simp only [ho]
    split
    · rename_i hw
      rw [if_pos hw] at h
      rcases h with h | ⟨_, x, y, h, _⟩
      · refine .inl (oper_wp_monoQ (Q' := fun e a' w' => e = .normal ∧ S w' ∧ wpMix P l.toArray Q S (pickX l is) a' w') (fun e a' w' hn h' => absurd h'.1 hn) (Oper.wp_mono ?_ h))
        rintro a' w' ⟨_, h1, h2⟩
        exact ⟨h1, wpAnyH_mix Q hs is _ a' w' hB.2 h1 h2⟩
      · cases h
    · rename_i hw
      rw [if_neg hw] at h
      exact ⟨h.2.1, wpAnyH_mix Q hs is _ _ _ hB.2 h.2.1 h.2.2⟩
theorem c_region_mix (S : World → Prop) (is : List (Nat × Bool)) (id : Nat) {l' : List Oper} {a : Act} {w : World} (hm : P.follows .mixedOrders = true) (hB : mixB .any l'.toArray is = true) (hS : S (w.drewN 1))
    (h : wpMix P l'.toArray Q S (pickX l' is) a (w.drewN 1)) : (Code.region id l'.toArray true).wp P Q a w := by
  simp only [mixB, Bool.and_eq_true, decide_eq_true_eq] at hB
  obtain ⟨⟨h1, h2⟩, h3⟩ := hB
  have := wpAnyH_mix (md := .any) (S := S) Q h1 is _ a _ h3 hS h
  rw [h2] at this
  refine wp_region_any hm (wpAny_monoQ ?_ _ _ _ _ (wpAny_of_held _ _ _ _ this))
  rintro e a w ⟨rfl, h⟩
  exact h
section
variable {a : Act} {w : World} {restx : List (Oper × Bool)} {N : Nat} {l : List (Nat × Value)}
theorem x_nil (h : Q .normal a w) : wpMix P ops Q S [] a w := h
theorem x_step (h : Fr N l a) {d : Nat} {op : Op} {ty : TypeId} {pos : String} {af : Array Edge} {v : Value} (hr : ∀ w, S w → Does P l w op ty v w) (hd : Nat.blt d N = true := by exact rfl)
    (k : ∀ a', Fr N ((d, v) :: l) a' → wpMix P ops Q S restx a' w) : wpMix P ops Q S ((⟨some d, op, ty, pos, af, none⟩, true) :: restx) a w :=
  ⟨v, .inl ⟨by simp [Region.wanted], fun w hw => hr w hw a.eval h.eval _ _ _ _⟩, k _ (h.put hd v)⟩
theorem x_stg (h : Fr N l a) {d : Nat} {op : Op} {ty : TypeId} {pos : String} {af : Array Edge} {v : Value} {j e : Nat} {b : Bool} (hj : (ops[j]?).bind (·.dst) = some e := by exact rfl) (hb : look l e = some (.bool b) := by exact rfl)
    (hr : ∀ w, S w → Does P l w op ty v w) (hd : Nat.blt d N = true := by exact rfl)
    (k : ∀ a', Fr N ((d, v) :: l) a' → wpMix P ops Q S restx a' w) : wpMix P ops Q S ((⟨some d, op, ty, pos, af, some (j, b)⟩, true) :: restx) a w :=
  ⟨v, .inl ⟨by simp [Region.wanted, yielded_of (ops := ops) h hj hb], fun w hw => hr w hw a.eval h.eval _ _ _ _⟩, k _ (h.put hd v)⟩
theorem x_stm (h : Fr N l a) {d : Nat} {op : Op} {ty : TypeId} {pos : String} {af : Array Edge} {j e : Nat} {b c : Bool} (hj : (ops[j]?).bind (·.dst) = some e := by exact rfl) (hb : look l e = some (.bool c) := by exact rfl) (hne : c = !b := by exact rfl) (hd : Nat.blt d N = true := by exact rfl)
    (k : ∀ a', Fr N ((d, undef) :: l) a' → wpMix P ops Q S restx a' w) : wpMix P ops Q S ((⟨some d, op, ty, pos, af, some (j, b)⟩, true) :: restx) a w :=
  ⟨undef, .inr ⟨by subst hne; simp [Region.wanted, yielded_of (ops := ops) h hj hb], rfl⟩, k _ (h.put hd _)⟩
theorem x_stu (h : Fr N l a) {d : Nat} {op : Op} {ty : TypeId} {pos : String} {af : Array Edge} {j e : Nat} {b : Bool} (hj : (ops[j]?).bind (·.dst) = some e := by exact rfl) (hb : look l e = some undef := by exact rfl) (hd : Nat.blt d N = true := by exact rfl)
    (k : ∀ a', Fr N ((d, undef) :: l) a' → wpMix P ops Q S restx a' w) : wpMix P ops Q S ((⟨some d, op, ty, pos, af, some (j, b)⟩, true) :: restx) a w :=
  ⟨undef, .inr ⟨by simp [Region.wanted, yielded_undef (ops := ops) h hj hb], rfl⟩, k _ (h.put hd _)⟩
theorem x_one {o : Oper} (h : wpList P ops (fun e a' w' => e = .normal ∧ S w' ∧ wpMix P ops Q S restx a' w') [o] a w) : wpMix P ops Q S ((o, false) :: restx) a w := h
end
end
end Go.Proofs.YtjomihhpglojpaaDoor
end
