/- Walks within a round of a range over a function, and of a function that calls yield: from the plain list's walk to the fenced one. Plain lemmas over any program. -/
import Derived.Test.YtnohefaifbghiaaGreatDoorPerm
import Derived.OrdersIn
import Derived.RangeFuncRecord
import Derived.TacticsIn
namespace Go.Proofs.YtnohefaifbghiaaGreatDoor
open Go.RowKit

/-- No bounds: the wide fence, or a round within it. -/
def IsW (F : Fence) : Prop := F = Fence.wide ∨ ∃ l, F = Fence.wide.inRound l
theorem isW_wide : IsW Fence.wide := .inl rfl
theorem isW_round (l : Nat) : IsW (Fence.wide.inRound l) := .inr ⟨l, rfl⟩
/-- Left in any way but one. -/
def Qx (Q : Exit → Act → World → Prop) : Exit → Act → World → Prop := fun e a w => e ≠ .outgrown ∧ Q e a w
theorem not_letsOut_Qx {Q : Exit → Act → World → Prop} : ¬ LetsOut (Qx Q) := by rintro ⟨a, w, h, _⟩; exact h rfl
def nodefB (o : Oper) : Bool := match o.op with | .defer _ => false | _ => true
theorem nodef_of {o : Oper} (h : nodefB o = true) (c : Call) : o.op ≠ .defer c := by
  intro e; simp [nodefB, e] at h

section
variable {F : Fence} {n : Nat} {P : Program} {ops : Array Oper} {Q : Exit → Act → World → Prop} {a : Act} {w : World} {md : Region.Mode}

theorem isW_fn (hF : IsW F) (f : FuncId) : F.fn f := by
  rcases hF with rfl | ⟨l, rfl⟩ <;> exact trivial
theorem isW_depth (hF : IsW F) : F.depth.isSome = true → 1 ≤ n := by
  rcases hF with rfl | ⟨l, rfl⟩ <;> intro h <;> exact absurd h (by simp [Fence.wide, Fence.inRound])
theorem calls_in (hF : IsW F) {f : FuncId} {args : Array Value} {R : Ending → World → Prop} (h : Calls P f args w R) : CallsIn F n P f args w R := by
  rcases hF with rfl | ⟨l, rfl⟩
  · exact callsIn_wide.2 h
  · exact (callsIn_wide.2 h : CallsIn Fence.wide n P f args w R)
theorem rows_in (hF : IsW F) {row : String} {args : Array Value} {R : Value → World → Prop} (h : Rows P row args w R) : RowsIn F n P row args w R := by
  rcases hF with rfl | ⟨l, rfl⟩
  · exact fun c cs _ => let ⟨v, w', r, s⟩ := h c cs; ⟨v, w', r, stepsIn_wide.2 s⟩
  · exact fun c cs _ => let ⟨v, w', r, s⟩ := h c cs; ⟨v, w', r, (stepsIn_wide.2 s : StepsIn (Machine.fenced P Fence.wide) P _ _)⟩
theorem oper_in (hF : IsW F) {o : Oper} (hd : nodefB o = true) {K : Act → World → Prop} (h : o.wp P a w K (Qx Q)) : o.wpIn F n P a w K Q := by
  refine ⟨fun f _ => isW_fn hF f, ?_⟩
  rw [Oper.semAt_eq _ _ _ (nodef_of hd)]
  unfold Oper.wp at h
  generalize (execOp a.eval o).run P w = r at *
  cases r with
  | ok x w' =>
    cases x <;> simp only [Oper.upon] at h <;> simp only [Oper.uponIn]
    case value v => exact h
    case skip => exact h
    case defer d => exact h
    case enter f args =>
      exact ⟨isW_depth hF, calls_in hF (Calls.mono h fun e w'' he => by
        cases e with
        | returned v => exact he
        | panicked c => exact he.2
        | outgrown => exact absurd he not_letsOut_Qx)⟩
    case row row args => exact ⟨isW_depth hF, rows_in hF h⟩
  | halt x w' =>
    cases x <;> simp only [Oper.upon] at h <;> simp only [Oper.uponIn]
    case panic v => exact h.2
theorem list_in (hF : IsW F) : ∀ {l : List Oper} {a : Act} {w : World}, l.all nodefB = true → wpList P ops (Qx Q) l a w → wpListIn F n P ops Q l a w
  | [], _, _, _, h => h.2
  | o :: l, a, w, hd, h => by
    simp only [List.all_cons, Bool.and_eq_true] at hd
    simp only [wpList] at h
    simp only [wpListIn]
    split
    · rename_i hw
      rw [if_pos hw] at h
      rcases h with h | ⟨_, h⟩
      · exact Oper.wpIn_mono (fun a' w' h' => list_in hF hd.2 h') (oper_in hF hd.1 h)
      · exact absurd h not_letsOut_Qx
    · rename_i hw
      rw [if_neg hw] at h
      exact ⟨fun f _ => isW_fn hF f, list_in hF hd.2 h⟩
theorem any_in (hF : IsW F) (hd : ops.all nodefB = true) : ∀ (fuel : Nat) (listed : Array Bool) (a : Act) (w : World), wpAny P md ops (Qx Q) fuel listed a w → wpAnyIn F n P md ops Q fuel listed a w
  | 0, _, _, _, h => ⟨h.1, h.2.2⟩
  | fuel + 1, listed, a, w, h => by
    refine ⟨fun h0 => (h.1 h0).2, fun i hi => ?_⟩
    have h1 := h.2 i hi
    unfold wpOp at h1
    unfold wpOpIn
    cases ho : ops[i]? with
    | none => rw [ho] at h1; exact any_in hF hd fuel _ _ _ h1
    | some o =>
      rw [ho] at h1
      have hdo : nodefB o = true := by
        have := Array.all_eq_true.1 hd i (Array.getElem?_eq_some_iff.1 ho).1
        rwa [(Array.getElem?_eq_some_iff.1 ho).2] at this
      simp only at h1 ⊢
      split
      · rename_i hw
        rw [if_pos hw] at h1
        rcases h1 with h1 | ⟨_, h1⟩
        · exact Oper.wpIn_mono (fun a' w' h' => any_in hF hd fuel _ a' w' h') (oper_in hF hdo h1)
        · exact absurd h1 not_letsOut_Qx
      · rename_i hw
        rw [if_neg hw] at h1
        exact ⟨fun f _ => isW_fn hF f, any_in hF hd fuel _ _ _ h1⟩

/-! ### control -/
theorem i_region (id : Nat) {l' : List Oper} (hF : IsW F) (hd : l'.all nodefB = true) (h : wpList P l'.toArray (Qx Q) l' a w) : (Code.region id l'.toArray false).wpIn F n P Q a w :=
  wpIn_region_lit (list_in hF hd h)
theorem i_nil (h : Q .normal a w) : wpList P ops (Qx Q) [] a w := ⟨by simp, h⟩
theorem i_any (id : Nat) {l' : List Oper} (hF : IsW F) (hd : l'.all nodefB = true) (hm : P.follows .mixedOrders = true) (h : wpAny P .any l'.toArray (Qx Q) l'.toArray.size (Array.replicate l'.toArray.size false) a (w.drewN 1)) : (Code.region id l'.toArray true).wpIn F n P Q a w :=
  wpIn_region_any hm (any_in hF (by rw [Array.all_toList.symm]; simpa using hd) _ _ _ _ h)
theorem i_region_drawC (C : World → Prop) (id : Nat) {l' : List Oper} (hF : IsW F) (hd : l'.all nodefB = true) (hm : P.follows .mixedOrders = true) (hB : Region.lexB .any l'.toArray = true) (hC : C (w.drewN 1))
    (h : wpQuiet P l'.toArray C (fun a' => ∀ w', C w' → Q .normal a' w') l' a) : (Code.region id l'.toArray true).wpIn F n P Q a w := by
  simp only [Region.lexB, Bool.and_eq_true] at hB
  refine i_any id hF hd hm (wpAny_of_quiet (Q := fun a' => ∀ w', C w' → Q .normal a' w') (fun _ w' hw' h => ⟨by simp, h w' hw'⟩) _ _ _ _ hC ?_)
  have := wpAnyQ_lex (C := C) (md := .any) hB.1 l'.toArray.toList 0 (Array.replicate l'.toArray.size false) a (by simp) (by simpa using hB.2) (by simpa using h)
  simpa using this
theorem i_region_draw (id : Nat) {l' : List Oper} (hF : IsW F) (hd : l'.all nodefB = true) (hm : P.follows .mixedOrders = true) (hB : Region.lexB .any l'.toArray = true)
    (h : wpQuiet P l'.toArray (fun w' => ∃ n, w' = w.drewN n) (fun a' => ∀ w', (∃ n, w' = w.drewN n) → Q .normal a' w') l' a) : (Code.region id l'.toArray true).wpIn F n P Q a w :=
  i_region_drawC _ id hF hd hm hB ⟨1, rfl⟩ h
theorem i_cond_t {N : Nat} {l : List (Nat × Value)} (h : Fr N l a) {c : Operand} {x y : Code} {t : Bool} (hc : Ev l c (.bool t)) (ht : t = true) (hx : x.wpIn F n P Q a w) : (Code.cond c x y).wpIn F n P Q a w :=
  wpIn_cond_true (by rw [h.eval _ _ hc, ht]) hx
theorem i_cond_f {N : Nat} {l : List (Nat × Value)} (h : Fr N l a) {c : Operand} {x y : Code} {t : Bool} (hc : Ev l c (.bool t)) (ht : t = false) (hy : y.wpIn F n P Q a w) : (Code.cond c x y).wpIn F n P Q a w :=
  wpIn_cond_false (by rw [h.eval _ _ hc, ht]) hy
/-- A loop: a relation that bears a number, which every round lowers. -/
theorem i_loop {c : Code} (I : Nat → Act → World → Prop) (n₀ : Nat) (h₀ : I n₀ a w)
    (round : ∀ m a w, I m a w → c.wpIn F n P (Exit.then (fun a' w' => ∃ m', m' < m ∧ I m' a' w') Q) a w) : (Code.loop c).wpIn F n P Q a w := by
  intro b k cs hro hb hr
  have key : ∀ j a w, I j a w → ∃ e a' w', Q e a' w' ∧ ArrivesIn (Machine.fenced P F) P (lone (b.atR a (.code c :: .inLoop c :: k)) cs w) b k cs e a' w' := by
    intro j
    induction j using Nat.strongRecOn with
    | _ j ih =>
      intro a w hI
      obtain ⟨e, a₁, w₁, hq, harr⟩ := round j a w hI b (.inLoop c :: k) cs hro hb hr
      cases e with
      | normal =>
        obtain ⟨m', hlt, hI₁⟩ := hq
        obtain ⟨e₂, a₂, w₂, hq₂, harr₂⟩ := ih m' hlt a₁ w₁ hI₁
        exact ⟨e₂, a₂, w₂, hq₂, .of_steps (StepsIn.trans harr (.one (fenced_calm hb hr rfl) stepR_inLoop)) harr₂⟩
      | exit id => exact ⟨_, a₁, w₁, hq, .pass (x := .inLoop c) rfl (fun _ _ => .inl (by simp)) harr⟩
      | goto l => exact ⟨_, a₁, w₁, hq, .pass (x := .inLoop c) rfl (fun _ _ => .inl (by simp)) harr⟩
      | ret => exact ⟨_, a₁, w₁, hq, .pass (x := .inLoop c) rfl (fun _ _ => .inl (by simp)) harr⟩
      | panic ch => exact ⟨_, a₁, w₁, hq, .pass (x := .inLoop c) rfl (fun _ _ => .inl (by simp)) harr⟩
      | outgrown => exact ⟨_, a₁, w₁, hq, .pass (x := .inLoop c) rfl (fun _ _ => .inl (by simp)) harr⟩
  obtain ⟨e, a', w', hq, harr⟩ := key n₀ a w h₀
  exact ⟨e, a', w', hq, .of_steps (.one (fenced_calm hb hr rfl) stepR_loop) harr⟩
end
end Go.Proofs.YtnohefaifbghiaaGreatDoor
