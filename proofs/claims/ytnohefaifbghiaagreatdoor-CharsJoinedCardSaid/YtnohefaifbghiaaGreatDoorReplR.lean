/- (*strings.Replacer).Replace, over whatever contract the byteStringReplacer's has: walked. -/
import Derived.Test.YtnohefaifbghiaaGreatDoorBuild
namespace Go.Proofs.YtnohefaifbghiaaGreatDoor
section
open Go.RowKit
variable {P : Program} {ops : Array Oper} {Q : Exit → Act → World → Prop} {a : Act} {w : World} {rest : List Oper} {N : Nat} {l : List (Nat × Value)}
theorem d_makeFunc1 {f : Fn} {xs : List Operand} {vs : List Value} {ty : TypeId} (hx : Evs l xs vs) : Does P l w (.makeFunc f xs.toArray #[]) ty (.func f vs.toArray #[]) w := by
  intro ρ hρ d pos af g
  have := Evs.map hρ hx
  simp [execOp, Instr.makeFunc, this]
/-- A call of a method of an interface. -/
theorem sti (h : Fr N l a) {d : Nat} {y : Operand} {name : String} {t : TypeId} {rv : Value} {f : FuncId} {recv : Value} {xs : List Operand} {vs : List Value} {ats : Array TypeId} {ty : TypeId} {pos : String} {af : Array Edge} {R : Value → World → Prop}
    (hm : (invoke (.fn (.method name) #[]) ([Value.iface t rv] ++ vs).toArray).run P w = .ok (.enter f ([recv] ++ vs).toArray) w) (hc : Ret P f ([recv] ++ vs).toArray w R) (hx : Evs l xs vs) (hy : Ev l y (.iface t rv) := by exact rfl) (hd : Nat.blt d N = true := by exact rfl)
    (k : ∀ a' v w', R v w' → Fr N ((d, v) :: l) a' → wpList P ops Q rest a' w') :
    wpList P ops Q (⟨some d, .call { callee := .invoke y name, args := xs.toArray, argTypes := ats }, ty, pos, af, none⟩ :: rest) a w :=
  wpList_plain rfl fun K hK => by
    unfold Oper.wp
    have e1 : a.eval y = .iface t rv := h.eval _ _ hy
    have e2 := Evs.map h.eval hx
    have hr : (execOp a.eval ⟨some d, .call { callee := .invoke y name, args := xs.toArray, argTypes := ats }, ty, pos, af, none⟩).run P w = .ok (.enter f ([recv] ++ vs).toArray) w := by
      have e3 : #[a.eval y] ++ (xs.toArray.map a.eval) = ([Value.iface t rv] ++ vs).toArray := by simp [e1, e2]
      simp only [execOp, resolve, Sem.run_bind, Sem.run_pure, Result.andThen_ok, e3, hm]
    rw [hr]
    refine Calls.mono hc ?_
    rintro e w' ⟨v, rfl, hR⟩
    exact hK _ _ (k _ _ _ hR (h.put hd v))
end
open Go.RowKit
set_option linter.unusedSimpArgs false
set_option linter.unusedVariables false
attribute [local irreducible] wpList wpQuiet wpStill Code.wp Exit.then Exit.inBlock bodyPost Calls Does Does0
theorem inv_ok (p : Nat) (s : ByteArray) (w : World) : (invoke (.fn (.method "Replace") #[]) ([Value.iface 134 (.pointer (some ⟨p, 0, none⟩))] ++ [Value.string s]).toArray).run Tryz.prog w = .ok (.enter 128 ([Value.pointer (some ⟨p, 0, none⟩)] ++ [Value.string s]).toArray) w := by
  have hm : (Go.method (Tryz.prog.types.size + Made.depth) 134 (.pointer (some ⟨p, 0, none⟩)) "Replace").run Tryz.prog w = .ok (128, .pointer (some ⟨p, 0, none⟩)) w := by kernel_rfl
  obtain ⟨fn, h1, h2, h3⟩ := (cal128).out
  show (callMethod (.iface 134 (.pointer (some ⟨p, 0, none⟩))) "Replace" #[.string s]).run Tryz.prog w = _
  simp only [callMethod, Sem.run_bind, run_program, Result.andThen_ok, hm, callFunc, h1, h2, h3]
  simp
end Go.Proofs.YtnohefaifbghiaaGreatDoor
