/- Structs of two numbers held against each other. -/
import Derived.Test.YtnohefaifbghiaaReg
import Derived.Laws.StructEq
namespace Go.Proofs.Ytnohefaifbghiaa
open Go.RowKit

section
variable {P : Program} {w : World} {l : List (Nat × Value)}
/-- A struct of two numbers of one kind. -/
structure PairT (P : Program) (t : TypeId) (k : IntKind) : Prop where
  it : ∃ f0 f1 : Field, P.underlying t = some (.struct (P.fieldsOf t)) ∧ P.fieldsOf t = #[f0, f1] ∧ f0.offset = 0 ∧ f1.offset = 1 ∧ ¬ f0.name = "_" ∧ ¬ f1.name = "_" ∧ P.underlying f0.type = some (.int k) ∧ P.underlying f1.type = some (.int k)
  held : P.stoodInHeld t = false
  guard : P.eqGuardType P.depth t = false
def isIntK (d : Option TypeDesc) (k : IntKind) : Bool := match d with | some (.int k') => k' == k | _ => false
theorem isIntK_eq {d : Option TypeDesc} {k : IntKind} (h : isIntK d k = true) : d = some (.int k) := by
  unfold isIntK at h
  split at h
  · rw [eq_of_beq h]
  · cases h
def pairB (P : Program) (t : TypeId) (k : IntKind) : Bool :=
  (match P.underlying t with
  | some (.struct fs) => (match fs.toList with
    | [f0, f1] => decide (f0.offset = 0) && decide (f1.offset = 1) && decide (¬ f0.name = "_") && decide (¬ f1.name = "_") && isIntK (P.underlying f0.type) k && isIntK (P.underlying f1.type) k
    | _ => false)
  | _ => false) && !P.stoodInHeld t && !P.eqGuardType P.depth t
theorem pairT_of {t : TypeId} {k : IntKind} (h : pairB P t k = true) : PairT P t k := by
  unfold pairB at h
  simp only [Bool.and_eq_true, Bool.not_eq_true'] at h
  obtain ⟨⟨h2, h3⟩, h4⟩ := h
  refine ⟨?_, h3, h4⟩
  split at h2
  · rename_i fs hu
    split at h2
    · rename_i f0 f1 he
      simp only [Bool.and_eq_true, decide_eq_true_eq] at h2
      obtain ⟨⟨⟨⟨⟨a, b⟩, c⟩, d⟩, e⟩, f⟩ := h2
      have hfs : P.fieldsOf t = fs := by simp [Program.fieldsOf, hu]
      exact ⟨f0, f1, by rw [hfs]; exact hu, by rw [hfs, ← Array.toList_inj, he], a, b, c, d, isIntK_eq e, isIntK_eq f⟩
    · cases h2
  · cases h2
theorem run_pair {t : TypeId} {k : IntKind} (h : PairT P t k) (a b c d : Int) : (Op.equalIn 10000 t (.agg #[.int k a, .int k b]) (.agg #[.int k c, .int k d])).run P w = .ok (decide (a = c ∧ b = d)) w := by
  obtain ⟨f0, f1, hU, hF, o0, o1, n0, n1, u0, u1⟩ := h.it
  rw [run_equalIn_agg w 9999 t _ _ hU h.held, hF]
  have p0 : ∀ x y : Int, (part f0.type #[.int k x, .int k y] 0).run P w = .ok (.int k x) w := fun x y => by simp [part, isAgg, run_underlying u0]
  have p1 : ∀ x y : Int, (part f1.type #[.int k x, .int k y] 1).run P w = .ok (.int k y) w := fun x y => by simp [part, isAgg, run_underlying u1]
  have e0 : (Op.equalIn 9999 f0.type (.int k a) (.int k c)).run P w = .ok (a == c) w := run_equalIn_int w 9998 _ k k a c u0
  have e1 : (Op.equalIn 9999 f1.type (.int k b) (.int k d)).run P w = .ok (b == d) w := run_equalIn_int w 9998 _ k k b d u1
  simp only [Op.eqFields, Sem.run_bind, o0, o1, p0, p1, e0, e1, Result.andThen_ok, ne_eq, n0, n1, not_false_eq_true, if_true]
  by_cases h0 : a = c
  · subst h0
    by_cases h1 : b = d
    · subst h1
      simp [p1, e1]
    · have h2 : (b == d) = false := by simpa using h1
      simp [p1, e1, h1, h2]
  · simp [h0]
theorem d_eqP {op : BinOp} {x y : Operand} {k : IntKind} {a b c d : Int} {r : Bool} {t t' ty : TypeId} (h : PairT P t k)
    (hx : Ev l x (.agg #[.int k a, .int k b]) := by exact rfl) (hy : Ev l y (.agg #[.int k c, .int k d]) := by exact rfl) (hr : (match op with | .eql => some (decide (a = c ∧ b = d)) | .neq => some (!decide (a = c ∧ b = d)) | _ => none) = some r := by exact rfl) : Does P l w (.binOp op t x y t') ty (.bool r) w := by
  intro ρ hρ d0 pos af g
  have key := run_pair (w := w) h a b c d
  cases op <;> simp only [Option.some.injEq, reduceCtorEq] at hr <;> subst hr
  · simp only [execOp, hρ _ _ hx, hρ _ _ hy, Sem.run_bind, run_eqGuard_agg w _ t x y _ _ h.guard, Result.andThen_ok, run_eql_struct, key]
    rfl
  · simp only [execOp, hρ _ _ hx, hρ _ _ hy, Sem.run_bind, run_eqGuard_agg w _ t x y _ _ h.guard, Result.andThen_ok, run_neq_struct, key]
    rfl
/-- .. the same pair. -/
theorem d_eqPs {x y : Operand} {k : IntKind} {a b : Int} {t t' ty : TypeId} (h : PairT P t k)
    (hx : Ev l x (.agg #[.int k a, .int k b]) := by exact rfl) (hy : Ev l y (.agg #[.int k a, .int k b]) := by exact rfl) : Does P l w (.binOp .eql t x y t') ty (.bool true) w :=
  d_to (d_eqP h hx hy rfl) (by simp)
end
end Go.Proofs.Ytnohefaifbghiaa
