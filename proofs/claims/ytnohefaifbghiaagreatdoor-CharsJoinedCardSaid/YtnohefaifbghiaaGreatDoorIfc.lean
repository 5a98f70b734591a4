/- Interfaces, parts of slices and strings, tuples. Plain lemmas over any program. -/
import Derived.Test.YtnohefaifbghiaaGreatDoorMem
namespace Go.Proofs.YtnohefaifbghiaaGreatDoor
open Go.RowKit

section
variable {P : Program} {ops : Array Oper} {Q : Exit → Act → World → Prop} {a : Act} {w w' : World} {rest : List Oper} {N : Nat} {l : List (Nat × Value)}

/-- Is a value of an interface type nil? -/
def isI : Value → Option Bool
  | .nilIface => some true
  | .iface _ _ => some false
  | _ => none

theorem run_equalIn_nil (d : Nat) {t : TypeId} {v : Value} {b : Bool} (hU : ∃ ms, P.underlying t = some (.interface ms)) (hv : isI v = some b) : (Op.equalIn (d + 1) t v .nilIface).run P w = .ok b w := by
  obtain ⟨ms, hU⟩ := hU
  cases v <;> simp [isI] at hv <;> subst hv <;> simp [Op.equalIn, run_underlying hU]
theorem run_eql_nil {t : TypeId} {v : Value} {b : Bool} (hU : ∃ ms, P.underlying t = some (.interface ms)) (hv : isI v = some b) : (binOp .eql t v .nilIface).run P w = .ok (.bool b) w := by
  have h : (Op.equal t v .nilIface).run P w = .ok b w := run_equalIn_nil 9999 hU hv
  cases v <;> simp [isI] at hv
  all_goals
    show (do pure (Value.bool (← Op.equal t _ .nilIface)) : Sem Value).run P w = _
    rw [Sem.run_bind, h]; rfl
theorem run_neq_nil {t : TypeId} {v : Value} {b : Bool} (hU : ∃ ms, P.underlying t = some (.interface ms)) (hv : isI v = some b) : (binOp .neq t v .nilIface).run P w = .ok (.bool (!b)) w := by
  have h : (Op.equal t v .nilIface).run P w = .ok b w := run_equalIn_nil 9999 hU hv
  cases v <;> simp [isI] at hv
  all_goals
    show (do pure (Value.bool (!(← Op.equal t _ .nilIface))) : Sem Value).run P w = _
    rw [Sem.run_bind, h]; rfl
theorem run_eqGuard_nil {op : BinOp} {t : TypeId} {v : Value} {x : Operand} : (eqGuard op t x (.const .nilIface) v .nilIface).run P w = .ok () w := by
  unfold eqGuard
  cases op <;> cases v <;> first | rfl | simp
theorem d_eqN {x : Operand} {v : Value} {b : Bool} {t t' ty : TypeId} (hU : ∃ ms, P.underlying t = some (.interface ms)) (hx : Ev l x v := by exact rfl) (hv : isI v = some b := by exact rfl) : Does P l w (.binOp .eql t x (.const .nilIface) t') ty (.bool b) w := by
  intro ρ hρ d pos af g
  have e1 : ρ (.const .nilIface) = .nilIface := hρ _ _ rfl
  simp only [execOp, hρ _ _ hx, e1, Sem.run_bind, run_eqGuard_nil, Result.andThen_ok, run_eql_nil hU hv]
  rfl
theorem d_neN {x : Operand} {v : Value} {b c : Bool} {t t' ty : TypeId} (hU : ∃ ms, P.underlying t = some (.interface ms)) (hx : Ev l x v := by exact rfl) (hv : isI v = some b := by exact rfl) (hc : (!b) = c := by exact rfl) : Does P l w (.binOp .neq t x (.const .nilIface) t') ty (.bool c) w := by
  intro ρ hρ d pos af g
  subst hc
  have e1 : ρ (.const .nilIface) = .nilIface := hρ _ _ rfl
  simp only [execOp, hρ _ _ hx, e1, Sem.run_bind, run_eqGuard_nil, Result.andThen_ok, run_neq_nil hU hv]
  rfl

def concB (d : TypeDesc) : Bool := match d with | .interface _ => false | _ => true
theorem d_makeI {x : Operand} {v : Value} {t ty : TypeId} (hU : (P.underlying t).map concB = some true) (hx : Ev l x v := by exact rfl) : Does P l w (.makeInterface t x) ty (.iface t v) w := by
  intro ρ hρ d pos af g
  obtain ⟨dd, h1, h2⟩ := Option.map_eq_some_iff.1 hU
  cases dd <;> simp [concB] at h2 <;> simp [execOp, Instr.makeInterface, hρ _ _ hx, run_underlying h1]
theorem d_extract {x : Operand} {vs : Array Value} {v : Value} {k : Nat} {ty : TypeId} (hx : Ev l x (.tuple vs) := by exact rfl) (hv : vs[k]? = some v := by exact rfl) : Does P l w (.extract x k) ty v w := by
  intro ρ hρ d pos af g
  simp [execOp, Instr.extract, hρ _ _ hx, hv]

/-! ### parts of slices -/
theorem run_sliceBound {k : IntKind} {j y : Nat} {c : BoundsCode} (h : j ≤ y) : (Instr.sliceBound (.int k (j : Int)) y c).run P w = .ok j w := by
  have h3 : (0 : Int) ≤ (j : Int) ∧ (j : Int) ≤ (y : Int) := by omega
  simp [Instr.sliceBound, asIntOf, h3, h]
/-- 'x[:hi:max]'. -/
theorem d_slice3 {x hi mx : Operand} {ao : Option Addr} {n c j m : Nat} {k k' : IntKind} {q q' : Int} {t e ty : TypeId} {s : Nat} (hU : P.underlying t = some (.slice e)) (hs : (P.info? e).map (·.size) = some s)
    (hx : Ev l x (.slice ao n c) := by exact rfl) (hh : Ev l hi (.int k q) := by exact rfl) (hm : Ev l mx (.int k' q') := by exact rfl) (hq : q = (j : Int) := by exact rfl) (hq' : q' = (m : Int) := by exact rfl) (hj : j ≤ m := by omega) (hmc : m ≤ c := by omega) :
    Does P l w (.slice t x none (some hi) (some mx)) ty (.slice ao j m) w := by
  intro ρ hρ d pos af g
  subst hq; subst hq'
  obtain ⟨ti, h1, h2⟩ := Option.map_eq_some_iff.1 hs
  have e1 : (ao.map fun x => x.add 0) = ao := by cases ao <;> simp [Addr.add]
  simp [execOp, Instr.sliceAt, Instr.slice, Instr.sliceBounds, run_sliceBound hj, run_sliceBound hmc, hρ _ _ hx, hρ _ _ hh, hρ _ _ hm, run_underlying hU, sizeOf, typeInfo, h1, e1]
/-- 'x[lo:hi:max]'. -/
theorem d_slice3l {x lo hi mx : Operand} {ao : Option Addr} {n c i j m : Nat} {k k' k'' : IntKind} {q q' q'' : Int} {t e ty : TypeId} {s : Nat} (hU : P.underlying t = some (.slice e)) (hs : (P.info? e).map (·.size) = some s)
    (hx : Ev l x (.slice ao n c) := by exact rfl) (hl : Ev l lo (.int k'' q'') := by exact rfl) (hh : Ev l hi (.int k q) := by exact rfl) (hm : Ev l mx (.int k' q') := by exact rfl) (hq : q = (j : Int) := by exact rfl) (hq' : q' = (m : Int) := by exact rfl) (hq'' : q'' = (i : Int) := by exact rfl) (hi' : i ≤ j := by omega) (hj : j ≤ m := by omega) (hmc : m ≤ c := by omega) :
    Does P l w (.slice t x (some lo) (some hi) (some mx)) ty (.slice (if m = i then ao else ao.map (·.add (i * s))) (j - i) (m - i)) w := by
  intro ρ hρ d pos af g
  subst hq; subst hq'; subst hq''
  obtain ⟨ti, h1, h2⟩ := Option.map_eq_some_iff.1 hs
  simp [execOp, Instr.sliceAt, Instr.slice, Instr.sliceBounds, run_sliceBound hj, run_sliceBound hmc, run_sliceBound hi', hρ _ _ hx, hρ _ _ hl, hρ _ _ hh, hρ _ _ hm, run_underlying hU, sizeOf, typeInfo, h1, h2]
/-- 'x[lo:]'. -/
theorem d_sliceL {x lo : Operand} {ao : Option Addr} {n c i : Nat} {k'' : IntKind} {q'' : Int} {t e ty : TypeId} {s : Nat} (hU : P.underlying t = some (.slice e)) (hs : (P.info? e).map (·.size) = some s)
    (hx : Ev l x (.slice ao n c) := by exact rfl) (hl : Ev l lo (.int k'' q'') := by exact rfl) (hq'' : q'' = (i : Int) := by exact rfl) (hi' : i ≤ n := by omega) :
    Does P l w (.slice t x (some lo) none none) ty (.slice (if c = i then ao else ao.map (·.add (i * s))) (n - i) (c - i)) w := by
  intro ρ hρ d pos af g
  subst hq''
  obtain ⟨ti, h1, h2⟩ := Option.map_eq_some_iff.1 hs
  simp [execOp, Instr.sliceAt, Instr.slice, Instr.sliceBounds, run_sliceBound hi', hρ _ _ hx, hρ _ _ hl, run_underlying hU, sizeOf, typeInfo, h1, h2]
theorem Rd.drop {α : Type} {w : World} {ao : Option Addr} {enc : α → Value} {xs : List α} (h : Rd w ao enc xs) (i m : Nat) (hm : xs.length ≤ m) : Rd w (if m = i then ao else ao.map (·.add (i * 1))) enc (xs.drop i) := by
  intro j hj
  have hj' : i + j < xs.length := by simp at hj; omega
  obtain ⟨b, o, rfl, hc⟩ := h (i + j) hj'
  rw [if_neg (by omega)]
  refine ⟨b, o + i, by simp [addr_add], ?_⟩
  rw [List.getElem_drop, Nat.add_assoc]
  exact hc
/-- The text's part 's[lo:hi]'. -/
theorem d_sliceS {x lo hi : Operand} {s : ByteArray} {i j : Nat} {k k'' : IntKind} {q q'' : Int} {t ty : TypeId} (hU : P.underlying t = some .string)
    (hx : Ev l x (.string s) := by exact rfl) (hl : Ev l lo (.int k'' q'') := by exact rfl) (hh : Ev l hi (.int k q) := by exact rfl) (hq : q = (j : Int) := by exact rfl) (hq'' : q'' = (i : Int) := by exact rfl) (hi' : i ≤ j := by omega) (hj : j ≤ s.size := by omega) :
    Does P l w (.slice t x (some lo) (some hi) none) ty (.string (s.extract i j)) w := by
  intro ρ hρ d pos af g
  subst hq; subst hq''
  simp [execOp, Instr.sliceAt, Instr.slice, Instr.sliceBounds, run_sliceBound hj, run_sliceBound hi', hρ _ _ hx, hρ _ _ hl, hρ _ _ hh, run_underlying hU]
theorem d_sliceSL {x lo : Operand} {s : ByteArray} {i : Nat} {k'' : IntKind} {q'' : Int} {t ty : TypeId} (hU : P.underlying t = some .string)
    (hx : Ev l x (.string s) := by exact rfl) (hl : Ev l lo (.int k'' q'') := by exact rfl) (hq'' : q'' = (i : Int) := by exact rfl) (hi' : i ≤ s.size := by omega) :
    Does P l w (.slice t x (some lo) none none) ty (.string (s.extract i s.size)) w := by
  intro ρ hρ d pos af g
  subst hq''
  simp [execOp, Instr.sliceAt, Instr.slice, Instr.sliceBounds, run_sliceBound hi', hρ _ _ hx, hρ _ _ hl, run_underlying hU]
end
end Go.Proofs.YtnohefaifbghiaaGreatDoor
