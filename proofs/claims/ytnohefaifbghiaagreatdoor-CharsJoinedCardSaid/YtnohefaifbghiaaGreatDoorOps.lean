/- The operations, one lemma each: what an operation yields at what its operands hold. Plain lemmas over any program. -/
import Derived.Test.YtnohefaifbghiaaGreatDoorFr
namespace Go.Proofs.YtnohefaifbghiaaGreatDoor
open Go.RowKit

section
variable {P : Program} {w : World} {l : List (Nat × Value)}

theorem d_move {x : Operand} {v : Value} {ty : TypeId} (hx : Ev l x v := by exact rfl) : Does P l w (.move x) ty v w := by
  intro ρ hρ d pos af g; simp [execOp, hρ _ _ hx]
theorem d_assign {x : Operand} {v : Value} {ty : TypeId} (hx : Ev l x v := by exact rfl) : Does P l w (.assign x) ty v w := by
  intro ρ hρ d pos af g; simp [execOp, hρ _ _ hx]
theorem d_pickT {c x y : Operand} {u : Value} {ty : TypeId} (hc : Ev l c (.bool true) := by exact rfl) (hx : Ev l x u := by exact rfl) : Does P l w (.pick c x y) ty u w := by
  intro ρ hρ d pos af g; simp [execOp, hρ _ _ hx, hρ _ _ hc, asBool]
theorem d_pickF {c x y : Operand} {u : Value} {ty : TypeId} (hc : Ev l c (.bool false) := by exact rfl) (hy : Ev l y u := by exact rfl) : Does P l w (.pick c x y) ty u w := by
  intro ρ hρ d pos af g; simp [execOp, hρ _ _ hy, hρ _ _ hc, asBool]
theorem d_to {op : Op} {ty : TypeId} {b c : Bool} {w' : World} (h : Does P l w op ty (.bool c) w') (hc : c = b) : Does P l w op ty (.bool b) w' := by rw [← hc]; exact h
theorem d_not {x : Operand} {b : Bool} {t ty : TypeId} (hx : Ev l x (.bool b) := by exact rfl) : Does P l w (.unOp .not t x) ty (.bool (!b)) w := by
  intro ρ hρ d pos af g; simp [execOp, hρ _ _ hx, Op.unary]

/-! ### integers of 64 bits -/
theorem d_add {x y : Operand} {m n : Int} {t t' ty : TypeId} (hx : Ev l x (.int .i64 m) := by exact rfl) (hy : Ev l y (.int .i64 n) := by exact rfl) (h : -9223372036854775808 ≤ m + n ∧ m + n ≤ 9223372036854775807 := by omega) :
    Does P l w (.binOp .add t x y t') ty (.int .i64 (m + n)) w := by
  intro ρ hρ d pos af g; simp [execOp, eqGuard, binOp, Op.intArith, hρ _ _ hx, hρ _ _ hy, IntWalk.i64_in _ h]
theorem d_sub {x y : Operand} {m n : Int} {t t' ty : TypeId} (hx : Ev l x (.int .i64 m) := by exact rfl) (hy : Ev l y (.int .i64 n) := by exact rfl) (h : -9223372036854775808 ≤ m - n ∧ m - n ≤ 9223372036854775807 := by omega) :
    Does P l w (.binOp .sub t x y t') ty (.int .i64 (m - n)) w := by
  intro ρ hρ d pos af g; simp [execOp, eqGuard, binOp, Op.intArith, hρ _ _ hx, hρ _ _ hy, IntWalk.i64_in _ h]
theorem d_mul {x y : Operand} {m n : Int} {t t' ty : TypeId} (hx : Ev l x (.int .i64 m) := by exact rfl) (hy : Ev l y (.int .i64 n) := by exact rfl) (h : -9223372036854775808 ≤ m * n ∧ m * n ≤ 9223372036854775807) :
    Does P l w (.binOp .mul t x y t') ty (.int .i64 (m * n)) w := by
  intro ρ hρ d pos af g; simp [execOp, eqGuard, binOp, Op.intArith, hρ _ _ hx, hρ _ _ hy, IntWalk.i64_in _ h]
/-- Whatever the kind, wrapped. -/
theorem d_addw {k : IntKind} {x y : Operand} {m n : Int} {t t' ty : TypeId} (hx : Ev l x (.int k m) := by exact rfl) (hy : Ev l y (.int k n) := by exact rfl) : Does P l w (.binOp .add t x y t') ty (.int k (k.wrap (m + n))) w := by
  intro ρ hρ d pos af g; simp [execOp, eqGuard, binOp, Op.intArith, hρ _ _ hx, hρ _ _ hy]
theorem d_subw {k : IntKind} {x y : Operand} {m n : Int} {t t' ty : TypeId} (hx : Ev l x (.int k m) := by exact rfl) (hy : Ev l y (.int k n) := by exact rfl) : Does P l w (.binOp .sub t x y t') ty (.int k (k.wrap (m - n))) w := by
  intro ρ hρ d pos af g; simp [execOp, eqGuard, binOp, Op.intArith, hρ _ _ hx, hρ _ _ hy]
theorem d_mulw {k : IntKind} {x y : Operand} {m n : Int} {t t' ty : TypeId} (hx : Ev l x (.int k m) := by exact rfl) (hy : Ev l y (.int k n) := by exact rfl) : Does P l w (.binOp .mul t x y t') ty (.int k (k.wrap (m * n))) w := by
  intro ρ hρ d pos af g; simp [execOp, eqGuard, binOp, Op.intArith, hρ _ _ hx, hρ _ _ hy]
/-- Division of what is not below 0, by what is above. -/
theorem d_quo {x y : Operand} {m n : Int} {t t' ty : TypeId} (hx : Ev l x (.int .i64 m) := by exact rfl) (hy : Ev l y (.int .i64 n) := by exact rfl) (h : 0 ≤ m ∧ m ≤ 9223372036854775807 ∧ 1 ≤ n := by omega) :
    Does P l w (.binOp .quo t x y t') ty (.int .i64 (m / n)) w := by
  intro ρ hρ d pos af g
  have hn : ¬ n = 0 := by omega
  simp [execOp, eqGuard, binOp, Op.intDiv, hρ _ _ hx, hρ _ _ hy, hn, IntWalk.i64_quo _ _ h]
theorem d_rem {x y : Operand} {m n : Int} {t t' ty : TypeId} (hx : Ev l x (.int .i64 m) := by exact rfl) (hy : Ev l y (.int .i64 n) := by exact rfl) (h : 0 ≤ m ∧ 1 ≤ n := by omega) :
    Does P l w (.binOp .rem t x y t') ty (.int .i64 (m % n)) w := by
  intro ρ hρ d pos af g
  have hn : ¬ n = 0 := by omega
  simp [execOp, eqGuard, binOp, Op.intDiv, hρ _ _ hx, hρ _ _ hy, hn, IntWalk.rem_in _ _ h.1]
theorem d_remt {x y : Operand} {m n : Int} {t t' ty : TypeId} (hx : Ev l x (.int .i64 m) := by exact rfl) (hy : Ev l y (.int .i64 n) := by exact rfl) (h : n ≠ 0) :
    Does P l w (.binOp .rem t x y t') ty (.int .i64 (m.tmod n)) w := by
  intro ρ hρ d pos af g
  simp [execOp, eqGuard, binOp, Op.intDiv, hρ _ _ hx, hρ _ _ hy, h]
theorem d_neg {x : Operand} {m : Int} {t ty : TypeId} (hx : Ev l x (.int .i64 m) := by exact rfl) (h : -9223372036854775808 ≤ 0 - m ∧ 0 - m ≤ 9223372036854775807) : Does P l w (.unOp .neg t x) ty (.int .i64 (0 - m)) w := by
  intro ρ hρ d pos af g
  have := IntWalk.i64_in _ h
  simp only [execOp, hρ _ _ hx, Op.unary, Op.intArith, this]
  simp

theorem d_eql {k : IntKind} {x y : Operand} {m n : Int} {t t' ty : TypeId} (hx : Ev l x (.int k m) := by exact rfl) (hy : Ev l y (.int k n) := by exact rfl) : Does P l w (.binOp .eql t x y t') ty (.bool (m == n)) w := by
  intro ρ hρ d pos af g; simp [execOp, eqGuard, binOp, Op.intCmp, hρ _ _ hx, hρ _ _ hy]
theorem d_neq {k : IntKind} {x y : Operand} {m n : Int} {t t' ty : TypeId} (hx : Ev l x (.int k m) := by exact rfl) (hy : Ev l y (.int k n) := by exact rfl) : Does P l w (.binOp .neq t x y t') ty (.bool (m != n)) w := by
  intro ρ hρ d pos af g; simp [execOp, eqGuard, binOp, Op.intCmp, hρ _ _ hx, hρ _ _ hy]
theorem d_lss {k : IntKind} {x y : Operand} {m n : Int} {t t' ty : TypeId} (hx : Ev l x (.int k m) := by exact rfl) (hy : Ev l y (.int k n) := by exact rfl) : Does P l w (.binOp .lss t x y t') ty (.bool (decide (m < n))) w := by
  intro ρ hρ d pos af g; simp [execOp, eqGuard, binOp, Op.intCmp, hρ _ _ hx, hρ _ _ hy]
theorem d_leq {k : IntKind} {x y : Operand} {m n : Int} {t t' ty : TypeId} (hx : Ev l x (.int k m) := by exact rfl) (hy : Ev l y (.int k n) := by exact rfl) : Does P l w (.binOp .leq t x y t') ty (.bool (decide (m ≤ n))) w := by
  intro ρ hρ d pos af g; simp [execOp, eqGuard, binOp, Op.intCmp, hρ _ _ hx, hρ _ _ hy]
theorem d_gtr {k : IntKind} {x y : Operand} {m n : Int} {t t' ty : TypeId} (hx : Ev l x (.int k m) := by exact rfl) (hy : Ev l y (.int k n) := by exact rfl) : Does P l w (.binOp .gtr t x y t') ty (.bool (decide (n < m))) w := by
  intro ρ hρ d pos af g; simp [execOp, eqGuard, binOp, Op.intCmp, hρ _ _ hx, hρ _ _ hy]
theorem d_geq {k : IntKind} {x y : Operand} {m n : Int} {t t' ty : TypeId} (hx : Ev l x (.int k m) := by exact rfl) (hy : Ev l y (.int k n) := by exact rfl) : Does P l w (.binOp .geq t x y t') ty (.bool (decide (n ≤ m))) w := by
  intro ρ hρ d pos af g; simp [execOp, eqGuard, binOp, Op.intCmp, hρ _ _ hx, hρ _ _ hy]

def cmpOf (op : BinOp) (m n : Int) : Option Bool :=
  match op with
  | .eql => some (m == n) | .neq => some (m != n) | .lss => some (decide (m < n)) | .leq => some (decide (m ≤ n)) | .gtr => some (decide (n < m)) | .geq => some (decide (n ≤ m)) | _ => none
theorem d_cmp {op : BinOp} {k : IntKind} {x y : Operand} {m n : Int} {c : Bool} {t t' ty : TypeId} (hx : Ev l x (.int k m) := by exact rfl) (hy : Ev l y (.int k n) := by exact rfl) (hc : cmpOf op m n = some c := by exact rfl) : Does P l w (.binOp op t x y t') ty (.bool c) w := by
  cases op <;> simp only [cmpOf, Option.some.injEq, reduceCtorEq] at hc <;> subst hc
  · exact d_eql hx hy
  · exact d_neq hx hy
  · exact d_lss hx hy
  · exact d_leq hx hy
  · exact d_gtr hx hy
  · exact d_geq hx hy
theorem d_cmpT {op : BinOp} {k : IntKind} {x y : Operand} {m n : Int} {c : Bool} {t t' ty : TypeId} (hx : Ev l x (.int k m) := by exact rfl) (hy : Ev l y (.int k n) := by exact rfl) (hc : cmpOf op m n = some c := by exact rfl)
    (h : c = true := by first | exact rfl | exact decide_eq_true (by omega) | exact beq_iff_eq.2 (by omega) | exact bne_iff_ne.2 (by omega) | assumption) : Does P l w (.binOp op t x y t') ty (.bool true) w := d_to (d_cmp hx hy hc) h
theorem d_cmpF {op : BinOp} {k : IntKind} {x y : Operand} {m n : Int} {c : Bool} {t t' ty : TypeId} (hx : Ev l x (.int k m) := by exact rfl) (hy : Ev l y (.int k n) := by exact rfl) (hc : cmpOf op m n = some c := by exact rfl)
    (h : c = false := by first | exact rfl | exact decide_eq_false (by omega) | exact beq_eq_false_iff_ne.2 (by omega) | exact bne_eq_false_iff_eq.2 (by omega) | assumption) : Does P l w (.binOp op t x y t') ty (.bool false) w := d_to (d_cmp hx hy hc) h

/-- Bools held against each other. -/
theorem run_equalIn_bool (d : Nat) {t : TypeId} (hU : P.underlying t = some .bool) (b c : Bool) : (Op.equalIn (d + 1) t (.bool b) (.bool c)).run P w = .ok (b == c) w := by
  simp [Op.equalIn, run_underlying hU]
theorem run_eql_bool {t : TypeId} (hU : P.underlying t = some .bool) (b c : Bool) : (binOp .eql t (.bool b) (.bool c)).run P w = .ok (.bool (b == c)) w := by
  have h : (Op.equal t (.bool b) (.bool c)).run P w = .ok (b == c) w := run_equalIn_bool 9999 hU b c
  show (do pure (Value.bool (← Op.equal t (.bool b) (.bool c))) : Sem Value).run P w = _
  rw [Sem.run_bind, h]; rfl
theorem run_neq_bool {t : TypeId} (hU : P.underlying t = some .bool) (b c : Bool) : (binOp .neq t (.bool b) (.bool c)).run P w = .ok (.bool (b != c)) w := by
  have h : (Op.equal t (.bool b) (.bool c)).run P w = .ok (b == c) w := run_equalIn_bool 9999 hU b c
  show (do pure (Value.bool (!(← Op.equal t (.bool b) (.bool c)))) : Sem Value).run P w = _
  rw [Sem.run_bind, h]; rfl
theorem d_eqlb {x y : Operand} {b c : Bool} {t t' ty : TypeId} (hU : P.underlying t = some .bool) (hx : Ev l x (.bool b) := by exact rfl) (hy : Ev l y (.bool c) := by exact rfl) : Does P l w (.binOp .eql t x y t') ty (.bool (b == c)) w := by
  intro ρ hρ d pos af g
  simp only [execOp, hρ _ _ hx, hρ _ _ hy, Sem.run_bind]
  have e : (eqGuard .eql t x y (.bool b) (.bool c)).run P w = .ok () w := rfl
  rw [e, Result.andThen_ok, run_eql_bool hU]; rfl
theorem d_neqb {x y : Operand} {b c : Bool} {t t' ty : TypeId} (hU : P.underlying t = some .bool) (hx : Ev l x (.bool b) := by exact rfl) (hy : Ev l y (.bool c) := by exact rfl) : Does P l w (.binOp .neq t x y t') ty (.bool (b != c)) w := by
  intro ρ hρ d pos af g
  simp only [execOp, hρ _ _ hx, hρ _ _ hy, Sem.run_bind]
  have e : (eqGuard .neq t x y (.bool b) (.bool c)).run P w = .ok () w := rfl
  rw [e, Result.andThen_ok, run_neq_bool hU]; rfl

theorem d_eqb {op : BinOp} {x y : Operand} {b c r : Bool} {t t' ty : TypeId} (hU : P.underlying t = some .bool) (hx : Ev l x (.bool b) := by exact rfl) (hy : Ev l y (.bool c) := by exact rfl)
    (hr : (match op with | .eql => some (b == c) | .neq => some (b != c) | _ => none) = some r := by exact rfl) : Does P l w (.binOp op t x y t') ty (.bool r) w := by
  cases op <;> simp only [Option.some.injEq, reduceCtorEq] at hr <;> subst hr
  · exact d_eqlb hU hx hy
  · exact d_neqb hU hx hy
theorem d_eqbT {op : BinOp} {x y : Operand} {b c r : Bool} {t t' ty : TypeId} (hU : P.underlying t = some .bool) (hx : Ev l x (.bool b) := by exact rfl) (hy : Ev l y (.bool c) := by exact rfl)
    (hr : (match op with | .eql => some (b == c) | .neq => some (b != c) | _ => none) = some r := by exact rfl) (h : r = true := by first | exact rfl | exact beq_self_eq_true _ | assumption) : Does P l w (.binOp op t x y t') ty (.bool true) w := d_to (d_eqb hU hx hy hr) h
theorem d_eqbF {op : BinOp} {x y : Operand} {b c r : Bool} {t t' ty : TypeId} (hU : P.underlying t = some .bool) (hx : Ev l x (.bool b) := by exact rfl) (hy : Ev l y (.bool c) := by exact rfl)
    (hr : (match op with | .eql => some (b == c) | .neq => some (b != c) | _ => none) = some r := by exact rfl) (h : r = false := by first | exact rfl | exact bne_self_eq_false _ | assumption) : Does P l w (.binOp op t x y t') ty (.bool false) w := d_to (d_eqb hU hx hy hr) h

/-! ### slices -/
theorem d_len {x : Operand} {a : Option Addr} {n c : Nat} {t e ty : TypeId} (hU : P.underlying t = some (.slice e)) (hx : Ev l x (.slice a n c) := by exact rfl) :
    Does P l w (.call { callee := .builtin .len, args := [x].toArray, argTypes := [t].toArray }) ty (.int .i64 n) w := by
  intro ρ hρ d pos af g; simp [execOp, resolve, invoke, builtin, Builtin.len_, hρ _ _ hx, run_underlying hU, goInt]
theorem d_lens {x : Operand} {s : ByteArray} {t ty : TypeId} (hU : P.underlying t = some .string) (hx : Ev l x (.string s) := by exact rfl) :
    Does P l w (.call { callee := .builtin .len, args := [x].toArray, argTypes := [t].toArray }) ty (.int .i64 s.size) w := by
  intro ρ hρ d pos af g; simp [execOp, resolve, invoke, builtin, Builtin.len_, hρ _ _ hx, run_underlying hU, goInt]

theorem addr_add (b o n : Nat) : (⟨b, o, none⟩ : Addr).add n = ⟨b, o + n, none⟩ := by
  unfold Addr.add; split <;> simp_all

/-- The address of an element. -/
theorem d_indexAddr {x i : Operand} {b o n c : Nat} {k : IntKind} {j : Nat} {q : Int} {t e ty : TypeId} {s : Nat} (hU : P.underlying t = some (.slice e)) (hs : (P.info? e).map (·.size) = some s)
    (hx : Ev l x (.slice (some ⟨b, o, none⟩) n c) := by exact rfl) (hi : Ev l i (.int k q) := by exact rfl) (hq : q = (j : Int) := by exact rfl) (hj : j < n := by omega) :
    Does P l w (.indexAddr t x i) ty (.pointer (some ⟨b, o + j * s, none⟩)) w := by
  intro ρ hρ d pos af g
  subst hq
  obtain ⟨ti, h1, h2⟩ := Option.map_eq_some_iff.1 hs
  have h3 : (0 : Int) ≤ (j : Int) ∧ (j : Int) < (n : Int) := by omega
  simp [execOp, Instr.indexAt, asIntOf, hρ _ _ hx, hρ _ _ hi, run_underlying hU, sizeOf, typeInfo, h1, h2, h3, hj, addr_add]

theorem d_indexAddr1 {x i : Operand} {b o n c : Nat} {k : IntKind} {j : Nat} {q : Int} {t e ty : TypeId} (hU : P.underlying t = some (.slice e)) (hs : (P.info? e).map (·.size) = some 1)
    (hx : Ev l x (.slice (some ⟨b, o, none⟩) n c) := by exact rfl) (hi : Ev l i (.int k q) := by exact rfl) (hq : q = (j : Int) := by exact rfl) (hj : j < n := by omega) :
    Does P l w (.indexAddr t x i) ty (.pointer (some ⟨b, o + j, none⟩)) w := by
  have := d_indexAddr (w := w) (ty := ty) hU hs hx hi hq hj
  rwa [Nat.mul_one] at this
/-- What a cell holds. -/
def oneCellType (d : TypeDesc) : Bool := match d with | .struct _ | .array _ _ => false | _ => true
theorem d_load {x : Operand} {ad : Addr} {v : Value} {t ty : TypeId} {dd : TypeDesc} (hU : P.underlying t = some dd) (hc : w.cell? ad = some v) (h1 : oneCellType dd = true := by exact rfl) (hx : Ev l x (.pointer (some ad)) := by exact rfl) :
    Does P l w (.load t x) ty v w := by
  intro ρ hρ d pos af g
  cases dd <;> simp [oneCellType] at h1 <;> simp [execOp, Instr.loadAt, Instr.sureAddr, loadVar, isAgg, hρ _ _ hx, run_underlying hU, hc]

theorem d_nilCheck {x : Operand} {ad : Addr} {ty : TypeId} (hx : Ev l x (.pointer (some ad)) := by exact rfl) : Does P l w (.nilCheck x) ty (.pointer (some ad)) w := by
  intro ρ hρ d pos af g; simp [execOp, hρ _ _ hx]

theorem d_store {x y : Operand} {ad : Addr} {u v : Value} {t ty : TypeId} (hs : (P.info? t).map (·.size) = some 1) (hv : v.oneCell' = true) (hx : Ev l x (.pointer (some ad)) := by exact rfl) (hy : Ev l y v := by exact rfl) (hc : w.cell? ad = some u) (hf : w.frozen? ad = false) :
    Does0 P l w (.store t x y) ty (w.setCell ad v) := by
  intro ρ hρ d pos af g
  obtain ⟨ti, h1, h2⟩ := Option.map_eq_some_iff.1 hs
  have hcs : v.cells = #[v] := by cases v <;> simp [Value.oneCell'] at hv <;> rfl
  have e0 : ad.add 0 = ad := by simp [Addr.add]
  simp [execOp, Instr.storeAt, Instr.sureAddr, storeVar, hρ _ _ hx, hρ _ _ hy, sizeOf, typeInfo, h1, h2, hcs, storeCells, e0, run_store _ _ _ _ _ hv, hc, hf]

/-- A slice of one new element. -/
theorem d_box {x : Operand} {v : Value} {e ty : TypeId} (hx : Ev l x v := by exact rfl) : Does P l w (.box e x) ty (.pointer (some ⟨w.heap.size, 0, none⟩)) (w.alloc (.cells v.cells e)) := by
  intro ρ hρ d pos af g
  simp [execOp, Instr.box, newVar, newRow, hρ _ _ hx]

theorem d_slice {x hi : Operand} {ao : Option Addr} {n c j : Nat} {k : IntKind} {q : Int} {t e ty : TypeId} {s : Nat} (hU : P.underlying t = some (.slice e)) (hs : (P.info? e).map (·.size) = some s)
    (hx : Ev l x (.slice ao n c) := by exact rfl) (hh : Ev l hi (.int k q) := by exact rfl) (hq : q = (j : Int) := by exact rfl) (hj : j ≤ c := by omega) :
    Does P l w (.slice t x none (some hi) none) ty (.slice ao j c) w := by
  intro ρ hρ d pos af g
  subst hq
  obtain ⟨ti, h1, h2⟩ := Option.map_eq_some_iff.1 hs
  have h3 : (0 : Int) ≤ (j : Int) ∧ (j : Int) ≤ (c : Int) := by omega
  have e1 : (ao.map fun x => x.add 0) = ao := by cases ao <;> simp [Addr.add]
  simp [execOp, Instr.sliceAt, Instr.slice, Instr.sliceBounds, Instr.sliceBound, asIntOf, hρ _ _ hx, hρ _ _ hh, run_underlying hU, sizeOf, typeInfo, h1, h3, hj, e1]
/-- 's[i]' of a string. -/
theorem d_indexS {x i : Operand} {s : ByteArray} {k : IntKind} {j : Nat} {q : Int} {t ty : TypeId} {b : UInt8} (hU : P.underlying t = some .string) (hb : s[j]? = some b)
    (hx : Ev l x (.string s) := by exact rfl) (hi : Ev l i (.int k q) := by exact rfl) (hq : q = (j : Int) := by exact rfl) :
    Does P l w (.index t x i) ty (.int .u8 b.toNat) w := by
  intro ρ hρ d pos af g
  subst hq
  simp [execOp, Instr.index, asIntOf, hρ _ _ hx, hρ _ _ hi, run_underlying hU, hb]
/-- .. in every world of a drawn region that only reads. -/
theorem q_load {w' : World} {x : Operand} {ad : Addr} {v : Value} {t ty : TypeId} {dd : TypeDesc} (hU : P.underlying t = some dd) (hw : ∃ n, w' = w.drewN n) (hc : w.cell? ad = some v) (h1 : oneCellType dd = true := by exact rfl) (hx : Ev l x (.pointer (some ad)) := by exact rfl) :
    Does P l w' (.load t x) ty v w' := by
  obtain ⟨n, rfl⟩ := hw
  exact d_load hU hc h1 hx

/-- A slice that reads as xs. -/
def Rd {α : Type} (w : World) (a : Option Addr) (enc : α → Value) (xs : List α) : Prop :=
  ∀ i (h : i < xs.length), ∃ b o, a = some ⟨b, o, none⟩ ∧ w.cell? ⟨b, o + i, none⟩ = some (enc xs[i])
theorem Rd.below {α : Type} {w w' : World} {a : Option Addr} {enc : α → Value} {xs : List α} (h : Rd w a enc xs) (hb : Below w.heap.size w w') : Rd w' a enc xs := by
  intro i hi
  obtain ⟨b, o, ha, hc⟩ := h i hi
  exact ⟨b, o, ha, (hb.cell (p := ⟨b, o + i, none⟩) (World.block_lt_of_cell? w _ hc)).trans hc⟩
end
end Go.Proofs.YtnohefaifbghiaaGreatDoor
