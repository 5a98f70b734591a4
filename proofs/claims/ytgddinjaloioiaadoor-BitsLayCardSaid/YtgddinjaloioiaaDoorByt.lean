/- Shifts and bits of unsigned numbers. Plain lemmas over any program. -/
import Derived.Test.YtgddinjaloioiaaDoorReg
import Derived.Laws.BitsLemmas
namespace Go.Proofs.YtgddinjaloioiaaDoor
open Go.RowKit

/-- A number without some bits of another. -/
def andNotN (a b : Nat) : Nat := Nat.bitwise (fun x y => x && !y) a b
theorem andNotN_bit (a b i : Nat) : (andNotN a b).testBit i = (a.testBit i && !b.testBit i) := Nat.testBit_bitwise rfl _ _ _
theorem andNotN_lt {a b n : Nat} (ha : a < 2 ^ n) : andNotN a b < 2 ^ n := by
  refine Nat.lt_pow_two_of_testBit _ fun i hi => ?_
  rw [andNotN_bit, Nat.testBit_lt_two_pow (Nat.lt_of_lt_of_le ha (Nat.pow_le_pow_right (by decide) hi))]
  rfl
theorem wrap_un {k : IntKind} (hs : k.signed = false) {n : Nat} (h : n < 2 ^ k.bits) : k.wrap (n : Int) = (n : Int) := by
  unfold IntKind.wrap
  have h' : (n : Int) % (2 : Int) ^ k.bits = n := by
    rw [Int.emod_eq_of_lt (by omega)]
    exact_mod_cast h
  simp [hs, h']

section
variable {P : Program} {w : World} {l : List (Nat × Value)}
theorem run_shr {k : IntKind} {a b : Nat} {ky : IntKind} (hb : b ≤ k.bits) : (Op.shift .shr k (a : Int) ky (b : Int)).run P w = .ok (.int k ((a / 2 ^ b : Nat) : Int)) w := by
  have h1 : ¬ ((b : Int) < 0) := by omega
  simp only [Op.shift, h1, if_false, Int.toNat_natCast, Nat.min_eq_left hb]
  have : Int.fdiv (a : Int) (2 ^ b) = ((a / 2 ^ b : Nat) : Int) := by
    rw [Int.fdiv_eq_ediv_of_nonneg _ (Int.le_of_lt (Int.pow_pos (by decide)))]
    push_cast
    rfl
  rw [this]; rfl
theorem run_shl1 {k : IntKind} {b : Nat} {ky : IntKind} (hs : k.signed = false) (hb : b < k.bits) : (Op.shift .shl k 1 ky (b : Int)).run P w = .ok (.int k ((2 ^ b : Nat) : Int)) w := by
  have h1 : ¬ ((b : Int) < 0) := by omega
  simp only [Op.shift, h1, if_false, Int.toNat_natCast, Nat.min_eq_left (Nat.le_of_lt hb)]
  have : k.wrap (1 * 2 ^ b) = ((2 ^ b : Nat) : Int) := by
    rw [← wrap_un hs (Nat.pow_lt_pow_right (by decide) hb)]
    congr 1
    push_cast
    omega
  rw [this]; rfl
theorem run_bits {op : BinOp} {k : IntKind} {a b r : Nat} (hs : k.signed = false) (ha : a < 2 ^ k.bits) (hb : b < 2 ^ k.bits) (hr : (match op with | .and => some (a &&& b) | .or => some (a ||| b) | .andNot => some (andNotN a b) | _ => none) = some r) : (Op.intBits op k (a : Int) (b : Int)).run P w = .ok (.int k (r : Int)) w := by
  have ha' : a % 2 ^ k.bits = a := Nat.mod_eq_of_lt ha
  have hb' : b % 2 ^ k.bits = b := Nat.mod_eq_of_lt hb
  cases op <;> simp only [Option.some.injEq, reduceCtorEq] at hr <;> subst hr
  · simp only [Op.intBits, BitVec.ofInt_natCast, BitVec.toNat_and, BitVec.toNat_ofNat, ha', hb']
    rw [wrap_un hs (Nat.and_lt_two_pow _ hb)]; rfl
  · simp only [Op.intBits, BitVec.ofInt_natCast, BitVec.toNat_or, BitVec.toNat_ofNat, ha', hb']
    rw [wrap_un hs (Nat.or_lt_two_pow ha hb)]; rfl
  · have e : (BitVec.ofNat k.bits a &&& ~~~BitVec.ofNat k.bits b).toNat = andNotN a b := by
      apply Nat.eq_of_testBit_eq
      intro i
      rw [andNotN_bit, BitVec.testBit_toNat]
      simp only [BitVec.getLsbD_and, BitVec.getLsbD_not, BitVec.getLsbD_ofNat]
      by_cases hi : i < k.bits
      · simp [hi]
      · have : a.testBit i = false := Nat.testBit_lt_two_pow (Nat.lt_of_lt_of_le ha (Nat.pow_le_pow_right (by decide) (by omega)))
        simp [hi, this]
    simp only [Op.intBits, BitVec.ofInt_natCast]
    rw [e, wrap_un hs (andNotN_lt ha)]; rfl

theorem d_shr {x y : Operand} {k ky : IntKind} {a b : Nat} {p q : Int} {t t' ty : TypeId} (hx : Ev l x (.int k p) := by exact rfl) (hy : Ev l y (.int ky q) := by exact rfl) (hp : p = (a : Int) := by exact rfl) (hq : q = (b : Int) := by exact rfl) (hb : b ≤ k.bits) :
    Does P l w (.binOp .shr t x y t') ty (.int k ((a / 2 ^ b : Nat) : Int)) w := by
  intro ρ hρ d pos af g
  subst hp; subst hq
  have e : (eqGuard .shr t x y (.int k a) (.int ky b)).run P w = .ok () w := rfl
  have e2 : (binOp .shr t (.int k a) (.int ky b)).run P w = .ok (.int k ((a / 2 ^ b : Nat) : Int)) w := run_shr (ky := ky) hb
  simp only [execOp, hρ _ _ hx, hρ _ _ hy, Sem.run_bind, e, Result.andThen_ok, e2]
  rfl
theorem d_shl1 {x y : Operand} {k ky : IntKind} {b : Nat} {q : Int} {t t' ty : TypeId} (hx : Ev l x (.int k 1) := by exact rfl) (hy : Ev l y (.int ky q) := by exact rfl) (hs : k.signed = false := by exact rfl) (hq : q = (b : Int) := by exact rfl) (hb : b < k.bits) :
    Does P l w (.binOp .shl t x y t') ty (.int k ((2 ^ b : Nat) : Int)) w := by
  intro ρ hρ d pos af g
  subst hq
  have e : (eqGuard .shl t x y (.int k 1) (.int ky b)).run P w = .ok () w := rfl
  have e2 : (binOp .shl t (.int k 1) (.int ky b)).run P w = .ok (.int k ((2 ^ b : Nat) : Int)) w := run_shl1 (ky := ky) hs hb
  simp only [execOp, hρ _ _ hx, hρ _ _ hy, Sem.run_bind, e, Result.andThen_ok, e2]
  rfl
theorem d_bits {op : BinOp} {x y : Operand} {k : IntKind} {a b r : Nat} {p q : Int} {t t' ty : TypeId} (hx : Ev l x (.int k p) := by exact rfl) (hy : Ev l y (.int k q) := by exact rfl) (hs : k.signed = false := by exact rfl) (hp : p = (a : Int) := by exact rfl) (hq : q = (b : Int) := by exact rfl) (ha : a < 2 ^ k.bits) (hb : b < 2 ^ k.bits)
    (hr : (match op with | .and => some (a &&& b) | .or => some (a ||| b) | .andNot => some (andNotN a b) | _ => none) = some r := by exact rfl) :
    Does P l w (.binOp op t x y t') ty (.int k (r : Int)) w := by
  intro ρ hρ d pos af g
  subst hp; subst hq
  have e : (eqGuard op t x y (.int k a) (.int k b)).run P w = .ok () w := by cases op <;> rfl
  have e2 : (binOp op t (.int k a) (.int k b)).run P w = .ok (.int k (r : Int)) w := by
    have := run_bits (P := P) (w := w) (op := op) hs ha hb hr
    cases op <;> simp only [reduceCtorEq] at hr <;> simpa [binOp] using this
  simp only [execOp, hρ _ _ hx, hρ _ _ hy, Sem.run_bind, e, Result.andThen_ok, e2]
  rfl
end
end Go.Proofs.YtgddinjaloioiaaDoor
