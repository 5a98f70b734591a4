/- Conversions: between integers; bytes as a text; a signed number moved to the right. -/
import Derived.Test.YtnohefaifbghiaaGreatDoorReg
import Derived.Laws.BytesArg
namespace Go.Proofs.YtnohefaifbghiaaGreatDoor
open Go.RowKit

section
variable {P : Program} {w : World} {l : List (Nat × Value)}
theorem d_convI {x : Operand} {k k' : IntKind} {n m : Int} {src dst ty : TypeId} {ds : TypeDesc} (hs : P.underlying src = some ds) (hd : P.underlying dst = some (.int k')) (hx : Ev l x (.int k n) := by exact rfl) (hm : k'.wrap n = m := by exact rfl) :
    Does P l w (.convert src dst x) ty (.int k' m) w := by
  intro ρ hρ d pos af g
  subst hm
  simp [execOp, hρ _ _ hx, convert, run_underlying hs, run_underlying hd, Conv.intToInt]
/-- 'string(r)'. -/
theorem d_convR {x : Operand} {k : IntKind} {n : Int} {src dst ty : TypeId} {ds : TypeDesc} (hs : P.underlying src = some ds) (hd : P.underlying dst = some .string) (hx : Ev l x (.int k n) := by exact rfl) :
    Does P l w (.convert src dst x) ty (.string (Utf8.encode n)) w := by
  intro ρ hρ d pos af g
  simp [execOp, hρ _ _ hx, convert, run_underlying hs, run_underlying hd, Conv.intToString]
theorem d_convBS {x : Operand} {src dst e ty : TypeId} {b o len cap : Nat} (xs : List Int) (hs : P.underlying src = some (.slice e)) (he : P.underlying e = some (.int .u8)) (hd : P.underlying dst = some .string) (hlen : xs.length = len)
    (hcell : ∀ i, i < len → w.cell? ⟨b, o + i, none⟩ = some (.int .u8 (xs.getD i 0))) (hx : Ev l x (.slice (some ⟨b, o, none⟩) len cap) := by exact rfl) :
    Does P l w (.convert src dst x) ty (.string (strOfNums xs)) w := by
  intro ρ hρ d pos af g
  simp [execOp, hρ _ _ hx, run_convert_bytes_arg w src e hs he b o len cap xs hlen hcell dst hd]
theorem run_shrI {k ky : IntKind} {a : Int} {b : Nat} (hb : b ≤ k.bits) : (Op.shift .shr k a ky (b : Int)).run P w = .ok (.int k (a / 2 ^ b)) w := by
  have h1 : ¬ ((b : Int) < 0) := by omega
  simp only [Op.shift, h1, if_false, Int.toNat_natCast, Nat.min_eq_left hb]
  rw [Int.fdiv_eq_ediv_of_nonneg _ (Int.le_of_lt (Int.pow_pos (by decide)))]
  rfl
theorem d_shrI {x y : Operand} {k ky : IntKind} {a q : Int} {b : Nat} {t t' ty : TypeId} (hx : Ev l x (.int k a) := by exact rfl) (hy : Ev l y (.int ky q) := by exact rfl) (hq : q = (b : Int) := by exact rfl) (hb : b ≤ k.bits := by decide) :
    Does P l w (.binOp .shr t x y t') ty (.int k (a / 2 ^ b)) w := by
  intro ρ hρ d pos af g
  subst hq
  have e : (eqGuard .shr t x y (.int k a) (.int ky b)).run P w = .ok () w := rfl
  have e2 : (binOp .shr t (.int k a) (.int ky b)).run P w = .ok (.int k (a / 2 ^ b)) w := run_shrI (ky := ky) hb
  simp only [execOp, hρ _ _ hx, hρ _ _ hy, Sem.run_bind, e, Result.andThen_ok, e2]
  rfl
end
end Go.Proofs.YtnohefaifbghiaaGreatDoor
