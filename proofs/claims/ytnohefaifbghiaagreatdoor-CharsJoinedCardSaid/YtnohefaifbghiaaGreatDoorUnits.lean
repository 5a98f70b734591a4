/- The reference's units of a text. -/
import Derived.Test.YtnohefaifbghiaaGreatDoorRA
import Derived.Test.YtnohefaifbghiaaGreatDoorPushS
import Derived.Test.YtnohefaifbghiaaGreatDoorCnv
namespace Go.Proofs.YtnohefaifbghiaaGreatDoor
open Go.RowKit
set_option linter.unusedSimpArgs false
set_option linter.unusedVariables false
attribute [local irreducible] wpList wpQuiet wpStill Code.wp Exit.then Exit.inBlock bodyPost Calls Does Does0

/-- A unit as the reference has it. -/
structure Un where
  line : Int
  col : Int
  r : Int
  wide : Int
  ill : Bool
def Un.cells (u : Un) : List Value := [.int .i64 u.line, .int .i64 u.col, .int .i32 u.r, .int .i64 u.wide, .bool u.ill]
theorem unc_len (u : Un) : (Un.cells u).length = 5 := rfl
theorem un_cells (u : Un) : ∀ v ∈ (Un.cells u).toArray, v.oneCell' = true := by
  intro v hv
  simp [Un.cells] at hv
  rcases hv with rfl | rfl | rfl | rfl | rfl <;> rfl
/-- Is the rune read at p the sign for bytes that are none? -/
def illB (s : ByteArray) (p : Nat) : Bool :=
  (((Utf8.decode s p).1 : Int) == 65533) && (decide (s.size ≤ p + 2) || ((s.get! p).toNat != 239) || ((s.get! (p + 1)).toNat != 191) || ((s.get! (p + 2)).toNat != 189))
def UnOk (s : ByteArray) (i : Nat) (u : Un) : Prop := u.line = (uSt s i).2.1 ∧ u.col = (uSt s i).2.2 ∧ u.r = uR s i ∧ u.ill = illB s (uSt s i).1
theorem uSt_ge (s : ByteArray) : ∀ k, (∀ j, j < k → (uSt s j).1 < s.size) → k ≤ (uSt s k).1
  | 0, _ => Nat.zero_le _
  | k + 1, h => by
    have h1 := uSt_ge s k (fun j hj => h j (by omega))
    have h2 := uSt_lt s k (h k (by omega))
    omega
theorem get_at {s : ByteArray} {j : Nat} (h : j < s.size) : s[j]? = some (s.get! j) := by
  have e : s.get! j = s[j] := by
    cases s with
    | mk d =>
      have h' : j < d.size := h
      show d[j]! = d[j]
      simp [h']
  rw [e]; simp [h]

theorem own_neI {w : World} {base : Nat} {e : TypeId} {sz : Nat} {v : Value} {n : Nat} {xs : List Value} (h : w.ownsRow base e sz v n xs) {r : Nat} {o : Obj} (ho : w.heap[r]? = some o) (hc : ∀ c t f, o ≠ .cells c t f) {b : Nat} (hb : v.ownBlock = some b) : (some r : Option Nat) ≠ some b := by
  intro e0
  have e1 : r = b := Option.some.inj e0
  subst e1
  rcases h.2 with ⟨rfl, _⟩ | ⟨g, cap, cur, rfl, _, h1, _⟩
  · cases hb
  · simp only [Value.ownBlock, Option.some.injEq] at hb
    subst hb
    rw [ho] at h1
    exact hc _ _ _ (Option.some.inj h1)

end Go.Proofs.YtnohefaifbghiaaGreatDoor
