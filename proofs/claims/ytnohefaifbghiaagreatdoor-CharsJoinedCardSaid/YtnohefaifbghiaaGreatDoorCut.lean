/- A place in the text where all ways meet; a slice against nil; a slice from some place on. Plain lemmas over any program. -/
import Derived.Test.YtnohefaifbghiaaGreatDoorReg
import Derived.Laws.IdiomStrings
import Derived.Laws.Cover3
import Derived.Laws.Concat
namespace Go.Proofs.YtnohefaifbghiaaGreatDoor
open Go.RowKit
section
variable {P : Program} {ops : Array Oper} {Q : Exit → Act → World → Prop} {rest : List Oper} {a : Act} {w : World} {N : Nat} {l : List (Nat × Value)}
/-- All ways through x come to I. -/
theorem c_cut {x y : Code} (I : Act → World → Prop) (h1 : x.wp P (Exit.then (fun a' w' => I a' w') Q) a w) (h2 : ∀ a' w', I a' w' → y.wp P Q a' w') : (Code.seq x y).wp P Q a w :=
  wp_seq (wp_mono h1 fun e a' w' h => by cases e <;> first | exact h2 _ _ h | exact h)
/-- .. x the text that begins with region id. -/
theorem c_cutR (id : Nat) {ops : Array Oper} {b : Bool} {c y : Code} (I : Act → World → Prop) (h1 : (Code.seq (Code.region id ops b) c).wp P (Exit.then (fun a' w' => I a' w') Q) a w) (h2 : ∀ a' w', I a' w' → y.wp P Q a' w') : (Code.seq (Code.seq (Code.region id ops b) c) y).wp P Q a w := c_cut I h1 h2
/-- .. x the block id. -/
theorem c_cutB (id : Nat) {c y : Code} (I : Act → World → Prop) (h1 : (Code.block id c).wp P (Exit.then (fun a' w' => I a' w') Q) a w) (h2 : ∀ a' w', I a' w' → y.wp P Q a' w') : (Code.seq (Code.block id c) y).wp P Q a w := c_cut I h1 h2
theorem d_neSl {x : Operand} {ao : Option Addr} {n c : Nat} {t t' e ty : TypeId} (hU : P.underlying t = some (.slice e)) (hx : Ev l x (.slice ao n c) := by exact rfl) : Does P l w (.binOp .neq t x (.const (.slice none 0 0)) t') ty (.bool (!ao.isNone)) w := by
  intro ρ hρ d pos af g
  have e1 : ρ (.const (.slice none 0 0)) = .slice none 0 0 := hρ _ _ rfl
  have h : (Op.equal t (.slice ao n c) (.slice none 0 0)).run P w = .ok ao.isNone w := run_equal_slice_nil w t e ao n c hU
  have e2 : (eqGuard .neq t x (.const (.slice none 0 0)) (.slice ao n c) (.slice none 0 0)).run P w = .ok () w := rfl
  simp only [execOp, hρ _ _ hx, e1, Sem.run_bind, e2, Result.andThen_ok]
  show ((do pure (Value.bool (!(← Op.equal t (.slice ao n c) (.slice none 0 0)))) : Sem Value).run P w).andThen _ = _
  rw [Sem.run_bind, h]; rfl
/-- Two texts, one behind the other. -/
theorem d_addS {x y : Operand} {s u : ByteArray} {t t' ty : TypeId} (hx : Ev l x (.string s) := by exact rfl) (hy : Ev l y (.string u) := by exact rfl) (h : s.size + u.size ≤ 9223372036854775807) : Does P l w (.binOp .add t x y t') ty (.string (s ++ u)) w := by
  intro ρ hρ d pos af g
  have e2 : (eqGuard .add t x y (.string s) (.string u)).run P w = .ok () w := rfl
  have e3 : (binOp .add t (.string s) (.string u)).run P w = .ok (.string (s ++ u)) w := run_string_add_sum w s u h
  simp only [execOp, hρ _ _ hx, hρ _ _ hy, Sem.run_bind, e2, Result.andThen_ok, e3]
  rfl
theorem d_sliceR {x lo : Operand} {g n c j : Nat} {k'' : IntKind} {q'' : Int} {t e ty : TypeId} (hU : P.underlying t = some (.slice e)) (hs : (P.info? e).map (·.size) = some 1)
    (hx : Ev l x (.slice (some ⟨g, 0, none⟩) n c) := by exact rfl) (hl : Ev l lo (.int k'' q'') := by exact rfl) (hq'' : q'' = (j : Int) := by exact rfl) (hj : j ≤ n := by omega) (hc : j < c := by omega) :
    Does P l w (.slice t x (some lo) none none) ty (.slice (some ⟨g, j, none⟩) (n - j) (c - j)) w := by
  have h := d_sliceL (P := P) (w := w) (ty := ty) hU hs hx hl hq'' hj
  rw [if_neg (by omega)] at h
  simpa [addr_add] using h
end
theorem row_set (l : List Value) (m : Nat) (z v : Value) (h : 0 < m) : (l ++ List.replicate m z).set l.length v = (l ++ [v]) ++ List.replicate (m - 1) z := by
  obtain ⟨k, rfl⟩ : ∃ k, m = k + 1 := ⟨m - 1, by omega⟩
  rw [List.replicate_succ, List.set_append_right _ _ (Nat.le_refl _)]
  simp
theorem row_put (l cs : List Value) (m : Nat) (z : Value) : (l ++ List.replicate m z).take l.length ++ (cs ++ (l ++ List.replicate m z).drop (l.length + cs.length)) = (l ++ cs) ++ List.replicate (m - cs.length) z := by
  rw [List.take_left, List.drop_append]
  simp
end Go.Proofs.YtnohefaifbghiaaGreatDoor
