/- A slice of given values, made anew: what it reads as. -/
import Derived.Test.YtnohefaifbghiaaGreatDoorReg
namespace Go.Proofs.YtnohefaifbghiaaGreatDoor
open Go.RowKit

section
variable {P : Program} {ops : Array Oper} {Q : Exit → Act → World → Prop} {rest : List Oper} {a : Act} {w : World} {N : Nat} {l : List (Nat × Value)}
theorem below_alloc (w : World) (o : Obj) : Below w.heap.size w (w.alloc o) := (Below.refl _ w).grown (World.grownBy_alloc w o none) (Nat.le_refl _) (fun k hk => by cases hk)
theorem rd_alloc {α : Type} (w : World) (enc : α → Value) (xs : List α) (e : TypeId) : Rd (w.alloc (.cells (xs.map enc).toArray e)) (some ⟨w.heap.size, 0, none⟩) enc xs := by
  intro i hi
  refine ⟨_, _, rfl, cell_at (heap_alloc_new w _) ?_⟩
  simp [hi]
theorem st_buildR (h : Fr N l a) {α : Type} (enc : α → Value) (xs : List α) (vs : List (Nat × Value)) {d n : Nat} {ps : List (Nat × Operand)} {t e ty : TypeId} {z : Value} {by_ : Nat} {pos : String} {af : Array Edge} (hU : P.underlying t = some (.slice e)) (hi : (P.info? e).map (fun i => (i.zero, i.size, i.bytes)) = some (some z, 1, by_)) (hz : z.cells = #[z])
    (hb : filled n z vs = some (xs.map enc).toArray) (hv : EvP l ps vs) (hn0 : 0 < n := by decide) (hn : n ≤ 16777216 := by decide) (hd : Nat.blt d N = true := by exact rfl)
    (k : ∀ a' w', w.grownBy w' none → Below w.heap.size w w' → Rd w' (some ⟨w.heap.size, 0, none⟩) enc xs → Fr N ((d, .slice (some ⟨w.heap.size, 0, none⟩) n n) :: l) a' → wpList P ops Q rest a' w') :
    wpList P ops Q (⟨some d, .buildSlice t n ps.toArray, ty, pos, af, none⟩ :: rest) a w :=
  st h (d_buildS hU hi hz hn0 hn hb hv) hd fun a' hF => k a' _ (World.grownBy_alloc _ _ _) (below_alloc w _) (rd_alloc w enc xs e) hF
theorem stg_buildR (h : Fr N l a) {α : Type} (enc : α → Value) (xs : List α) (vs : List (Nat × Value)) {d n : Nat} {ps : List (Nat × Operand)} {t e ty : TypeId} {z : Value} {by_ : Nat} {pos : String} {af : Array Edge} {j q : Nat} {b : Bool} (hU : P.underlying t = some (.slice e)) (hi : (P.info? e).map (fun i => (i.zero, i.size, i.bytes)) = some (some z, 1, by_)) (hz : z.cells = #[z])
    (hb : filled n z vs = some (xs.map enc).toArray) (hv : EvP l ps vs) (hn0 : 0 < n := by decide) (hn : n ≤ 16777216 := by decide) (hj : (ops[j]?).bind (·.dst) = some q := by exact rfl) (hq : look l q = some (.bool b) := by exact rfl) (hd : Nat.blt d N = true := by exact rfl)
    (k : ∀ a' w', w.grownBy w' none → Below w.heap.size w w' → Rd w' (some ⟨w.heap.size, 0, none⟩) enc xs → Fr N ((d, .slice (some ⟨w.heap.size, 0, none⟩) n n) :: l) a' → wpList P ops Q rest a' w') :
    wpList P ops Q (⟨some d, .buildSlice t n ps.toArray, ty, pos, af, some (j, b)⟩ :: rest) a w :=
  stg h hj hq (d_buildS hU hi hz hn0 hn hb hv) hd fun a' hF => k a' _ (World.grownBy_alloc _ _ _) (below_alloc w _) (rd_alloc w enc xs e) hF
end
end Go.Proofs.YtnohefaifbghiaaGreatDoor
