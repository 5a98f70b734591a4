/- The library's locks and atomics, one goroutine: walked. -/
import Derived.Test.YtnohefaifbghiaaGreatDoorFacts
import Derived.Test.YtnohefaifbghiaaGreatDoorMem
import Derived.Laws.LoneSync
import Derived.Laws.Cover3
import Derived.Laws.IdiomStrings
namespace Go.Proofs.YtnohefaifbghiaaGreatDoor
open Go.RowKit
section
variable {P : Program} {l : List (Nat × Value)} {w w' : World}
/-- A call that the model carries out at once. -/
theorem d_ext {f : FuncId} {xs : List Operand} {vs : List Value} {ats : Array TypeId} {ty : TypeId} {v : Value} (hc : (callFunc f vs.toArray).run P w = .ok (.value v) w') (hx : Evs l xs vs) : Does P l w (.call { callee := .value (.func f), args := xs.toArray, argTypes := ats }) ty v w' := by
  intro ρ hρ d pos af g
  have e1 : ρ (.func f) = .func (.func f) #[] #[] := hρ _ _ rfl
  have e2 := Evs.map hρ hx
  simp only [execOp, resolve, Deferred.ofValue, invoke, e1, e2, Sem.run_bind, Sem.run_pure, Result.andThen_ok, List.map_toArray, Array.append_empty, List.append_toArray, List.nil_append]
  simp [hc]
theorem d_unsafe {x : Operand} {a : Addr} {v : Value} {src dst t ty : TypeId} (hs : P.underlying src = some (.pointer t)) (hd : P.underlying dst = some .unsafePointer) (hsz : (P.info? t).map (fun i => decide (i.size = 0)) = some false) (hc : w.cell? a = some v) (hx : Ev l x (.pointer (some a)) := by exact rfl) :
    Does P l w (.convert src dst x) ty (.pointer (some a)) w := by
  intro ρ hρ d pos af g
  simp [execOp, hρ _ _ hx, run_convert_to_unsafe hs hd hsz hc]
/-- A slice against nil. -/
theorem d_eqSl {x : Operand} {ao : Option Addr} {n c : Nat} {t t' e ty : TypeId} (hU : P.underlying t = some (.slice e)) (hx : Ev l x (.slice ao n c) := by exact rfl) : Does P l w (.binOp .eql t x (.const (.slice none 0 0)) t') ty (.bool ao.isNone) w := by
  intro ρ hρ d pos af g
  have e1 : ρ (.const (.slice none 0 0)) = .slice none 0 0 := hρ _ _ rfl
  have h : (Op.equal t (.slice ao n c) (.slice none 0 0)).run P w = .ok ao.isNone w := run_equal_slice_nil w t e ao n c hU
  have e2 : (eqGuard .eql t x (.const (.slice none 0 0)) (.slice ao n c) (.slice none 0 0)).run P w = .ok () w := rfl
  simp only [execOp, hρ _ _ hx, e1, Sem.run_bind, e2, Result.andThen_ok]
  show ((do pure (Value.bool (← Op.equal t (.slice ao n c) (.slice none 0 0))) : Sem Value).run P w).andThen _ = _
  rw [Sem.run_bind, h]; rfl
/-- '[]byte(s)'. -/
theorem d_convSB {x : Operand} {s : ByteArray} {src dst e ty : TypeId} (hs : P.underlying src = some .string) (hd : P.underlying dst = some (.slice e)) (he : P.underlying e = some (.int .u8)) (hx : Ev l x (.string s) := by exact rfl) :
    Does P l w (.convert src dst x) ty (.slice (some ⟨w.heap.size, 0, none⟩) s.size (grownCap w s.size 0 e)) (w.drew.alloc (.cells (bytesRow s (grownCap w s.size 0 e)) e ((bytesRow s (grownCap w s.size 0 e)).size, (bytesRow s (grownCap w s.size 0 e)).size + 1))) := by
  intro ρ hρ d pos af g
  simp [execOp, hρ _ _ hx, run_bytes_of_string w src dst e s hs hd he]
end
theorem setCell_facts {w : World} {b i : Nat} {c : Array Value} {e : TypeId} {v : Value} (hg : w.heap[b]? = some (.cells c e (0, 0))) : (w.setCell ⟨b, i, none⟩ v).heap[b]? = some (.cells (c.setIfInBounds i v) e (0, 0)) ∧ w.grownBy (w.setCell ⟨b, i, none⟩ v) (some b) ∧ (w.setCell ⟨b, i, none⟩ v).heap.size = w.heap.size := by
  refine ⟨by simp [World.setCell, Array.getElem?_modify, hg], ⟨rfl, rfl, rfl, by simp, fun k hk hne => ?_⟩, by simp⟩
  simp only [World.setCell, Array.getElem?_modify]
  rw [if_neg (fun e => hne (by rw [e]))]
end Go.Proofs.YtnohefaifbghiaaGreatDoor
