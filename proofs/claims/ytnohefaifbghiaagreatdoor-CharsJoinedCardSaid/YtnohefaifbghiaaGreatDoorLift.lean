/- From what an argument reads as to what the walk is told of it. -/
import Derived.Test.YtnohefaifbghiaaGreatDoorMem
import Derived.ProofKit
import Derived.OpenShut
import Derived.ShutString
import Derived.ChangeOld
import Derived.Deep.Grids
import Derived.Deep.Slices
namespace Go.Proofs.YtnohefaifbghiaaGreatDoor
open Go.ChangeShapes Go.WideShapes Go.ChangeAt Go.RowKit Go.Deep

section
variable {H : Type} {enc : TypeId × Value → H} {P : Program} {w : World} {base : Nat} {held : Bool}

theorem spotless {a : Addr} {v : Value} (h : w.cell? a = some v) : a = ⟨a.block, a.off, none⟩ := by
  cases a with
  | mk b o s =>
    cases s with
    | none => rfl
    | some s =>
      simp only [World.cell?] at h
      cases hb : w.heap[b]? with
      | none => simp [hb] at h
      | some ob => cases ob <;> simp [hb] at h

theorem open_rd_bool {t e : TypeId} {a : Option Addr} {len cap : Nat} {d : DataW H} {ps : List MemPlace} (ht : P.underlying t = some (.slice e)) (he : P.underlying e = some .bool) (hc : P.cellsOf e = 1)
    (h : DataW.Trod enc P w base (fun _ => true) held t (.slice a len cap) d ps) : ∃ xs : List Bool, xs.length = len ∧ len ≤ cap ∧ cap ≤ maxLen ∧ Rd w a .bool xs := by
  obtain ⟨fuel, hf⟩ := h
  rcases open_bools ht he hc hf with ⟨hcs, _⟩ | ⟨x, l, c, B, hcs, _, hl, hm, _, hcell⟩
  · simp [Value.cells] at hcs
    obtain ⟨rfl, rfl, rfl⟩ := hcs
    exact ⟨[], rfl, Nat.le_refl _, Nat.zero_le _, fun i hi => absurd hi (Nat.not_lt_zero _)⟩
  · simp [Value.cells] at hcs
    obtain ⟨rfl, rfl, rfl⟩ := hcs
    refine ⟨(List.range len).map B, by simp, hl, hm, fun i hi => ?_⟩
    simp at hi
    have h0 := hcell 0 (by omega)
    have hs := spotless h0
    have e0 : x.add 0 = x := by simp [Addr.add]
    rw [e0] at hs
    refine ⟨x.block, x.off, by rw [← hs], ?_⟩
    have h1 := hcell i (by omega)
    rw [hs, addr_add] at h1
    rw [h1]
    simp

theorem open_rd_int {t e : TypeId} {k : IntKind} {a : Option Addr} {len cap : Nat} {d : DataW H} {ps : List MemPlace} (ht : P.underlying t = some (.slice e)) (he : P.underlying e = some (.int k)) (hc : P.cellsOf e = 1)
    (h : DataW.Trod enc P w base (fun _ => true) held t (.slice a len cap) d ps) : ∃ xs : List Int, xs.length = len ∧ len ≤ cap ∧ cap ≤ maxLen ∧ Rd w a (.int k) xs ∧ ∀ x ∈ xs, (Lit.int k x).wf = true := by
  obtain ⟨fuel, hf⟩ := h
  rcases open_ints ht he hc hf with ⟨hcs, _⟩ | ⟨x, l, c, zs, hcs, _, hl, hm, hz, _, hcell, hwf⟩
  · simp [Value.cells] at hcs
    obtain ⟨rfl, rfl, rfl⟩ := hcs
    exact ⟨[], rfl, Nat.le_refl _, Nat.zero_le _, fun i hi => absurd hi (Nat.not_lt_zero _), by simp⟩
  · simp [Value.cells] at hcs
    obtain ⟨rfl, rfl, rfl⟩ := hcs
    simp at hz
    refine ⟨zs.take len, by simp; omega, hl, hm, fun i hi => ?_, fun y hy => hwf y (List.mem_of_mem_take hy)⟩
    have hi' : i < len := by simp at hi; omega
    have h0 := hcell 0 (by omega)
    have hs := spotless h0
    have e0 : x.add 0 = x := by simp [Addr.add]
    rw [e0] at hs
    refine ⟨x.block, x.off, by rw [← hs], ?_⟩
    have h1 := hcell i (by omega)
    rw [hs, addr_add] at h1
    rw [h1]
    have : i < zs.length := by omega
    simp [List.getElem_take, List.getD, this]
end
end Go.Proofs.YtnohefaifbghiaaGreatDoor
