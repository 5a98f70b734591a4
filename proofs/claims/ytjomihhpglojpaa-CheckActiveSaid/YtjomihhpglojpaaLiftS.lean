/- From what a struct reads as to its cells. -/
import Derived.Test.YtjomihhpglojpaaLift
import Derived.ChangeArms
namespace Go.Proofs.Ytjomihhpglojpaa
open Go.ChangeShapes Go.WideShapes Go.ChangeAt Go.RowKit

section
variable {H : Type} {enc : TypeId × Value → H} {P : Program} {w : World}

/-- The cells read as a value of the type. -/
def Rds (enc : TypeId × Value → H) (P : Program) (w : World) (t : TypeId) (cs : List Value) : Prop := ∃ fuel x, DataW.trod enc P w 0 (fun _ => true) true fuel t cs = some x
theorem rds_of {t : TypeId} {v : Value} {d : DataW H} {ps : List MemPlace} (h : DataW.Trod enc P w 0 (fun _ => true) true t v d ps) : Rds enc P w t v.cells.toList := by
  obtain ⟨m, hm⟩ := h
  exact ⟨m, _, hm⟩
theorem Rds.fld {s f off ft : Nat} {cs : List Value} (h : Rds enc P w s cs) (hF : Fld P s f off ft) : Rds enc P w ft ((cs.drop off).take (P.cellsOf ft)) := by
  obtain ⟨fuel, x, hx⟩ := h
  obtain ⟨fields, fd, h1, h2, rfl, rfl⟩ := hF
  obtain ⟨xs, n, _, _, _, hl, hf⟩ := DataW.trod_struct h1 hx
  have := hf f fd h2
  have hlt : f < fields.size := (Array.getElem?_eq_some_iff.1 h2).1
  rw [List.getElem?_eq_getElem (by omega)] at this
  exact ⟨n, _, this⟩
theorem Rds.len {s f off ft : Nat} {cs : List Value} (h : Rds enc P w s cs) (hF : Fld P s f off ft) : cs.length = P.cellsOf s := by
  obtain ⟨fuel, x, hx⟩ := h
  obtain ⟨fields, fd, h1, h2, rfl, rfl⟩ := hF
  obtain ⟨xs, n, _, _, hl, _, _⟩ := DataW.trod_struct h1 hx
  exact hl
theorem one_at {cs : List Value} {off : Nat} {v : Value} (h : (cs.drop off).take 1 = [v]) : cs[off]? = some v := by
  have : ((cs.drop off).take 1)[0]? = some v := by rw [h]; rfl
  rw [List.getElem?_take_of_lt (by omega)] at this
  simpa using this
theorem Rds.int {t : TypeId} {k : IntKind} {cs : List Value} (h : Rds enc P w t cs) (hU : P.underlying t = some (.int k)) : ∃ n, cs = [.int k n] ∧ (Lit.int k n).wf = true := by
  obtain ⟨fuel, x, hx⟩ := h
  obtain ⟨n, h1, _, h2⟩ := DataW.trod_int hU hx
  exact ⟨n, h1, h2⟩
theorem Rds.bool {t : TypeId} {cs : List Value} (h : Rds enc P w t cs) (hU : P.underlying t = some .bool) : ∃ b, cs = [.bool b] := by
  obtain ⟨fuel, x, hx⟩ := h
  obtain ⟨n, h1, _⟩ := DataW.trod_bool hU hx
  exact ⟨n, h1⟩
theorem Rds.string {t : TypeId} {cs : List Value} (h : Rds enc P w t cs) (hU : P.underlying t = some .string) : ∃ s : ByteArray, cs = [.string s] ∧ s.size ≤ maxLen := by
  obtain ⟨fuel, x, hx⟩ := h
  obtain ⟨n, h1, _, h2⟩ := DataW.trod_string hU hx
  exact ⟨n, h1, h2⟩
theorem Rds.intAt {s f off ft : Nat} {k : IntKind} {cs : List Value} (h : Rds enc P w s cs) (hF : Fld P s f off ft) (hU : P.underlying ft = some (.int k)) (hc : P.cellsOf ft = 1) : ∃ n, cs[off]? = some (.int k n) ∧ (Lit.int k n).wf = true := by
  obtain ⟨n, h1, h2⟩ := (h.fld hF).int hU
  rw [hc] at h1
  exact ⟨n, one_at h1, h2⟩
theorem Rds.boolAt {s f off ft : Nat} {cs : List Value} (h : Rds enc P w s cs) (hF : Fld P s f off ft) (hU : P.underlying ft = some .bool) (hc : P.cellsOf ft = 1) : ∃ n, cs[off]? = some (.bool n) := by
  obtain ⟨n, h1⟩ := (h.fld hF).bool hU
  rw [hc] at h1
  exact ⟨n, one_at h1⟩
theorem Rds.stringAt {s f off ft : Nat} {cs : List Value} (h : Rds enc P w s cs) (hF : Fld P s f off ft) (hU : P.underlying ft = some .string) (hc : P.cellsOf ft = 1) : ∃ n : ByteArray, cs[off]? = some (.string n) ∧ n.size ≤ maxLen := by
  obtain ⟨n, h1, h2⟩ := (h.fld hF).string hU
  rw [hc] at h1
  exact ⟨n, one_at h1, h2⟩
end
end Go.Proofs.Ytjomihhpglojpaa
