/- A signal as it is handed in. -/
import Derived.Test.YtbindknkjbckhaaBits
import Derived.Test.YtbindknkjbckhaaLiftS
namespace Go.Proofs.Ytbindknkjbckhaa
open Go.ChangeShapes Go.WideShapes
theorem cellsOf_sig : Try.prog.cellsOf 29 = 19 := by kernel_rfl
theorem cellsOf_int : Try.prog.cellsOf 3 = 1 := by kernel_rfl
theorem cellsOf_bool : Try.prog.cellsOf 4 = 1 := by kernel_rfl
theorem sig_in {H : Type} {enc : TypeId × Value → H} {w : World} {r : Reach} {b : Nat} {v : Value} {d : DataW H} {ps : List MemPlace} (hv : Value.okWide Try.prog w r b 29 v) (h : DataW.Trod enc Try.prog w 0 (fun _ => true) true 29 v d ps) :
    ∃ cs start size mot, v = .agg cs ∧ SigAt cs start size mot := by
  obtain ⟨cs, rfl, hn⟩ := okWide_struct Try.underlying29 hv
  rw [cellsOf_sig] at hn
  have hr := rds_of h
  obtain ⟨start, h5, _⟩ := hr.intAt (fld _ 4 _ _ rfl) (und _ _ rfl) cellsOf_int
  obtain ⟨size, h6, _⟩ := hr.intAt (fld _ 5 _ _ rfl) (und _ _ rfl) cellsOf_int
  obtain ⟨mot, h7⟩ := hr.boolAt (fld _ 6 _ _ rfl) (und _ _ rfl) cellsOf_bool
  have e : (Value.agg cs).cells.toList = cs.toList := rfl
  rw [e] at h5 h6 h7
  exact ⟨cs, start, size, mot, rfl, hn, by simpa using h5, by simpa using h6, by simpa using h7⟩
end Go.Proofs.Ytbindknkjbckhaa
