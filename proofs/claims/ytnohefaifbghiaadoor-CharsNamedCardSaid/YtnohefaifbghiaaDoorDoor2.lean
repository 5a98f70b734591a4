/- The condition of CharsNamed: utf8's two tables; a world that meets it. -/
import Derived.Test.YtnohefaifbghiaaDoorDoor3
namespace Go.Proofs.YtnohefaifbghiaaDoor
open Go.ChangeShapes Go.WideShapes Go.RowKit Go.Shelf
theorem laid2_parts {W : World} (h : laidMetH Tryd.prog tabs2 W) : laidMet Tryd.prog tabs2 W := h
theorem tabs_of_laid2 {W : World} (h : laidMetH Tryd.prog tabs2 W) : Tabs W := by
  have h2 := laid2_parts h
  unfold tabs2 at h2
  rw [acc_eq, fst_eq] at h2
  exact utf8Tabs_of_readsT (U8Types.of196 Tryd.lays196) ⟨by kernel_rfl, by kernel_rfl, by kernel_rfl, by kernel_rfl, by kernel_rfl, by kernel_rfl, by kernel_rfl⟩ (Lib.laidMet.reads h2 (.tail _ (.head _))) (Lib.laidMet.reads h2 (.head _))
theorem laidWorld2_met (os : Os) (args : Array Value) : laidMetH Tryd.prog tabs2 ((laidWorld3 os).forCall (fun _ _ => 0) ⟨#[], args, []⟩).memory := by
  show laidMet Tryd.prog tabs2 _
  exact (LaidIn.of_run (l := tabs2) [2, 1] 8 (by kernel_rfl) (by kernel_rfl) (by kernel_rfl) (by kernel_rfl)).met
end Go.Proofs.YtnohefaifbghiaaDoor
