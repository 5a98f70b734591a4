/- Laid together by a program of mine: KnAll. -/
import Derived.Test.YtjomihhpglojpaaDoorSumLawKnownCS18
import Derived.Test.YtjomihhpglojpaaDoorSumLawKnownCS23
import Derived.Test.YtjomihhpglojpaaDoorSumLawKnownCS25
set_option linter.unusedSimpArgs false
set_option linter.unusedVariables false
section
/- CheckKnown, walked. -/
namespace Go.Proofs.YtjomihhpglojpaaDoor
open Go.RowKit
set_option linter.unusedSimpArgs false
set_option linter.unusedVariables false
attribute [local irreducible] wpList wpQuiet wpStill Code.wp Exit.then Exit.inBlock bodyPost Calls Does Does0
set_option maxRecDepth 100000
theorem checkknown_ok (w : World) (hg : Handle w) (hT : Tabs w) : Ret Tryd.prog 8 #[] w (fun v w' => v = .bool true ∧ Below w.heap.size w w') := by
  refine enter0 Tryd.func8 rfl 14 rfl 14 rfl (fun a hF => ?_)
  repeat (first | refine c_seq ?_ | refine c_region _ ?_ | refine wpList_nil ?_ | refine c_then ?_ | ((apply st hF); (exact d_assign); clear hF; clear a; intro a hF))
  refine stc hF (signals_ok w hT) cal24 trivial (k := fun a v w1 hR hF => ?_)
  obtain ⟨rfl, hX⟩ := hR
  repeat (((first | apply st hF | apply stg hF); (exact d_move); clear hF; clear a; intro a hF))
  refine stcg hF (messages_ok w1 (hg.below hX) (hT.below hX)) cal25 trivial (k := fun a v w2 hR hF => ?_)
  obtain ⟨rfl, hb⟩ := hR
  replace hX := hX.trans (hb.mono hX.size)
  repeat (((first | apply st hF | apply stg hF); (first | exact d_move | exact d_pickT); clear hF; clear a; intro a hF))
  refine stcg hF (tables_ok w2 (hT.below hX)) cal26 trivial (k := fun a v w3 hR hF => ?_)
  obtain ⟨rfl, hb⟩ := hR
  replace hX := hX.trans (hb.mono hX.size)
  repeat (((first | apply st hF | apply stg hF); (first | exact d_move | exact d_pickT); clear hF; clear a; intro a hF))
  refine stcg hF (more_ok w3 (hT.below hX)) cal27 trivial (k := fun a v w4 hR hF => ?_)
  obtain ⟨rfl, hb⟩ := hR
  replace hX := hX.trans (hb.mono hX.size)
  repeat (((first | apply st hF | apply stg hF); (first | exact d_move | exact d_pickT); clear hF; clear a; intro a hF))
  refine stcg hF (limits_ok w4 (hg.below hX) (hT.below hX)) cal28 trivial (k := fun a v w5 hR hF => ?_)
  obtain ⟨rfl, hb⟩ := hR
  replace hX := hX.trans (hb.mono hX.size)
  repeat (first | refine wpList_nil ?_ | refine c_then ?_ | refine wp_ret ?_ | ((apply st hF); (first | exact d_assign | exact d_pickT); clear hF; clear a; intro a hF))
  exact ret1 hF rfl rfl ⟨rfl, hX⟩
end Go.Proofs.YtjomihhpglojpaaDoor
end
