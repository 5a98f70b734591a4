/- Laid together by a program of mine: Door3 ValD MayD OwnB Sh. -/
import Derived.Test.YtnohefaifbghiaaGreatDoorSumLawKnownS12
import Derived.Lib.LaidIn
import Derived.Lib.LaidU8T
import Derived.PinnedBridge
import Derived.Test.YtnohefaifbghiaaGreatDoorSumLawKnownS4
import Derived.Test.YtnohefaifbghiaaGreatDoorSumLawKnownS7
import Derived.Shelf.Strings.Builder1
import Derived.Shelf.Strings.BuilderF
import Derived.Test.YtnohefaifbghiaaGreatDoorProg
import Derived.KernelRfl
set_option linter.unusedSimpArgs false
set_option linter.unusedVariables false
section
/- The condition of CharsUnquotes: the handle and utf8's two tables; a world that meets it. -/
namespace Go.Proofs.YtnohefaifbghiaaGreatDoor
open Go.ChangeShapes Go.WideShapes Go.RowKit Go.Shelf

def laid3 : List (String × DataW Unit) := [("unicode/utf8.acceptRanges", Rows.laid_unicode_utf8_acceptRanges), ("errors.errorType", Rows.laid_errors_errorType), ("unicode/utf8.first", Rows.laid_unicode_utf8_first)]
def tabs2 : List (String × DataW Unit) := [("unicode/utf8.acceptRanges", Rows.laid_unicode_utf8_acceptRanges), ("unicode/utf8.first", Rows.laid_unicode_utf8_first)]
def handle1 : List (String × DataW Unit) := [("errors.errorType", Rows.laid_errors_errorType)]
theorem filt_no : (laid3.filter fun x => x.2.handleName?.isNone) = tabs2 := rfl
theorem filt_yes : (laid3.filter fun x => x.2.handleName?.isSome) = handle1 := rfl
theorem laid3_parts {W : World} (h : laidMetH Tryz.prog laid3 W) : laidMet Tryz.prog tabs2 W ∧ handlesMet Tryz.prog handle1 W := by
  unfold laidMetH at h
  rw [filt_yes] at h
  rw [← filt_no]
  exact h
theorem handle_of_laid3 {W : World} (h : laidMetH Tryz.prog laid3 W) : Handle W := by
  refine handle_of_laid (show laidMet Tryz.prog [] W ∧ handlesMet Tryz.prog theLaid W from ⟨?_, (laid3_parts h).2⟩)
  exact laidMet_nil _ _
def Tabs (w : World) : Prop := Lib.Utf8Tabs (Tryz.lays196_ren.g 3) (Tryz.lays196_ren.g 4) w
theorem acc_eq : (Rows.laid_unicode_utf8_acceptRanges : DataW Unit) = Lib.acceptData := by kernel_rfl
theorem fst_eq : Rows.laid_unicode_utf8_first = Lib.firstData := Pinned.utf8First_eq
theorem tabs_of_laid3 {W : World} (h : laidMetH Tryz.prog laid3 W) : Tabs W := by
  have h2 := (laid3_parts h).1
  unfold tabs2 at h2
  rw [acc_eq, fst_eq] at h2
  exact utf8Tabs_of_readsT (U8Types.of196 Tryz.lays196) ⟨by kernel_rfl, by kernel_rfl, by kernel_rfl, by kernel_rfl, by kernel_rfl, by kernel_rfl, by kernel_rfl⟩ (Lib.laidMet.reads h2 (.tail _ (.head _))) (Lib.laidMet.reads h2 (.head _))
theorem Tabs.below {w w' : World} (h : Tabs w) (hb : Below w.heap.size w w') : Tabs w' :=
  ⟨fun c hc => (hb.cell (World.block_lt_of_cell? w _ (h.1 c hc))).trans (h.1 c hc), fun i hi => ⟨(hb.cell (World.block_lt_of_cell? w _ (h.2 i hi).1)).trans (h.2 i hi).1, (hb.cell (World.block_lt_of_cell? w _ (h.2 i hi).2)).trans (h.2 i hi).2⟩⟩

/-- A world that meets the condition: the settled one, the three variables laid. -/
noncomputable def laidWorld3 (os : Os) : World :=
  let w0 := laidWorld os
  let put (h : Array Obj) (g : Nat) (cs : Array Value) : Array Obj := h.modify g fun
    | .cells _ t frozen => .cells cs t frozen
    | o => o
  let h1 := put w0.heap 1 (Lib.firstTab.map fun z => Value.int .u8 z).toArray
  let h2 := put h1 2 ((List.range 16).flatMap fun i => [Value.int .u8 (Lib.accLo i), Value.int .u8 (Lib.accHi i)]).toArray
  { w0 with heap := h2 }
theorem laidWorld3_met (os : Os) (args : Array Value) : laidMetH Tryz.prog laid3 ((laidWorld3 os).forCall (fun _ _ => 0) ⟨#[], args, []⟩).memory := by
  refine laidMetH_of_parts ?_ (by kernel_rfl)
  rw [filt_no]
  exact (LaidIn.of_run (l := tabs2) [2, 1] 8 (by kernel_rfl) (by kernel_rfl) (by kernel_rfl) (by kernel_rfl)).met
end Go.Proofs.YtnohefaifbghiaaGreatDoor
end
section
/- utf8.ValidString at this program. -/
namespace Go.Proofs.YtnohefaifbghiaaGreatDoor
open Go.RowKit
set_option linter.unusedSimpArgs false
set_option linter.unusedVariables false
attribute [local irreducible] wpList wpQuiet wpStill Code.wp Exit.then Exit.inBlock bodyPost Calls Does Does0
theorem valid_ok (w : World) (s : ByteArray) (hs : s.size ≤ 16777216) (hT : Tabs w) : Ret Tryz.prog 39 #[.string s] w (fun v w' => v = .bool (Lib.validD s.data.toList) ∧ Below w.heap.size w w') :=
  Calls.mono (Tryz.utf8_ValidString s w (by omega) hT) (by rintro e w' ⟨rfl, hb⟩; exact ⟨_, rfl, rfl, hb⟩)
end Go.Proofs.YtnohefaifbghiaaGreatDoor
end
section
/- chars.may, walked. -/
namespace Go.Proofs.YtnohefaifbghiaaGreatDoor
open Go.RowKit
set_option linter.unusedSimpArgs false
set_option linter.unusedVariables false
attribute [local irreducible] wpList wpQuiet wpStill Code.wp Exit.then Exit.inBlock bodyPost Calls Does Does0

theorem may_ok (w : World) (s : ByteArray) (hT : Tabs w) : Ret Tryz.prog 26 #[.string s] w (fun v w' => ∃ n, MayR s n ∧ ((n = 0 ∧ v = .nilIface) ∨ (n ≠ 0 ∧ 1 ≤ n ∧ n ≤ 26 ∧ v = .iface 38 (.int .i64 n))) ∧ Below w.heap.size w w') := by
  refine enter1 Tryz.func26 rfl 14 rfl 15 rfl (fun a hF => ?_)
  by_cases hbig : (s.size : Int) > 1024
  · repeat (first | refine c_seq ?_ | refine c_block ?_ | refine c_region _ ?_ | refine wpList_nil ?_ | refine c_then ?_ | refine c_then_exit ?_ | refine c_then_ret ?_ | refine c_in ?_ | refine c_in_ret ?_ | refine c_in_hit ?_ | refine wp_skip ?_ | refine wp_exit ?_ | refine wp_ret ?_ | refine c_in_miss rfl ?_ | ((first | apply st hF | apply stg hF | apply s_step hF | apply s_stg hF); (first | exact d_move | exact d_assign | exact d_not | exact d_pickT | exact d_pickF | exact d_cmpT | exact d_cmpF | exact d_cmp | exact d_len (und _ _ rfl) | exact d_lens (und _ _ rfl) | exact d_makeI (con _ rfl)); clear hF; clear a; intro a hF) | ((first | apply stm hF | apply stu hF); clear hF; clear a; intro a hF) | (apply c_cond_t hF; exact rfl; first | exact rfl | assumption) | (apply c_cond_f hF; exact rfl; first | exact rfl | assumption) | refine s_nil ?_)
    exact ret1 hF rfl rfl ⟨5, .inl ⟨by omega, rfl⟩, .inr ⟨by decide, by decide, by decide, rfl⟩, Below.refl _ w⟩
  repeat (first | refine c_seq ?_ | refine c_block ?_ | refine c_region _ ?_ | refine wpList_nil ?_ | refine c_then ?_ | refine c_then_exit ?_ | refine c_then_ret ?_ | refine c_in ?_ | refine c_in_ret ?_ | refine c_in_hit ?_ | refine wp_skip ?_ | refine wp_exit ?_ | refine wp_ret ?_ | refine c_in_miss rfl ?_ | ((first | apply st hF | apply stg hF | apply s_step hF | apply s_stg hF); (first | exact d_move | exact d_assign | exact d_not | exact d_pickT | exact d_pickF | exact d_cmpT | exact d_cmpF | exact d_cmp | exact d_len (und _ _ rfl) | exact d_lens (und _ _ rfl) | exact d_makeI (con _ rfl)); clear hF; clear a; intro a hF) | ((first | apply stm hF | apply stu hF); clear hF; clear a; intro a hF) | (apply c_cond_t hF; exact rfl; first | exact rfl | assumption) | (apply c_cond_f hF; exact rfl; first | exact rfl | assumption) | refine s_nil ?_)
  refine stc hF (valid_ok w s (by omega) hT) cal39 ⟨rfl, trivial⟩ (k := fun a v w1 hR hF => ?_)
  obtain ⟨rfl, hb1⟩ := hR
  cases hv : Lib.validD s.data.toList with
  | false =>
    rw [hv] at hF
    repeat (first | refine c_seq ?_ | refine c_block ?_ | refine c_region _ ?_ | refine wpList_nil ?_ | refine c_then ?_ | refine c_then_exit ?_ | refine c_then_ret ?_ | refine c_in ?_ | refine c_in_ret ?_ | refine c_in_hit ?_ | refine wp_skip ?_ | refine wp_exit ?_ | refine wp_ret ?_ | refine c_in_miss rfl ?_ | ((first | apply st hF | apply stg hF | apply s_step hF | apply s_stg hF); (first | exact d_move | exact d_assign | exact d_not | exact d_pickT | exact d_pickF | exact d_cmpT | exact d_cmpF | exact d_cmp | exact d_len (und _ _ rfl) | exact d_lens (und _ _ rfl) | exact d_makeI (con _ rfl)); clear hF; clear a; intro a hF) | ((first | apply stm hF | apply stu hF); clear hF; clear a; intro a hF) | (apply c_cond_t hF; exact rfl; first | exact rfl | assumption) | (apply c_cond_f hF; exact rfl; first | exact rfl | assumption) | refine s_nil ?_)
    have hno : ¬ AllOk s := fun h => by
      have := (valid_iff s).2 (fun j hj => (h j hj).1)
      rw [hv] at this; cases this
    exact ret1 hF rfl rfl ⟨6, .inr ⟨by omega, .inr ⟨hno, rfl⟩⟩, .inr ⟨by decide, by decide, by decide, rfl⟩, hb1⟩
  | true =>
    rw [hv] at hF
    repeat (first | refine c_seq ?_ | refine c_block ?_ | refine c_region _ ?_ | refine wpList_nil ?_ | refine c_then ?_ | refine c_then_exit ?_ | refine c_then_ret ?_ | refine c_in ?_ | refine c_in_ret ?_ | refine c_in_hit ?_ | refine wp_skip ?_ | refine wp_exit ?_ | refine wp_ret ?_ | refine c_in_miss rfl ?_ | ((first | apply st hF | apply stg hF | apply s_step hF | apply s_stg hF); (first | exact d_move | exact d_assign | exact d_not | exact d_pickT | exact d_pickF | exact d_cmpT | exact d_cmpF | exact d_cmp | exact d_len (und _ _ rfl) | exact d_lens (und _ _ rfl) | exact d_makeI (con _ rfl)); clear hF; clear a; intro a hF) | ((first | apply stm hF | apply stu hF); clear hF; clear a; intro a hF) | (apply c_cond_t hF; exact rfl; first | exact rfl | assumption) | (apply c_cond_f hF; exact rfl; first | exact rfl | assumption) | refine s_nil ?_)
    refine stcg hF (contF_ok w1 s) cal40 ⟨rfl, rfl, trivial⟩ (k := fun a v w2 hR hF => ?_)
    obtain ⟨⟨b, rfl, h1, h2⟩, hb2⟩ := hR
    have hb := hb1.trans (hb2.mono hb1.size)
    cases b with
    | true =>
      repeat (first | refine c_seq ?_ | refine c_block ?_ | refine c_region _ ?_ | refine wpList_nil ?_ | refine c_then ?_ | refine c_then_exit ?_ | refine c_then_ret ?_ | refine c_in ?_ | refine c_in_ret ?_ | refine c_in_hit ?_ | refine wp_skip ?_ | refine wp_exit ?_ | refine wp_ret ?_ | refine c_in_miss rfl ?_ | ((first | apply st hF | apply stg hF | apply s_step hF | apply s_stg hF); (first | exact d_move | exact d_assign | exact d_not | exact d_pickT | exact d_pickF | exact d_cmpT | exact d_cmpF | exact d_cmp | exact d_len (und _ _ rfl) | exact d_lens (und _ _ rfl) | exact d_makeI (con _ rfl)); clear hF; clear a; intro a hF) | ((first | apply stm hF | apply stu hF); clear hF; clear a; intro a hF) | (apply c_cond_t hF; exact rfl; first | exact rfl | assumption) | (apply c_cond_f hF; exact rfl; first | exact rfl | assumption) | refine s_nil ?_)
      have hno : ¬ AllOk s := fun h => by
        obtain ⟨k, hk, hc⟩ := h1 rfl
        have := (h k hk).2
        rw [hc] at this; cases this
      exact ret1 hF rfl rfl ⟨6, .inr ⟨by omega, .inr ⟨hno, rfl⟩⟩, .inr ⟨by decide, by decide, by decide, rfl⟩, hb⟩
    | false =>
      repeat (first | refine c_seq ?_ | refine c_block ?_ | refine c_region _ ?_ | refine wpList_nil ?_ | refine c_then ?_ | refine c_then_exit ?_ | refine c_then_ret ?_ | refine c_in ?_ | refine c_in_ret ?_ | refine c_in_hit ?_ | refine wp_skip ?_ | refine wp_exit ?_ | refine wp_ret ?_ | refine c_in_miss rfl ?_ | ((first | apply st hF | apply stg hF | apply s_step hF | apply s_stg hF); (first | exact d_move | exact d_assign | exact d_not | exact d_pickT | exact d_pickF | exact d_cmpT | exact d_cmpF | exact d_cmp | exact d_len (und _ _ rfl) | exact d_lens (und _ _ rfl) | exact d_makeI (con _ rfl)); clear hF; clear a; intro a hF) | ((first | apply stm hF | apply stu hF); clear hF; clear a; intro a hF) | (apply c_cond_t hF; exact rfl; first | exact rfl | assumption) | (apply c_cond_f hF; exact rfl; first | exact rfl | assumption) | refine s_nil ?_)
      exact ret1 hF rfl rfl ⟨0, .inr ⟨by omega, .inl ⟨fun k hk => ⟨(valid_iff s).1 hv k hk, h2 rfl k hk⟩, rfl⟩⟩, .inl ⟨rfl, rfl⟩, hb⟩
end Go.Proofs.YtnohefaifbghiaaGreatDoor
end
section
/- A row of the call's own behind what leaves old memory. -/
namespace Go.Proofs.YtnohefaifbghiaaGreatDoor
open Go.RowKit
theorem own_belowB {w w' : World} {base : Nat} {e : TypeId} {s : Nat} {v : Value} {n : Nat} {xs : List Value} (h : w.ownsRow base e s v n xs) (hb : Below w.heap.size w w') : w'.ownsRow base e s v n xs :=
  own_keptB h (r := some w.heap.size) ⟨hb.os, hb.tape, hb.output, hb.size, fun k hk _ => hb.block k hk⟩ (fun k hk e => by
    have e := Option.some.inj e
    rcases h.2 with ⟨rfl, _⟩ | ⟨g, cap, cur, rfl, _, h1, _⟩
    · cases hk
    · simp only [Value.ownBlock, Option.some.injEq] at hk
      have := lt_at h1
      omega)
end Go.Proofs.YtnohefaifbghiaaGreatDoor
end
section
/- The library's strings.Builder at this program: one application each of the shelf's contracts. -/
namespace Go.Proofs
open Go.Shelf Go.RowKit
def Tryz.lays167_ren : Go.Shelf.Ren := ⟨fun | 167 => 25 | 240 => 38 | 276 => 45 | n => n, fun | 0 => 0 | 4 => 4 | 5 => 5 | 9 => 9 | 20 => 20 | 37 => 52 | 70 => 51 | 72 => 54 | 75 => 24 | 80 => 56 | 164 => 60 | n => n, fun | n => n⟩
theorem Tryz.lays167 : Go.Proofs.Lays.n167 Tryz.prog Tryz.lays167_ren := {
  mixed := by kernel_rfl
  f167 := Tryz.func25.trans (congrArg some (by kernel_rfl))
  f240 := Tryz.func38.trans (congrArg some (by kernel_rfl))
  f276 := Tryz.func45.trans (congrArg some (by kernel_rfl))
  t0 := Tryz.underlying0
  a0 := Tryz.isAgg0
  z0 := Tryz.sizeOf0
  v0 := Tryz.zeroValue0
  t4 := Tryz.underlying4
  a4 := Tryz.isAgg4
  z4 := Tryz.sizeOf4
  v4 := Tryz.zeroValue4
  t5 := Tryz.underlying5
  a5 := Tryz.isAgg5
  z5 := Tryz.sizeOf5
  v5 := Tryz.zeroValue5
  t9 := Tryz.underlying9
  a9 := Tryz.isAgg9
  z9 := Tryz.sizeOf9
  v9 := Tryz.zeroValue9
  t20 := Tryz.underlying20
  a20 := Tryz.isAgg20
  z20 := Tryz.sizeOf20
  v20 := Tryz.zeroValue20
  t37 := Tryz.underlying52
  a37 := Tryz.isAgg52
  z37 := Tryz.sizeOf52
  v37 := Tryz.zeroValue52
  t70 := Tryz.underlying51
  a70 := Tryz.isAgg51
  z70 := Tryz.sizeOf51
  v70 := Tryz.zeroValue51
  t72 := Tryz.underlying54
  a72 := Tryz.isAgg54
  z72 := Tryz.sizeOf54
  v72 := Tryz.zeroValue54
  t75 := Tryz.underlying24
  a75 := Tryz.isAgg24
  z75 := Tryz.sizeOf24
  v75 := Tryz.zeroValue24
  t164 := Tryz.underlying60
  a164 := Tryz.isAgg60
  z164 := Tryz.sizeOf60
  v164 := Tryz.zeroValue60 }
theorem Tryz.Builder_Extra_167 : Builder.Extra Tryz.prog Tryz.lays167_ren := {
  sizeBuilder := by kernel_rfl
  liesBuilder := by kernel_rfl
  t5 := Tryz.underlying5
  a5 := Tryz.isAgg5
  z5 := Tryz.sizeOf5
  v5 := Tryz.zeroValue5
  infoByte := by kernel_rfl
  cellsByte := by kernel_rfl
  sizeByte := by kernel_rfl
  neB5 := by decide }
theorem Tryz.Builder_WriteByte (B b : Nat) (bs : List Value) (c : Int) (w : World) (h : Lib.IsBuilder 54 5 B b bs w) (hlen : bs.length + 1 ≤ 140737488355328) (hBw : B ≤ w.heap.size) :
    Calls Tryz.prog 25 #[.pointer (some ⟨b, 0, none⟩), .int .u8 c] w fun e w' => e = .returned .nilIface ∧ (Lib.BuilderAt 54 5 B b (.pointer (some ⟨b, 0, none⟩)) (bs ++ [.int .u8 c]) w' ∧ Below B w w') := Any.Builder_WriteByte Tryz.lays167 Tryz.Builder_Extra_167 B b bs c w h hlen hBw
def Tryz.lays169_ren : Go.Shelf.Ren := ⟨fun | 169 => 27 | n => n, fun | 0 => 0 | 3 => 3 | 5 => 5 | 9 => 9 | 37 => 52 | 70 => 51 | 72 => 54 | 127 => 75 | n => n, fun | n => n⟩
theorem Tryz.lays169 : Go.Proofs.Lays.n169 Tryz.prog Tryz.lays169_ren := {
  mixed := by kernel_rfl
  f169 := Tryz.func27.trans (congrArg some (by kernel_rfl))
  t0 := Tryz.underlying0
  a0 := Tryz.isAgg0
  z0 := Tryz.sizeOf0
  v0 := Tryz.zeroValue0
  t3 := Tryz.underlying3
  a3 := Tryz.isAgg3
  z3 := Tryz.sizeOf3
  v3 := Tryz.zeroValue3
  t9 := Tryz.underlying9
  a9 := Tryz.isAgg9
  z9 := Tryz.sizeOf9
  v9 := Tryz.zeroValue9
  t37 := Tryz.underlying52
  a37 := Tryz.isAgg52
  z37 := Tryz.sizeOf52
  v37 := Tryz.zeroValue52
  t70 := Tryz.underlying51
  a70 := Tryz.isAgg51
  z70 := Tryz.sizeOf51
  v70 := Tryz.zeroValue51
  t72 := Tryz.underlying54
  a72 := Tryz.isAgg54
  z72 := Tryz.sizeOf54
  v72 := Tryz.zeroValue54
  t127 := Tryz.underlying75
  a127 := Tryz.isAgg75
  z127 := Tryz.sizeOf75
  v127 := Tryz.zeroValue75 }
theorem Tryz.Builder_Extra_169 : Builder.Extra Tryz.prog Tryz.lays169_ren := {
  sizeBuilder := by kernel_rfl
  liesBuilder := by kernel_rfl
  t5 := Tryz.underlying5
  a5 := Tryz.isAgg5
  z5 := Tryz.sizeOf5
  v5 := Tryz.zeroValue5
  infoByte := by kernel_rfl
  cellsByte := by kernel_rfl
  sizeByte := by kernel_rfl
  neB5 := by decide }
open Go.RowKit in
theorem Tryz.Builder_String_any_f (B b : Nat) (l : List UInt8) (w : World) (h : Lib.IsBuilderF 54 5 B b (Lib.byteCells l) w) (hBw : B ≤ w.heap.size) :
    Calls Tryz.prog 27 #[.pointer (some ⟨b, 0, none⟩)] w fun e w' => e = .returned (.string ⟨l.toArray⟩) ∧ (Lib.IsBuilderF 54 5 B b (Lib.byteCells l) w' ∧ Below B w w') := Any.Builder_String_any_f Tryz.lays169 Tryz.Builder_Extra_169 B b l w h hBw
end Go.Proofs
end
