/- Laid together by a program of mine: IsF. -/
import Derived.Test.YtnohefaifbghiaaGreatDoorSumLawKnownS16
set_option linter.unusedSimpArgs false
set_option linter.unusedVariables false
section
/- errors.Is over a fault: an error with a place, which wraps its number. busbarkit.Num of it. -/
namespace Go.Proofs.YtnohefaifbghiaaGreatDoor
open Go.RowKit Go.Extern.Stop Go.Stop Go.Extern

/-- A fault, as an error. -/
def fltV (n x y : Int) : Value := .iface 47 (.agg #[.int .i64 n, .int .i64 x, .int .i64 y])

theorem noIsF (v : Value) (xT : TypeId) (w : World) : (Instr.typeAssert (.iface 47 v) xT 106 true).run Tryz.prog w = .ok (.tuple #[.nilIface, .bool false]) w := run_typeAssert_lacksB Tryz.underlying106 (by kernel_rfl) (by kernel_rfl) v xT w
theorem unwrapF (v : Value) (xT : TypeId) (w : World) : (Instr.typeAssert (.iface 47 v) xT 101 true).run Tryz.prog w = .ok (.tuple #[.iface 47 v, .bool true]) w := run_typeAssert_hasB Tryz.underlying101 (by kernel_rfl) v xT w
theorem isMethodUnwrap (v : Value) (w : World) : (Go.method 313 47 v "Unwrap").run Tryz.prog w = .ok (99, v) w := by kernel_rfl
theorem isNeF (v u : Value) (w : World) : (binOp .eql 24 (.iface 47 v) (.iface 38 u)).run Tryz.prog w = .ok (.bool false) w := run_eql_iface_types _ _ v u Tryz.underlying24 (by decide) w

section
open Go.RowKit
set_option linter.unusedSimpArgs false
set_option linter.unusedVariables false
attribute [local irreducible] wpList wpQuiet wpStill Code.wp Exit.then Exit.inBlock bodyPost Calls Does Does0
theorem unwrapF_ok (w : World) (n x y : Int) : Ret Tryz.prog 99 #[.agg #[.int .i64 n, .int .i64 x, .int .i64 y]] w (fun v w' => v = .iface 38 (.int .i64 n) ∧ w' = w.alloc (.cells #[.int .i64 n, .int .i64 x, .int .i64 y] 47)) := by
  refine enter1 Tryz.func99 rfl 5 rfl 6 rfl (fun a hF => ?_)
  repeat (first | refine c_seq ?_ | refine c_block ?_ | refine c_region _ ?_ | refine wpList_nil ?_ | refine c_then ?_ | refine c_then_exit ?_ | refine c_then_ret ?_ | refine c_in ?_ | refine c_in_ret ?_ | refine c_in_hit ?_ | refine wp_skip ?_ | refine wp_exit ?_ | refine wp_ret ?_ | refine c_in_miss rfl ?_ | ((first | apply st hF | apply stg hF | apply s_step hF | apply s_stg hF); (first | exact d_assign | exact d_fieldAddr (fld _ _ _ _ rfl) (isz _ _ rfl) | exact d_makeI (con _ rfl)); clear hF; clear a; intro a hF) | ((first | apply stm hF | apply stu hF); clear hF; clear a; intro a hF) | (apply c_cond_t hF; exact rfl; first | exact rfl | assumption) | (apply c_cond_f hF; exact rfl; first | exact rfl | assumption) | refine s_nil ?_)
  refine st hF (d_box rfl) rfl (fun a hF => ?_)
  have c0 : (w.alloc (.cells (Value.agg #[.int .i64 n, .int .i64 x, .int .i64 y]).cells 47)).cell? ⟨w.heap.size, 0, none⟩ = some (.int .i64 n) := cell_at (heap_alloc_new w _) rfl
  repeat (first | refine c_seq ?_ | refine c_block ?_ | refine c_region _ ?_ | refine wpList_nil ?_ | refine c_then ?_ | refine c_then_exit ?_ | refine c_then_ret ?_ | refine c_in ?_ | refine c_in_ret ?_ | refine c_in_hit ?_ | refine wp_skip ?_ | refine wp_exit ?_ | refine wp_ret ?_ | refine c_in_miss rfl ?_ | ((first | apply st hF | apply stg hF | apply s_step hF | apply s_stg hF); (first | exact d_assign | exact d_fieldAddr (fld _ _ _ _ rfl) (isz _ _ rfl) | exact d_makeI (con _ rfl) | exact d_load (und _ _ rfl) c0); clear hF; clear a; intro a hF) | ((first | apply stm hF | apply stu hF); clear hF; clear a; intro a hF) | (apply c_cond_t hF; exact rfl; first | exact rfl | assumption) | (apply c_cond_f hF; exact rfl; first | exact rfl | assumption) | refine s_nil ?_)
  exact ret1 hF rfl rfl ⟨rfl, rfl⟩
end

set_option maxRecDepth 100000 in
set_option maxHeartbeats 8000000 in
theorem isF_calls (n x y b : Int) (w : World) :
    Calls Tryz.prog 22 #[fltV n x y, .iface 38 (.int .i64 b)] w fun e w' => e = .returned (.bool (n == b)) ∧ w' = w.alloc (.cells #[.int .i64 n, .int .i64 x, .int .i64 y] 47) := by
  unfold fltV
  have h8 := @run_callFunc_extern Tryz.prog 36 _ Extern.ReflectliteType.typeOf Tryz.func36 (by kernel_rfl) (by kernel_rfl) (by kernel_rfl) (by kernel_rfl)
  have tT := isTypeOf
  have cT := isComparable
  have mR := isMethodComparable
  have nE := noIsE
  have uE := noUnwrapE
  have vE := noUnwrapsE
  have nF := noIsF
  have uF := unwrapF
  have mU := isMethodUnwrap
  have qF := isNeF
  have heq := fun w => Go.Lib.run_eql_iface_int (P := Tryz.prog) w (t := 24) (tx := 38) (k := .i64) n b Tryz.underlying24 isCompE Tryz.underlying38
  cases hab : (n == b) with
  | true =>
    rw [hab] at heq
    go_enter Tryz.func22, Tryz.ntmps22
    go_wp2
    refine wp_loop_rounds 2 ?_
    rw [rounds_succ]
    go_wp2_with (first | (go_at_call 99; refine Calls.mono (unwrapF_ok _ n x y) ?_; rintro e w' ⟨v, rfl, rfl, rfl⟩) | go_in)
    rw [rounds_succ]
    go_wp2
    go_ret
    exact ⟨rfl, rfl⟩
  | false =>
    rw [hab] at heq
    go_enter Tryz.func22, Tryz.ntmps22
    go_wp2
    refine wp_loop_rounds 2 ?_
    rw [rounds_succ]
    go_wp2_with (first | (go_at_call 99; refine Calls.mono (unwrapF_ok _ n x y) ?_; rintro e w' ⟨v, rfl, rfl, rfl⟩) | go_in)
    rw [rounds_succ]
    go_wp2
    go_ret
    exact ⟨rfl, rfl⟩
theorem isF_ok (w : World) (n x y b : Int) : Ret Tryz.prog 22 #[fltV n x y, .iface 38 (.int .i64 b)] w (fun v w' => v = .bool (n == b) ∧ Below w.heap.size w w') :=
  Calls.mono (isF_calls n x y b w) fun e w' h => ⟨_, h.1, rfl, by rw [h.2]; exact (Below.refl _ w).grown (World.grownBy_alloc _ _ none) (Nat.le_refl _) (fun k hk => by cases hk)⟩
end Go.Proofs.YtnohefaifbghiaaGreatDoor
end
