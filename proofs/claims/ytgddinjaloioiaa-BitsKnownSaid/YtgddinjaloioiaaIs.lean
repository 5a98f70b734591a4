/- errors.Is over two numbers of errors: they are the same, or not. -/
import Derived.Test.YtgddinjaloioiaaChecked
import Derived.Test.YtgddinjaloioiaaFacts
import Derived.WalkKit
import Derived.LaidEql
import Derived.Stop.Asserts
import Derived.RowKitTokens
import Derived.Lib.IfaceEq
namespace Go.Proofs.Ytgddinjaloioiaa
open Go.RowKit Go.Extern.Stop Go.Stop Go.Extern

theorem isTypeOf (v : Value) (w : World) : (Extern.ReflectliteType.typeOf #[.iface 46 v]).run Try.prog w = .ok (.iface 57 (.agg #[.pointer (some ⟨0, 46, none⟩)])) w := by kernel_rfl
theorem isComparable (w : World) : (callFunc 44 #[.agg #[.pointer (some ⟨0, 46, none⟩)]]).run Try.prog w = .ok (.value (.bool true)) w := by kernel_rfl
theorem isMethodComparable (v : Value) (w : World) : (Go.method 201 57 v "Comparable").run Try.prog w = .ok (44, v) w := by kernel_rfl
theorem isCompE : (Try.prog.info? 46).map (·.comparable) = some true := by kernel_rfl
theorem noIsE (v : Value) (xT : TypeId) (w : World) : (Instr.typeAssert (.iface 46 v) xT 59 true).run Try.prog w = .ok (.tuple #[.nilIface, .bool false]) w := run_typeAssert_lacksB Try.underlying59 (by kernel_rfl) (by kernel_rfl) v xT w
theorem noUnwrapE (v : Value) (xT : TypeId) (w : World) : (Instr.typeAssert (.iface 46 v) xT 62 true).run Try.prog w = .ok (.tuple #[.nilIface, .bool false]) w := run_typeAssert_lacksB Try.underlying62 (by kernel_rfl) (by kernel_rfl) v xT w
theorem noUnwrapsE (v : Value) (xT : TypeId) (w : World) : (Instr.typeAssert (.iface 46 v) xT 64 true).run Try.prog w = .ok (.tuple #[.nilIface, .bool false]) w := run_typeAssert_lacksB Try.underlying64 (by kernel_rfl) (by kernel_rfl) v xT w

theorem is_calls (a b : Int) (w : World) :
    Calls Try.prog 22 #[.iface 46 (.int .i64 a), .iface 46 (.int .i64 b)] w fun e w' => e = .returned (.bool (a == b)) ∧ w' = w := by
  have h8 := @run_callFunc_extern Try.prog 23 _ Extern.ReflectliteType.typeOf Try.func23 (by kernel_rfl) (by kernel_rfl) (by kernel_rfl) (by kernel_rfl)
  have tT := isTypeOf
  have cT := isComparable
  have mR := isMethodComparable
  have nE := noIsE
  have uE := noUnwrapE
  have vE := noUnwrapsE
  have heq := Go.Lib.run_eql_iface_int (P := Try.prog) w (t := 27) (tx := 46) (k := .i64) a b Try.underlying27 isCompE Try.underlying46
  cases hab : (a == b) with
  | true =>
    rw [hab] at heq
    go_enter Try.func22, Try.ntmps22
    go_wp2
    refine wp_loop_rounds 1 ?_
    rw [rounds_succ]
    go_wp2
    go_ret
    exact ⟨rfl, rfl⟩
  | false =>
    rw [hab] at heq
    go_enter Try.func22, Try.ntmps22
    go_wp2
    refine wp_loop_rounds 1 ?_
    rw [rounds_succ]
    go_wp2
    go_ret
    exact ⟨rfl, rfl⟩
theorem is_ok (w : World) (a b : Int) : Ret Try.prog 22 #[.iface 46 (.int .i64 a), .iface 46 (.int .i64 b)] w (fun v w' => v = .bool (a == b) ∧ w' = w) :=
  Calls.mono (is_calls a b w) fun e w' h => ⟨_, h.1, rfl, h.2⟩
end Go.Proofs.Ytgddinjaloioiaa
