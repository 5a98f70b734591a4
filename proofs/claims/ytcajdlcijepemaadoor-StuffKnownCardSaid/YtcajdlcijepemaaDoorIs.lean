/- errors.Is over two numbers of errors: they are the same, or not. -/
import Derived.Test.YtcajdlcijepemaaDoorChecked
import Derived.Test.YtcajdlcijepemaaDoorFacts
import Derived.WalkKit
import Derived.LaidEql
import Derived.Stop.Asserts
import Derived.RowKitTokens
import Derived.Lib.IfaceEq
namespace Go.Proofs.YtcajdlcijepemaaDoor
open Go.RowKit Go.Extern.Stop Go.Stop Go.Extern

theorem isTypeOf (v : Value) (w : World) : (Extern.ReflectliteType.typeOf #[.iface 41 v]).run Tryd.prog w = .ok (.iface 67 (.agg #[.pointer (some ⟨1, 41, none⟩)])) w := by kernel_rfl
theorem isComparable (w : World) : (callFunc 53 #[.agg #[.pointer (some ⟨1, 41, none⟩)]]).run Tryd.prog w = .ok (.value (.bool true)) w := by kernel_rfl
theorem isMethodComparable (v : Value) (w : World) : (Go.method 212 67 v "Comparable").run Tryd.prog w = .ok (53, v) w := by kernel_rfl
theorem isCompE : (Tryd.prog.info? 41).map (·.comparable) = some true := by kernel_rfl
theorem noIsE (v : Value) (xT : TypeId) (w : World) : (Instr.typeAssert (.iface 41 v) xT 79 true).run Tryd.prog w = .ok (.tuple #[.nilIface, .bool false]) w := run_typeAssert_lacksB Tryd.underlying79 (by kernel_rfl) (by kernel_rfl) v xT w
theorem noUnwrapE (v : Value) (xT : TypeId) (w : World) : (Instr.typeAssert (.iface 41 v) xT 74 true).run Tryd.prog w = .ok (.tuple #[.nilIface, .bool false]) w := run_typeAssert_lacksB Tryd.underlying74 (by kernel_rfl) (by kernel_rfl) v xT w
theorem noUnwrapsE (v : Value) (xT : TypeId) (w : World) : (Instr.typeAssert (.iface 41 v) xT 76 true).run Tryd.prog w = .ok (.tuple #[.nilIface, .bool false]) w := run_typeAssert_lacksB Tryd.underlying76 (by kernel_rfl) (by kernel_rfl) v xT w

theorem is_calls (a b : Int) (w : World) :
    Calls Tryd.prog 19 #[.iface 41 (.int .i64 a), .iface 41 (.int .i64 b)] w fun e w' => e = .returned (.bool (a == b)) ∧ w' = w := by
  have h8 := @run_callFunc_extern Tryd.prog 24 _ Extern.ReflectliteType.typeOf Tryd.func24 (by kernel_rfl) (by kernel_rfl) (by kernel_rfl) (by kernel_rfl)
  have tT := isTypeOf
  have cT := isComparable
  have mR := isMethodComparable
  have nE := noIsE
  have uE := noUnwrapE
  have vE := noUnwrapsE
  have heq := Go.Lib.run_eql_iface_int (P := Tryd.prog) w (t := 27) (tx := 41) (k := .i64) a b Tryd.underlying27 isCompE Tryd.underlying41
  cases hab : (a == b) with
  | true =>
    rw [hab] at heq
    go_enter Tryd.func19, Tryd.ntmps19
    go_wp2
    refine wp_loop_rounds 1 ?_
    rw [rounds_succ]
    go_wp2
    go_ret
    exact ⟨rfl, rfl⟩
  | false =>
    rw [hab] at heq
    go_enter Tryd.func19, Tryd.ntmps19
    go_wp2
    refine wp_loop_rounds 1 ?_
    rw [rounds_succ]
    go_wp2
    go_ret
    exact ⟨rfl, rfl⟩
theorem is_ok (w : World) (a b : Int) : Ret Tryd.prog 19 #[.iface 41 (.int .i64 a), .iface 41 (.int .i64 b)] w (fun v w' => v = .bool (a == b) ∧ w' = w) :=
  Calls.mono (is_calls a b w) fun e w' h => ⟨_, h.1, rfl, h.2⟩
end Go.Proofs.YtcajdlcijepemaaDoor
