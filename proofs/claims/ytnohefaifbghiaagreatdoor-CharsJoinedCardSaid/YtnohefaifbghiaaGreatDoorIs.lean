/- errors.Is over two numbers of errors: they are the same, or not. -/
import Derived.Test.YtnohefaifbghiaaGreatDoorChecked
import Derived.Test.YtnohefaifbghiaaGreatDoorFacts
import Derived.WalkKit
import Derived.LaidEql
import Derived.Stop.Asserts
import Derived.RowKitTokens
import Derived.Lib.IfaceEq
namespace Go.Proofs.YtnohefaifbghiaaGreatDoor
open Go.RowKit Go.Extern.Stop Go.Stop Go.Extern

theorem isTypeOf (v : Value) (w : World) : (Extern.ReflectliteType.typeOf #[.iface 38 v]).run Tryz.prog w = .ok (.iface 94 (.agg #[.pointer (some ⟨4, 38, none⟩)])) w := by kernel_rfl
theorem isComparable (w : World) : (callFunc 106 #[.agg #[.pointer (some ⟨4, 38, none⟩)]]).run Tryz.prog w = .ok (.value (.bool true)) w := by kernel_rfl
theorem isMethodComparable (v : Value) (w : World) : (Go.method 313 94 v "Comparable").run Tryz.prog w = .ok (106, v) w := by kernel_rfl
theorem isCompE : (Tryz.prog.info? 38).map (·.comparable) = some true := by kernel_rfl
theorem noIsE (v : Value) (xT : TypeId) (w : World) : (Instr.typeAssert (.iface 38 v) xT 106 true).run Tryz.prog w = .ok (.tuple #[.nilIface, .bool false]) w := run_typeAssert_lacksB Tryz.underlying106 (by kernel_rfl) (by kernel_rfl) v xT w
theorem noUnwrapE (v : Value) (xT : TypeId) (w : World) : (Instr.typeAssert (.iface 38 v) xT 101 true).run Tryz.prog w = .ok (.tuple #[.nilIface, .bool false]) w := run_typeAssert_lacksB Tryz.underlying101 (by kernel_rfl) (by kernel_rfl) v xT w
theorem noUnwrapsE (v : Value) (xT : TypeId) (w : World) : (Instr.typeAssert (.iface 38 v) xT 103 true).run Tryz.prog w = .ok (.tuple #[.nilIface, .bool false]) w := run_typeAssert_lacksB Tryz.underlying103 (by kernel_rfl) (by kernel_rfl) v xT w

theorem is_calls (a b : Int) (w : World) :
    Calls Tryz.prog 22 #[.iface 38 (.int .i64 a), .iface 38 (.int .i64 b)] w fun e w' => e = .returned (.bool (a == b)) ∧ w' = w := by
  have h8 := @run_callFunc_extern Tryz.prog 36 _ Extern.ReflectliteType.typeOf Tryz.func36 (by kernel_rfl) (by kernel_rfl) (by kernel_rfl) (by kernel_rfl)
  have tT := isTypeOf
  have cT := isComparable
  have mR := isMethodComparable
  have nE := noIsE
  have uE := noUnwrapE
  have vE := noUnwrapsE
  have heq := Go.Lib.run_eql_iface_int (P := Tryz.prog) w (t := 24) (tx := 38) (k := .i64) a b Tryz.underlying24 isCompE Tryz.underlying38
  cases hab : (a == b) with
  | true =>
    rw [hab] at heq
    go_enter Tryz.func22, Tryz.ntmps22
    go_wp2
    refine wp_loop_rounds 1 ?_
    rw [rounds_succ]
    go_wp2
    go_ret
    exact ⟨rfl, rfl⟩
  | false =>
    rw [hab] at heq
    go_enter Tryz.func22, Tryz.ntmps22
    go_wp2
    refine wp_loop_rounds 1 ?_
    rw [rounds_succ]
    go_wp2
    go_ret
    exact ⟨rfl, rfl⟩
theorem is_ok (w : World) (a b : Int) : Ret Tryz.prog 22 #[.iface 38 (.int .i64 a), .iface 38 (.int .i64 b)] w (fun v w' => v = .bool (a == b) ∧ w' = w) :=
  Calls.mono (is_calls a b w) fun e w' h => ⟨_, h.1, rfl, h.2⟩
end Go.Proofs.YtnohefaifbghiaaGreatDoor
