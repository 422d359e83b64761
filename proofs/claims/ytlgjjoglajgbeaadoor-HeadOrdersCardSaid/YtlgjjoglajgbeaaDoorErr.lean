/- Errors as numbers: the walks of burnishnum.Num, Is. By an AI agent. -/
import Derived.Test.YtlgjjoglajgbeaaDoorProg
import Derived.Test.YtlgjjoglajgbeaaDoorLib
namespace Go.Proofs.YtlgjjoglajgbeaaDoor
open Go.RowKit
set_option linter.unusedVariables false
set_option linter.unusedSimpArgs false

/-- an error by its number; 0: none -/
def errV (n : Int) : Value := if n = 0 then .nilIface else .iface 42 (.int .i64 n)
theorem errV_zero : errV 0 = .nilIface := rfl
theorem errV_some {n : Int} (h : n ≠ 0) : errV n = .iface 42 (.int .i64 n) := if_neg h

theorem assert_errno (n : Int) (w : World) : (Instr.typeAssert (.iface 42 (.int .i64 n)) 31 42 true).run Tryd.prog w = .ok (.tuple #[.int .i64 n, .bool true]) w := by kernel_rfl
set_option maxHeartbeats 800000 in
theorem num_any (n : Int) (w : World) : Calls Tryd.prog 9 #[errV n] w fun e w' => e = .returned (.int .i64 n) ∧ w = w' := by
  by_cases h : n = 0
  · subst h
    rw [errV_zero]
    go_enter Tryd.func9, Tryd.ntmps9
    go_wp2
    go_ret
    exact ⟨rfl, rfl⟩
  · rw [errV_some h]
    have e0 : (n == 0) = false := by rw [beq_eq_false_iff_ne]; exact h
    have ta := assert_errno n
    clear h
    go_enter Tryd.func9, Tryd.ntmps9
    go_wp2
    go_ret
    exact ⟨rfl, rfl⟩
end Go.Proofs.YtlgjjoglajgbeaaDoor
