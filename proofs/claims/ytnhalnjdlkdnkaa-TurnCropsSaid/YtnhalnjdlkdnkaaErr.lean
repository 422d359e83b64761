/- Errors as numbers: the walks of burnishnum.Num, Is. By an AI agent. -/
import Derived.Test.YtnhalnjdlkdnkaaProg
import Derived.Test.YtnhalnjdlkdnkaaLib
namespace Go.Proofs.Ytnhalnjdlkdnkaa
open Go.RowKit
set_option linter.unusedVariables false
set_option linter.unusedSimpArgs false

/-- an error by its number; 0: none -/
def errV (n : Int) : Value := if n = 0 then .nilIface else .iface 47 (.int .i64 n)
theorem errV_zero : errV 0 = .nilIface := rfl
theorem errV_some {n : Int} (h : n ≠ 0) : errV n = .iface 47 (.int .i64 n) := if_neg h

theorem assert_errno (n : Int) (w : World) : (Instr.typeAssert (.iface 47 (.int .i64 n)) 42 47 true).run Try.prog w = .ok (.tuple #[.int .i64 n, .bool true]) w := by kernel_rfl
set_option maxHeartbeats 800000 in
theorem num_any (n : Int) (w : World) : Calls Try.prog 21 #[errV n] w fun e w' => e = .returned (.int .i64 n) ∧ w = w' := by
  by_cases h : n = 0
  · subst h
    rw [errV_zero]
    go_enter Try.func21, Try.ntmps21
    go_wp2
    go_ret
    exact ⟨rfl, rfl⟩
  · rw [errV_some h]
    have e0 : (n == 0) = false := by rw [beq_eq_false_iff_ne]; exact h
    have ta := assert_errno n
    clear h
    go_enter Try.func21, Try.ntmps21
    go_wp2
    go_ret
    exact ⟨rfl, rfl⟩
theorem is_any (n m : Int) (w : World) : Calls Try.prog 18 #[errV n, .int .i64 m] w fun e w' => e = .returned (.bool (n == m)) ∧ w = w' := by
  go_enter Try.func18, Try.ntmps18
  go_wp2_with fail
  refine (num_any n _).mono ?_; rintro e w' ⟨rfl, rfl⟩
  go_wp2_with fail
  go_ret
  exact ⟨rfl, rfl⟩
end Go.Proofs.Ytnhalnjdlkdnkaa
