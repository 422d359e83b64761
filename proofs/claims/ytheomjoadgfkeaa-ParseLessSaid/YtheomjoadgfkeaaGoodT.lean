/- The walk of burnishref06.Good. By an AI agent. -/
import Derived.Test.YtheomjoadgfkeaaRefSym
namespace Go.Proofs.Ytheomjoadgfkeaa
open Go.RowKit
set_option linter.unusedVariables false
set_option linter.unusedSimpArgs false

def goodT (a b : Int) : Bool := if a = 0 then decide (0 ≤ b ∧ b < 256) else decide (3 ≤ a ∧ a ≤ 258 ∧ 1 ≤ b ∧ b ≤ 32768)
set_option maxHeartbeats 1600000 in
theorem goodT_any (a b : Int) (w : World) : Calls Try.prog 9 #[.agg #[.int .i64 a, .int .i64 b]] w fun e w' => e = .returned (.bool (goodT a b)) ∧ Below w.heap.size w w' := by
  have c : ((a == 0) = true ∧ decide (0 ≤ b) = false ∧ goodT a b = false) ∨ ((a == 0) = true ∧ decide (0 ≤ b) = true ∧ decide (b < 256) = false ∧ goodT a b = false) ∨ ((a == 0) = true ∧ decide (0 ≤ b) = true ∧ decide (b < 256) = true ∧ goodT a b = true) ∨
      ((a == 0) = false ∧ decide (3 ≤ a) = false ∧ goodT a b = false) ∨ ((a == 0) = false ∧ decide (3 ≤ a) = true ∧ decide (a ≤ 258) = false ∧ goodT a b = false) ∨
      ((a == 0) = false ∧ decide (3 ≤ a) = true ∧ decide (a ≤ 258) = true ∧ decide (1 ≤ b) = false ∧ goodT a b = false) ∨
      ((a == 0) = false ∧ decide (3 ≤ a) = true ∧ decide (a ≤ 258) = true ∧ decide (1 ≤ b) = true ∧ decide (b ≤ 32768) = false ∧ goodT a b = false) ∨
      ((a == 0) = false ∧ decide (3 ≤ a) = true ∧ decide (a ≤ 258) = true ∧ decide (1 ≤ b) = true ∧ decide (b ≤ 32768) = true ∧ goodT a b = true) := by
    unfold goodT
    by_cases h : a = 0
    · simp only [beq_iff_eq, beq_eq_false_iff_ne, if_pos h, decide_eq_true_eq, decide_eq_false_iff_not]
      omega
    · simp only [beq_iff_eq, beq_eq_false_iff_ne, if_neg h, decide_eq_true_eq, decide_eq_false_iff_not]
      omega
  rcases c with ⟨h1, h2, h⟩ | ⟨h1, h2, h3, h⟩ | ⟨h1, h2, h3, h⟩ | ⟨h1, h2, h⟩ | ⟨h1, h2, h3, h⟩ | ⟨h1, h2, h3, h4, h⟩ | ⟨h1, h2, h3, h4, h5, h⟩ | ⟨h1, h2, h3, h4, h5, h⟩
  all_goals
    rw [h]
    clear h
    go_enter Try.func9, Try.ntmps9
    go_wp2_with fail
    go_ret
    exact ⟨rfl, (Below.refl _ _).alloc (Nat.le_refl _) _⟩
end Go.Proofs.Ytheomjoadgfkeaa
