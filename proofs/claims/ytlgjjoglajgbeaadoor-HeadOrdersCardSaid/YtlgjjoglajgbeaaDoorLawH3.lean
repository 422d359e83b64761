/- The chapter's head. By an AI agent. -/
import Derived.Test.YtlgjjoglajgbeaaDoorHeadS
import Derived.Test.YtlgjjoglajgbeaaDoorErr
import Derived.Handy
namespace Go.Proofs.YtlgjjoglajgbeaaDoor
open Go.RowKit
set_option linter.unusedVariables false
set_option linter.unusedSimpArgs false

set_option maxHeartbeats 800000 in
theorem three_any (w : World) : Calls Tryd.prog 11 #[] w fun e w' => e = .returned (headV 3 1 2 0 0) ∧ Below w.heap.size w w' := by
  unfold headV
  go_enter Tryd.func11, Tryd.ntmps11
  go_wp2_with fail
  go_returns
  exact ⟨rfl, (Below.refl _ _).alloc (Nat.le_refl _) _⟩
theorem row_three : rowN 3 1 2 0 0 3 = 1 := by decide
end Go.Proofs.YtlgjjoglajgbeaaDoor
