/- burnishnum.Same, beside Copy and Kept. By an AI agent. -/
import Derived.Test.YtlljooncoingnaaCopy
namespace Go.Proofs.Ytlljooncoingnaa
open Go.RowKit
set_option linter.unusedVariables false
set_option linter.unusedSimpArgs false

set_option maxHeartbeats 800000 in
theorem same_any (v v2 : Value) (l l2 : List UInt8) (w : World) (hb : Bs w v l) (hb2 : Bs w v2 l2) :
    Calls Try.prog 27 #[v, v2] w fun e w' => e = .returned (.bool (decide (l = l2))) ∧ w = w' := by
  have s1 := run_str (P := Try.prog) w 22 5 9 Try.underlying22 Try.underlying5 Try.underlying9 hb
  have s2 := run_str (P := Try.prog) w 22 5 9 Try.underlying22 Try.underlying5 Try.underlying9 hb2
  go_enter Try.func27, Try.ntmps27
  go_wp2
  go_ret
  refine ⟨rb ?_, rfl⟩
  show ((strOf l).toList == (strOf l2).toList) = _
  rw [strOf_toList, strOf_toList]
  exact beq_dec l l2
end Go.Proofs.Ytlljooncoingnaa
