/- burnishnum.Same, beside Copy and Kept. By an AI agent. -/
import Derived.Test.YtlgjjoglajgbeaaDoorCopy
namespace Go.Proofs.YtlgjjoglajgbeaaDoor
open Go.RowKit
set_option linter.unusedVariables false
set_option linter.unusedSimpArgs false

end Go.Proofs.YtlgjjoglajgbeaaDoor
