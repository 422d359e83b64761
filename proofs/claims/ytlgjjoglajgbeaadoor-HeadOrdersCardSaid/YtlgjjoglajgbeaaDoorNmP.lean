/- Names of four letters, plain. By an AI agent. -/
import Derived.Test.YtlgjjoglajgbeaaDoorProg
import Derived.Test.YtlgjjoglajgbeaaDoorLib
namespace Go.Proofs.YtlgjjoglajgbeaaDoor
set_option linter.unusedVariables false

def smallU (c : UInt8) : Bool := decide (97 ≤ c.toNat) && decide (c.toNat ≤ 122)
def letterU (c : UInt8) : Bool := smallU c || (decide (65 ≤ c.toNat) && decide (c.toNat ≤ 90))
def namedB (nm : List UInt8) : Bool := decide (nm.length = 4) && nm.all letterU
end Go.Proofs.YtlgjjoglajgbeaaDoor
