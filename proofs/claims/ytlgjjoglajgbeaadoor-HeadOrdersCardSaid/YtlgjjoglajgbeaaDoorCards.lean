/-
  DERIVED. GIVEN WITH THE SEED: THE CARDS: each row of YtlgjjoglajgbeaaDoorRows.lean that lists a variable, with what it lists TIED to the program's text (the seventh form; the later family's looks); each row that meets fmt, with fmt's text TOLD by the authors' own Lean function (tested against real Go, not proved from fmt's source: count such statements apart). THE CARD IS WHAT COUNTS. Prove the row's statement (the work); the ties are given (YtlgjjoglajgbeaaDoorTie.lean); close each card by the builder's one call (the guide's Derived/Test/ToyasCard.lean, 'card_holds'). Laid BY PROGRAM, IN A SANDBOX (cutbox-door.mjs). By AI agents, Wed Nov 11 2026. No macro, syntax, notation, axiom, sorry.
-/
import Derived.Test.YtlgjjoglajgbeaaDoorRows
import GoSem.ClaimSeven
namespace Go.Proofs.YtlgjjoglajgbeaaDoor
namespace Rows

/-- THE TIED CARD OF 'burnishlaw13.HeadOrders'. -/
def headOrdersCard : Claim7 := { stood := { row := headOrdersRow, standIns := [], harness := (true, "bc66ce22c1ff0e523ab089ded05e391ab845fdf8181a16dc9309db73d2a0fe92"), looks := true }, kinds := [], alts := [], laidByText := true, laidKinds := [.data, .pinned], laidTests := true, laidLooks := .later }
def HeadOrdersCardSaid : Prop := Claim7.holds Tryd.pinned (.plain (OpenSpec.ofChange headOrdersSpec)) headOrdersCard

/-- THE SECOND FORM's CARD OF 'burnishlaw13.HeadOrders'. -/
def headOrdersUptoCard : Claim7 := { stood := { row := headOrdersUptoRow, standIns := [], harness := (true, "bc66ce22c1ff0e523ab089ded05e391ab845fdf8181a16dc9309db73d2a0fe92"), looks := true }, kinds := [], alts := [], laidByText := true, laidKinds := [.data, .pinned], laidTests := true, laidLooks := .later }
def HeadOrdersUptoCardSaid : Prop := Claim7.holds Tryd.pinned (.plain (OpenSpec.upto headOrdersSpec)) headOrdersUptoCard
end Rows
end Go.Proofs.YtlgjjoglajgbeaaDoor
