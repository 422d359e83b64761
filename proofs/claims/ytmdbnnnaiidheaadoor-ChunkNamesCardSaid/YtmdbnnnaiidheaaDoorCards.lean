/-
  DERIVED. GIVEN WITH THE SEED: THE CARDS: each row of YtmdbnnnaiidheaaDoorRows.lean that lists a variable, with what it lists TIED to the program's text (the seventh form; the later family's looks); each row that meets fmt, with fmt's text TOLD by the authors' own Lean function (tested against real Go, not proved from fmt's source: count such statements apart). THE CARD IS WHAT COUNTS. Prove the row's statement (the work); the ties are given (YtmdbnnnaiidheaaDoorTie.lean); close each card by the builder's one call (the guide's Derived/Test/ToyasCard.lean, 'card_holds'). Laid BY PROGRAM, IN A SANDBOX (cutbox-door.mjs). By AI agents, Wed Nov 11 2026. No macro, syntax, notation, axiom, sorry.
-/
import Derived.Test.YtmdbnnnaiidheaaDoorRows
import GoSem.ClaimSeven
namespace Go.Proofs.YtmdbnnnaiidheaaDoor
namespace Rows

/-- THE TIED CARD OF 'burnishlaw12.ChunkNames'. -/
def chunkNamesCard : Claim7 := { stood := { row := chunkNamesRow, standIns := [], harness := (true, "1ad40bc2e167c73e0c96bbc350afe572cf870d2100e59febee446c640542ed6f"), looks := false }, kinds := [], alts := [], laidByText := true, laidKinds := [.data, .pinned], laidTests := true, laidLooks := .later }
def ChunkNamesCardSaid : Prop := Claim7.holds Tryd.pinned (.plain (OpenSpec.ofChange chunkNamesSpec)) chunkNamesCard

/-- THE SECOND FORM's CARD OF 'burnishlaw12.ChunkNames'. -/
def chunkNamesUptoCard : Claim7 := { stood := { row := chunkNamesUptoRow, standIns := [], harness := (true, "1ad40bc2e167c73e0c96bbc350afe572cf870d2100e59febee446c640542ed6f"), looks := false }, kinds := [], alts := [], laidByText := true, laidKinds := [.data, .pinned], laidTests := true, laidLooks := .later }
def ChunkNamesUptoCardSaid : Prop := Claim7.holds Tryd.pinned (.plain (OpenSpec.upto chunkNamesSpec)) chunkNamesUptoCard
end Rows
end Go.Proofs.YtmdbnnnaiidheaaDoor
