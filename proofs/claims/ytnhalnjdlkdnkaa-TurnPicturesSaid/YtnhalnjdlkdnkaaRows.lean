/-
  No cell of these rows narrows 'for every input' (looked for: loops, veiled, ifaces, maps, wideKeys, modest, calm, conditions, laid).
  DERIVED. THE GIVEN ROWS OF THIS SEAT. 6 by the template 'for every input the law returns true; each argument reads behind the call as it read before'; 0 by the template 'total and deterministic' (their statements: YtnhalnjdlkdnkaaTotals.lean).
  GIVEN WITH THE SEED: the statements are not yours to turn. If you find one false, say at which input.
  Laid BY PROGRAM, IN A SANDBOX (cutbox-rows.mjs): the forced cells as the released guide's own fill.sh prints them over the translation 4df08374824b175e… (all of the seat's roots in one cut). By AI agents, Wed Nov 11 2026. No macro, syntax, notation, axiom, sorry.
-/
import Derived.Test.YtnhalnjdlkdnkaaChecked
import GoSem.Claim
import GoSem.ClaimJoined
import GoSem.ClaimMapViews
import Derived.JoinedTies
import Derived.KernelRfl
namespace Go.Proofs.Ytnhalnjdlkdnkaa
/- THE CELL 'sum', in the pinned program and in every row, IS THE sha256 OF THE DUMP (.gsa) THAT YtnhalnjdlkdnkaaProg.lean LOADS. Nothing in Lean hashes anything: it is a label: what it is worth is what the hold of that sum in a sandbox is worth. -/
noncomputable def Try.pinned : Pinned := { name := "ytnhalnjdlkdnkaa", sum := "4df08374824b175ed80230069b3e939d33d8c302e4bc84623a73292c80f6e444", checked := Try.checked }
namespace Rows
def none {H : Type} : Left H := { results := [], args := [] }

/-- 'burnishlaw24.TurnBlocks': WHATEVER THE INPUT: true; the input reads as it did. -/
def turnBlocksSpec : ChangeSpec := { name := "turnBlocks", fn := fun _ => fun
  | [d1, d2] => { results := [.lit (.bool true)], args := [d1, d2] }
  | _ => none }
def turnBlocksRow : OpenClaim := { program := "ytnhalnjdlkdnkaa", sum := "4df08374824b175ed80230069b3e939d33d8c302e4bc84623a73292c80f6e444", func := "burnish/burnishlaw24.TurnBlocks", spec := "turnBlocks", apart := false }
def TurnBlocksSaid : Prop := turnBlocksRow.holds Try.pinned (OpenSpec.ofChange turnBlocksSpec)

/-- ITS FALSE NEIGHBOUR: 'it returns false'. Refute it at one input. -/
def turnBlocksWrong : ChangeSpec := { name := "turnBlocks", fn := fun _ => fun
  | [d1, d2] => { results := [.lit (.bool false)], args := [d1, d2] }
  | _ => none }
def TurnBlocksWrongFalsely : Prop := turnBlocksRow.holds Try.pinned (OpenSpec.ofChange turnBlocksWrong)

/-- 'burnishlaw24.TurnAll': WHATEVER THE INPUT: true; the input reads as it did. -/
def turnAllSpec : ChangeSpec := { name := "turnAll", fn := fun _ => fun
  | [d] => { results := [.lit (.bool true)], args := [d] }
  | _ => none }
def turnAllRow : OpenClaim := { program := "ytnhalnjdlkdnkaa", sum := "4df08374824b175ed80230069b3e939d33d8c302e4bc84623a73292c80f6e444", func := "burnish/burnishlaw24.TurnAll", spec := "turnAll", apart := false }
def TurnAllSaid : Prop := turnAllRow.holds Try.pinned (OpenSpec.ofChange turnAllSpec)

/-- ITS FALSE NEIGHBOUR: 'it returns false'. Refute it at one input. -/
def turnAllWrong : ChangeSpec := { name := "turnAll", fn := fun _ => fun
  | [d] => { results := [.lit (.bool false)], args := [d] }
  | _ => none }
def TurnAllWrongFalsely : Prop := turnAllRow.holds Try.pinned (OpenSpec.ofChange turnAllWrong)

/-- 'burnishlaw24.TurnCrops': WHATEVER THE INPUT: true; the input reads as it did. -/
def turnCropsSpec : ChangeSpec := { name := "turnCrops", fn := fun _ => fun
  | [d] => { results := [.lit (.bool true)], args := [d] }
  | _ => none }
def turnCropsRow : OpenClaim := { program := "ytnhalnjdlkdnkaa", sum := "4df08374824b175ed80230069b3e939d33d8c302e4bc84623a73292c80f6e444", func := "burnish/burnishlaw24.TurnCrops", spec := "turnCrops", unfollowed := true, recurses := true, apart := false }
def TurnCropsSaid : Prop := turnCropsRow.holds Try.pinned (OpenSpec.ofChange turnCropsSpec)

/-- ITS FALSE NEIGHBOUR: 'it returns false'. Refute it at one input. -/
def turnCropsWrong : ChangeSpec := { name := "turnCrops", fn := fun _ => fun
  | [d] => { results := [.lit (.bool false)], args := [d] }
  | _ => none }
def TurnCropsWrongFalsely : Prop := turnCropsRow.holds Try.pinned (OpenSpec.ofChange turnCropsWrong)

/-- 'burnishlaw24.TurnCuts': WHATEVER THE INPUT: true; the input reads as it did. -/
def turnCutsSpec : ChangeSpec := { name := "turnCuts", fn := fun _ => fun
  | [d1, d2, d3] => { results := [.lit (.bool true)], args := [d1, d2, d3] }
  | _ => none }
def turnCutsRow : OpenClaim := { program := "ytnhalnjdlkdnkaa", sum := "4df08374824b175ed80230069b3e939d33d8c302e4bc84623a73292c80f6e444", func := "burnish/burnishlaw24.TurnCuts", spec := "turnCuts", unfollowed := true, recurses := true, apart := false }
def TurnCutsSaid : Prop := turnCutsRow.holds Try.pinned (OpenSpec.ofChange turnCutsSpec)

/-- ITS FALSE NEIGHBOUR: 'it returns false'. Refute it at one input. -/
def turnCutsWrong : ChangeSpec := { name := "turnCuts", fn := fun _ => fun
  | [d1, d2, d3] => { results := [.lit (.bool false)], args := [d1, d2, d3] }
  | _ => none }
def TurnCutsWrongFalsely : Prop := turnCutsRow.holds Try.pinned (OpenSpec.ofChange turnCutsWrong)

/-- 'burnishlaw24.TurnPictures': WHATEVER THE INPUT: true; the input reads as it did. -/
def turnPicturesSpec : ChangeSpec := { name := "turnPictures", fn := fun _ => fun
  | [d1, d2, d3] => { results := [.lit (.bool true)], args := [d1, d2, d3] }
  | _ => none }
def turnPicturesRow : OpenClaim := { program := "ytnhalnjdlkdnkaa", sum := "4df08374824b175ed80230069b3e939d33d8c302e4bc84623a73292c80f6e444", func := "burnish/burnishlaw24.TurnPictures", spec := "turnPictures", unfollowed := true, recurses := true, apart := false }
def TurnPicturesSaid : Prop := turnPicturesRow.holds Try.pinned (OpenSpec.ofChange turnPicturesSpec)

/-- ITS FALSE NEIGHBOUR: 'it returns false'. Refute it at one input. -/
def turnPicturesWrong : ChangeSpec := { name := "turnPictures", fn := fun _ => fun
  | [d1, d2, d3] => { results := [.lit (.bool false)], args := [d1, d2, d3] }
  | _ => none }
def TurnPicturesWrongFalsely : Prop := turnPicturesRow.holds Try.pinned (OpenSpec.ofChange turnPicturesWrong)

/-- 'burnishlaw24.TurnTwice': WHATEVER THE INPUT: true; the input reads as it did. -/
def turnTwiceSpec : ChangeSpec := { name := "turnTwice", fn := fun _ => fun
  | [d1, d2, d3] => { results := [.lit (.bool true)], args := [d1, d2, d3] }
  | _ => none }
def turnTwiceRow : OpenClaim := { program := "ytnhalnjdlkdnkaa", sum := "4df08374824b175ed80230069b3e939d33d8c302e4bc84623a73292c80f6e444", func := "burnish/burnishlaw24.TurnTwice", spec := "turnTwice", unfollowed := true, recurses := true, apart := false }
def TurnTwiceSaid : Prop := turnTwiceRow.holds Try.pinned (OpenSpec.ofChange turnTwiceSpec)

/-- ITS FALSE NEIGHBOUR: 'it returns false'. Refute it at one input. -/
def turnTwiceWrong : ChangeSpec := { name := "turnTwice", fn := fun _ => fun
  | [d1, d2, d3] => { results := [.lit (.bool false)], args := [d1, d2, d3] }
  | _ => none }
def TurnTwiceWrongFalsely : Prop := turnTwiceRow.holds Try.pinned (OpenSpec.ofChange turnTwiceWrong)

/- THE SECOND FORM. 'bulk': how many values and letters a reading holds, each counted each time it is reached (what is shared counts as often as it is met; a slice's spare places count too). A statement '..UptoSaid' is the law's where the arguments, and the package variables that the reading takes, are together of bulk at most 1048576: NARROWER than '..Said'. Prove '..Said' where nothing that the law and all that it calls make is longer than what came in: it says more and counts as full. Else prove '..UptoSaid'. A law counts once. -/
mutual
def uptoBulk {H : Type} : DataW H → Nat
  | .lit (.string bytes) => bytes.length + 1
  | .lit _ => 1
  | .nil => 1
  | .ptr d => uptoBulk d + 1
  | .slice elems spare => uptoBulkAll elems + uptoBulkAll spare + 1
  | .agg parts => uptoBulkAll parts + 1
  | .iface _ d => uptoBulk d + 1
  | .map entries => uptoBulkEntries entries + 1
  | .held _ => 1
def uptoBulkAll {H : Type} : List (DataW H) → Nat
  | [] => 0
  | d :: r => uptoBulk d + uptoBulkAll r
def uptoBulkEntries {H : Type} : List (Lit × DataW H) → Nat
  | [] => 0
  | x :: r => uptoBulkEntry x + uptoBulkEntries r
def uptoBulkEntry {H : Type} : Lit × DataW H → Nat
  | (.string bytes, d) => bytes.length + uptoBulk d + 1
  | (_, d) => uptoBulk d + 1
 end
def uptoSmall : (H : Type) → List (DataW H) → Bool := fun _ ds => decide (uptoBulkAll ds ≤ 1048576)
def OpenSpec.upto (s : _root_.Go.ChangeSpec) : _root_.Go.OpenSpec := { _root_.Go.OpenSpec.ofChange s with cond := some uptoSmall }

/-- 'burnishlaw24.TurnBlocks', WHERE WHAT IT READS IS OF BULK AT MOST 1048576: true; the input reads as it did. -/
def turnBlocksUptoRow : OpenClaim := { program := "ytnhalnjdlkdnkaa", sum := "4df08374824b175ed80230069b3e939d33d8c302e4bc84623a73292c80f6e444", func := "burnish/burnishlaw24.TurnBlocks", spec := "turnBlocks", apart := false, narrowed := true }
def TurnBlocksUptoSaid : Prop := turnBlocksUptoRow.holds Try.pinned (OpenSpec.upto turnBlocksSpec)

/-- 'burnishlaw24.TurnAll', WHERE WHAT IT READS IS OF BULK AT MOST 1048576: true; the input reads as it did. -/
def turnAllUptoRow : OpenClaim := { program := "ytnhalnjdlkdnkaa", sum := "4df08374824b175ed80230069b3e939d33d8c302e4bc84623a73292c80f6e444", func := "burnish/burnishlaw24.TurnAll", spec := "turnAll", apart := false, narrowed := true }
def TurnAllUptoSaid : Prop := turnAllUptoRow.holds Try.pinned (OpenSpec.upto turnAllSpec)

/-- 'burnishlaw24.TurnCrops', WHERE WHAT IT READS IS OF BULK AT MOST 1048576: true; the input reads as it did. -/
def turnCropsUptoRow : OpenClaim := { program := "ytnhalnjdlkdnkaa", sum := "4df08374824b175ed80230069b3e939d33d8c302e4bc84623a73292c80f6e444", func := "burnish/burnishlaw24.TurnCrops", spec := "turnCrops", unfollowed := true, recurses := true, apart := false, narrowed := true }
def TurnCropsUptoSaid : Prop := turnCropsUptoRow.holds Try.pinned (OpenSpec.upto turnCropsSpec)

/-- 'burnishlaw24.TurnCuts', WHERE WHAT IT READS IS OF BULK AT MOST 1048576: true; the input reads as it did. -/
def turnCutsUptoRow : OpenClaim := { program := "ytnhalnjdlkdnkaa", sum := "4df08374824b175ed80230069b3e939d33d8c302e4bc84623a73292c80f6e444", func := "burnish/burnishlaw24.TurnCuts", spec := "turnCuts", unfollowed := true, recurses := true, apart := false, narrowed := true }
def TurnCutsUptoSaid : Prop := turnCutsUptoRow.holds Try.pinned (OpenSpec.upto turnCutsSpec)

/-- 'burnishlaw24.TurnPictures', WHERE WHAT IT READS IS OF BULK AT MOST 1048576: true; the input reads as it did. -/
def turnPicturesUptoRow : OpenClaim := { program := "ytnhalnjdlkdnkaa", sum := "4df08374824b175ed80230069b3e939d33d8c302e4bc84623a73292c80f6e444", func := "burnish/burnishlaw24.TurnPictures", spec := "turnPictures", unfollowed := true, recurses := true, apart := false, narrowed := true }
def TurnPicturesUptoSaid : Prop := turnPicturesUptoRow.holds Try.pinned (OpenSpec.upto turnPicturesSpec)

/-- 'burnishlaw24.TurnTwice', WHERE WHAT IT READS IS OF BULK AT MOST 1048576: true; the input reads as it did. -/
def turnTwiceUptoRow : OpenClaim := { program := "ytnhalnjdlkdnkaa", sum := "4df08374824b175ed80230069b3e939d33d8c302e4bc84623a73292c80f6e444", func := "burnish/burnishlaw24.TurnTwice", spec := "turnTwice", unfollowed := true, recurses := true, apart := false, narrowed := true }
def TurnTwiceUptoSaid : Prop := turnTwiceUptoRow.holds Try.pinned (OpenSpec.upto turnTwiceSpec)

end Rows
end Go.Proofs.Ytnhalnjdlkdnkaa
