/-
  No cell of these rows narrows 'for every input' (looked for: loops, veiled, ifaces, maps, wideKeys, modest, calm, conditions, laid).
  DERIVED. THE GIVEN ROWS OF THIS SEAT. 6 by the template 'for every input the law returns true; each argument reads behind the call as it read before'; 0 by the template 'total and deterministic' (their statements: YtfmkcpilljfidaaTotals.lean).
  GIVEN WITH THE SEED: the statements are not yours to turn. If you find one false, say at which input.
  Laid BY PROGRAM, IN A SANDBOX (cutbox-rows.mjs): the forced cells as the released guide's own fill.sh prints them over the translation 6e5964ca27e11e16… (all of the seat's roots in one cut). By AI agents, Wed Nov 11 2026. No macro, syntax, notation, axiom, sorry.
-/
import Derived.Test.YtfmkcpilljfidaaChecked
import GoSem.Claim
import GoSem.ClaimJoined
import GoSem.ClaimMapViews
import Derived.JoinedTies
import Derived.KernelRfl
namespace Go.Proofs.Ytfmkcpilljfidaa
/- THE CELL 'sum', in the pinned program and in every row, IS THE sha256 OF THE DUMP (.gsa) THAT YtfmkcpilljfidaaProg.lean LOADS. Nothing in Lean hashes anything: it is a label: what it is worth is what the hold of that sum in a sandbox is worth. -/
noncomputable def Try.pinned : Pinned := { name := "ytfmkcpilljfidaa", sum := "6e5964ca27e11e162fb10bc096f3d0832ba5b1e9a27f59a88e45d1fd5b8729e1", checked := Try.checked }
namespace Rows
def none {H : Type} : Left H := { results := [], args := [] }

/-- 'burnishlaw15.LacePlaces': WHATEVER THE INPUT: true; the input reads as it did. -/
def lacePlacesSpec : ChangeSpec := { name := "lacePlaces", fn := fun _ => fun
  | [d1, d2, d3] => { results := [.lit (.bool true)], args := [d1, d2, d3] }
  | _ => none }
def lacePlacesRow : OpenClaim := { program := "ytfmkcpilljfidaa", sum := "6e5964ca27e11e162fb10bc096f3d0832ba5b1e9a27f59a88e45d1fd5b8729e1", func := "burnish/burnishlaw15.LacePlaces", spec := "lacePlaces", unfollowed := true, recurses := true, apart := false }
def LacePlacesSaid : Prop := lacePlacesRow.holds Try.pinned (OpenSpec.ofChange lacePlacesSpec)

/-- ITS FALSE NEIGHBOUR: 'it returns false'. Refute it at one input. -/
def lacePlacesWrong : ChangeSpec := { name := "lacePlaces", fn := fun _ => fun
  | [d1, d2, d3] => { results := [.lit (.bool false)], args := [d1, d2, d3] }
  | _ => none }
def LacePlacesWrongFalsely : Prop := lacePlacesRow.holds Try.pinned (OpenSpec.ofChange lacePlacesWrong)

/-- 'burnishlaw15.LaceSizes': WHATEVER THE INPUT: true; the input reads as it did. -/
def laceSizesSpec : ChangeSpec := { name := "laceSizes", fn := fun _ => fun
  | [d1, d2, d3] => { results := [.lit (.bool true)], args := [d1, d2, d3] }
  | _ => none }
def laceSizesRow : OpenClaim := { program := "ytfmkcpilljfidaa", sum := "6e5964ca27e11e162fb10bc096f3d0832ba5b1e9a27f59a88e45d1fd5b8729e1", func := "burnish/burnishlaw15.LaceSizes", spec := "laceSizes", apart := false }
def LaceSizesSaid : Prop := laceSizesRow.holds Try.pinned (OpenSpec.ofChange laceSizesSpec)

/-- ITS FALSE NEIGHBOUR: 'it returns false'. Refute it at one input. -/
def laceSizesWrong : ChangeSpec := { name := "laceSizes", fn := fun _ => fun
  | [d1, d2, d3] => { results := [.lit (.bool false)], args := [d1, d2, d3] }
  | _ => none }
def LaceSizesWrongFalsely : Prop := laceSizesRow.holds Try.pinned (OpenSpec.ofChange laceSizesWrong)

/-- 'burnishlaw15.LaceSpreads': WHATEVER THE INPUT: true; the input reads as it did. -/
def laceSpreadsSpec : ChangeSpec := { name := "laceSpreads", fn := fun _ => fun
  | [d1, d2, d3] => { results := [.lit (.bool true)], args := [d1, d2, d3] }
  | _ => none }
def laceSpreadsRow : OpenClaim := { program := "ytfmkcpilljfidaa", sum := "6e5964ca27e11e162fb10bc096f3d0832ba5b1e9a27f59a88e45d1fd5b8729e1", func := "burnish/burnishlaw15.LaceSpreads", spec := "laceSpreads", apart := false }
def LaceSpreadsSaid : Prop := laceSpreadsRow.holds Try.pinned (OpenSpec.ofChange laceSpreadsSpec)

/-- ITS FALSE NEIGHBOUR: 'it returns false'. Refute it at one input. -/
def laceSpreadsWrong : ChangeSpec := { name := "laceSpreads", fn := fun _ => fun
  | [d1, d2, d3] => { results := [.lit (.bool false)], args := [d1, d2, d3] }
  | _ => none }
def LaceSpreadsWrongFalsely : Prop := laceSpreadsRow.holds Try.pinned (OpenSpec.ofChange laceSpreadsWrong)

/-- 'burnishlaw15.LaceAll': WHATEVER THE INPUT: true; the input reads as it did. -/
def laceAllSpec : ChangeSpec := { name := "laceAll", fn := fun _ => fun
  | [d] => { results := [.lit (.bool true)], args := [d] }
  | _ => none }
def laceAllRow : OpenClaim := { program := "ytfmkcpilljfidaa", sum := "6e5964ca27e11e162fb10bc096f3d0832ba5b1e9a27f59a88e45d1fd5b8729e1", func := "burnish/burnishlaw15.LaceAll", spec := "laceAll", unfollowed := true, recurses := true, apart := false }
def LaceAllSaid : Prop := laceAllRow.holds Try.pinned (OpenSpec.ofChange laceAllSpec)

/-- ITS FALSE NEIGHBOUR: 'it returns false'. Refute it at one input. -/
def laceAllWrong : ChangeSpec := { name := "laceAll", fn := fun _ => fun
  | [d] => { results := [.lit (.bool false)], args := [d] }
  | _ => none }
def LaceAllWrongFalsely : Prop := laceAllRow.holds Try.pinned (OpenSpec.ofChange laceAllWrong)

/-- 'burnishlaw15.LaceOnce': WHATEVER THE INPUT: true; the input reads as it did. -/
def laceOnceSpec : ChangeSpec := { name := "laceOnce", fn := fun _ => fun
  | [d1, d2] => { results := [.lit (.bool true)], args := [d1, d2] }
  | _ => none }
def laceOnceRow : OpenClaim := { program := "ytfmkcpilljfidaa", sum := "6e5964ca27e11e162fb10bc096f3d0832ba5b1e9a27f59a88e45d1fd5b8729e1", func := "burnish/burnishlaw15.LaceOnce", spec := "laceOnce", unfollowed := true, recurses := true, apart := false }
def LaceOnceSaid : Prop := laceOnceRow.holds Try.pinned (OpenSpec.ofChange laceOnceSpec)

/-- ITS FALSE NEIGHBOUR: 'it returns false'. Refute it at one input. -/
def laceOnceWrong : ChangeSpec := { name := "laceOnce", fn := fun _ => fun
  | [d1, d2] => { results := [.lit (.bool false)], args := [d1, d2] }
  | _ => none }
def LaceOnceWrongFalsely : Prop := laceOnceRow.holds Try.pinned (OpenSpec.ofChange laceOnceWrong)

/-- 'burnishlaw15.LaceData': WHATEVER THE INPUT: true; the input reads as it did. -/
def laceDataSpec : ChangeSpec := { name := "laceData", fn := fun _ => fun
  | [d] => { results := [.lit (.bool true)], args := [d] }
  | _ => none }
def laceDataRow : OpenClaim := { program := "ytfmkcpilljfidaa", sum := "6e5964ca27e11e162fb10bc096f3d0832ba5b1e9a27f59a88e45d1fd5b8729e1", func := "burnish/burnishlaw15.LaceData", spec := "laceData", unfollowed := true, recurses := true, apart := false }
def LaceDataSaid : Prop := laceDataRow.holds Try.pinned (OpenSpec.ofChange laceDataSpec)

/-- ITS FALSE NEIGHBOUR: 'it returns false'. Refute it at one input. -/
def laceDataWrong : ChangeSpec := { name := "laceData", fn := fun _ => fun
  | [d] => { results := [.lit (.bool false)], args := [d] }
  | _ => none }
def LaceDataWrongFalsely : Prop := laceDataRow.holds Try.pinned (OpenSpec.ofChange laceDataWrong)

/- THE SECOND FORM. 'bulk': how many values and letters a reading holds, each counted each time it is reached (what is shared counts as often as it is met; a slice's spare places count too). A statement '..UptoSaid' is the law's where the arguments, and the package variables that the reading takes, are together of bulk at most 1048576: NARROWER than '..Said'. Prove '..Said' where nothing that the law and all that it calls make is longer than what came in: it says more and counts as full. Else prove '..UptoSaid'. A law counts once. -/
mutual
def uptoBulk {H : Type} : DataW H → Nat
  | .lit (.string bytes) => bytes.length + 1
  | .lit _ => 1
  | .nil => 1
  | .ptr d => uptoBulk d + 1
  | .slice elems spare => uptoBulkAll elems + uptoBulkAll spare + 1
  | .agg parts => uptoBulkAll parts + 1
  | .iface _ d => uptoBulk d + 1
  | .map entries => uptoBulkEntries entries + 1
  | .held _ => 1
def uptoBulkAll {H : Type} : List (DataW H) → Nat
  | [] => 0
  | d :: r => uptoBulk d + uptoBulkAll r
def uptoBulkEntries {H : Type} : List (Lit × DataW H) → Nat
  | [] => 0
  | x :: r => uptoBulkEntry x + uptoBulkEntries r
def uptoBulkEntry {H : Type} : Lit × DataW H → Nat
  | (.string bytes, d) => bytes.length + uptoBulk d + 1
  | (_, d) => uptoBulk d + 1
 end
def uptoSmall : (H : Type) → List (DataW H) → Bool := fun _ ds => decide (uptoBulkAll ds ≤ 1048576)
def OpenSpec.upto (s : _root_.Go.ChangeSpec) : _root_.Go.OpenSpec := { _root_.Go.OpenSpec.ofChange s with cond := some uptoSmall }

/-- 'burnishlaw15.LacePlaces', WHERE WHAT IT READS IS OF BULK AT MOST 1048576: true; the input reads as it did. -/
def lacePlacesUptoRow : OpenClaim := { program := "ytfmkcpilljfidaa", sum := "6e5964ca27e11e162fb10bc096f3d0832ba5b1e9a27f59a88e45d1fd5b8729e1", func := "burnish/burnishlaw15.LacePlaces", spec := "lacePlaces", unfollowed := true, recurses := true, apart := false, narrowed := true }
def LacePlacesUptoSaid : Prop := lacePlacesUptoRow.holds Try.pinned (OpenSpec.upto lacePlacesSpec)

/-- 'burnishlaw15.LaceSizes', WHERE WHAT IT READS IS OF BULK AT MOST 1048576: true; the input reads as it did. -/
def laceSizesUptoRow : OpenClaim := { program := "ytfmkcpilljfidaa", sum := "6e5964ca27e11e162fb10bc096f3d0832ba5b1e9a27f59a88e45d1fd5b8729e1", func := "burnish/burnishlaw15.LaceSizes", spec := "laceSizes", apart := false, narrowed := true }
def LaceSizesUptoSaid : Prop := laceSizesUptoRow.holds Try.pinned (OpenSpec.upto laceSizesSpec)

/-- 'burnishlaw15.LaceSpreads', WHERE WHAT IT READS IS OF BULK AT MOST 1048576: true; the input reads as it did. -/
def laceSpreadsUptoRow : OpenClaim := { program := "ytfmkcpilljfidaa", sum := "6e5964ca27e11e162fb10bc096f3d0832ba5b1e9a27f59a88e45d1fd5b8729e1", func := "burnish/burnishlaw15.LaceSpreads", spec := "laceSpreads", apart := false, narrowed := true }
def LaceSpreadsUptoSaid : Prop := laceSpreadsUptoRow.holds Try.pinned (OpenSpec.upto laceSpreadsSpec)

/-- 'burnishlaw15.LaceAll', WHERE WHAT IT READS IS OF BULK AT MOST 1048576: true; the input reads as it did. -/
def laceAllUptoRow : OpenClaim := { program := "ytfmkcpilljfidaa", sum := "6e5964ca27e11e162fb10bc096f3d0832ba5b1e9a27f59a88e45d1fd5b8729e1", func := "burnish/burnishlaw15.LaceAll", spec := "laceAll", unfollowed := true, recurses := true, apart := false, narrowed := true }
def LaceAllUptoSaid : Prop := laceAllUptoRow.holds Try.pinned (OpenSpec.upto laceAllSpec)

/-- 'burnishlaw15.LaceOnce', WHERE WHAT IT READS IS OF BULK AT MOST 1048576: true; the input reads as it did. -/
def laceOnceUptoRow : OpenClaim := { program := "ytfmkcpilljfidaa", sum := "6e5964ca27e11e162fb10bc096f3d0832ba5b1e9a27f59a88e45d1fd5b8729e1", func := "burnish/burnishlaw15.LaceOnce", spec := "laceOnce", unfollowed := true, recurses := true, apart := false, narrowed := true }
def LaceOnceUptoSaid : Prop := laceOnceUptoRow.holds Try.pinned (OpenSpec.upto laceOnceSpec)

/-- 'burnishlaw15.LaceData', WHERE WHAT IT READS IS OF BULK AT MOST 1048576: true; the input reads as it did. -/
def laceDataUptoRow : OpenClaim := { program := "ytfmkcpilljfidaa", sum := "6e5964ca27e11e162fb10bc096f3d0832ba5b1e9a27f59a88e45d1fd5b8729e1", func := "burnish/burnishlaw15.LaceData", spec := "laceData", unfollowed := true, recurses := true, apart := false, narrowed := true }
def LaceDataUptoSaid : Prop := laceDataUptoRow.holds Try.pinned (OpenSpec.upto laceDataSpec)

end Rows
end Go.Proofs.Ytfmkcpilljfidaa
