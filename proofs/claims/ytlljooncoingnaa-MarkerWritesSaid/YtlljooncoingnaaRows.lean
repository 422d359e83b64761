/-
  No cell of these rows narrows 'for every input' (looked for: loops, veiled, ifaces, maps, wideKeys, modest, calm, conditions, laid).
  DERIVED. THE GIVEN ROWS OF THIS SEAT. 5 by the template 'for every input the law returns true; each argument reads behind the call as it read before'; 0 by the template 'total and deterministic' (their statements: YtlljooncoingnaaTotals.lean).
  GIVEN WITH THE SEED: the statements are not yours to turn. If you find one false, say at which input.
  Laid BY PROGRAM, IN A SANDBOX (cutbox-rows.mjs): the forced cells as the released guide's own fill.sh prints them over the translation f69f177c6800473f… (all of the seat's roots in one cut). By AI agents, Wed Nov 11 2026. No macro, syntax, notation, axiom, sorry.
-/
import Derived.Test.YtlljooncoingnaaChecked
import GoSem.Claim
import GoSem.ClaimJoined
import GoSem.ClaimMapViews
import Derived.JoinedTies
import Derived.KernelRfl
namespace Go.Proofs.Ytlljooncoingnaa
/- THE CELL 'sum', in the pinned program and in every row, IS THE sha256 OF THE DUMP (.gsa) THAT YtlljooncoingnaaProg.lean LOADS. Nothing in Lean hashes anything: it is a label: what it is worth is what the hold of that sum in a sandbox is worth. -/
noncomputable def Try.pinned : Pinned := { name := "ytlljooncoingnaa", sum := "f69f177c6800473f1ff7ec132037500051c71b295e073c2fa439a7c82362cd36", checked := Try.checked }
namespace Rows
def none {H : Type} : Left H := { results := [], args := [] }

/-- 'burnishlaw20.MarkerMarks': WHATEVER THE INPUT: true; the input reads as it did. -/
def markerMarksSpec : ChangeSpec := { name := "markerMarks", fn := fun _ => fun
  | [d1, d2] => { results := [.lit (.bool true)], args := [d1, d2] }
  | _ => none }
def markerMarksRow : OpenClaim := { program := "ytlljooncoingnaa", sum := "f69f177c6800473f1ff7ec132037500051c71b295e073c2fa439a7c82362cd36", func := "burnish/burnishlaw20.MarkerMarks", spec := "markerMarks", apart := false }
def MarkerMarksSaid : Prop := markerMarksRow.holds Try.pinned (OpenSpec.ofChange markerMarksSpec)

/-- ITS FALSE NEIGHBOUR: 'it returns false'. Refute it at one input. -/
def markerMarksWrong : ChangeSpec := { name := "markerMarks", fn := fun _ => fun
  | [d1, d2] => { results := [.lit (.bool false)], args := [d1, d2] }
  | _ => none }
def MarkerMarksWrongFalsely : Prop := markerMarksRow.holds Try.pinned (OpenSpec.ofChange markerMarksWrong)

/-- 'burnishlaw20.MarkerParses': WHATEVER THE INPUT: true; the input reads as it did. -/
def markerParsesSpec : ChangeSpec := { name := "markerParses", fn := fun _ => fun
  | [d] => { results := [.lit (.bool true)], args := [d] }
  | _ => none }
def markerParsesRow : OpenClaim := { program := "ytlljooncoingnaa", sum := "f69f177c6800473f1ff7ec132037500051c71b295e073c2fa439a7c82362cd36", func := "burnish/burnishlaw20.MarkerParses", spec := "markerParses", apart := false }
def MarkerParsesSaid : Prop := markerParsesRow.holds Try.pinned (OpenSpec.ofChange markerParsesSpec)

/-- ITS FALSE NEIGHBOUR: 'it returns false'. Refute it at one input. -/
def markerParsesWrong : ChangeSpec := { name := "markerParses", fn := fun _ => fun
  | [d] => { results := [.lit (.bool false)], args := [d] }
  | _ => none }
def MarkerParsesWrongFalsely : Prop := markerParsesRow.holds Try.pinned (OpenSpec.ofChange markerParsesWrong)

/-- 'burnishlaw20.MarkerWrites': WHATEVER THE INPUT: true; the input reads as it did. -/
def markerWritesSpec : ChangeSpec := { name := "markerWrites", fn := fun _ => fun
  | [d] => { results := [.lit (.bool true)], args := [d] }
  | _ => none }
def markerWritesRow : OpenClaim := { program := "ytlljooncoingnaa", sum := "f69f177c6800473f1ff7ec132037500051c71b295e073c2fa439a7c82362cd36", func := "burnish/burnishlaw20.MarkerWrites", spec := "markerWrites", apart := false }
def MarkerWritesSaid : Prop := markerWritesRow.holds Try.pinned (OpenSpec.ofChange markerWritesSpec)

/-- ITS FALSE NEIGHBOUR: 'it returns false'. Refute it at one input. -/
def markerWritesWrong : ChangeSpec := { name := "markerWrites", fn := fun _ => fun
  | [d] => { results := [.lit (.bool false)], args := [d] }
  | _ => none }
def MarkerWritesWrongFalsely : Prop := markerWritesRow.holds Try.pinned (OpenSpec.ofChange markerWritesWrong)

/-- 'burnishlaw20.MarkerBack': WHATEVER THE INPUT: true; the input reads as it did. -/
def markerBackSpec : ChangeSpec := { name := "markerBack", fn := fun _ => fun
  | [d1, d2] => { results := [.lit (.bool true)], args := [d1, d2] }
  | _ => none }
def markerBackRow : OpenClaim := { program := "ytlljooncoingnaa", sum := "f69f177c6800473f1ff7ec132037500051c71b295e073c2fa439a7c82362cd36", func := "burnish/burnishlaw20.MarkerBack", spec := "markerBack", apart := false }
def MarkerBackSaid : Prop := markerBackRow.holds Try.pinned (OpenSpec.ofChange markerBackSpec)

/-- ITS FALSE NEIGHBOUR: 'it returns false'. Refute it at one input. -/
def markerBackWrong : ChangeSpec := { name := "markerBack", fn := fun _ => fun
  | [d1, d2] => { results := [.lit (.bool false)], args := [d1, d2] }
  | _ => none }
def MarkerBackWrongFalsely : Prop := markerBackRow.holds Try.pinned (OpenSpec.ofChange markerBackWrong)

/-- 'burnishlaw20.MarkerCuts': WHATEVER THE INPUT: true; the input reads as it did. -/
def markerCutsSpec : ChangeSpec := { name := "markerCuts", fn := fun _ => fun
  | [d1, d2] => { results := [.lit (.bool true)], args := [d1, d2] }
  | _ => none }
def markerCutsRow : OpenClaim := { program := "ytlljooncoingnaa", sum := "f69f177c6800473f1ff7ec132037500051c71b295e073c2fa439a7c82362cd36", func := "burnish/burnishlaw20.MarkerCuts", spec := "markerCuts", apart := false }
def MarkerCutsSaid : Prop := markerCutsRow.holds Try.pinned (OpenSpec.ofChange markerCutsSpec)

/-- ITS FALSE NEIGHBOUR: 'it returns false'. Refute it at one input. -/
def markerCutsWrong : ChangeSpec := { name := "markerCuts", fn := fun _ => fun
  | [d1, d2] => { results := [.lit (.bool false)], args := [d1, d2] }
  | _ => none }
def MarkerCutsWrongFalsely : Prop := markerCutsRow.holds Try.pinned (OpenSpec.ofChange markerCutsWrong)

/- THE SECOND FORM. 'bulk': how many values and letters a reading holds, each counted each time it is reached (what is shared counts as often as it is met; a slice's spare places count too). A statement '..UptoSaid' is the law's where the arguments, and the package variables that the reading takes, are together of bulk at most 1048576: NARROWER than '..Said'. Prove '..Said' where nothing that the law and all that it calls make is longer than what came in: it says more and counts as full. Else prove '..UptoSaid'. A law counts once. -/
mutual
def uptoBulk {H : Type} : DataW H → Nat
  | .lit (.string bytes) => bytes.length + 1
  | .lit _ => 1
  | .nil => 1
  | .ptr d => uptoBulk d + 1
  | .slice elems spare => uptoBulkAll elems + uptoBulkAll spare + 1
  | .agg parts => uptoBulkAll parts + 1
  | .iface _ d => uptoBulk d + 1
  | .map entries => uptoBulkEntries entries + 1
  | .held _ => 1
def uptoBulkAll {H : Type} : List (DataW H) → Nat
  | [] => 0
  | d :: r => uptoBulk d + uptoBulkAll r
def uptoBulkEntries {H : Type} : List (Lit × DataW H) → Nat
  | [] => 0
  | x :: r => uptoBulkEntry x + uptoBulkEntries r
def uptoBulkEntry {H : Type} : Lit × DataW H → Nat
  | (.string bytes, d) => bytes.length + uptoBulk d + 1
  | (_, d) => uptoBulk d + 1
 end
def uptoSmall : (H : Type) → List (DataW H) → Bool := fun _ ds => decide (uptoBulkAll ds ≤ 1048576)
def OpenSpec.upto (s : _root_.Go.ChangeSpec) : _root_.Go.OpenSpec := { _root_.Go.OpenSpec.ofChange s with cond := some uptoSmall }

/-- 'burnishlaw20.MarkerMarks', WHERE WHAT IT READS IS OF BULK AT MOST 1048576: true; the input reads as it did. -/
def markerMarksUptoRow : OpenClaim := { program := "ytlljooncoingnaa", sum := "f69f177c6800473f1ff7ec132037500051c71b295e073c2fa439a7c82362cd36", func := "burnish/burnishlaw20.MarkerMarks", spec := "markerMarks", apart := false, narrowed := true }
def MarkerMarksUptoSaid : Prop := markerMarksUptoRow.holds Try.pinned (OpenSpec.upto markerMarksSpec)

/-- 'burnishlaw20.MarkerParses', WHERE WHAT IT READS IS OF BULK AT MOST 1048576: true; the input reads as it did. -/
def markerParsesUptoRow : OpenClaim := { program := "ytlljooncoingnaa", sum := "f69f177c6800473f1ff7ec132037500051c71b295e073c2fa439a7c82362cd36", func := "burnish/burnishlaw20.MarkerParses", spec := "markerParses", apart := false, narrowed := true }
def MarkerParsesUptoSaid : Prop := markerParsesUptoRow.holds Try.pinned (OpenSpec.upto markerParsesSpec)

/-- 'burnishlaw20.MarkerWrites', WHERE WHAT IT READS IS OF BULK AT MOST 1048576: true; the input reads as it did. -/
def markerWritesUptoRow : OpenClaim := { program := "ytlljooncoingnaa", sum := "f69f177c6800473f1ff7ec132037500051c71b295e073c2fa439a7c82362cd36", func := "burnish/burnishlaw20.MarkerWrites", spec := "markerWrites", apart := false, narrowed := true }
def MarkerWritesUptoSaid : Prop := markerWritesUptoRow.holds Try.pinned (OpenSpec.upto markerWritesSpec)

/-- 'burnishlaw20.MarkerBack', WHERE WHAT IT READS IS OF BULK AT MOST 1048576: true; the input reads as it did. -/
def markerBackUptoRow : OpenClaim := { program := "ytlljooncoingnaa", sum := "f69f177c6800473f1ff7ec132037500051c71b295e073c2fa439a7c82362cd36", func := "burnish/burnishlaw20.MarkerBack", spec := "markerBack", apart := false, narrowed := true }
def MarkerBackUptoSaid : Prop := markerBackUptoRow.holds Try.pinned (OpenSpec.upto markerBackSpec)

/-- 'burnishlaw20.MarkerCuts', WHERE WHAT IT READS IS OF BULK AT MOST 1048576: true; the input reads as it did. -/
def markerCutsUptoRow : OpenClaim := { program := "ytlljooncoingnaa", sum := "f69f177c6800473f1ff7ec132037500051c71b295e073c2fa439a7c82362cd36", func := "burnish/burnishlaw20.MarkerCuts", spec := "markerCuts", apart := false, narrowed := true }
def MarkerCutsUptoSaid : Prop := markerCutsUptoRow.holds Try.pinned (OpenSpec.upto markerCutsSpec)

end Rows
end Go.Proofs.Ytlljooncoingnaa
