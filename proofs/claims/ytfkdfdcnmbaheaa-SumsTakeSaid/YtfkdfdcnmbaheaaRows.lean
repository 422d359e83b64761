/-
  No cell of these rows narrows 'for every input' (looked for: loops, veiled, ifaces, maps, wideKeys, modest, calm, conditions, laid).
  DERIVED. THE GIVEN ROWS OF THIS SEAT. 6 by the template 'for every input the law returns true; each argument reads behind the call as it read before'; 0 by the template 'total and deterministic' (their statements: YtfkdfdcnmbaheaaTotals.lean).
  GIVEN WITH THE SEED: the statements are not yours to turn. If you find one false, say at which input.
  Laid BY PROGRAM, IN A SANDBOX (cutbox-rows.mjs): the forced cells as the released guide's own fill.sh prints them over the translation 2f0cf3b4721f5d8c… (all of the seat's roots in one cut). By AI agents, Wed Nov 11 2026. No macro, syntax, notation, axiom, sorry.
-/
import Derived.Test.YtfkdfdcnmbaheaaChecked
import GoSem.Claim
import GoSem.ClaimJoined
import GoSem.ClaimMapViews
import Derived.JoinedTies
import Derived.KernelRfl
namespace Go.Proofs.Ytfkdfdcnmbaheaa
/- THE CELL 'sum', in the pinned program and in every row, IS THE sha256 OF THE DUMP (.gsa) THAT YtfkdfdcnmbaheaaProg.lean LOADS. Nothing in Lean hashes anything: it is a label: what it is worth is what the hold of that sum in a sandbox is worth. -/
noncomputable def Try.pinned : Pinned := { name := "ytfkdfdcnmbaheaa", sum := "2f0cf3b4721f5d8c9089654159c09f0379e5a6aa385ad876783b61933b4659a1", checked := Try.checked }
namespace Rows
def none {H : Type} : Left H := { results := [], args := [] }

/-- 'burnishlaw01.SumsJoin': WHATEVER THE INPUT: true; the input reads as it did. -/
def sumsJoinSpec : ChangeSpec := { name := "sumsJoin", fn := fun _ => fun
  | [d1, d2] => { results := [.lit (.bool true)], args := [d1, d2] }
  | _ => none }
def sumsJoinRow : OpenClaim := { program := "ytfkdfdcnmbaheaa", sum := "2f0cf3b4721f5d8c9089654159c09f0379e5a6aa385ad876783b61933b4659a1", func := "burnish/burnishlaw01.SumsJoin", spec := "sumsJoin", apart := false }
def SumsJoinSaid : Prop := sumsJoinRow.holds Try.pinned (OpenSpec.ofChange sumsJoinSpec)

/-- ITS FALSE NEIGHBOUR: 'it returns false'. Refute it at one input. -/
def sumsJoinWrong : ChangeSpec := { name := "sumsJoin", fn := fun _ => fun
  | [d1, d2] => { results := [.lit (.bool false)], args := [d1, d2] }
  | _ => none }
def SumsJoinWrongFalsely : Prop := sumsJoinRow.holds Try.pinned (OpenSpec.ofChange sumsJoinWrong)

/-- 'burnishlaw01.SumsAdler': WHATEVER THE INPUT: true; the input reads as it did. -/
def sumsAdlerSpec : ChangeSpec := { name := "sumsAdler", fn := fun _ => fun
  | [d] => { results := [.lit (.bool true)], args := [d] }
  | _ => none }
def sumsAdlerRow : OpenClaim := { program := "ytfkdfdcnmbaheaa", sum := "2f0cf3b4721f5d8c9089654159c09f0379e5a6aa385ad876783b61933b4659a1", func := "burnish/burnishlaw01.SumsAdler", spec := "sumsAdler", apart := false }
def SumsAdlerSaid : Prop := sumsAdlerRow.holds Try.pinned (OpenSpec.ofChange sumsAdlerSpec)

/-- ITS FALSE NEIGHBOUR: 'it returns false'. Refute it at one input. -/
def sumsAdlerWrong : ChangeSpec := { name := "sumsAdler", fn := fun _ => fun
  | [d] => { results := [.lit (.bool false)], args := [d] }
  | _ => none }
def SumsAdlerWrongFalsely : Prop := sumsAdlerRow.holds Try.pinned (OpenSpec.ofChange sumsAdlerWrong)

/-- 'burnishlaw01.SumsCrc': WHATEVER THE INPUT: true; the input reads as it did. -/
def sumsCrcSpec : ChangeSpec := { name := "sumsCrc", fn := fun _ => fun
  | [d] => { results := [.lit (.bool true)], args := [d] }
  | _ => none }
def sumsCrcRow : OpenClaim := { program := "ytfkdfdcnmbaheaa", sum := "2f0cf3b4721f5d8c9089654159c09f0379e5a6aa385ad876783b61933b4659a1", func := "burnish/burnishlaw01.SumsCrc", spec := "sumsCrc", apart := false }
def SumsCrcSaid : Prop := sumsCrcRow.holds Try.pinned (OpenSpec.ofChange sumsCrcSpec)

/-- ITS FALSE NEIGHBOUR: 'it returns false'. Refute it at one input. -/
def sumsCrcWrong : ChangeSpec := { name := "sumsCrc", fn := fun _ => fun
  | [d] => { results := [.lit (.bool false)], args := [d] }
  | _ => none }
def SumsCrcWrongFalsely : Prop := sumsCrcRow.holds Try.pinned (OpenSpec.ofChange sumsCrcWrong)

/-- 'burnishlaw01.SumsParts': WHATEVER THE INPUT: true; the input reads as it did. -/
def sumsPartsSpec : ChangeSpec := { name := "sumsParts", fn := fun _ => fun
  | [d1, d2, d3] => { results := [.lit (.bool true)], args := [d1, d2, d3] }
  | _ => none }
def sumsPartsRow : OpenClaim := { program := "ytfkdfdcnmbaheaa", sum := "2f0cf3b4721f5d8c9089654159c09f0379e5a6aa385ad876783b61933b4659a1", func := "burnish/burnishlaw01.SumsParts", spec := "sumsParts", apart := false }
def SumsPartsSaid : Prop := sumsPartsRow.holds Try.pinned (OpenSpec.ofChange sumsPartsSpec)

/-- ITS FALSE NEIGHBOUR: 'it returns false'. Refute it at one input. -/
def sumsPartsWrong : ChangeSpec := { name := "sumsParts", fn := fun _ => fun
  | [d1, d2, d3] => { results := [.lit (.bool false)], args := [d1, d2, d3] }
  | _ => none }
def SumsPartsWrongFalsely : Prop := sumsPartsRow.holds Try.pinned (OpenSpec.ofChange sumsPartsWrong)

/-- 'burnishlaw01.SumsPut': WHATEVER THE INPUT: true; the input reads as it did. -/
def sumsPutSpec : ChangeSpec := { name := "sumsPut", fn := fun _ => fun
  | [d1, d2, d3] => { results := [.lit (.bool true)], args := [d1, d2, d3] }
  | _ => none }
def sumsPutRow : OpenClaim := { program := "ytfkdfdcnmbaheaa", sum := "2f0cf3b4721f5d8c9089654159c09f0379e5a6aa385ad876783b61933b4659a1", func := "burnish/burnishlaw01.SumsPut", spec := "sumsPut", apart := false }
def SumsPutSaid : Prop := sumsPutRow.holds Try.pinned (OpenSpec.ofChange sumsPutSpec)

/-- ITS FALSE NEIGHBOUR: 'it returns false'. Refute it at one input. -/
def sumsPutWrong : ChangeSpec := { name := "sumsPut", fn := fun _ => fun
  | [d1, d2, d3] => { results := [.lit (.bool false)], args := [d1, d2, d3] }
  | _ => none }
def SumsPutWrongFalsely : Prop := sumsPutRow.holds Try.pinned (OpenSpec.ofChange sumsPutWrong)

/-- 'burnishlaw01.SumsTake': WHATEVER THE INPUT: true; the input reads as it did. -/
def sumsTakeSpec : ChangeSpec := { name := "sumsTake", fn := fun _ => fun
  | [d1, d2] => { results := [.lit (.bool true)], args := [d1, d2] }
  | _ => none }
def sumsTakeRow : OpenClaim := { program := "ytfkdfdcnmbaheaa", sum := "2f0cf3b4721f5d8c9089654159c09f0379e5a6aa385ad876783b61933b4659a1", func := "burnish/burnishlaw01.SumsTake", spec := "sumsTake", apart := false }
def SumsTakeSaid : Prop := sumsTakeRow.holds Try.pinned (OpenSpec.ofChange sumsTakeSpec)

/-- ITS FALSE NEIGHBOUR: 'it returns false'. Refute it at one input. -/
def sumsTakeWrong : ChangeSpec := { name := "sumsTake", fn := fun _ => fun
  | [d1, d2] => { results := [.lit (.bool false)], args := [d1, d2] }
  | _ => none }
def SumsTakeWrongFalsely : Prop := sumsTakeRow.holds Try.pinned (OpenSpec.ofChange sumsTakeWrong)

/- THE SECOND FORM. 'bulk': how many values and letters a reading holds, each counted each time it is reached (what is shared counts as often as it is met; a slice's spare places count too). A statement '..UptoSaid' is the law's where the arguments, and the package variables that the reading takes, are together of bulk at most 1048576: NARROWER than '..Said'. Prove '..Said' where nothing that the law and all that it calls make is longer than what came in: it says more and counts as full. Else prove '..UptoSaid'. A law counts once. -/
mutual
def uptoBulk {H : Type} : DataW H → Nat
  | .lit (.string bytes) => bytes.length + 1
  | .lit _ => 1
  | .nil => 1
  | .ptr d => uptoBulk d + 1
  | .slice elems spare => uptoBulkAll elems + uptoBulkAll spare + 1
  | .agg parts => uptoBulkAll parts + 1
  | .iface _ d => uptoBulk d + 1
  | .map entries => uptoBulkEntries entries + 1
  | .held _ => 1
def uptoBulkAll {H : Type} : List (DataW H) → Nat
  | [] => 0
  | d :: r => uptoBulk d + uptoBulkAll r
def uptoBulkEntries {H : Type} : List (Lit × DataW H) → Nat
  | [] => 0
  | x :: r => uptoBulkEntry x + uptoBulkEntries r
def uptoBulkEntry {H : Type} : Lit × DataW H → Nat
  | (.string bytes, d) => bytes.length + uptoBulk d + 1
  | (_, d) => uptoBulk d + 1
 end
def uptoSmall : (H : Type) → List (DataW H) → Bool := fun _ ds => decide (uptoBulkAll ds ≤ 1048576)
def OpenSpec.upto (s : _root_.Go.ChangeSpec) : _root_.Go.OpenSpec := { _root_.Go.OpenSpec.ofChange s with cond := some uptoSmall }

/-- 'burnishlaw01.SumsJoin', WHERE WHAT IT READS IS OF BULK AT MOST 1048576: true; the input reads as it did. -/
def sumsJoinUptoRow : OpenClaim := { program := "ytfkdfdcnmbaheaa", sum := "2f0cf3b4721f5d8c9089654159c09f0379e5a6aa385ad876783b61933b4659a1", func := "burnish/burnishlaw01.SumsJoin", spec := "sumsJoin", apart := false, narrowed := true }
def SumsJoinUptoSaid : Prop := sumsJoinUptoRow.holds Try.pinned (OpenSpec.upto sumsJoinSpec)

/-- 'burnishlaw01.SumsAdler', WHERE WHAT IT READS IS OF BULK AT MOST 1048576: true; the input reads as it did. -/
def sumsAdlerUptoRow : OpenClaim := { program := "ytfkdfdcnmbaheaa", sum := "2f0cf3b4721f5d8c9089654159c09f0379e5a6aa385ad876783b61933b4659a1", func := "burnish/burnishlaw01.SumsAdler", spec := "sumsAdler", apart := false, narrowed := true }
def SumsAdlerUptoSaid : Prop := sumsAdlerUptoRow.holds Try.pinned (OpenSpec.upto sumsAdlerSpec)

/-- 'burnishlaw01.SumsCrc', WHERE WHAT IT READS IS OF BULK AT MOST 1048576: true; the input reads as it did. -/
def sumsCrcUptoRow : OpenClaim := { program := "ytfkdfdcnmbaheaa", sum := "2f0cf3b4721f5d8c9089654159c09f0379e5a6aa385ad876783b61933b4659a1", func := "burnish/burnishlaw01.SumsCrc", spec := "sumsCrc", apart := false, narrowed := true }
def SumsCrcUptoSaid : Prop := sumsCrcUptoRow.holds Try.pinned (OpenSpec.upto sumsCrcSpec)

/-- 'burnishlaw01.SumsParts', WHERE WHAT IT READS IS OF BULK AT MOST 1048576: true; the input reads as it did. -/
def sumsPartsUptoRow : OpenClaim := { program := "ytfkdfdcnmbaheaa", sum := "2f0cf3b4721f5d8c9089654159c09f0379e5a6aa385ad876783b61933b4659a1", func := "burnish/burnishlaw01.SumsParts", spec := "sumsParts", apart := false, narrowed := true }
def SumsPartsUptoSaid : Prop := sumsPartsUptoRow.holds Try.pinned (OpenSpec.upto sumsPartsSpec)

/-- 'burnishlaw01.SumsPut', WHERE WHAT IT READS IS OF BULK AT MOST 1048576: true; the input reads as it did. -/
def sumsPutUptoRow : OpenClaim := { program := "ytfkdfdcnmbaheaa", sum := "2f0cf3b4721f5d8c9089654159c09f0379e5a6aa385ad876783b61933b4659a1", func := "burnish/burnishlaw01.SumsPut", spec := "sumsPut", apart := false, narrowed := true }
def SumsPutUptoSaid : Prop := sumsPutUptoRow.holds Try.pinned (OpenSpec.upto sumsPutSpec)

/-- 'burnishlaw01.SumsTake', WHERE WHAT IT READS IS OF BULK AT MOST 1048576: true; the input reads as it did. -/
def sumsTakeUptoRow : OpenClaim := { program := "ytfkdfdcnmbaheaa", sum := "2f0cf3b4721f5d8c9089654159c09f0379e5a6aa385ad876783b61933b4659a1", func := "burnish/burnishlaw01.SumsTake", spec := "sumsTake", apart := false, narrowed := true }
def SumsTakeUptoSaid : Prop := sumsTakeUptoRow.holds Try.pinned (OpenSpec.upto sumsTakeSpec)

end Rows
end Go.Proofs.Ytfkdfdcnmbaheaa
