/-
  No cell of these rows narrows 'for every input' (looked for: loops, veiled, ifaces, maps, wideKeys, modest, calm, conditions, laid).
  DERIVED. THE GIVEN ROWS OF THIS SEAT. 5 by the template 'for every input the law returns true; each argument reads behind the call as it read before'; 0 by the template 'total and deterministic' (their statements: YtheomjoadgfkeaaTotals.lean).
  GIVEN WITH THE SEED: the statements are not yours to turn. If you find one false, say at which input.
  Laid BY PROGRAM, IN A SANDBOX (cutbox-rows.mjs): the forced cells as the released guide's own fill.sh prints them over the translation 92ad1430e4188185… (all of the seat's roots in one cut). By AI agents, Wed Nov 11 2026. No macro, syntax, notation, axiom, sorry.
-/
import Derived.Test.YtheomjoadgfkeaaChecked
import GoSem.Claim
import GoSem.ClaimJoined
import GoSem.ClaimMapViews
import Derived.JoinedTies
import Derived.KernelRfl
namespace Go.Proofs.Ytheomjoadgfkeaa
/- THE CELL 'sum', in the pinned program and in every row, IS THE sha256 OF THE DUMP (.gsa) THAT YtheomjoadgfkeaaProg.lean LOADS. Nothing in Lean hashes anything: it is a label: what it is worth is what the hold of that sum in a sandbox is worth. -/
noncomputable def Try.pinned : Pinned := { name := "ytheomjoadgfkeaa", sum := "92ad1430e4188185c9537ce4ff1c666493d47270435e5c754f428da00d9ddd8f", checked := Try.checked }
namespace Rows
def none {H : Type} : Left H := { results := [], args := [] }

/-- 'burnishlaw09.ParseCounts': WHATEVER THE INPUT: true; the input reads as it did. -/
def parseCountsSpec : ChangeSpec := { name := "parseCounts", fn := fun _ => fun
  | [d] => { results := [.lit (.bool true)], args := [d] }
  | _ => none }
def parseCountsRow : OpenClaim := { program := "ytheomjoadgfkeaa", sum := "92ad1430e4188185c9537ce4ff1c666493d47270435e5c754f428da00d9ddd8f", func := "burnish/burnishlaw09.ParseCounts", spec := "parseCounts", plainKeys := false, apart := false }
def ParseCountsSaid : Prop := parseCountsRow.holds Try.pinned (OpenSpec.ofChange parseCountsSpec)

/-- ITS FALSE NEIGHBOUR: 'it returns false'. Refute it at one input. -/
def parseCountsWrong : ChangeSpec := { name := "parseCounts", fn := fun _ => fun
  | [d] => { results := [.lit (.bool false)], args := [d] }
  | _ => none }
def ParseCountsWrongFalsely : Prop := parseCountsRow.holds Try.pinned (OpenSpec.ofChange parseCountsWrong)

/-- 'burnishlaw09.ParsePrices': WHATEVER THE INPUT: true; the input reads as it did. -/
def parsePricesSpec : ChangeSpec := { name := "parsePrices", fn := fun _ => fun
  | [d1, d2] => { results := [.lit (.bool true)], args := [d1, d2] }
  | _ => none }
def parsePricesRow : OpenClaim := { program := "ytheomjoadgfkeaa", sum := "92ad1430e4188185c9537ce4ff1c666493d47270435e5c754f428da00d9ddd8f", func := "burnish/burnishlaw09.ParsePrices", spec := "parsePrices", unfollowed := true, recurses := true, plainKeys := false, apart := false }
def ParsePricesSaid : Prop := parsePricesRow.holds Try.pinned (OpenSpec.ofChange parsePricesSpec)

/-- ITS FALSE NEIGHBOUR: 'it returns false'. Refute it at one input. -/
def parsePricesWrong : ChangeSpec := { name := "parsePrices", fn := fun _ => fun
  | [d1, d2] => { results := [.lit (.bool false)], args := [d1, d2] }
  | _ => none }
def ParsePricesWrongFalsely : Prop := parsePricesRow.holds Try.pinned (OpenSpec.ofChange parsePricesWrong)

/-- 'burnishlaw09.ParseGreedy': WHATEVER THE INPUT: true; the input reads as it did. -/
def parseGreedySpec : ChangeSpec := { name := "parseGreedy", fn := fun _ => fun
  | [d] => { results := [.lit (.bool true)], args := [d] }
  | _ => none }
def parseGreedyRow : OpenClaim := { program := "ytheomjoadgfkeaa", sum := "92ad1430e4188185c9537ce4ff1c666493d47270435e5c754f428da00d9ddd8f", func := "burnish/burnishlaw09.ParseGreedy", spec := "parseGreedy", unfollowed := true, recurses := true, plainKeys := false, apart := false }
def ParseGreedySaid : Prop := parseGreedyRow.holds Try.pinned (OpenSpec.ofChange parseGreedySpec)

/-- ITS FALSE NEIGHBOUR: 'it returns false'. Refute it at one input. -/
def parseGreedyWrong : ChangeSpec := { name := "parseGreedy", fn := fun _ => fun
  | [d] => { results := [.lit (.bool false)], args := [d] }
  | _ => none }
def ParseGreedyWrongFalsely : Prop := parseGreedyRow.holds Try.pinned (OpenSpec.ofChange parseGreedyWrong)

/-- 'burnishlaw09.ParseCheapest': WHATEVER THE INPUT: true; the input reads as it did. -/
def parseCheapestSpec : ChangeSpec := { name := "parseCheapest", fn := fun _ => fun
  | [d1, d2] => { results := [.lit (.bool true)], args := [d1, d2] }
  | _ => none }
def parseCheapestRow : OpenClaim := { program := "ytheomjoadgfkeaa", sum := "92ad1430e4188185c9537ce4ff1c666493d47270435e5c754f428da00d9ddd8f", func := "burnish/burnishlaw09.ParseCheapest", spec := "parseCheapest", unfollowed := true, recurses := true, plainKeys := false, apart := false }
def ParseCheapestSaid : Prop := parseCheapestRow.holds Try.pinned (OpenSpec.ofChange parseCheapestSpec)

/-- ITS FALSE NEIGHBOUR: 'it returns false'. Refute it at one input. -/
def parseCheapestWrong : ChangeSpec := { name := "parseCheapest", fn := fun _ => fun
  | [d1, d2] => { results := [.lit (.bool false)], args := [d1, d2] }
  | _ => none }
def ParseCheapestWrongFalsely : Prop := parseCheapestRow.holds Try.pinned (OpenSpec.ofChange parseCheapestWrong)

/-- 'burnishlaw09.ParseLess': WHATEVER THE INPUT: true; the input reads as it did. -/
def parseLessSpec : ChangeSpec := { name := "parseLess", fn := fun _ => fun
  | [d] => { results := [.lit (.bool true)], args := [d] }
  | _ => none }
def parseLessRow : OpenClaim := { program := "ytheomjoadgfkeaa", sum := "92ad1430e4188185c9537ce4ff1c666493d47270435e5c754f428da00d9ddd8f", func := "burnish/burnishlaw09.ParseLess", spec := "parseLess", unfollowed := true, recurses := true, plainKeys := false, apart := false }
def ParseLessSaid : Prop := parseLessRow.holds Try.pinned (OpenSpec.ofChange parseLessSpec)

/-- ITS FALSE NEIGHBOUR: 'it returns false'. Refute it at one input. -/
def parseLessWrong : ChangeSpec := { name := "parseLess", fn := fun _ => fun
  | [d] => { results := [.lit (.bool false)], args := [d] }
  | _ => none }
def ParseLessWrongFalsely : Prop := parseLessRow.holds Try.pinned (OpenSpec.ofChange parseLessWrong)

/- THE SECOND FORM. 'bulk': how many values and letters a reading holds, each counted each time it is reached (what is shared counts as often as it is met; a slice's spare places count too). A statement '..UptoSaid' is the law's where the arguments, and the package variables that the reading takes, are together of bulk at most 1048576: NARROWER than '..Said'. Prove '..Said' where nothing that the law and all that it calls make is longer than what came in: it says more and counts as full. Else prove '..UptoSaid'. A law counts once. -/
mutual
def uptoBulk {H : Type} : DataW H → Nat
  | .lit (.string bytes) => bytes.length + 1
  | .lit _ => 1
  | .nil => 1
  | .ptr d => uptoBulk d + 1
  | .slice elems spare => uptoBulkAll elems + uptoBulkAll spare + 1
  | .agg parts => uptoBulkAll parts + 1
  | .iface _ d => uptoBulk d + 1
  | .map entries => uptoBulkEntries entries + 1
  | .held _ => 1
def uptoBulkAll {H : Type} : List (DataW H) → Nat
  | [] => 0
  | d :: r => uptoBulk d + uptoBulkAll r
def uptoBulkEntries {H : Type} : List (Lit × DataW H) → Nat
  | [] => 0
  | x :: r => uptoBulkEntry x + uptoBulkEntries r
def uptoBulkEntry {H : Type} : Lit × DataW H → Nat
  | (.string bytes, d) => bytes.length + uptoBulk d + 1
  | (_, d) => uptoBulk d + 1
 end
def uptoSmall : (H : Type) → List (DataW H) → Bool := fun _ ds => decide (uptoBulkAll ds ≤ 1048576)
def OpenSpec.upto (s : _root_.Go.ChangeSpec) : _root_.Go.OpenSpec := { _root_.Go.OpenSpec.ofChange s with cond := some uptoSmall }

/-- 'burnishlaw09.ParseCounts', WHERE WHAT IT READS IS OF BULK AT MOST 1048576: true; the input reads as it did. -/
def parseCountsUptoRow : OpenClaim := { program := "ytheomjoadgfkeaa", sum := "92ad1430e4188185c9537ce4ff1c666493d47270435e5c754f428da00d9ddd8f", func := "burnish/burnishlaw09.ParseCounts", spec := "parseCounts", plainKeys := false, apart := false, narrowed := true }
def ParseCountsUptoSaid : Prop := parseCountsUptoRow.holds Try.pinned (OpenSpec.upto parseCountsSpec)

/-- 'burnishlaw09.ParsePrices', WHERE WHAT IT READS IS OF BULK AT MOST 1048576: true; the input reads as it did. -/
def parsePricesUptoRow : OpenClaim := { program := "ytheomjoadgfkeaa", sum := "92ad1430e4188185c9537ce4ff1c666493d47270435e5c754f428da00d9ddd8f", func := "burnish/burnishlaw09.ParsePrices", spec := "parsePrices", unfollowed := true, recurses := true, plainKeys := false, apart := false, narrowed := true }
def ParsePricesUptoSaid : Prop := parsePricesUptoRow.holds Try.pinned (OpenSpec.upto parsePricesSpec)

/-- 'burnishlaw09.ParseGreedy', WHERE WHAT IT READS IS OF BULK AT MOST 1048576: true; the input reads as it did. -/
def parseGreedyUptoRow : OpenClaim := { program := "ytheomjoadgfkeaa", sum := "92ad1430e4188185c9537ce4ff1c666493d47270435e5c754f428da00d9ddd8f", func := "burnish/burnishlaw09.ParseGreedy", spec := "parseGreedy", unfollowed := true, recurses := true, plainKeys := false, apart := false, narrowed := true }
def ParseGreedyUptoSaid : Prop := parseGreedyUptoRow.holds Try.pinned (OpenSpec.upto parseGreedySpec)

/-- 'burnishlaw09.ParseCheapest', WHERE WHAT IT READS IS OF BULK AT MOST 1048576: true; the input reads as it did. -/
def parseCheapestUptoRow : OpenClaim := { program := "ytheomjoadgfkeaa", sum := "92ad1430e4188185c9537ce4ff1c666493d47270435e5c754f428da00d9ddd8f", func := "burnish/burnishlaw09.ParseCheapest", spec := "parseCheapest", unfollowed := true, recurses := true, plainKeys := false, apart := false, narrowed := true }
def ParseCheapestUptoSaid : Prop := parseCheapestUptoRow.holds Try.pinned (OpenSpec.upto parseCheapestSpec)

/-- 'burnishlaw09.ParseLess', WHERE WHAT IT READS IS OF BULK AT MOST 1048576: true; the input reads as it did. -/
def parseLessUptoRow : OpenClaim := { program := "ytheomjoadgfkeaa", sum := "92ad1430e4188185c9537ce4ff1c666493d47270435e5c754f428da00d9ddd8f", func := "burnish/burnishlaw09.ParseLess", spec := "parseLess", unfollowed := true, recurses := true, plainKeys := false, apart := false, narrowed := true }
def ParseLessUptoSaid : Prop := parseLessUptoRow.holds Try.pinned (OpenSpec.upto parseLessSpec)

end Rows
end Go.Proofs.Ytheomjoadgfkeaa
