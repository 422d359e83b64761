/- A slice of numbers that came in, opened. By an AI agent. -/
import Derived.Test.YtbcbfnkpnfbfjaaPicV
namespace Go.Proofs.Ytbcbfnkpnfbfjaa
open Go.ChangeShapes Go.WideShapes Go.RowKit
set_option linter.unusedVariables false
variable {H : Type} {enc : TypeId × Value → H} {w : World} {base : Nat} {spare : Nat → Bool} {held : Bool}
theorem open_nums {a : Option Addr} {len cap : Nat} {d : DataW H} {p : List MemPlace} {ts : List TypeId} {ds : List (DataW H)} {j : Nat} (h : DataW.Trod enc Try.prog w base spare held 22 (.slice a len cap) d p)
    (hsz : (DataW.weightsEach Try.prog ts ds).all (· ≤ reachBytes) = true) (htj : ts[j]? = some 22) (hdj : ds[j]? = some d) :
    ∃ l : List Int, Ns w (.slice a len cap) l ∧ l.length ≤ 140737488351232 := by
  obtain ⟨fuel, hf⟩ := h
  have all : ∀ k ∈ DataW.weights Try.prog 22 d, k ≤ reachBytes := fun k hk => by
    have := List.all_eq_true.1 hsz _ (DataW.weights_mem_each htj hdj k hk)
    simpa using this
  obtain ⟨l, h1, h2, _⟩ := nums_of_trod (v := .slice a len cap) (y := (d, p)) hf all
  exact ⟨l, h1, h2⟩
end Go.Proofs.Ytbcbfnkpnfbfjaa
