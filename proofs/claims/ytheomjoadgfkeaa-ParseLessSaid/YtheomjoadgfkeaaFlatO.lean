/- Bytes and three ints, by value (a struct of four), opened. By an AI agent. -/
import Derived.Test.YtheomjoadgfkeaaBytesO
import Derived.Lib.SmallJoins
namespace Go.Proofs.Ytheomjoadgfkeaa
open Go.ChangeShapes Go.WideShapes Go.RowKit
set_option linter.unusedVariables false
set_option linter.unusedSimpArgs false

variable {H : Type} {enc : TypeId × Value → H} {w : World} {base : Nat} {spare : Nat → Bool} {held : Bool}
set_option maxRecDepth 20000 in
theorem open_flat {r : Reach} {b0 : Nat} {v : Value} {d : DataW H} {p : List MemPlace} {ts : List TypeId} {ds : List (DataW H)} {j : Nat} (hv : Value.okWide Try.prog w r b0 61 v) (h : DataW.Trod enc Try.prog w base spare held 61 v d p)
    (hsz : (DataW.weightsEach Try.prog ts ds).all (· ≤ reachBytes) = true) (htj : ts[j]? = some 61) (hdj : ds[j]? = some d) :
    ∃ (y : Value) (l : List UInt8) (m0 m1 m2 : Int), v = .agg #[y, .int .i64 m0, .int .i64 m1, .int .i64 m2] ∧ Bs w y l ∧ l.length ≤ 140737488351232 := by
  obtain ⟨v0, v1, v2, v3, y0, y1, y2, y3, n, rfl, hd, _, h0, h1, h2, h3⟩ := Joins.open_agg4 Try.underlying61 (by kernel_rfl) (by kernel_rfl) hv h
  have all : ∀ k ∈ DataW.weights Try.prog 61 d, k ≤ reachBytes := fun k hk => by
    have := List.all_eq_true.1 hsz _ (DataW.weights_mem_each htj hdj k hk)
    simpa using this
  have e : DataW.weights Try.prog 61 d = DataW.weights Try.prog 48 y0.1 ++ (DataW.weights Try.prog 3 y1.1 ++ (DataW.weights Try.prog 3 y2.1 ++ DataW.weights Try.prog 3 y3.1)) := by
    rw [hd]; simp [DataW.weights, DataW.weightsEach, Try.underlying61]
  rw [e] at all
  obtain ⟨m1, em1, _, _⟩ := DataW.trod_int Try.underlying3 h1
  obtain ⟨m2, em2, _, _⟩ := DataW.trod_int Try.underlying3 h2
  obtain ⟨m3, em3, _, _⟩ := DataW.trod_int Try.underlying3 h3
  simp only [List.cons.injEq, and_true] at em1 em2 em3
  obtain ⟨l, hl, hll⟩ := bs_of_trod h0 (fun k hk => all k (List.mem_append_left _ hk))
  exact ⟨v0, l, m1, m2, m3, by rw [em1, em2, em3], hl, hll⟩
end Go.Proofs.Ytheomjoadgfkeaa
