/- Chunks, a name, how many and bytes, by value (a struct of four), opened. By an AI agent. -/
import Derived.Test.YtmdbnnnaiidheaaChunkO
import Derived.Lib.SmallJoins
namespace Go.Proofs.Ytmdbnnnaiidheaa
open Go.ChangeShapes Go.WideShapes Go.RowKit
set_option linter.unusedVariables false
set_option linter.unusedSimpArgs false

variable {H : Type} {enc : TypeId × Value → H} {w : World} {base : Nat} {spare : Nat → Bool} {held : Bool}
set_option maxRecDepth 20000 in
theorem open_found {r : Reach} {b0 : Nat} {v : Value} {d : DataW H} {p : List MemPlace} {ts : List TypeId} {ds : List (DataW H)} {j : Nat} (hv : Value.okWide Try.prog w r b0 50 v) (h : DataW.Trod enc Try.prog w base spare held 50 v d p)
    (hsz : (DataW.weightsEach Try.prog ts ds).all (· ≤ reachBytes) = true) (htj : ts[j]? = some 50) (hdj : ds[j]? = some d) :
    ∃ (x : Value) (nm : List UInt8) (M : Int) (y : Value) (cs : List Chk) (l : List UInt8), v = .agg #[x, .string (strOf nm), .int .i64 M, y] ∧ Cks w x cs ∧ cs.length ≤ 140737488351232 ∧ (∀ c ∈ cs, c.1.length ≤ 140737488351232) ∧ (∀ c ∈ cs, c.2.length ≤ 140737488351232) ∧
      (-9223372036854775808 ≤ M ∧ M ≤ 9223372036854775807) ∧ Bs w y l ∧ l.length ≤ 140737488351232 := by
  obtain ⟨v0, v1, v2, v3, y0, y1, y2, y3, n, rfl, hd, _, h0, h1, h2, h3⟩ := Joins.open_agg4 Try.underlying50 (by kernel_rfl) (by kernel_rfl) hv h
  have all : ∀ k ∈ DataW.weights Try.prog 50 d, k ≤ reachBytes := fun k hk => by
    have := List.all_eq_true.1 hsz _ (DataW.weights_mem_each htj hdj k hk)
    simpa using this
  have e : DataW.weights Try.prog 50 d = DataW.weights Try.prog 25 y0.1 ++ (DataW.weights Try.prog 9 y1.1 ++ (DataW.weights Try.prog 3 y2.1 ++ DataW.weights Try.prog 22 y3.1)) := by
    rw [hd]; simp [DataW.weights, DataW.weightsEach, Try.underlying50]
  rw [e] at all
  obtain ⟨cs, hc, hcl, hcn, hcd⟩ := cks_of_trod h0 (fun k hk => all k (List.mem_append_left _ hk))
  obtain ⟨s, es, _, _⟩ := DataW.trod_string Try.underlying9 h1
  simp only [List.cons.injEq, and_true] at es
  obtain ⟨m, em, _, hwf⟩ := DataW.trod_int Try.underlying3 h2
  simp only [List.cons.injEq, and_true] at em
  obtain ⟨l, hl, hll⟩ := bs_of_trod h3 (fun k hk => all k (List.mem_append_right _ (List.mem_append_right _ (List.mem_append_right _ hk))))
  exact ⟨v0, s.data.toList, m, v3, cs, l, by rw [es, em, strOf_list], hc, hcl, hcn, hcd, by simpa [Lit.wf, IntKind.min, IntKind.max, IntKind.signed, IntKind.bits] using hwf, hl, hll⟩
end Go.Proofs.Ytmdbnnnaiidheaa
