/- Prices by value (three slices of ints), opened. By an AI agent. -/
import Derived.Test.YtheomjoadgfkeaaProg
import Derived.WideShapes
import Derived.ChangeArms
import Derived.OpenShut
import Derived.SizedLaws
import Derived.Lib.SmallJoins
import Derived.Test.YtheomjoadgfkeaaInts
namespace Go.Proofs.Ytheomjoadgfkeaa
open Go.ChangeShapes Go.WideShapes Go.RowKit
set_option linter.unusedVariables false
set_option linter.unusedSimpArgs false

variable {H : Type} {enc : TypeId × Value → H} {w : World} {base : Nat} {spare : Nat → Bool} {held : Bool}
theorem ns_of_trod {n : Nat} {v : Value} {y : DataW H × List MemPlace} (h : DataW.trod enc Try.prog w base spare held n 23 [v] = some y) (hb : ∀ k ∈ DataW.weights Try.prog 23 y.1, k ≤ reachBytes) :
    ∃ l : List Int, Ns w v l ∧ l.length ≤ 140737488355328 := by
  have hti : Try.prog.underlying 3 = some (.int .i64) := Try.underlying3
  have ht : Try.prog.underlying 23 = some (.slice 3) := Try.underlying23
  rcases open_ints ht hti (by kernel_rfl) h with ⟨hcs, _⟩ | ⟨x, len, c, zs, hcs, _, hl, hm, hz, hd, hcell, hwz⟩
  · simp only [List.cons.injEq, and_true] at hcs
    subst hcs
    exact ⟨[], Ns.nil _ _ _, by simp⟩
  · simp only [List.cons.injEq, and_true] at hcs
    subst hcs
    have hlz : len ≤ zs.length := by rw [hz]; split <;> omega
    have hb8 : Try.prog.bytesOf 3 = 8 := by kernel_rfl
    have h8 := hb (((zs.take len).length + (zs.drop len).length) * 8) (by rw [hd]; simp [DataW.weights, ht, hb8, lits])
    rw [List.length_take, List.length_drop] at h8
    unfold reachBytes at h8
    have hlen : (zs.take len).length = len := by rw [List.length_take]; omega
    refine ⟨zs.take len, ⟨by rw [vIs_length]; omega, ?_⟩, by omega⟩
    rw [hlen]
    by_cases hn : len = 0
    · exact .inl ⟨_, _, rfl, hn⟩
    · obtain ⟨b, off, sp⟩ := x
      have hc0 := hcell 0 (by omega)
      have hsp : sp = none := by simpa [Addr.add] using World.cell?_spot hc0
      subst hsp
      refine .inr ⟨b, off, c, rfl, hl, by omega, fun i u hu => ?_⟩
      have hi : i < len := by have := (List.getElem?_eq_some_iff.1 hu).1; rw [vIs_length] at this; omega
      have hc := hcell i (by omega)
      rw [add_at] at hc
      rw [hc]
      have e : u = .int .i64 (zs.getD i 0) := by
        simp only [vIs, vI, List.getElem?_map, List.getElem?_take, hi, if_true, List.getElem?_eq_getElem (show i < zs.length by omega), Option.map_some, Option.some.injEq] at hu
        rw [← hu, List.getD_eq_getElem?_getD, List.getElem?_eq_getElem (show i < zs.length by omega)]
        rfl
      rw [e]
set_option maxRecDepth 20000 in
theorem open_prices {r : Reach} {b0 : Nat} {v : Value} {d : DataW H} {p : List MemPlace} {ts : List TypeId} {ds : List (DataW H)} {j : Nat} (hv : Value.okWide Try.prog w r b0 33 v) (h : DataW.Trod enc Try.prog w base spare held 33 v d p)
    (hsz : (DataW.weightsEach Try.prog ts ds).all (· ≤ reachBytes) = true) (htj : ts[j]? = some 33) (hdj : ds[j]? = some d) :
    ∃ (x y z : Value) (a b c : List Int), v = .agg #[x, y, z] ∧ Ns w x a ∧ Ns w y b ∧ Ns w z c ∧ a.length ≤ 140737488355328 ∧ b.length ≤ 140737488355328 ∧ c.length ≤ 140737488355328 := by
  obtain ⟨v0, v1, v2, y0, y1, y2, n, rfl, hd, _, h0, h1, h2⟩ := Joins.open_agg3 Try.underlying33 (by kernel_rfl) (by kernel_rfl) hv h
  have all : ∀ k ∈ DataW.weights Try.prog 33 d, k ≤ reachBytes := fun k hk => by
    have := List.all_eq_true.1 hsz _ (DataW.weights_mem_each htj hdj k hk)
    simpa using this
  have e : DataW.weights Try.prog 33 d = DataW.weights Try.prog 23 y0.1 ++ (DataW.weights Try.prog 23 y1.1 ++ DataW.weights Try.prog 23 y2.1) := by
    rw [hd]; simp [DataW.weights, DataW.weightsEach, Try.underlying33]
  rw [e] at all
  obtain ⟨a, na, la⟩ := ns_of_trod h0 (fun k hk => all k (List.mem_append_left _ hk))
  obtain ⟨b, nb, lb⟩ := ns_of_trod h1 (fun k hk => all k (List.mem_append_right _ (List.mem_append_left _ hk)))
  obtain ⟨c, nc, lc⟩ := ns_of_trod h2 (fun k hk => all k (List.mem_append_right _ (List.mem_append_right _ hk)))
  exact ⟨v0, v1, v2, a, b, c, rfl, na, nb, nc, la, lb, lc⟩
end Go.Proofs.Ytheomjoadgfkeaa
