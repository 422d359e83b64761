/- An array of ints by value, opened. By an AI agent. -/
import Derived.Test.YtnhalnjdlkdnkaaProg
import Derived.WideShapes
import Derived.ChangeArms
import Derived.OpenShut
import Derived.Test.YtnhalnjdlkdnkaaLib
namespace Go.Proofs.Ytnhalnjdlkdnkaa
open Go.ChangeShapes Go.WideShapes Go.RowKit

variable {H : Type} {enc : TypeId × Value → H} {P : Program} {w : World} {base : Nat} {spare : Nat → Bool} {held : Bool}
theorem open_ints_array {r : Reach} {b0 : Nat} {t ti : TypeId} {n : Nat} {v : Value} {d : DataW H} {p : List MemPlace} (ha : P.underlying t = some (.array n ti)) (hti : P.underlying ti = some (.int .i64)) (hci : P.cellsOf ti = 1) (hC : P.cellsOf t = n)
    (hv : Value.okWide P w r b0 t v) (h : DataW.Trod enc P w base spare held t v d p) :
    ∃ xs : List Int, xs.length = n ∧ v = .agg (xs.map (Value.int .i64)).toArray ∧ ∀ x ∈ xs, -9223372036854775808 ≤ x ∧ x ≤ 9223372036854775807 := by
  simp only [Value.okWide, ha] at hv
  obtain ⟨cs, rfl, hsz, _⟩ := hv
  obtain ⟨fuel, hf⟩ := h
  obtain ⟨ys, m, _, _, _, hyl, hg⟩ := DataW.trod_array ha hf
  have key : ∀ i (hi : i < cs.size), ∃ m : Int, cs[i] = .int .i64 m ∧ -9223372036854775808 ≤ m ∧ m ≤ 9223372036854775807 := by
    intro i hi
    have h1 := hg i (by omega)
    rw [hci, Nat.mul_one, List.getElem?_eq_getElem (by omega)] at h1
    have h2 : ((Value.agg cs).cells.toList.drop i).take 1 = [cs[i]] := by
      simp only [Value.cells]
      rw [List.drop_eq_getElem_cons (by simpa using hi)]
      simp
    rw [h2] at h1
    obtain ⟨m, hm, _, hwf⟩ := DataW.trod_int hti h1
    simp only [List.cons.injEq, and_true] at hm
    exact ⟨m, hm, by simpa [Lit.wf, IntKind.min, IntKind.max, IntKind.signed, IntKind.bits] using hwf⟩
  refine ⟨cs.toList.map fun u => match u with | .int _ m => m | _ => 0, by simp; omega, ?_, ?_⟩
  · congr 1
    apply Array.ext
    · simp
    · intro i h1 h2
      obtain ⟨m, hm, _⟩ := key i h1
      simp [hm]
  · intro x hx
    obtain ⟨u, hu, rfl⟩ := List.mem_map.1 hx
    obtain ⟨i, hi, rfl⟩ := List.getElem_of_mem hu
    obtain ⟨m, hm, hb⟩ := key i (by simpa using hi)
    simp only [Array.getElem_toList, hm]
    exact hb
end Go.Proofs.Ytnhalnjdlkdnkaa
