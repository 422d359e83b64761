/- A struct of int fields by value, of any number of them. By an AI agent. -/
import Derived.Test.YtfmkcpilljfidaaProg
import Derived.Deep.Fields
import Derived.WideShapes
import Derived.ChangeArms
import Derived.Test.YtfmkcpilljfidaaLib
import Derived.Lib.SmallJoins
namespace Go.Proofs.Ytfmkcpilljfidaa
open Go.ChangeShapes Go.WideShapes Go.Deep Go.RowKit Go.Joins

variable {H : Type} {enc : TypeId × Value → H} {P : Program} {w : World} {base : Nat} {spare : Nat → Bool} {held : Bool}
theorem open_ints_struct {r : Reach} {b0 : Nat} {t ti : TypeId} {fs : Array Field} {v : Value} {d : DataW H} {p : List MemPlace} (hs : P.underlying t = some (.struct fs)) (hone : oneCellFields P fs = true)
    (hC : P.cellsOf t = fs.size) (hall : (fs.all fun f => f.type == ti) = true) (hti : P.underlying ti = some (.int .i64)) (hv : Value.okWide P w r b0 t v) (h : DataW.Trod enc P w base spare held t v d p) :
    ∃ xs : List Int, xs.length = fs.size ∧ v = .agg (xs.map (Value.int .i64)).toArray ∧ ∀ x ∈ xs, -9223372036854775808 ≤ x ∧ x ≤ 9223372036854775807 := by
  obtain ⟨cs, rfl, hsz⟩ := okWide_struct hs hv
  obtain ⟨fuel, hf⟩ := h
  obtain ⟨ys, n, _, _, _, hyl, hg⟩ := DataW.trod_struct hs hf
  have key : ∀ i (hi : i < cs.size), ∃ m : Int, cs[i] = .int .i64 m ∧ -9223372036854775808 ≤ m ∧ m ≤ 9223372036854775807 := by
    intro i hi
    have hif : i < fs.size := by omega
    have hfi : fs[i]? = some fs[i] := Array.getElem?_eq_getElem hif
    obtain ⟨ho, hk⟩ := hone_of hone i _ hfi
    have hty : fs[i].type = ti := by
      rw [Array.all_eq_true] at hall
      simpa using hall i hif
    have h1 := hg i _ hfi
    rw [ho, hk, hty, List.getElem?_eq_getElem (by omega)] at h1
    have h2 : ((Value.agg cs).cells.toList.drop i).take 1 = [cs[i]] := by
      simp only [Value.cells]
      rw [List.drop_eq_getElem_cons (by simpa using hi)]
      simp
    rw [h2] at h1
    obtain ⟨m, hm, _, hwf⟩ := DataW.trod_int hti h1
    simp only [List.cons.injEq, and_true] at hm
    exact ⟨m, hm, by simpa [Lit.wf, IntKind.min, IntKind.max, IntKind.signed, IntKind.bits] using hwf⟩
  refine ⟨cs.toList.map fun u => match u with | .int _ m => m | _ => 0, by simp; omega, ?_, ?_⟩
  · congr 1
    apply Array.ext
    · simp
    · intro i h1 h2
      obtain ⟨m, hm, _⟩ := key i h1
      simp [hm]
  · intro x hx
    obtain ⟨u, hu, rfl⟩ := List.mem_map.1 hx
    obtain ⟨i, hi, rfl⟩ := List.getElem_of_mem hu
    obtain ⟨m, hm, hb⟩ := key i (by simpa using hi)
    simp only [Array.getElem_toList, hm]
    exact hb
theorem list5 {l : List Int} (h : l.length = 5) : ∃ a b c d e, l = [a, b, c, d, e] := by
  obtain ⟨a, l, rfl⟩ := List.exists_cons_of_length_eq_add_one h
  obtain ⟨b, l, rfl⟩ := List.exists_cons_of_length_eq_add_one (by simpa using h)
  obtain ⟨c, l, rfl⟩ := List.exists_cons_of_length_eq_add_one (by simpa using h)
  obtain ⟨d, l, rfl⟩ := List.exists_cons_of_length_eq_add_one (by simpa using h)
  obtain ⟨e, l, rfl⟩ := List.exists_cons_of_length_eq_add_one (by simpa using h)
  obtain rfl : l = [] := by simpa using h
  exact ⟨a, b, c, d, e, rfl⟩
end Go.Proofs.Ytfmkcpilljfidaa
