/- A block and three turns by value, opened. By an AI agent. -/
import Derived.Test.YtnhalnjdlkdnkaaProg
import Derived.WideShapes
import Derived.ChangeArms
import Derived.OpenShut
import Derived.Test.YtnhalnjdlkdnkaaBlk
namespace Go.Proofs.Ytnhalnjdlkdnkaa
open Go.ChangeShapes Go.WideShapes Go.RowKit
set_option linter.unusedVariables false
set_option linter.unusedSimpArgs false

variable {H : Type} {enc : TypeId × Value → H} {w : World} {base : Nat} {spare : Nat → Bool} {held : Bool}
theorem take_int {P : Program} {ti : TypeId} {cs : Array Value} {m i : Nat} {x : DataW H × List MemPlace} (hti : P.underlying ti = some (.int .i64)) (hi : i < cs.size) (h : DataW.trod enc P w base spare held m ti (((Value.agg cs).cells.toList.drop i).take 1) = some x) :
    ∃ z : Int, cs[i]? = some (.int .i64 z) ∧ -9223372036854775808 ≤ z ∧ z ≤ 9223372036854775807 := by
  have h2 : ((Value.agg cs).cells.toList.drop i).take 1 = [cs[i]] := by
    simp only [Value.cells]
    rw [List.drop_eq_getElem_cons (by simpa using hi)]
    simp
  rw [h2] at h
  obtain ⟨z, hz, _, hwf⟩ := DataW.trod_int hti h
  simp only [List.cons.injEq, and_true] at hz
  exact ⟨z, by rw [Array.getElem?_eq_getElem hi, hz], by simpa [Lit.wf, IntKind.min, IntKind.max, IntKind.signed, IntKind.bits] using hwf⟩
set_option maxRecDepth 20000 in
theorem open_turns {r : Reach} {b0 : Nat} {v : Value} {d : DataW H} {p : List MemPlace} (hv : Value.okWide Try.prog w r b0 28 v) (h : DataW.Trod enc Try.prog w base spare held 28 v d p) :
    ∃ (l : List Int) (x y z : Int), l.length = 64 ∧ v = .agg (vIs l ++ [Value.int .i64 x, .int .i64 y, .int .i64 z]).toArray ∧ In64 l ∧ (-9223372036854775808 ≤ x ∧ x ≤ 9223372036854775807) ∧ (-9223372036854775808 ≤ y ∧ y ≤ 9223372036854775807) ∧ (-9223372036854775808 ≤ z ∧ z ≤ 9223372036854775807) := by
  have hC : Try.prog.cellsOf 28 = 67 := by kernel_rfl
  have hB : Try.prog.cellsOf 23 = 64 := by kernel_rfl
  have hI : Try.prog.cellsOf 3 = 1 := by kernel_rfl
  have hti : Try.prog.underlying 3 = some (.int .i64) := Try.underlying3
  obtain ⟨cs, rfl, hsz⟩ := okWide_struct Try.underlying28 hv
  rw [hC] at hsz
  obtain ⟨fuel, hf⟩ := h
  obtain ⟨ys, n, _, _, _, hyl, hg⟩ := DataW.trod_struct Try.underlying28 hf
  have hyl4 : ys.length = 4 := hyl
  have h0 : DataW.trod enc Try.prog w base spare held n 23 (((Value.agg cs).cells.toList.drop 0).take (Try.prog.cellsOf 23)) = ys[0]? := hg 0 _ rfl
  have h1 : DataW.trod enc Try.prog w base spare held n 3 (((Value.agg cs).cells.toList.drop 64).take (Try.prog.cellsOf 3)) = ys[1]? := hg 1 _ rfl
  have h2 : DataW.trod enc Try.prog w base spare held n 3 (((Value.agg cs).cells.toList.drop 65).take (Try.prog.cellsOf 3)) = ys[2]? := hg 2 _ rfl
  have h3 : DataW.trod enc Try.prog w base spare held n 3 (((Value.agg cs).cells.toList.drop 66).take (Try.prog.cellsOf 3)) = ys[3]? := hg 3 _ rfl
  rw [hI, List.getElem?_eq_getElem (by omega)] at h1 h2 h3
  rw [hB, List.getElem?_eq_getElem (by omega)] at h0
  obtain ⟨xs, m, _, _, _, hxl, ha⟩ := DataW.trod_array Try.underlying23 h0
  have key : ∀ i, i < 64 → ∃ z : Int, cs[i]? = some (.int .i64 z) ∧ -9223372036854775808 ≤ z ∧ z ≤ 9223372036854775807 := by
    intro i hi
    have h4 := ha i hi
    rw [hI, Nat.mul_one, List.getElem?_eq_getElem (by omega), List.drop_zero, List.drop_take, List.take_take, show min 1 (64 - i) = 1 by omega] at h4
    exact take_int hti (by omega) h4
  obtain ⟨x, hx, bx⟩ := take_int hti (i := 64) (by omega) h1
  obtain ⟨y, hy, by'⟩ := take_int hti (i := 65) (by omega) h2
  obtain ⟨z, hz, bz⟩ := take_int hti (i := 66) (by omega) h3
  refine ⟨(List.range 64).map fun i => match cs[i]? with | some (Value.int _ q) => q | _ => 0, x, y, z, by simp, ?_, ?_, bx, by', bz⟩
  · congr 1
    apply Array.ext_getElem?
    intro i
    have e : ∀ L L' : List Value, (L ++ L').toArray[i]? = (L ++ L')[i]? := fun L L' => by rw [List.getElem?_toArray]
    rw [e]
    by_cases hi : i < 64
    · obtain ⟨q, hq, _⟩ := key i hi
      rw [List.getElem?_append_left (by rw [vIs_length, List.length_map, List.length_range]; omega), hq]
      simp [vIs, vI, hi, hq]
    · rw [List.getElem?_append_right (by rw [vIs_length, List.length_map, List.length_range]; omega)]
      simp only [vIs_length, List.length_map, List.length_range]
      rcases (by omega : i = 64 ∨ i = 65 ∨ i = 66 ∨ 67 ≤ i) with rfl | rfl | rfl | h67
      · rw [hx]; rfl
      · rw [hy]; rfl
      · rw [hz]; rfl
      · rw [Array.getElem?_eq_none (by omega), List.getElem?_eq_none (by simp; omega)]
  · intro q hq
    obtain ⟨i, hi, rfl⟩ := List.mem_map.1 hq
    obtain ⟨q, hq, bq⟩ := key i (List.mem_range.1 hi)
    simp only [hq]
    exact bq
end Go.Proofs.Ytnhalnjdlkdnkaa
