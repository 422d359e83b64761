/- A slice of the document's items that came in, opened. By an AI agent. -/
import Derived.Test.YtlljooncoingnaaSegV
namespace Go.Proofs.Ytlljooncoingnaa
open Go.ChangeShapes Go.WideShapes Go.RowKit
set_option linter.unusedVariables false
set_option linter.unusedSimpArgs false

def OneB (w : World) (cs : List Value) (p : List UInt8) : Prop := ∃ x, cs = [x] ∧ Bs w x p ∧ p.length ≤ 140737488351232
theorem bss_of_els {w : World} {v : Value} {ps : List (List UInt8)} (h : Els 1 OneB w v ps) : Bss w v ps ∧ ∀ p ∈ ps, p.length ≤ 140737488351232 := by
  obtain ⟨a, cap, hv, hc, hx⟩ := h
  have key : ∀ i, i < ps.length → ∃ x : Value, (∃ b off, a = some ⟨b, off, none⟩ ∧ w.cell? ⟨b, off + i, none⟩ = some x) ∧ ∀ h : i < ps.length, Bs w x ps[i] ∧ ps[i].length ≤ 140737488351232 := by
    intro i hi
    obtain ⟨b, off, cs, ha, _, hcell, x, rfl, h1, h2⟩ := hx i hi
    have := hcell 0 x rfl
    exact ⟨x, ⟨b, off, ha, by simpa using this⟩, fun _ => ⟨h1, h2⟩⟩
  obtain ⟨f, hf⟩ := Go.Deep.choose_lt key
  refine ⟨⟨(List.range ps.length).map f, ⟨by simp, ?_⟩, fun i hi => ⟨f i, by simp [hi], ((hf i hi).2 hi).1⟩⟩, fun p hp => ?_⟩
  · by_cases h0 : ps.length = 0
    · exact .inl ⟨a, cap, by rw [hv, h0], h0⟩
    · obtain ⟨⟨b, off, ha, _⟩, _⟩ := hf 0 (by omega)
      refine .inr ⟨b, off, cap, by rw [hv, ha], hc, by omega, fun i u hu => ?_⟩
      have hi : i < ps.length := by have := (List.getElem?_eq_some_iff.1 hu).1; simpa using this
      obtain ⟨⟨b', off', ha', hcc⟩, _⟩ := hf i hi
      rw [ha] at ha'
      simp only [Option.some.injEq, Addr.mk.injEq, and_true] at ha'
      obtain ⟨rfl, rfl⟩ := ha'
      simp only [List.getElem?_map, List.getElem?_range hi, Option.map_some, Option.some.injEq] at hu
      rw [hcc, hu]
  · obtain ⟨i, hi, rfl⟩ := List.getElem_of_mem hp
    exact ((hf i hi).2 hi).2
def ItB (w : World) (cs : List Value) (it : Itm) : Prop := ItC w cs it ∧ it.2.1.length ≤ 140737488351232 ∧ it.2.2.length ≤ 140737488351232 ∧ ∀ p ∈ it.2.2, p.length ≤ 140737488351232
variable {H : Type} {enc : TypeId × Value → H} {w : World} {base : Nat} {spare : Nat → Bool} {held : Bool}
theorem bss_of_trod {n : Nat} {v : Value} {y : DataW H × List MemPlace} (h : DataW.trod enc Try.prog w base spare held n 45 [v] = some y) (hb : ∀ k ∈ DataW.weights Try.prog 45 y.1, k ≤ reachBytes) :
    ∃ ps : List (List UInt8), Bss w v ps ∧ ps.length ≤ 140737488351232 ∧ ∀ p ∈ ps, p.length ≤ 140737488351232 := by
  obtain ⟨ps, h1, h2⟩ := open_els (α := List UInt8) (size := 1) (Φ := OneB) Try.underlying45 (by kernel_rfl) (by decide) (of_decide_eq_true (by kernel_rfl)) h hb (fun cs n y hl h hb => by
    match cs, hl with
    | [x], _ =>
      obtain ⟨l, h1, h2⟩ := bs_of_trod h hb
      exact ⟨l, x, rfl, h1, h2⟩)
  exact ⟨ps, (bss_of_els h1).1, h2, (bss_of_els h1).2⟩
theorem item_of_trod {n : Nat} {cs : List Value} {y : DataW H × List MemPlace} (hl : cs.length = 3) (h : DataW.trod enc Try.prog w base spare held n 47 cs = some y) (hb : ∀ k ∈ DataW.weights Try.prog 47 y.1, k ≤ reachBytes) : ∃ s, ItB w cs s := by
  have hI : Try.prog.cellsOf 3 = 1 := by kernel_rfl
  have hS : Try.prog.cellsOf 22 = 1 := by kernel_rfl
  have hSS : Try.prog.cellsOf 45 = 1 := by kernel_rfl
  match cs, hl with
  | [c0, c1, c2], _ =>
    obtain ⟨ys, m, _, hy, _, hyl, hg⟩ := DataW.trod_struct Try.underlying47 h
    have hyl3 : ys.length = 3 := hyl
    match ys, hyl3 with
    | [y0, y1, y2], _ =>
      have g0 : DataW.trod enc Try.prog w base spare held m 3 (([c0, c1, c2].drop 0).take (Try.prog.cellsOf 3)) = some y0 := hg 0 _ rfl
      have g1 : DataW.trod enc Try.prog w base spare held m 22 (([c0, c1, c2].drop 1).take (Try.prog.cellsOf 22)) = some y1 := hg 1 _ rfl
      have g2 : DataW.trod enc Try.prog w base spare held m 45 (([c0, c1, c2].drop 2).take (Try.prog.cellsOf 45)) = some y2 := hg 2 _ rfl
      rw [hI] at g0
      rw [hS] at g1
      rw [hSS] at g2
      obtain ⟨z, hz, _, _⟩ := DataW.trod_int Try.underlying3 g0
      simp only [List.drop_zero, List.take_succ_cons, List.take_zero, List.cons.injEq, and_true] at hz
      subst hz
      have wt : DataW.weights Try.prog 47 y.1 = DataW.weightsEach Try.prog [3, 22, 45] [y0.1, y1.1, y2.1] := by
        rw [hy]
        simp only [DataW.weights, Try.underlying47]
        rfl
      rw [wt] at hb
      obtain ⟨d, hd, hdl⟩ := bs_of_trod (v := c1) (y := y1) g1 (fun k hk => hb k (DataW.weights_mem_each (j := 1) (t := 22) (d := y1.1) rfl rfl k hk))
      obtain ⟨ps, hp1, hp2, hp3⟩ := bss_of_trod (v := c2) (y := y2) g2 (fun k hk => hb k (DataW.weights_mem_each (j := 2) (t := 45) (d := y2.1) rfl rfl k hk))
      exact ⟨(z, d, ps), ⟨c1, c2, rfl, hd, hp1⟩, hdl, hp2, hp3⟩
theorem its_of_els {v : Value} {its : List Itm} (h : Els 3 ItB w v its) : Its w v its ∧ ∀ it ∈ its, it.2.1.length ≤ 140737488351232 ∧ it.2.2.length ≤ 140737488351232 ∧ ∀ p ∈ it.2.2, p.length ≤ 140737488351232 := by
  obtain ⟨a, cap, hv, hc, hx⟩ := h
  refine ⟨⟨a, cap, hv, hc, fun i hi => let ⟨b, off, cs, h1, h2, h3, h4, _⟩ := hx i hi; ⟨b, off, cs, h1, h2, h3, h4⟩⟩, fun it hit => ?_⟩
  obtain ⟨i, hi, rfl⟩ := List.getElem_of_mem hit
  obtain ⟨b, off, cs, _, _, _, _, h5⟩ := hx i hi
  exact h5
theorem open_items {a : Option Addr} {len cap : Nat} {d : DataW H} {p : List MemPlace} {ts : List TypeId} {ds : List (DataW H)} {j : Nat} (h : DataW.Trod enc Try.prog w base spare held 33 (.slice a len cap) d p)
    (hsz : (DataW.weightsEach Try.prog ts ds).all (· ≤ reachBytes) = true) (htj : ts[j]? = some 33) (hdj : ds[j]? = some d) :
    ∃ its : List Itm, Its w (.slice a len cap) its ∧ its.length ≤ 140737488351232 ∧ (∀ it ∈ its, it.2.1.length ≤ 140737488351232 ∧ it.2.2.length ≤ 140737488351232 ∧ ∀ p ∈ it.2.2, p.length ≤ 140737488351232) := by
  obtain ⟨fuel, hf⟩ := h
  simp only [Value.cells] at hf
  have all : ∀ k ∈ DataW.weights Try.prog 33 d, k ≤ reachBytes := fun k hk => by
    have := List.all_eq_true.1 hsz _ (DataW.weights_mem_each htj hdj k hk)
    simpa using this
  obtain ⟨its, h1, h2⟩ := open_els (α := Itm) (size := 3) (Φ := ItB) Try.underlying33 (by kernel_rfl) (by decide) (of_decide_eq_true (by kernel_rfl)) hf all (fun cs n y hl h hb => item_of_trod hl h hb)
  exact ⟨its, (its_of_els h1).1, h2, (its_of_els h1).2⟩
end Go.Proofs.Ytlljooncoingnaa
