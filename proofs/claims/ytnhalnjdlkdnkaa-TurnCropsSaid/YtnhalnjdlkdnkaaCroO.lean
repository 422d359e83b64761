/- A struct of a picture, four numbers and a bool, opened where it comes in. By an AI agent. -/
import Derived.Test.YtnhalnjdlkdnkaaPicV
namespace Go.Proofs.Ytnhalnjdlkdnkaa
open Go.ChangeShapes Go.WideShapes Go.RowKit
set_option linter.unusedVariables false
set_option linter.unusedSimpArgs false

variable {H : Type} {enc : TypeId × Value → H} {w : World} {base : Nat} {spare : Nat → Bool} {held : Bool}
theorem list6 {α : Type} {l : List α} (h : l.length = 6) : ∃ a b c d e f, l = [a, b, c, d, e, f] := by
  obtain ⟨a, l0, rfl, h0⟩ := one h
  obtain ⟨b, l1, rfl, h1⟩ := one h0
  obtain ⟨c, d, e, f, rfl⟩ := list4 h1
  exact ⟨a, b, c, d, e, f, rfl⟩
theorem list14 {α : Type} {l : List α} (h : l.length = 14) : ∃ a0 a1 a2 a3 a4 a5 a6 a7 a8 b0 b1 b2 b3 b4, l = [a0, a1, a2, a3, a4, a5, a6, a7, a8, b0, b1, b2, b3, b4] := by
  obtain ⟨a0, l0, rfl, h0⟩ := one h
  obtain ⟨a1, l1, rfl, h1⟩ := one h0
  obtain ⟨a2, l2, rfl, h2⟩ := one h1
  obtain ⟨a3, l3, rfl, h3⟩ := one h2
  obtain ⟨a4, l4, rfl, h4⟩ := one h3
  obtain ⟨c0, c1, c2, c3, c4, c5, c6, c7, c8, rfl⟩ := list9 h4
  exact ⟨a0, a1, a2, a3, a4, c0, c1, c2, c3, c4, c5, c6, c7, c8, rfl⟩
def vCro (P : PicL) (q0 q1 q2 q3 pv kv : Value) (x y cw ch : Int) (pf : Bool) : Array Value := #[.int .i64 P.w, .int .i64 P.h, q0, q1, q2, q3, pv, .int .i64 P.restart, kv, .int .i64 x, .int .i64 y, .int .i64 cw, .int .i64 ch, .bool pf]
set_option maxRecDepth 20000 in
theorem open_cropping {r : Reach} {b0 : Nat} {v : Value} {d : DataW H} {p : List MemPlace} {ts : List TypeId} {ds : List (DataW H)} {j : Nat} (hv : Value.okWide Try.prog w r b0 38 v) (h : DataW.Trod enc Try.prog w base spare held 38 v d p)
    (hsz : (DataW.weightsEach Try.prog ts ds).all (· ≤ reachBytes) = true) (htj : ts[j]? = some 38) (hdj : ds[j]? = some d) :
    ∃ P q0 q1 q2 q3 pv kv x y cw ch pf, v = .agg (vCro P q0 q1 q2 q3 pv kv x y cw ch pf) ∧ PicC w P q0 q1 q2 q3 pv kv ∧ PicB P ∧ R64 x ∧ R64 y ∧ R64 cw ∧ R64 ch := by
  have hC : Try.prog.cellsOf 38 = 14 := by kernel_rfl
  have hI : Try.prog.cellsOf 3 = 1 := by kernel_rfl
  have hP : Try.prog.cellsOf 36 = 9 := by kernel_rfl
  have hB : Try.prog.cellsOf 4 = 1 := by kernel_rfl
  obtain ⟨cs, rfl, hsz14⟩ := okWide_struct Try.underlying38 hv
  rw [hC] at hsz14
  obtain ⟨fuel, hf⟩ := h
  have all : ∀ k ∈ DataW.weights Try.prog 38 d, k ≤ reachBytes := fun k hk => by
    have := List.all_eq_true.1 hsz _ (DataW.weights_mem_each htj hdj k hk)
    simpa using this
  obtain ⟨l, hl⟩ : ∃ l, (Value.agg cs).cells.toList = l := ⟨_, rfl⟩
  have hl14 : l.length = 14 := by rw [← hl]; simpa [Value.cells] using hsz14
  rw [hl] at hf
  obtain ⟨c0, c1, c2, c3, c4, c5, c6, c7, c8, c9, c10, c11, c12, c13, rfl⟩ := list14 hl14
  obtain ⟨ys, m, _, hy, _, hyl, hg⟩ := DataW.trod_struct Try.underlying38 hf
  have hyl6 : ys.length = 6 := hyl
  obtain ⟨y0, y1, y2, y3, y4, y5, rfl⟩ := list6 hyl6
  have g0 : DataW.trod enc Try.prog w base spare held m 36 (([c0, c1, c2, c3, c4, c5, c6, c7, c8, c9, c10, c11, c12, c13].drop 0).take (Try.prog.cellsOf 36)) = some y0 := hg 0 _ rfl
  have g1 : DataW.trod enc Try.prog w base spare held m 3 (([c0, c1, c2, c3, c4, c5, c6, c7, c8, c9, c10, c11, c12, c13].drop 9).take (Try.prog.cellsOf 3)) = some y1 := hg 1 _ rfl
  have g2 : DataW.trod enc Try.prog w base spare held m 3 (([c0, c1, c2, c3, c4, c5, c6, c7, c8, c9, c10, c11, c12, c13].drop 10).take (Try.prog.cellsOf 3)) = some y2 := hg 2 _ rfl
  have g3 : DataW.trod enc Try.prog w base spare held m 3 (([c0, c1, c2, c3, c4, c5, c6, c7, c8, c9, c10, c11, c12, c13].drop 11).take (Try.prog.cellsOf 3)) = some y3 := hg 3 _ rfl
  have g4 : DataW.trod enc Try.prog w base spare held m 3 (([c0, c1, c2, c3, c4, c5, c6, c7, c8, c9, c10, c11, c12, c13].drop 12).take (Try.prog.cellsOf 3)) = some y4 := hg 4 _ rfl
  have g5 : DataW.trod enc Try.prog w base spare held m 4 (([c0, c1, c2, c3, c4, c5, c6, c7, c8, c9, c10, c11, c12, c13].drop 13).take (Try.prog.cellsOf 4)) = some y5 := hg 5 _ rfl
  rw [hP] at g0
  rw [hI] at g1 g2 g3 g4
  rw [hB] at g5
  obtain ⟨z1, rfl, r1⟩ := num_of_trod (v := c9) g1
  obtain ⟨z2, rfl, r2⟩ := num_of_trod (v := c10) g2
  obtain ⟨z3, rfl, r3⟩ := num_of_trod (v := c11) g3
  obtain ⟨z4, rfl, r4⟩ := num_of_trod (v := c12) g4
  obtain ⟨pf, hb, _⟩ := DataW.trod_bool Try.underlying4 g5
  have hb' : c13 = .bool pf := by simpa using hb
  subst hb'
  have wt : DataW.weights Try.prog 38 d = DataW.weightsEach Try.prog [36, 3, 3, 3, 3, 4] [y0.1, y1.1, y2.1, y3.1, y4.1, y5.1] := by
    have : d = DataW.agg ([y0, y1, y2, y3, y4, y5].map (·.1)) := (Prod.mk.inj hy).1
    rw [this]
    simp only [DataW.weights, Try.underlying38]
    rfl
  obtain ⟨P, q0, q1, q2, q3, pv, kv, e1, e2, e3⟩ := pic_of_trod (cs := [c0, c1, c2, c3, c4, c5, c6, c7, c8]) rfl g0 (fun k hk => all k (by
    rw [wt]
    exact DataW.weights_mem_each (j := 0) (t := 36) (d := y0.1) rfl rfl k hk))
  refine ⟨P, q0, q1, q2, q3, pv, kv, z1, z2, z3, z4, pf, ?_, e2, e3, r1, r2, r3, r4⟩
  unfold vPic at e1
  simp only [List.cons.injEq, and_true] at e1
  obtain ⟨rfl, rfl, rfl, rfl, rfl, rfl, rfl, rfl, rfl⟩ := e1
  have h4 : cs.toList = (vCro P c2 c3 c4 c5 c6 c8 z1 z2 z3 z4 pf).toList := hl
  rw [Array.toList_inj.1 h4]
end Go.Proofs.Ytnhalnjdlkdnkaa
