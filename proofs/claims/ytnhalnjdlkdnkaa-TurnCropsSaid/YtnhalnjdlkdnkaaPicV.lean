/- Pictures: as plain data, how they lie in memory, opened where they come in. By an AI agent. -/
import Derived.Test.YtnhalnjdlkdnkaaEls
namespace Go.Proofs.Ytnhalnjdlkdnkaa
open Go.ChangeShapes Go.WideShapes Go.RowKit
set_option linter.unusedVariables false
set_option linter.unusedSimpArgs false

def R64 (z : Int) : Prop := -9223372036854775808 ≤ z ∧ z ≤ 9223372036854775807
structure PartL where
  id : Int
  h : Int
  v : Int
  tq : Int
  wide : Int
  high : Int
  bs : List (List Int)
structure PicL where
  w : Int
  h : Int
  q0 : List Int
  q1 : List Int
  q2 : List Int
  q3 : List Int
  parts : List PartL
  restart : Int
  kept : List (Int × List UInt8)
instance : Inhabited PartL := ⟨⟨0, 0, 0, 0, 0, 0, []⟩⟩
def vPart (p : PartL) (x : Value) : List Value := [.int .i64 p.id, .int .i64 p.h, .int .i64 p.v, .int .i64 p.tq, .int .i64 p.wide, .int .i64 p.high, x]
/-- a block's cells -/
def BlkC (_ : World) (cs : List Value) (b : List Int) : Prop := cs = vIs b ∧ b.length = 64 ∧ ∀ z ∈ b, R64 z
def Bks (w : World) (v : Value) (bs : List (List Int)) : Prop := Els 64 BlkC w v bs
structure PartB (p : PartL) : Prop where
  id : R64 p.id
  h : R64 p.h
  v : R64 p.v
  tq : R64 p.tq
  wide : R64 p.wide
  high : R64 p.high
  bs : p.bs.length ≤ 140737488351232
/-- a part's cells -/
def PartC (w : World) (cs : List Value) (p : PartL) : Prop := ∃ x, cs = vPart p x ∧ PartB p ∧ Bks w x p.bs
def Pts (w : World) (v : Value) (ps : List PartL) : Prop := Els 7 PartC w v ps
/-- a segment's cells -/
def SegC (w : World) (cs : List Value) (s : Int × List UInt8) : Prop := ∃ x, cs = [.int .i64 s.1, x] ∧ R64 s.1 ∧ s.2.length ≤ 140737488351232 ∧ Bs w x s.2
def Sgs (w : World) (v : Value) (ks : List (Int × List UInt8)) : Prop := Els 2 SegC w v ks
def vPic (P : PicL) (q0 q1 q2 q3 pv kv : Value) : Array Value := #[.int .i64 P.w, .int .i64 P.h, q0, q1, q2, q3, pv, .int .i64 P.restart, kv]
/-- a picture's cells -/
structure PicC (w : World) (P : PicL) (q0 q1 q2 q3 pv kv : Value) : Prop where
  q0 : Ns w q0 P.q0
  q1 : Ns w q1 P.q1
  q2 : Ns w q2 P.q2
  q3 : Ns w q3 P.q3
  parts : Pts w pv P.parts
  kept : Sgs w kv P.kept
structure PicB (P : PicL) : Prop where
  w : R64 P.w
  h : R64 P.h
  restart : R64 P.restart
  q0 : P.q0.length ≤ 140737488351232
  q1 : P.q1.length ≤ 140737488351232
  q2 : P.q2.length ≤ 140737488351232
  q3 : P.q3.length ≤ 140737488351232
  parts : P.parts.length ≤ 140737488351232
  kept : P.kept.length ≤ 140737488351232
theorem Bks.old {w w' : World} {v : Value} {bs : List (List Int)} (h : Bks w v bs) (hb : Below w.heap.size w w') : Bks w' v bs := Els.old h hb (fun _ _ h => h)
theorem PartC.old {w w' : World} {cs : List Value} {p : PartL} (hb : Below w.heap.size w w') (h : PartC w cs p) : PartC w' cs p := by
  obtain ⟨x, h1, h2, h3⟩ := h
  exact ⟨x, h1, h2, h3.old hb⟩
theorem Pts.old {w w' : World} {v : Value} {ps : List PartL} (h : Pts w v ps) (hb : Below w.heap.size w w') : Pts w' v ps := Els.old h hb (fun _ _ h => PartC.old hb h)
theorem Sgs.old {w w' : World} {v : Value} {ks : List (Int × List UInt8)} (h : Sgs w v ks) (hb : Below w.heap.size w w') : Sgs w' v ks := Els.old h hb (fun _ _ ⟨x, h1, h2, h3, h4⟩ => ⟨x, h1, h2, h3, h4.old hb⟩)
theorem PicC.old {w w' : World} {P : PicL} {q0 q1 q2 q3 pv kv : Value} (h : PicC w P q0 q1 q2 q3 pv kv) (hb : Below w.heap.size w w') : PicC w' P q0 q1 q2 q3 pv kv :=
  ⟨h.q0.old hb, h.q1.old hb, h.q2.old hb, h.q3.old hb, h.parts.old hb, h.kept.old hb⟩

/-! ## opened -/
variable {H : Type} {enc : TypeId × Value → H} {w : World} {base : Nat} {spare : Nat → Bool} {held : Bool}
theorem nums_of_trod {n : Nat} {v : Value} {y : DataW H × List MemPlace} (h : DataW.trod enc Try.prog w base spare held n 31 [v] = some y) (hb : ∀ k ∈ DataW.weights Try.prog 31 y.1, k ≤ reachBytes) :
    ∃ l : List Int, Ns w v l ∧ l.length ≤ 140737488351232 ∧ ∀ z ∈ l, R64 z := by
  have hti : Try.prog.underlying 3 = some (.int .i64) := Try.underlying3
  have ht : Try.prog.underlying 31 = some (.slice 3) := Try.underlying31
  rcases open_ints ht hti (by kernel_rfl) h with ⟨hcs, _⟩ | ⟨x, len, c, zs, hcs, _, hl, hm, hz, hd, hcell, hwz⟩
  · simp only [List.cons.injEq, and_true] at hcs
    subst hcs
    exact ⟨[], Ns.nil _ _ _, by simp, by simp⟩
  · simp only [List.cons.injEq, and_true] at hcs
    subst hcs
    have hlz : len ≤ zs.length := by rw [hz]; split <;> omega
    have hb8 : Try.prog.bytesOf 3 = 8 := by kernel_rfl
    have h8 := hb (((zs.take len).length + (zs.drop len).length) * 8) (by rw [hd]; simp [DataW.weights, ht, hb8, lits])
    rw [List.length_take, List.length_drop] at h8
    unfold reachBytes at h8
    have hlen : (zs.take len).length = len := by rw [List.length_take]; omega
    refine ⟨zs.take len, ⟨by rw [vIs_length]; omega, ?_⟩, by omega, fun z hz => by
      have := hwz z (List.mem_of_mem_take hz)
      unfold R64
      simpa [Lit.wf, IntKind.min, IntKind.max, IntKind.signed, IntKind.bits] using this⟩
    rw [hlen]
    by_cases hn : len = 0
    · exact .inl ⟨_, _, rfl, hn⟩
    · obtain ⟨b, off, sp⟩ := x
      have hc0 := hcell 0 (by omega)
      have hsp : sp = none := by simpa [Addr.add] using World.cell?_spot hc0
      subst hsp
      refine .inr ⟨b, off, c, rfl, hl, by omega, fun i u hu => ?_⟩
      have hi : i < len := by have := (List.getElem?_eq_some_iff.1 hu).1; rw [vIs_length] at this; omega
      have hc := hcell i (by omega)
      rw [add_at] at hc
      rw [hc]
      have e : u = .int .i64 (zs.getD i 0) := by
        simp only [vIs, vI, List.getElem?_map, List.getElem?_take, hi, if_true, List.getElem?_eq_getElem (show i < zs.length by omega), Option.map_some, Option.some.injEq] at hu
        rw [← hu, List.getD_eq_getElem?_getD, List.getElem?_eq_getElem (show i < zs.length by omega)]
        rfl
      rw [e]
theorem num_of_trod {n : Nat} {v : Value} {y : DataW H × List MemPlace} (h : DataW.trod enc Try.prog w base spare held n 3 [v] = some y) : ∃ z : Int, v = .int .i64 z ∧ R64 z := by
  obtain ⟨z, hz, _, hwf⟩ := DataW.trod_int Try.underlying3 h
  simp only [List.cons.injEq, and_true] at hz
  exact ⟨z, hz, by unfold R64; simpa [Lit.wf, IntKind.min, IntKind.max, IntKind.signed, IntKind.bits] using hwf⟩
theorem block_of_trod {n : Nat} {cs : List Value} {y : DataW H × List MemPlace} (hl : cs.length = 64) (h : DataW.trod enc Try.prog w base spare held n 23 cs = some y) : ∃ b, BlkC w cs b := by
  have hI : Try.prog.cellsOf 3 = 1 := by kernel_rfl
  obtain ⟨xs, m, _, _, _, hxl, ha⟩ := DataW.trod_array Try.underlying23 h
  have key : ∀ i, i < 64 → ∃ z : Int, cs[i]? = some (.int .i64 z) ∧ R64 z := by
    intro i hi
    have h4 := ha i hi
    rw [hI, Nat.mul_one, List.getElem?_eq_getElem (by omega), List.drop_eq_getElem_cons (by omega)] at h4
    simp only [List.take_succ_cons, List.take_zero] at h4
    obtain ⟨z, hz, hr⟩ := num_of_trod h4
    exact ⟨z, by rw [List.getElem?_eq_getElem (by omega), hz], hr⟩
  obtain ⟨f, hf⟩ := Go.Deep.choose_lt key
  refine ⟨(List.range 64).map f, ?_, by simp, fun z hz => ?_⟩
  · apply List.ext_getElem?
    intro i
    by_cases hi : i < 64
    · rw [(hf i hi).1]; simp [vIs, vI, hi]
    · rw [List.getElem?_eq_none (by omega), List.getElem?_eq_none (by simp [vIs]; omega)]
  · obtain ⟨i, hi, rfl⟩ := List.mem_map.1 hz
    exact (hf i (List.mem_range.1 hi)).2
theorem blocks_of_trod {n : Nat} {v : Value} {y : DataW H × List MemPlace} (h : DataW.trod enc Try.prog w base spare held n 68 [v] = some y) (hb : ∀ k ∈ DataW.weights Try.prog 68 y.1, k ≤ reachBytes) :
    ∃ bs, Bks w v bs ∧ bs.length ≤ 140737488351232 :=
  open_els Try.underlying68 (by kernel_rfl) (by decide) (of_decide_eq_true (by kernel_rfl)) h hb (fun cs n y hl h _ => block_of_trod hl h)
theorem one {α : Type} {l : List α} {n : Nat} (h : l.length = n + 1) : ∃ x t, l = x :: t ∧ t.length = n := by
  cases l with
  | nil => simp at h
  | cons x t => exact ⟨x, t, rfl, by simpa using h⟩
theorem list7 {α : Type} {l : List α} (h : l.length = 7) : ∃ a b c d e f g, l = [a, b, c, d, e, f, g] := by
  obtain ⟨a, l0, rfl, h0⟩ := one h
  obtain ⟨b, l1, rfl, h1⟩ := one h0
  obtain ⟨c, l2, rfl, h2⟩ := one h1
  obtain ⟨d, l3, rfl, h3⟩ := one h2
  obtain ⟨e, l4, rfl, h4⟩ := one h3
  obtain ⟨f, l5, rfl, h5⟩ := one h4
  obtain ⟨g, l6, rfl, h6⟩ := one h5
  obtain rfl := List.eq_nil_of_length_eq_zero h6
  exact ⟨a, b, c, d, e, f, g, rfl⟩
set_option maxRecDepth 20000 in
theorem part_of_trod {n : Nat} {cs : List Value} {y : DataW H × List MemPlace} (hl : cs.length = 7) (h : DataW.trod enc Try.prog w base spare held n 70 cs = some y) (hb : ∀ k ∈ DataW.weights Try.prog 70 y.1, k ≤ reachBytes) : ∃ p, PartC w cs p := by
  have hI : Try.prog.cellsOf 3 = 1 := by kernel_rfl
  have hS : Try.prog.cellsOf 68 = 1 := by kernel_rfl
  obtain ⟨c0, c1, c2, c3, c4, c5, c6, rfl⟩ := list7 hl
  obtain ⟨ys, m, _, hy, _, hyl, hg⟩ := DataW.trod_struct Try.underlying70 h
  have hyl7 : ys.length = 7 := hyl
  obtain ⟨y0, y1, y2, y3, y4, y5, y6, rfl⟩ := list7 hyl7
  have g0 : DataW.trod enc Try.prog w base spare held m 3 (([c0, c1, c2, c3, c4, c5, c6].drop 0).take (Try.prog.cellsOf 3)) = some y0 := hg 0 _ rfl
  have g1 : DataW.trod enc Try.prog w base spare held m 3 (([c0, c1, c2, c3, c4, c5, c6].drop 1).take (Try.prog.cellsOf 3)) = some y1 := hg 1 _ rfl
  have g2 : DataW.trod enc Try.prog w base spare held m 3 (([c0, c1, c2, c3, c4, c5, c6].drop 2).take (Try.prog.cellsOf 3)) = some y2 := hg 2 _ rfl
  have g3 : DataW.trod enc Try.prog w base spare held m 3 (([c0, c1, c2, c3, c4, c5, c6].drop 3).take (Try.prog.cellsOf 3)) = some y3 := hg 3 _ rfl
  have g4 : DataW.trod enc Try.prog w base spare held m 3 (([c0, c1, c2, c3, c4, c5, c6].drop 4).take (Try.prog.cellsOf 3)) = some y4 := hg 4 _ rfl
  have g5 : DataW.trod enc Try.prog w base spare held m 3 (([c0, c1, c2, c3, c4, c5, c6].drop 5).take (Try.prog.cellsOf 3)) = some y5 := hg 5 _ rfl
  have g6 : DataW.trod enc Try.prog w base spare held m 68 (([c0, c1, c2, c3, c4, c5, c6].drop 6).take (Try.prog.cellsOf 68)) = some y6 := hg 6 _ rfl
  rw [hI] at g0 g1 g2 g3 g4 g5
  rw [hS] at g6
  obtain ⟨z0, rfl, r0⟩ := num_of_trod g0
  obtain ⟨z1, rfl, r1⟩ := num_of_trod g1
  obtain ⟨z2, rfl, r2⟩ := num_of_trod g2
  obtain ⟨z3, rfl, r3⟩ := num_of_trod g3
  obtain ⟨z4, rfl, r4⟩ := num_of_trod g4
  obtain ⟨z5, rfl, r5⟩ := num_of_trod g5
  obtain ⟨bs, hbs, hbl⟩ := blocks_of_trod g6 (fun k hk => hb k (by
    rw [hy]
    simp only [DataW.weights, Try.underlying70]
    exact DataW.weights_mem_each (j := 6) (t := 68) (d := y6.1) rfl rfl k hk))
  exact ⟨⟨z0, z1, z2, z3, z4, z5, bs⟩, c6, rfl, ⟨r0, r1, r2, r3, r4, r5, hbl⟩, hbs⟩
theorem seg_of_trod {n : Nat} {cs : List Value} {y : DataW H × List MemPlace} (hl : cs.length = 2) (h : DataW.trod enc Try.prog w base spare held n 73 cs = some y) (hb : ∀ k ∈ DataW.weights Try.prog 73 y.1, k ≤ reachBytes) : ∃ s, SegC w cs s := by
  have hI : Try.prog.cellsOf 3 = 1 := by kernel_rfl
  have hS : Try.prog.cellsOf 71 = 1 := by kernel_rfl
  obtain ⟨c0, l0, rfl, e1⟩ := one hl
  obtain ⟨c1, l1, rfl, e2⟩ := one e1
  obtain rfl := List.eq_nil_of_length_eq_zero e2
  obtain ⟨ys, m, _, hy, _, hyl, hg⟩ := DataW.trod_struct Try.underlying73 h
  have hyl2 : ys.length = 2 := hyl
  obtain ⟨y0, l2, rfl, e3⟩ := one hyl2
  obtain ⟨y1, l3, rfl, e4⟩ := one e3
  obtain rfl := List.eq_nil_of_length_eq_zero e4
  have g0 : DataW.trod enc Try.prog w base spare held m 3 (([c0, c1].drop 0).take (Try.prog.cellsOf 3)) = some y0 := hg 0 _ rfl
  have g1 : DataW.trod enc Try.prog w base spare held m 71 (([c0, c1].drop 1).take (Try.prog.cellsOf 71)) = some y1 := hg 1 _ rfl
  rw [hI] at g0
  rw [hS] at g1
  obtain ⟨z0, rfl, r0⟩ := num_of_trod g0
  obtain ⟨d, hd, hdl⟩ := bs_of_trod g1 (fun k hk => hb k (by
    rw [hy]
    simp only [DataW.weights, Try.underlying73]
    exact DataW.weights_mem_each (j := 1) (t := 71) (d := y1.1) rfl rfl k hk))
  exact ⟨(z0, d), c1, rfl, r0, hdl, hd⟩
theorem parts_of_trod {n : Nat} {v : Value} {y : DataW H × List MemPlace} (h : DataW.trod enc Try.prog w base spare held n 33 [v] = some y) (hb : ∀ k ∈ DataW.weights Try.prog 33 y.1, k ≤ reachBytes) :
    ∃ ps, Pts w v ps ∧ ps.length ≤ 140737488351232 :=
  open_els Try.underlying33 (by kernel_rfl) (by decide) (of_decide_eq_true (by kernel_rfl)) h hb (fun cs n y hl h hb => part_of_trod hl h hb)
theorem segs_of_trod {n : Nat} {v : Value} {y : DataW H × List MemPlace} (h : DataW.trod enc Try.prog w base spare held n 34 [v] = some y) (hb : ∀ k ∈ DataW.weights Try.prog 34 y.1, k ≤ reachBytes) :
    ∃ ks, Sgs w v ks ∧ ks.length ≤ 140737488351232 :=
  open_els Try.underlying34 (by kernel_rfl) (by decide) (of_decide_eq_true (by kernel_rfl)) h hb (fun cs n y hl h hb => seg_of_trod hl h hb)
theorem list9 {α : Type} {l : List α} (h : l.length = 9) : ∃ a b c d e f g i j, l = [a, b, c, d, e, f, g, i, j] := by
  obtain ⟨a, l0, rfl, h0⟩ := one h
  obtain ⟨b, l1, rfl, h1⟩ := one h0
  obtain ⟨c, d, e, f, g, i, j, rfl⟩ := list7 h1
  exact ⟨a, b, c, d, e, f, g, i, j, rfl⟩
theorem list4 {α : Type} {l : List α} (h : l.length = 4) : ∃ a b c d, l = [a, b, c, d] := by
  obtain ⟨a, l0, rfl, h0⟩ := one h
  obtain ⟨b, l1, rfl, h1⟩ := one h0
  obtain ⟨c, l2, rfl, h2⟩ := one h1
  obtain ⟨d, l3, rfl, h3⟩ := one h2
  obtain rfl := List.eq_nil_of_length_eq_zero h3
  exact ⟨a, b, c, d, rfl⟩
set_option maxRecDepth 20000 in
theorem pic_of_trod {n : Nat} {cs : List Value} {y : DataW H × List MemPlace} (hl : cs.length = 9) (h : DataW.trod enc Try.prog w base spare held n 36 cs = some y) (hb : ∀ k ∈ DataW.weights Try.prog 36 y.1, k ≤ reachBytes) :
    ∃ P q0 q1 q2 q3 pv kv, cs = (vPic P q0 q1 q2 q3 pv kv).toList ∧ PicC w P q0 q1 q2 q3 pv kv ∧ PicB P := by
  have hI : Try.prog.cellsOf 3 = 1 := by kernel_rfl
  have hP : Try.prog.cellsOf 33 = 1 := by kernel_rfl
  have hN : Try.prog.cellsOf 31 = 1 := by kernel_rfl
  have hQ : Try.prog.cellsOf 32 = 4 := by kernel_rfl
  have hS : Try.prog.cellsOf 34 = 1 := by kernel_rfl
  obtain ⟨c0, c1, c2, c3, c4, c5, c6, c7, c8, rfl⟩ := list9 hl
  obtain ⟨ys, m, _, hy, _, hyl, hg⟩ := DataW.trod_struct Try.underlying36 h
  have hyl6 : ys.length = 6 := hyl
  obtain ⟨y0, l0, rfl, e0⟩ := one hyl6
  obtain ⟨y1, l1, rfl, e1⟩ := one e0
  obtain ⟨y2, y3, y4, y5, rfl⟩ := list4 e1
  have g0 : DataW.trod enc Try.prog w base spare held m 3 (([c0, c1, c2, c3, c4, c5, c6, c7, c8].drop 0).take (Try.prog.cellsOf 3)) = some y0 := hg 0 _ rfl
  have g1 : DataW.trod enc Try.prog w base spare held m 3 (([c0, c1, c2, c3, c4, c5, c6, c7, c8].drop 1).take (Try.prog.cellsOf 3)) = some y1 := hg 1 _ rfl
  have g2 : DataW.trod enc Try.prog w base spare held m 32 (([c0, c1, c2, c3, c4, c5, c6, c7, c8].drop 2).take (Try.prog.cellsOf 32)) = some y2 := hg 2 _ rfl
  have g3 : DataW.trod enc Try.prog w base spare held m 33 (([c0, c1, c2, c3, c4, c5, c6, c7, c8].drop 6).take (Try.prog.cellsOf 33)) = some y3 := hg 3 _ rfl
  have g4 : DataW.trod enc Try.prog w base spare held m 3 (([c0, c1, c2, c3, c4, c5, c6, c7, c8].drop 7).take (Try.prog.cellsOf 3)) = some y4 := hg 4 _ rfl
  have g5 : DataW.trod enc Try.prog w base spare held m 34 (([c0, c1, c2, c3, c4, c5, c6, c7, c8].drop 8).take (Try.prog.cellsOf 34)) = some y5 := hg 5 _ rfl
  rw [hI] at g0 g1 g4
  rw [hP] at g3
  rw [hQ] at g2
  rw [hS] at g5
  have wt : DataW.weights Try.prog 36 y.1 = DataW.weightsEach Try.prog [3, 3, 32, 33, 3, 34] [y0.1, y1.1, y2.1, y3.1, y4.1, y5.1] := by
    rw [hy]
    simp only [DataW.weights, Try.underlying36]
    rfl
  rw [wt] at hb
  obtain ⟨z0, rfl, r0⟩ := num_of_trod g0
  obtain ⟨z1, rfl, r1⟩ := num_of_trod g1
  obtain ⟨z4, rfl, r4⟩ := num_of_trod g4
  obtain ⟨ps, hps, hpl⟩ := parts_of_trod g3 (fun k hk => hb k (DataW.weights_mem_each (j := 3) (t := 33) (d := y3.1) rfl rfl k hk))
  obtain ⟨ks, hks, hkl⟩ := segs_of_trod g5 (fun k hk => hb k (DataW.weights_mem_each (j := 5) (t := 34) (d := y5.1) rfl rfl k hk))
  have hbq : ∀ k ∈ DataW.weights Try.prog 32 y2.1, k ≤ reachBytes := fun k hk => hb k (DataW.weights_mem_each (j := 2) (t := 32) (d := y2.1) rfl rfl k hk)
  obtain ⟨xs, m2, _, hx2, _, hxl, ha⟩ := DataW.trod_array Try.underlying32 g2
  obtain ⟨x0, x1, x2, x3, rfl⟩ := list4 hxl
  have wq : DataW.weights Try.prog 32 y2.1 = DataW.weightsAll Try.prog 31 [x0.1, x1.1, x2.1, x3.1] := by
    rw [hx2]
    simp only [DataW.weights, Try.underlying32]
    rfl
  rw [wq] at hbq
  have a0 := ha 0 (by decide)
  have a1 := ha 1 (by decide)
  have a2 := ha 2 (by decide)
  have a3 := ha 3 (by decide)
  rw [hN] at a0 a1 a2 a3
  obtain ⟨l0, n0, s0, _⟩ := nums_of_trod (v := c2) (y := x0) a0 (fun k hk => hbq k (weightsAll_mem (d := x0.1) (by simp) k hk))
  obtain ⟨l1, n1, s1, _⟩ := nums_of_trod (v := c3) (y := x1) a1 (fun k hk => hbq k (weightsAll_mem (d := x1.1) (by simp) k hk))
  obtain ⟨l2, n2, s2, _⟩ := nums_of_trod (v := c4) (y := x2) a2 (fun k hk => hbq k (weightsAll_mem (d := x2.1) (by simp) k hk))
  obtain ⟨l3, n3, s3, _⟩ := nums_of_trod (v := c5) (y := x3) a3 (fun k hk => hbq k (weightsAll_mem (d := x3.1) (by simp) k hk))
  exact ⟨⟨z0, z1, l0, l1, l2, l3, ps, z4, ks⟩, c2, c3, c4, c5, c6, c8, rfl, ⟨n0, n1, n2, n3, hps, hks⟩, ⟨r0, r1, r4, s0, s1, s2, s3, hpl, hkl⟩⟩
set_option maxRecDepth 20000 in
theorem open_picture {r : Reach} {b0 : Nat} {v : Value} {d : DataW H} {p : List MemPlace} {ts : List TypeId} {ds : List (DataW H)} {j : Nat} (hv : Value.okWide Try.prog w r b0 36 v) (h : DataW.Trod enc Try.prog w base spare held 36 v d p)
    (hsz : (DataW.weightsEach Try.prog ts ds).all (· ≤ reachBytes) = true) (htj : ts[j]? = some 36) (hdj : ds[j]? = some d) :
    ∃ P q0 q1 q2 q3 pv kv, v = .agg (vPic P q0 q1 q2 q3 pv kv) ∧ PicC w P q0 q1 q2 q3 pv kv ∧ PicB P := by
  have hC : Try.prog.cellsOf 36 = 9 := by kernel_rfl
  obtain ⟨cs, rfl, hsz9⟩ := okWide_struct Try.underlying36 hv
  rw [hC] at hsz9
  obtain ⟨fuel, hf⟩ := h
  have all : ∀ k ∈ DataW.weights Try.prog 36 d, k ≤ reachBytes := fun k hk => by
    have := List.all_eq_true.1 hsz _ (DataW.weights_mem_each htj hdj k hk)
    simpa using this
  obtain ⟨P, q0, q1, q2, q3, pv, kv, h1, h2, h3⟩ := pic_of_trod (cs := (Value.agg cs).cells.toList) (by simpa [Value.cells] using hsz9) hf all
  refine ⟨P, q0, q1, q2, q3, pv, kv, ?_, h2, h3⟩
  have h4 : cs.toList = (vPic P q0 q1 q2 q3 pv kv).toList := h1
  rw [Array.toList_inj.1 h4]
end Go.Proofs.Ytnhalnjdlkdnkaa
