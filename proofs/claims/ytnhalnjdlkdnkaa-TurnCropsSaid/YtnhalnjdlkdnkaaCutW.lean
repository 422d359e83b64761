/- turn.cut: what its walk leans on. By an AI agent. -/
import Derived.Test.YtnhalnjdlkdnkaaOwnW
import Derived.Test.YtnhalnjdlkdnkaaCutP
import Derived.Test.YtnhalnjdlkdnkaaStep
import Derived.Test.YtnhalnjdlkdnkaaPerm
import Derived.Deep.RegionLawGrows
namespace Go.Proofs.Ytnhalnjdlkdnkaa
open Go.RowKit Go.BigFrame
set_option linter.unusedVariables false
set_option linter.unusedSimpArgs false
set_option maxRecDepth 20000

theorem mkBlk0 (n : Nat) (h : n ≤ 100000000) : ∃ O : Obj, (∀ w, (Instr.makeSlice 68 (.int .i64 0) (.int .i64 (n : Int))).run Try.prog w = .ok (.slice (some ⟨w.heap.size, 0, none⟩) 0 n) (w.alloc O)) ∧ ∀ w : World, (w.alloc O).ownsRow w.heap.size 23 64 (.slice (some ⟨w.heap.size, 0, none⟩) 0 n) 0 [] := by
  obtain ⟨i, hi, hz, hsz, hby⟩ := tyB.hi
  refine ⟨.cells (madeCells (arr zero64).cells (n * 64)) 23, fun w => ?_, fun w => ?_⟩
  · have hr := run_make (P := Try.prog) w 68 23 i _ tyB.ht hi hz .i64 .i64 0 (n : Int) (Int.le_refl _) (by omega) (by rw [hby]; omega) (by omega)
    simp only [Int.toNat_zero, Int.toNat_natCast, hsz] at hr
    exact hr
  · exact World.ownsRow_made w _ n (Nat.le_refl _) (by unfold maxLen; omega) (by rw [size_madeCells])
/-! ## the row of parts, one of them being made anew -/
structure MidR (base : Nat) (w : World) (g n c : Nat) (done : List (PartL × Value)) (q : PartL × Value) (rest : List (PartL × Value)) : Prop where
  row : w.ownsRow base 70 7 (.slice (some ⟨g, 0, none⟩) n c) n (cellsW vPart (done ++ q :: rest))
  bk : ∀ p ∈ done, BkO base w p.2 p.1.bs
theorem MidR.old {base : Nat} {w w' : World} {g n c : Nat} {done : List (PartL × Value)} {q : PartL × Value} {rest : List (PartL × Value)} (h : MidR base w g n c done q rest) (hb : Below w.heap.size w w') : MidR base w' g n c done q rest :=
  ⟨owns_below h.row hb, fun p hp => (h.bk p hp).old hb⟩
theorem MidR.ty {base : Nat} {w w' : World} {t : TypeId} {g n c : Nat} {done : List (PartL × Value)} {q : PartL × Value} {rest : List (PartL × Value)} (h : MidR base w g n c done q rest) (k : KeepTy t w w') (h1 : 70 ≠ t) (h2 : 23 ≠ t) : MidR base w' g n c done q rest :=
  ⟨owns_ty h.row k h1, fun p hp => ⟨owns_ty (h.bk p hp).row k h2, (h.bk p hp).all⟩⟩
theorem mid_at {α : Type} (done : List α) (q : α) (rest : List α) : ∃ h, (done ++ q :: rest)[done.length]'h = q := ⟨by simp, by simp⟩
theorem MidR.cell {base : Nat} {w : World} {g n c k : Nat} {done : List (PartL × Value)} {q : PartL × Value} {rest : List (PartL × Value)} (h : MidR base w g n c done q rest) (hk : done.length = k) (hn : k < n) (j : Nat) (hj : j < 7) : w.cell? ⟨g, k * 7 + j, none⟩ = (vPart q.1 q.2)[j]? := by
  subst hk
  obtain ⟨h1, h2⟩ := mid_at done q rest
  rw [h.row.cellAt _ (mul_add_lt hn hj), cellsW_at vPart_len _ _ _ h1 hj, h2]
theorem MidR.cells {base : Nat} {w : World} {g n c k : Nat} {done : List (PartL × Value)} {q : PartL × Value} {rest : List (PartL × Value)} (h : MidR base w g n c done q rest) (hk : done.length = k) (hn : k < n) :
    w.cell? ⟨g, k * 7, none⟩ = some (.int .i64 q.1.id) ∧ w.cell? ⟨g, k * 7 + 1, none⟩ = some (.int .i64 q.1.h) ∧ w.cell? ⟨g, k * 7 + 2, none⟩ = some (.int .i64 q.1.v) ∧ w.cell? ⟨g, k * 7 + 3, none⟩ = some (.int .i64 q.1.tq) ∧ w.cell? ⟨g, k * 7 + 4, none⟩ = some (.int .i64 q.1.wide) ∧ w.cell? ⟨g, k * 7 + 5, none⟩ = some (.int .i64 q.1.high) ∧ w.cell? ⟨g, k * 7 + 6, none⟩ = some q.2 :=
  ⟨h.cell hk hn 0 (by decide), h.cell hk hn 1 (by decide), h.cell hk hn 2 (by decide), h.cell hk hn 3 (by decide), h.cell hk hn 4 (by decide), h.cell hk hn 5 (by decide), h.cell hk hn 6 (by decide)⟩
theorem MidR.frozen {base : Nat} {w : World} {g n c : Nat} {done : List (PartL × Value)} {q : PartL × Value} {rest : List (PartL × Value)} (h : MidR base w g n c done q rest) (j : Nat) : w.frozen? ⟨g, j, none⟩ = false := h.row.frozenAt j
theorem MidR.heap {base : Nat} {w : World} {g n c : Nat} {done : List (PartL × Value)} {q : PartL × Value} {rest : List (PartL × Value)} (h : MidR base w g n c done q rest) : base ≤ g ∧ g < w.heap.size ∧ ∃ C, w.heap[g]? = some (.cells C 70 (0, 0)) := by
  rcases h.row.2 with ⟨h1, _⟩ | ⟨g', cap, cur, h1, hg, hc, _⟩
  · simp at h1
  · simp only [Value.slice.injEq, Option.some.injEq, Addr.mk.injEq, and_true, true_and] at h1
    obtain ⟨rfl, rfl⟩ := h1
    exact ⟨hg, (Array.getElem?_eq_some_iff.1 hc).1, cur, hc⟩
theorem MidR.set {base : Nat} {w : World} {g n c k : Nat} {done : List (PartL × Value)} {q : PartL × Value} {rest : List (PartL × Value)} (h : MidR base w g n c done q rest) (hk : done.length = k) (j : Nat) (hj : j < 7) (u : Value) (q' : PartL × Value) (hq : vPart q'.1 q'.2 = (vPart q.1 q.2).set j u) :
    MidR base (w.setCell ⟨g, k * 7 + j, none⟩ u) g n c done q' rest := by
  subst hk
  obtain ⟨h1, h2⟩ := mid_at done q rest
  obtain ⟨_, _, C, hC⟩ := h.heap
  have hs := (World.ownsRow.stored h.row (done.length * 7 + j) u).1
  rw [cellsW_set vPart_len _ _ _ h1 hj u q' (by rw [h2]; exact hq)] at hs
  rw [show (done ++ q :: rest).set done.length q' = done ++ q' :: rest by rw [List.set_append_right _ _ (Nat.le_refl _), Nat.sub_self]; rfl] at hs
  exact ⟨hs, fun p hp => ⟨owns_other (h.bk p hp).row hC (by decide), (h.bk p hp).all⟩⟩
theorem MidR.pts {base : Nat} {w : World} {g n c : Nat} {done : List (PartL × Value)} {q : PartL × Value} {rest : List (PartL × Value)} (h : MidR base w g n c done q rest) (hn : (done ++ q :: rest).length = n) (hd : ∀ p ∈ done, PartB p.1) (hq : PartB q.1 ∧ Bks w q.2 q.1.bs) (hr : ∀ p ∈ rest, PartB p.1 ∧ Bks w p.2 p.1.bs) :
    Pts w (.slice (some ⟨g, 0, none⟩) n c) ((done ++ q :: rest).map (·.1)) := by
  subst hn
  refine rows_pts (sl_of_owns h.row) fun p hp => ?_
  rw [List.mem_append, List.mem_cons] at hp
  rcases hp with hp | rfl | hp
  · exact ⟨hd p hp, (h.bk p hp).bks⟩
  · exact hq
  · exact hr p hp
theorem kin_cut (P : PicL) (c r w h : Int) : (cutL P c r w h).parts.map kin = P.parts.map kin := by
  unfold cutL
  apply List.ext_getElem (by simp)
  intro i h1 h2
  simp [cutP, cutX, kin]
theorem cut_part (P : PicL) (c r w h : Int) (k : Nat) (hk : k < P.parts.length) : (cutL P c r w h).parts.length = P.parts.length ∧ ∀ h1, (cutL P c r w h).parts[k]'h1 = cutP P c r w h k P.parts[k] := by
  unfold cutL
  exact ⟨by simp, fun h1 => by simp⟩
/-- the picture while its parts are made anew -/
def midL (P : PicL) (w h : Int) (ps : List PartL) : PicL := { sidesL P w h with parts := ps }
theorem mid_size (P : PicL) (w h : Int) (ps : List PartL) (hk : ps.map kin = P.parts.map kin) (k : Int) : sizeL (midL P w h ps) k = sizeL (sidesL P w h) k ∧ ownL (midL P w h ps) k = ownL (sidesL P w h) k :=
  ⟨kin_size (P := midL P w h ps) (Q := sidesL P w h) hk rfl rfl k, kin_own (P := midL P w h ps) (Q := sidesL P w h) hk rfl rfl k⟩
theorem mid_kin {P : PicL} {c r w h : Int} {done rest : List PartL} {p : PartL} {k : Nat} (hd : done = (cutL P c r w h).parts.take k) (hk : k < P.parts.length) (hp : kin p = kin P.parts[k]) (hr : rest = P.parts.drop (k + 1)) : (done ++ p :: rest).map kin = P.parts.map kin := by
  subst hd hr
  rw [List.map_append, List.map_take, kin_cut, List.map_cons, List.map_drop, hp]
  have h1 : k < (P.parts.map kin).length := by simpa using hk
  have e := List.take_append_drop k (P.parts.map kin)
  rw [List.drop_eq_getElem_cons h1, List.getElem_map] at e
  exact e
theorem mid_shown {P : PicL} {c r w h : Int} (F : Fit P) (I : In P c r w h) {k : Nat} (hk : k < P.parts.length) {ps : List PartL} (hkin : ps.map kin = P.parts.map kin) (x : PartL) (hx : x.bs = gathL P.parts[k] c r (sizeL (sidesL P w h) (k : Int)).1 (sizeL (sidesL P w h) (k : Int)).2.toNat) (hps : ps[k]? = some x) :
    shownL (midL P w h ps) (k : Int) = cutB P.parts[k] c r (sizeL (sidesL P w h) (k : Int)) (ownL (sidesL P w h) (k : Int)) := by
  obtain ⟨e1, e2⟩ := mid_size P w h ps hkin (k : Int)
  have e3 : partAt (midL P w h ps) (k : Int) = x := by
    unfold partAt midL
    simp only [Int.toNat_natCast, List.getD_eq_getElem?_getD, hps, Option.getD_some]
  obtain ⟨⟨s1, s2⟩, s3, s4⟩ := cut_sizes F I k hk
  have hl := gath_len F I k hk (sizeL (sidesL P w h) (k : Int)).2.toNat (by omega)
  have hf : fullB (midL P w h ps) (k : Int) = true := by
    unfold fullB
    rw [e1, e3, hx, hl]
    rw [Bool.and_eq_true, Bool.not_eq_true', decide_eq_false_iff_not, decide_eq_true_eq]
    refine ⟨by omega, ?_⟩
    rw [Int.natCast_mul, Int.mul_comm, Int.toNat_of_nonneg (by omega), Int.toNat_of_nonneg (by omega)]
  unfold shownL
  rw [if_pos hf, e1, e2, e3, hx]
  rfl
/-- the boxes of turn.cut -/
structure CutX (w : World) (B : Nat) (P Q : PicL) (q0 q1 q2 q3 pv rv kv : Value) (W : World) : Prop where
  a : PBox W B Q q0 q1 q2 q3 rv kv
  z : ZBox W (B + 1)
  o : PBox W (B + 1 + 1) P q0 q1 q2 q3 pv kv
  l : Below B w W
theorem CutX.lt {w : World} {B : Nat} {P Q : PicL} {q0 q1 q2 q3 pv rv kv : Value} {W : World} (h : CutX w B P Q q0 q1 q2 q3 pv rv kv W) : B + 1 + 1 < W.heap.size := (Array.getElem?_eq_some_iff.1 h.o).1
theorem CutX.old {w : World} {B : Nat} {P Q : PicL} {q0 q1 q2 q3 pv rv kv : Value} {W W' : World} (h : CutX w B P Q q0 q1 q2 q3 pv rv kv W) (hb : Below W.heap.size W W') : CutX w B P Q q0 q1 q2 q3 pv rv kv W' :=
  ⟨h.a.old hb, h.z.old hb, h.o.old hb, h.l.trans (hb.mono (by have := h.lt; omega))⟩
theorem CutX.set {w : World} {B : Nat} {P Q : PicL} {q0 q1 q2 q3 pv rv kv : Value} {W : World} (h : CutX w B P Q q0 q1 q2 q3 pv rv kv W) {g j : Nat} {C : Array Value} {fr : Nat × Nat} {u : Value} (hg : B ≤ g) (hC : W.heap[g]? = some (.cells C 70 fr)) : CutX w B P Q q0 q1 q2 q3 pv rv kv (W.setCell ⟨g, j, none⟩ u) :=
  ⟨heap_other h.a hC (by decide), heap_other h.z hC (by decide), heap_other h.o hC (by decide), below_set h.l hg⟩
theorem MidR.cutX {base : Nat} {w W : World} {B : Nat} {P Q : PicL} {q0 q1 q2 q3 pv rv kv u : Value} {g n c j : Nat} {done : List (PartL × Value)} {q : PartL × Value} {rest : List (PartL × Value)} (m : MidR base W g n c done q rest) (h : CutX w B P Q q0 q1 q2 q3 pv rv kv W) (hb : B ≤ base) : CutX w B P Q q0 q1 q2 q3 pv rv kv (W.setCell ⟨g, j, none⟩ u) := by
  obtain ⟨h1, _, C, hC⟩ := m.heap
  exact h.set (by omega) hC
theorem HalfP.mid {base : Nat} {w : World} {g n c k : Nat} {rs done : List (PartL × Value)} {q : PartL × Value} (h : HalfP base w (.slice (some ⟨g, 0, none⟩) n c) rs done) (hn : rs.length = n) (hk : done.length = k) (hkn : k < rs.length) (hq : rs[k] = q) : MidR base w g n c done q (rs.drop (k + 1)) := by
  subst hk hn
  have hr := h.row
  rw [List.drop_eq_getElem_cons hkn, hq] at hr
  exact ⟨hr, h.bk⟩
/-- the numbers on the way to a row -/
theorem row_bounds {P : PicL} {c r w h : Int} (F : Fit P) (I : In P c r w h) (k : Nat) (hk : k < P.parts.length) (i : Int) (hi : 0 ≤ i ∧ i < (sizeL (sidesL P w h) (k : Int)).2) :
    (0 ≤ r * (P.parts[k]).v ∧ r * (P.parts[k]).v ≤ 262140) ∧ (0 ≤ r * (P.parts[k]).v + i ∧ r * (P.parts[k]).v + i ≤ 1000000) ∧ (0 ≤ (r * (P.parts[k]).v + i) * (P.parts[k]).wide ∧ (r * (P.parts[k]).v + i) * (P.parts[k]).wide ≤ 65536) ∧ (0 ≤ c * (P.parts[k]).h ∧ c * (P.parts[k]).h ≤ 262140) ∧
      ∃ at_ : Nat, (r * (P.parts[k]).v + i) * (P.parts[k]).wide + c * (P.parts[k]).h = (at_ : Int) ∧ rowAt P.parts[k] c r i = at_ ∧ at_ + (sizeL (sidesL P w h) (k : Int)).1.toNat ≤ (P.parts[k]).bs.length := by
  obtain ⟨h1, h2⟩ := row_in F I k hk i hi
  obtain ⟨_, _, hc, hr⟩ := I.sides F
  obtain ⟨f1, f2⟩ := fac_at F.fac k hk
  obtain ⟨⟨s1, _⟩, s3, s4⟩ := cut_sizes F I k hk
  obtain ⟨a1, a2, a3, a4⟩ := F.pt k hk
  have g1 := mul_in (a := r) (b := (P.parts[k]).v) (m := 65535) (n := 4) ⟨I.r0, hr⟩ (by omega)
  have g2 := mul_in (a := c) (b := (P.parts[k]).h) (m := 65535) (n := 4) ⟨I.c0, hc⟩ (by omega)
  have g3 : 0 ≤ (r * (P.parts[k]).v + i) * (P.parts[k]).wide := Int.mul_nonneg (by omega) (by omega)
  have SI := szL_in P (k : Int)
  have SI2 := szL_in (sidesL P w h) (k : Int)
  refine ⟨by omega, by omega, ⟨g3, by omega⟩, by omega, ((r * (P.parts[k]).v + i) * (P.parts[k]).wide + c * (P.parts[k]).h).toNat, by omega, rfl, by omega⟩
theorem bks_sub {w : World} {xb xo n cap : Nat} {bs : List (List Int)} (h : Bks w (.slice (some ⟨xb, xo, none⟩) n cap) bs) (a m : Nat) (ham : a + m ≤ bs.length) : SlN 64 w (.slice (some ⟨xb, xo + a * 64, none⟩) m (cap - a)) m (fB ((bs.drop a).take m)) := by
  have hl : ((bs.drop a).take m).length = m := by rw [List.length_take, List.length_drop]; omega
  have hb : Bks w (.slice (some ⟨xb, xo + a * 64, none⟩) m (cap - a)) ((bs.drop a).take m) := by
    obtain ⟨a', c', hv, hc, hx⟩ := h
    simp only [Value.slice.injEq] at hv
    obtain ⟨rfl, _, rfl⟩ := hv
    refine ⟨some ⟨xb, xo + a * 64, none⟩, cap - a, by rw [hl], by rw [hl]; omega, fun i hi => ?_⟩
    rw [hl] at hi
    obtain ⟨b, off, cs, ha, h1, h2, h3⟩ := hx (a + i) (by omega)
    simp only [Option.some.injEq, Addr.mk.injEq, and_true] at ha
    obtain ⟨rfl, rfl⟩ := ha
    refine ⟨xb, xo + a * 64, cs, rfl, h1, fun j u hj => ?_, ?_⟩
    · have := h2 j u hj
      rwa [show xo + (a + i) * 64 + j = xo + a * 64 + i * 64 + j by rw [Nat.add_mul]; omega] at this
    · simpa using h3
  have := hb.sl
  rwa [hl] at this
theorem wrapN (n : Nat) (h : n ≤ 1000000) : wrap64 (n : Int) = (n : Int) ∧ IntKind.i64.wrap (n : Int) = (n : Int) := ⟨IntWalk.wrap64_in _ (by omega), IntWalk.i64_in _ (by omega)⟩
theorem wrapZ (z : Int) (h : 0 ≤ z ∧ z ≤ 10000000) : wrap64 z = z ∧ IntKind.i64.wrap z = z := ⟨IntWalk.wrap64_in _ (by omega), IntWalk.i64_in _ (by omega)⟩
theorem subFacts (a s len cap : Nat) (h1 : a + s ≤ len) (h2 : len ≤ cap) (h3 : 1 ≤ s) (h4 : a ≤ 400000) (h5 : s ≤ 262140) : ∃ E : Nat, wrap64 ((a : Int) + (s : Int)) = (E : Int) ∧ IntKind.i64.wrap ((a : Int) + (s : Int)) = (E : Int) ∧ (E : Int) ≤ (cap : Int) ∧ a ≤ E ∧ E - a = s ∧ ¬ cap = a :=
  ⟨a + s, by rw [(wrapZ _ (by omega)).1]; omega, by rw [(wrapZ _ (by omega)).2]; omega, by omega, by omega, by omega, by omega⟩
/-- a block of cells of another type stays where an own row grows -/
theorem heap_grown {w w' : World} {v : Value} {base : Nat} {e : TypeId} {size n : Nat} {xs : List Value} (hv : w.ownsRow base e size v n xs) (hg : w.grownBy w' v.ownBlock) {B : Nat} {C : Array Value} {t : TypeId} {fr : Nat × Nat} (hB : w.heap[B]? = some (.cells C t fr)) (ht : t ≠ e) : w'.heap[B]? = some (.cells C t fr) := by
  rw [hg.block B (Array.getElem?_eq_some_iff.1 hB).1 (fun h => ?_)]
  · exact hB
  rcases hv.2 with ⟨rfl, _⟩ | ⟨g', cap', cur', rfl, _, hg', _⟩
  · simp [Value.ownBlock] at h
  · simp only [Value.ownBlock, Option.some.injEq] at h
    subst h
    rw [hB] at hg'
    simp only [Option.some.injEq, Obj.cells.injEq] at hg'
    exact ht hg'.2.1
theorem CutX.grown {w : World} {B : Nat} {P Q : PicL} {q0 q1 q2 q3 pv rv kv : Value} {W W' : World} (h : CutX w B P Q q0 q1 q2 q3 pv rv kv W) {v : Value} {base size n : Nat} {xs : List Value} (hv : W.ownsRow base 23 size v n xs) (hg : W.grownBy W' v.ownBlock) (hb : B ≤ base) : CutX w B P Q q0 q1 q2 q3 pv rv kv W' :=
  ⟨heap_grown hv hg h.a (by decide), heap_grown hv hg h.z (by decide), heap_grown hv hg h.o (by decide), h.l.grown hg (by have := h.lt; omega) fun k hk => Nat.le_trans hb (hv.lt k hk).1⟩
theorem rowL_all {x : PartL} (h : All64 x.bs) (c r s i : Int) : All64 (rowL x c r s i) := (h.drop _).take _
/-- a row appended -/
theorem BkO.more {base : Nat} {w : World} {v : Value} {x : PartL} {c r : Int} {s y : Nat} (ho : w.ownsRow base 23 64 v ((gathL x c r (s : Int) y).length + s) (fB (gathL x c r (s : Int) y) ++ fB (rowL x c r (s : Int) (y : Int)))) (h1 : All64 (gathL x c r (s : Int) y)) (h2 : All64 x.bs) (hl : (rowL x c r (s : Int) (y : Int)).length = s) : BkO base w v (gathL x c r (s : Int) (y + 1)) := by
  rw [gath_succ]
  refine ⟨?_, h1.app (rowL_all h2 _ _ _ _)⟩
  rw [List.length_append, fB_app, hl]
  exact ho
theorem BkO.other {base : Nat} {w : World} {v : Value} {bs : List (List Int)} (h : BkO base w v bs) {B j : Nat} {C : Array Value} {t : TypeId} {fr : Nat × Nat} {u : Value} (hB : w.heap[B]? = some (.cells C t fr)) (ht : 23 ≠ t) : BkO base (w.setCell ⟨B, j, none⟩ u) v bs := ⟨owns_other h.row hB ht, h.all⟩
theorem PtB.setOther {w : World} {T g j : Nat} {p : PartL} {x u : Value} (h : PtB w T p x) (hne : g ≠ T) : PtB (w.setCell ⟨g, j, none⟩ u) T p x := by
  unfold PtB
  rw [Go.Deep.blk_setCell_other _ _ _ _ (by simp only; omega)]
  exact h
theorem cellsW_mid {α : Type} (c : α → Value → List Value) (done : List (α × Value)) (q : α × Value) (rest : List (α × Value)) : cellsW c (done ++ q :: rest) = cellsW c done ++ (c q.1 q.2 ++ cellsW c rest) := by
  unfold cellsW
  rw [List.flatMap_append, List.flatMap_cons]
theorem MidR.same {base : Nat} {w : World} {g n c : Nat} {done : List (PartL × Value)} {q q' : PartL × Value} {rest : List (PartL × Value)} (h : MidR base w g n c done q rest) (hq : vPart q'.1 q'.2 = vPart q.1 q.2) : MidR base w g n c done q' rest :=
  ⟨by have := h.row; rw [cellsW_mid] at this ⊢; rw [hq]; exact this, h.bk⟩
theorem partB_new {p : PartL} (h : PartB p) (s t : Nat) (hs : s ≤ 262140 ∧ t ≤ 262140) (l : List (List Int)) (hl : l.length ≤ 140737488351232) : PartB { p with wide := (s : Int), high := (t : Int), bs := l } :=
  ⟨h.id, h.h, h.v, h.tq, by unfold R64; simp only; omega, by unfold R64; simp only; omega, hl⟩
theorem cutB_len (x : PartL) (c r : Int) (s o : Int × Int) : (cutB x c r s o).length = (gathL x c r s.1 s.2.toNat).length := by unfold cutB; rw [shTo_length]
theorem mid_len {done : List (PartL × Value)} {x : PartL} {rest : List (PartL × Value)} {k : Nat} (h : done.length = k) : (done.map (·.1) ++ x :: rest.map (·.1))[k]? = some x := by
  subst h
  rw [List.getElem?_append_right (by simp)]
  simp
theorem cut_take {P : PicL} {c r w h : Int} {k : Nat} (hk : k < P.parts.length) {p : PartL} (hp : P.parts[k] = p) : (cutL P c r w h).parts.take (k + 1) = (cutL P c r w h).parts.take k ++ [cutP P c r w h k p] := by
  obtain ⟨h1, h2⟩ := cut_part P c r w h k hk
  have h3 : k < (cutL P c r w h).parts.length := by rw [h1]; exact hk
  rw [List.take_succ_eq_append_getElem h3, h2 h3, hp]
/-- the row's end: one part more is made anew -/
theorem MidR.half {base : Nat} {w : World} {g n c k : Nat} {rs done : List (PartL × Value)} {q : PartL × Value} (h : MidR base w g n c done q (rs.drop (k + 1))) (hn : rs.length = n) (hk : done.length = k) (hkn : k < n) (hd : ∀ p ∈ done, PartB p.1) (hq : PartB q.1) (hb : BkO base w q.2 q.1.bs)
    (hs : done.Pairwise fun p q => p.2.ownBlock = none ∨ p.2.ownBlock ≠ q.2.ownBlock) (hM : ∀ p ∈ done, p.2.ownBlock = none ∨ p.2.ownBlock ≠ q.2.ownBlock) : HalfP base w (.slice (some ⟨g, 0, none⟩) n c) rs (done ++ [q]) := by
  subst hk hn
  refine ⟨by rw [List.length_append]; simp; omega, ?_, fun p hp => ?_, fun p hp => ?_, ?_⟩
  · rw [List.length_append, List.length_singleton, List.append_assoc]
    exact h.row
  · rw [List.mem_append] at hp
    rcases hp with hp | hp
    · exact hd p hp
    · rw [List.mem_singleton.1 hp]; exact hq
  · rw [List.mem_append] at hp
    rcases hp with hp | hp
    · exact h.bk p hp
    · rw [List.mem_singleton.1 hp]; exact hb
  · rw [List.pairwise_append]
    refine ⟨hs, List.pairwise_singleton _ _, fun p hp q' hq' => ?_⟩
    rw [List.mem_singleton.1 hq']
    exact hM p hp
theorem row_wraps {r v y wd c h : Int} {a : Nat} (rb1 : 0 ≤ r * v ∧ r * v ≤ 262140) (rb2 : 0 ≤ r * v + y ∧ r * v + y ≤ 1000000) (rb3 : 0 ≤ (r * v + y) * wd ∧ (r * v + y) * wd ≤ 65536) (rb4 : 0 ≤ c * h ∧ c * h ≤ 262140) (rb5 : (r * v + y) * wd + c * h = (a : Int)) :
    ∃ A1 A2 A3 A4 : Int, (wrap64 (r * v) = A1 ∧ IntKind.i64.wrap (r * v) = A1) ∧ (wrap64 (A1 + y) = A2 ∧ IntKind.i64.wrap (A1 + y) = A2) ∧ (wrap64 (A2 * wd) = A3 ∧ IntKind.i64.wrap (A2 * wd) = A3) ∧ (wrap64 (c * h) = A4 ∧ IntKind.i64.wrap (c * h) = A4) ∧ (wrap64 (A3 + A4) = (a : Int) ∧ IntKind.i64.wrap (A3 + A4) = (a : Int)) := by
  refine ⟨r * v, r * v + y, (r * v + y) * wd, c * h, wrapZ _ (by omega), wrapZ _ (by omega), wrapZ _ (by omega), wrapZ _ (by omega), ?_⟩
  rw [rb5]
  exact wrapN a (by omega)
theorem step_wrap (k n : Nat) (h : k < n) (hn : n ≤ 1000000) : IntKind.i64.wrap ((k : Int) + 1) = (k : Int) + 1 := (wrapZ _ (by omega)).2
theorem dec_lt {a b : Nat} (h : a < b) : decide ((a : Int) < (b : Int)) = true ∧ decide (a < b) = true := ⟨decide_eq_true (Int.ofNat_lt.2 h), decide_eq_true h⟩
theorem rows_le (y s t N : Nat) (hy : y < t) (h : (s : Int) * (t : Int) = (N : Int)) (hN : N ≤ 65536) : y * s ≤ 65536 := by
  have h1 : y * s ≤ t * s := Nat.mul_le_mul_right _ (Nat.le_of_lt hy)
  have h2 : ((t * s : Nat) : Int) = (s : Int) * (t : Int) := by push_cast; rw [Int.mul_comm]
  omega
theorem rows_all (y s t N : Nat) (hy : y = t) (h : (s : Int) * (t : Int) = (N : Int)) (hN : N ≤ 65536) : y * s ≤ 65536 := by
  subst hy
  have h2 : ((y * s : Nat) : Int) = (s : Int) * (y : Int) := by push_cast; rw [Int.mul_comm]
  omega
theorem app_bounds (a s : Nat) (h : a ≤ 65536) (hs : s ≤ 262140) : (a + s) * 512 ≤ 140737488355328 ∧ a + s ≤ 140737488355328 := by omega
theorem at_small (a s len : Nat) (h : a + s ≤ len) (hl : len ≤ 400000) : a ≤ 400000 := by omega
end Go.Proofs.Ytnhalnjdlkdnkaa
