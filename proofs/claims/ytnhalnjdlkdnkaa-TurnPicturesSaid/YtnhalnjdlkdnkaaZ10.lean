/- turn.own. By an AI agent. -/
import Derived.Test.YtnhalnjdlkdnkaaZ05
import Derived.Test.YtnhalnjdlkdnkaaZ09
import Derived.Deep.DeepCutAuto
import Derived.RegionTactic
import Derived.Handy
namespace Go.Proofs.Ytnhalnjdlkdnkaa
open Go.RowKit Go.BigFrame
set_option linter.unusedVariables false
set_option linter.unusedSimpArgs false
set_option maxRecDepth 20000

/-! ## own pictures -/
structure PtO (base : Nat) (w : World) (v : Value) (rs : List (PartL × Value)) : Prop where
  row : w.ownsRow base 70 7 v rs.length (cellsW vPart rs)
  ok : ∀ p ∈ rs, PartB p.1
  bk : ∀ p ∈ rs, BkO base w p.2 p.1.bs
  sep : rs.Pairwise fun p q => p.2.ownBlock = none ∨ p.2.ownBlock ≠ q.2.ownBlock
structure SgO (base : Nat) (w : World) (v : Value) (rs : List ((Int × List UInt8) × Value)) : Prop where
  row : w.ownsRow base 73 2 v rs.length (cellsW vSeg rs)
  ok : ∀ p ∈ rs, R64 p.1.1 ∧ p.1.2.length ≤ 140737488351232
  dt : ∀ p ∈ rs, w.ownsRow base 5 1 p.2 p.1.2.length (vBs p.1.2)
def NO (base : Nat) (w : World) (v : Value) (l : List Int) : Prop := w.ownsRow base 3 1 v l.length (vIs l)
structure PicO (base : Nat) (w : World) (P : PicL) (q0 q1 q2 q3 pv kv : Value) : Prop where
  q0 : NO base w q0 P.q0
  q1 : NO base w q1 P.q1
  q2 : NO base w q2 P.q2
  q3 : NO base w q3 P.q3
  parts : ∃ rs, rs.map (·.1) = P.parts ∧ PtO base w pv rs
  kept : ∃ rs, rs.map (·.1) = P.kept ∧ SgO base w kv rs
theorem NO.ns {base : Nat} {w : World} {v : Value} {l : List Int} (h : NO base w v l) : Ns w v l := sl_of_owns h
theorem PtO.pts {base : Nat} {w : World} {v : Value} {rs : List (PartL × Value)} (h : PtO base w v rs) : Pts w v (rs.map (·.1)) := rows_pts (sl_of_owns h.row) fun p hp => ⟨h.ok p hp, (h.bk p hp).bks⟩
theorem SgO.sgs {base : Nat} {w : World} {v : Value} {rs : List ((Int × List UInt8) × Value)} (h : SgO base w v rs) : Sgs w v (rs.map (·.1)) := rows_sgs (sl_of_owns h.row) fun p hp => ⟨(h.ok p hp).1, (h.ok p hp).2, sl_of_owns (h.dt p hp)⟩
theorem PicO.pic {base : Nat} {w : World} {P : PicL} {q0 q1 q2 q3 pv kv : Value} (h : PicO base w P q0 q1 q2 q3 pv kv) : PicC w P q0 q1 q2 q3 pv kv := by
  obtain ⟨rs, h1, h2⟩ := h.parts
  obtain ⟨ss, h3, h4⟩ := h.kept
  exact ⟨h.q0.ns, h.q1.ns, h.q2.ns, h.q3.ns, h1 ▸ h2.pts, h3 ▸ h4.sgs⟩
theorem PtO.hi {base : Nat} {w w' : World} {v : Value} {rs : List (PartL × Value)} (h : PtO base w v rs) (k : KeepHi base w w') : PtO base w' v rs :=
  ⟨owns_hi h.row k, h.ok, fun p hp => ⟨owns_hi (h.bk p hp).row k, (h.bk p hp).all⟩, h.sep⟩
theorem SgO.hi {base : Nat} {w w' : World} {v : Value} {rs : List ((Int × List UInt8) × Value)} (h : SgO base w v rs) (k : KeepHi base w w') : SgO base w' v rs :=
  ⟨owns_hi h.row k, h.ok, fun p hp => owns_hi (h.dt p hp) k⟩
theorem PicO.hi {base : Nat} {w w' : World} {P : PicL} {q0 q1 q2 q3 pv kv : Value} (h : PicO base w P q0 q1 q2 q3 pv kv) (k : KeepHi base w w') : PicO base w' P q0 q1 q2 q3 pv kv := by
  obtain ⟨rs, h1, h2⟩ := h.parts
  obtain ⟨ss, h3, h4⟩ := h.kept
  exact ⟨owns_hi h.q0 k, owns_hi h.q1 k, owns_hi h.q2 k, owns_hi h.q3 k, ⟨rs, h1, h2.hi k⟩, ⟨ss, h3, h4.hi k⟩⟩
theorem PtO.mono {base base' : Nat} {w : World} {v : Value} {rs : List (PartL × Value)} (h : PtO base w v rs) (hb : base' ≤ base) : PtO base' w v rs :=
  ⟨World.ownsRow.mono h.row hb, h.ok, fun p hp => (h.bk p hp).mono hb, h.sep⟩
theorem SgO.mono {base base' : Nat} {w : World} {v : Value} {rs : List ((Int × List UInt8) × Value)} (h : SgO base w v rs) (hb : base' ≤ base) : SgO base' w v rs :=
  ⟨World.ownsRow.mono h.row hb, h.ok, fun p hp => World.ownsRow.mono (h.dt p hp) hb⟩
theorem PicO.mono {base base' : Nat} {w : World} {P : PicL} {q0 q1 q2 q3 pv kv : Value} (h : PicO base w P q0 q1 q2 q3 pv kv) (hb : base' ≤ base) : PicO base' w P q0 q1 q2 q3 pv kv := by
  obtain ⟨rs, h1, h2⟩ := h.parts
  obtain ⟨ss, h3, h4⟩ := h.kept
  exact ⟨World.ownsRow.mono h.q0 hb, World.ownsRow.mono h.q1 hb, World.ownsRow.mono h.q2 hb, World.ownsRow.mono h.q3 hb, ⟨rs, h1, h2.mono hb⟩, ⟨ss, h3, h4.mono hb⟩⟩
/-- a picture of no great size -/
structure Mod (P : PicL) : Prop where
  q : ∀ j, (qL P j).length ≤ 1000
  n : P.parts.length ≤ 1000
  k : P.kept.length ≤ 1000
  b : ∀ p ∈ P.parts, p.bs.length ≤ 1000000
  d : ∀ s ∈ P.kept, s.2.length ≤ 1000000000
/-! ## a row whose records' slices are made anew, one after the other -/
structure HalfP (base : Nat) (w : World) (v : Value) (rs done : List (PartL × Value)) : Prop where
  len : done.length ≤ rs.length
  row : w.ownsRow base 70 7 v rs.length (cellsW vPart (done ++ rs.drop done.length))
  ok : ∀ p ∈ done, PartB p.1
  bk : ∀ p ∈ done, BkO base w p.2 p.1.bs
  sep : done.Pairwise fun p q => p.2.ownBlock = none ∨ p.2.ownBlock ≠ q.2.ownBlock
theorem HalfP.old {base : Nat} {w w' : World} {v : Value} {rs done : List (PartL × Value)} (h : HalfP base w v rs done) (hb : Below w.heap.size w w') : HalfP base w' v rs done :=
  ⟨h.len, owns_below h.row hb, h.ok, fun p hp => (h.bk p hp).old hb, h.sep⟩
theorem half_at {α : Type} {rs done : List α} {k : Nat} (hl : done.length = k) (hk : k < rs.length) : k < (done ++ rs.drop k).length ∧ ∀ h, (done ++ rs.drop k)[k]'h = rs[k] := by
  subst hl
  have h1 : done.length < (done ++ rs.drop done.length).length := by simp; omega
  exact ⟨h1, fun h => by simp⟩
theorem HalfP.fin {base : Nat} {w : World} {v : Value} {rs done : List (PartL × Value)} (h : HalfP base w v rs done) (hl : done.length = rs.length) : PtO base w v done := by
  have hr := h.row
  rw [hl, List.drop_length, List.append_nil] at hr
  rw [← hl] at hr
  exact ⟨hr, h.ok, h.bk, h.sep⟩
theorem owns_shape {w : World} {base : Nat} {e : TypeId} {size : Nat} {v : Value} {n : Nat} {xs : List Value} (h : w.ownsRow base e size v n xs) (hn : 0 < n) (hs : 0 < size) : ∃ g c, v = .slice (some ⟨g, 0, none⟩) n c ∧ base ≤ g ∧ g < w.heap.size ∧ ∃ C, w.heap[g]? = some (.cells C e (0, 0)) := by
  rcases h.2 with ⟨rfl, h0⟩ | ⟨g, cap, cur, rfl, hg, hc, _⟩
  · omega
  · exact ⟨g, cap, rfl, hg, (Array.getElem?_eq_some_iff.1 hc).1, cur, hc⟩
theorem owns_any {w : World} {base : Nat} {e : TypeId} {size : Nat} {v : Value} {n : Nat} {xs : List Value} (h : w.ownsRow base e size v n xs) : ∃ a c, v = .slice a n c := by
  rcases h.2 with ⟨rfl, h0⟩ | ⟨g, cap, cur, rfl, _⟩
  · exact ⟨_, _, by rw [h0]⟩
  · exact ⟨_, _, rfl⟩
/-- the seventh cell of a record turned: its new slice -/
theorem HalfP.step {base : Nat} {w : World} {g c n : Nat} {rs done : List (PartL × Value)} {k : Nat} (h : HalfP base w (.slice (some ⟨g, 0, none⟩) n c) rs done) (hn : rs.length = n) (hl : done.length = k) (hk : k < rs.length)
    {M : Nat} {x : Value} (hM : ∀ p ∈ done, ∀ b, p.2.ownBlock = some b → b < M) (hx : BkO M w x rs[k].1.bs) (hb : base ≤ M) (hok : PartB rs[k].1) :
    HalfP base (w.setCell ⟨g, k * 7 + 6, none⟩ x) (.slice (some ⟨g, 0, none⟩) n c) rs (done ++ [(rs[k].1, x)]) := by
  subst hn
  obtain ⟨h1, h2⟩ := half_at hl hk
  have hr := h.row
  rw [hl] at hr
  have hC := (owns_shape hr (by omega) (by decide))
  obtain ⟨g', c', e, _, _, C, hC⟩ := hC
  simp only [Value.slice.injEq, Option.some.injEq, Addr.mk.injEq, and_true, true_and] at e
  obtain ⟨rfl, rfl⟩ := e
  have hs := (World.ownsRow.stored hr (k * 7 + 6) x).1
  rw [cellsW_set vPart_len (done ++ rs.drop k) k 6 h1 (by decide) x (rs[k].1, x) (by rw [h2 h1]; rfl)] at hs
  have e : (done ++ rs.drop k).set k (rs[k].1, x) = (done ++ [(rs[k].1, x)]) ++ rs.drop (k + 1) := by
    subst hl
    rw [List.set_append_right _ _ (Nat.le_refl _), Nat.sub_self, List.append_assoc]
    congr 1
    rw [List.drop_eq_getElem_cons hk]
    rfl
  rw [e] at hs
  refine ⟨by rw [List.length_append]; simp; omega, ?_, fun p hp => ?_, fun p hp => ?_, ?_⟩
  · rw [List.length_append, hl]; exact hs
  · rw [List.mem_append] at hp
    rcases hp with hp | hp
    · exact h.ok p hp
    · rw [List.mem_singleton.1 hp]; exact hok
  · rw [List.mem_append] at hp
    rcases hp with hp | hp
    · exact ⟨owns_other (h.bk p hp).row hC (by decide), (h.bk p hp).all⟩
    · rw [List.mem_singleton.1 hp]; exact ⟨owns_other (World.ownsRow.mono hx.row hb) hC (by decide), hx.all⟩
  · rw [List.pairwise_append]
    refine ⟨h.sep, List.pairwise_singleton _ _, fun p hp q hq => ?_⟩
    rw [List.mem_singleton.1 hq]
    cases hv : p.2.ownBlock with
    | none => exact .inl rfl
    | some b =>
      right
      intro e2
      have hlt := hM p hp b hv
      have := (hx.row.lt b e2.symm).1
      omega
/-- a block of cells stays where a cell of another type is stored to -/
theorem heap_other {w : World} {B g j : Nat} {D C : Array Value} {t t' : TypeId} {fr fr' : Nat × Nat} {u : Value} (hB : w.heap[B]? = some (.cells D t fr)) (hg : w.heap[g]? = some (.cells C t' fr')) (ht : t ≠ t') : (w.setCell ⟨g, j, none⟩ u).heap[B]? = some (.cells D t fr) := by
  rw [Go.Deep.blk_setCell_other _ _ _ _ (fun e => ht (by simp only at e; subst e; rw [hg] at hB; simp only [Option.some.injEq, Obj.cells.injEq] at hB; exact hB.2.1.symm))]
  exact hB
structure HalfS (base : Nat) (w : World) (v : Value) (rs done : List ((Int × List UInt8) × Value)) : Prop where
  len : done.length ≤ rs.length
  row : w.ownsRow base 73 2 v rs.length (cellsW vSeg (done ++ rs.drop done.length))
  ok : ∀ p ∈ done, R64 p.1.1 ∧ p.1.2.length ≤ 140737488351232
  bk : ∀ p ∈ done, w.ownsRow base 5 1 p.2 p.1.2.length (vBs p.1.2)
  sep : done.Pairwise fun p q => p.2.ownBlock = none ∨ p.2.ownBlock ≠ q.2.ownBlock
theorem HalfS.old {base : Nat} {w w' : World} {v : Value} {rs done : List ((Int × List UInt8) × Value)} (h : HalfS base w v rs done) (hb : Below w.heap.size w w') : HalfS base w' v rs done :=
  ⟨h.len, owns_below h.row hb, h.ok, fun p hp => owns_below (h.bk p hp) hb, h.sep⟩
theorem HalfS.fin {base : Nat} {w : World} {v : Value} {rs done : List ((Int × List UInt8) × Value)} (h : HalfS base w v rs done) (hl : done.length = rs.length) : SgO base w v done := by
  have hr := h.row
  rw [hl, List.drop_length, List.append_nil] at hr
  rw [← hl] at hr
  exact ⟨hr, h.ok, h.bk⟩
/-- the second cell of a record turned: its new slice -/
theorem HalfS.step {base : Nat} {w : World} {g c n : Nat} {rs done : List ((Int × List UInt8) × Value)} {k : Nat} (h : HalfS base w (.slice (some ⟨g, 0, none⟩) n c) rs done) (hn : rs.length = n) (hl : done.length = k) (hk : k < rs.length)
    {M : Nat} {x : Value} (hM : ∀ p ∈ done, ∀ b, p.2.ownBlock = some b → b < M) (hx : w.ownsRow M 5 1 x rs[k].1.2.length (vBs rs[k].1.2)) (hb : base ≤ M) (hok : R64 rs[k].1.1 ∧ rs[k].1.2.length ≤ 140737488351232) :
    HalfS base (w.setCell ⟨g, k * 2 + 1, none⟩ x) (.slice (some ⟨g, 0, none⟩) n c) rs (done ++ [(rs[k].1, x)]) := by
  subst hn
  obtain ⟨h1, h2⟩ := half_at hl hk
  have hr := h.row
  rw [hl] at hr
  have hC := (owns_shape hr (by omega) (by decide))
  obtain ⟨g', c', e, _, _, C, hC⟩ := hC
  simp only [Value.slice.injEq, Option.some.injEq, Addr.mk.injEq, and_true, true_and] at e
  obtain ⟨rfl, rfl⟩ := e
  have hs := (World.ownsRow.stored hr (k * 2 + 1) x).1
  rw [cellsW_set vSeg_len (done ++ rs.drop k) k 1 h1 (by decide) x (rs[k].1, x) (by rw [h2 h1]; rfl)] at hs
  have e : (done ++ rs.drop k).set k (rs[k].1, x) = (done ++ [(rs[k].1, x)]) ++ rs.drop (k + 1) := by
    subst hl
    rw [List.set_append_right _ _ (Nat.le_refl _), Nat.sub_self, List.append_assoc]
    congr 1
    rw [List.drop_eq_getElem_cons hk]
    rfl
  rw [e] at hs
  refine ⟨by rw [List.length_append]; simp; omega, ?_, fun p hp => ?_, fun p hp => ?_, ?_⟩
  · rw [List.length_append, hl]; exact hs
  · rw [List.mem_append] at hp
    rcases hp with hp | hp
    · exact h.ok p hp
    · rw [List.mem_singleton.1 hp]; exact hok
  · rw [List.mem_append] at hp
    rcases hp with hp | hp
    · exact owns_other (h.bk p hp) hC (by decide)
    · rw [List.mem_singleton.1 hp]; exact owns_other (World.ownsRow.mono hx hb) hC (by decide)
  · rw [List.pairwise_append]
    refine ⟨h.sep, List.pairwise_singleton _ _, fun p hp q hq => ?_⟩
    rw [List.mem_singleton.1 hq]
    cases hv : p.2.ownBlock with
    | none => exact .inl rfl
    | some b =>
      right
      intro e2
      have hlt := hM p hp b hv
      have := (hx.lt b e2.symm).1
      omega
theorem PtO.set {base : Nat} {w : World} {v : Value} {rs : List (PartL × Value)} (h : PtO base w v rs) {B j : Nat} {C : Array Value} {t : TypeId} {fr : Nat × Nat} {u : Value} (hB : w.heap[B]? = some (.cells C t fr)) (h1 : 70 ≠ t) (h2 : 23 ≠ t) : PtO base (w.setCell ⟨B, j, none⟩ u) v rs :=
  ⟨owns_other h.row hB h1, h.ok, fun p hp => ⟨owns_other (h.bk p hp).row hB h2, (h.bk p hp).all⟩, h.sep⟩
def KeepTy (t : TypeId) (w w' : World) : Prop := ∀ (b : Nat) (C : Array Value) (e : TypeId) (fr : Nat × Nat), e ≠ t → w.heap[b]? = some (.cells C e fr) → w'.heap[b]? = some (.cells C e fr)
theorem owns_ty {base : Nat} {w w' : World} {t e : TypeId} {size : Nat} {v : Value} {n : Nat} {xs : List Value} (h : w.ownsRow base e size v n xs) (k : KeepTy t w w') (he : e ≠ t) : w'.ownsRow base e size v n xs := by
  refine ⟨h.1, ?_⟩
  rcases h.2 with h | ⟨g, cap, cur, hv, hg, hc, hr⟩
  · exact .inl h
  · exact .inr ⟨g, cap, cur, hv, hg, k g cur e _ he hc, hr⟩
theorem keepTy_set {w : World} {B j : Nat} {C : Array Value} {t : TypeId} {fr : Nat × Nat} {u : Value} (hB : w.heap[B]? = some (.cells C t fr)) : KeepTy t w (w.setCell ⟨B, j, none⟩ u) := fun b D e fr' he hb => heap_other hb hB he
theorem keepTy_row {w : World} {B : Nat} {C : Array Value} {t : TypeId} {fr : Nat × Nat} {cs : Array Value} (hB : w.heap[B]? = some (.cells C t fr)) : KeepTy t w (w.setRow B cs) := fun b D e fr' he hb => by
  rw [setRow_other w B b cs (fun e' => he (by subst e'; rw [hB] at hb; simp only [Option.some.injEq, Obj.cells.injEq] at hb; exact hb.2.1.symm))]
  exact hb
theorem PtO.ty {base : Nat} {w w' : World} {t : TypeId} {v : Value} {rs : List (PartL × Value)} (h : PtO base w v rs) (k : KeepTy t w w') (h1 : 70 ≠ t) (h2 : 23 ≠ t) : PtO base w' v rs :=
  ⟨owns_ty h.row k h1, h.ok, fun p hp => ⟨owns_ty (h.bk p hp).row k h2, (h.bk p hp).all⟩, h.sep⟩
theorem SgO.ty {base : Nat} {w w' : World} {t : TypeId} {v : Value} {rs : List ((Int × List UInt8) × Value)} (h : SgO base w v rs) (k : KeepTy t w w') (h1 : 73 ≠ t) (h2 : 5 ≠ t) : SgO base w' v rs :=
  ⟨owns_ty h.row k h1, h.ok, fun p hp => owns_ty (h.dt p hp) k h2⟩
theorem PicO.ty {base : Nat} {w w' : World} {t : TypeId} {P : PicL} {q0 q1 q2 q3 pv kv : Value} (h : PicO base w P q0 q1 q2 q3 pv kv) (k : KeepTy t w w') (h0 : 3 ≠ t) (h1 : 70 ≠ t) (h2 : 23 ≠ t) (h3 : 73 ≠ t) (h4 : 5 ≠ t) : PicO base w' P q0 q1 q2 q3 pv kv := by
  obtain ⟨rs, a1, a2⟩ := h.parts
  obtain ⟨ss, a3, a4⟩ := h.kept
  exact ⟨owns_ty h.q0 k h0, owns_ty h.q1 k h0, owns_ty h.q2 k h0, owns_ty h.q3 k h0, ⟨rs, a1, a2.ty k h1 h2⟩, ⟨ss, a3, a4.ty k h3 h4⟩⟩
end Go.Proofs.Ytnhalnjdlkdnkaa
