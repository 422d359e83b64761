/- frame.several: the units of several parts, handed over. By an AI agent. -/
import Derived.Test.YtbcbfnkpnfbfjaaUnitS
import Derived.Test.YtbcbfnkpnfbfjaaQH
import Derived.Handy
namespace Go.Proofs.Ytbcbfnkpnfbfjaa
open Go.RowKit Go.BigFrame
set_option linter.unusedVariables false
set_option linter.unusedSimpArgs false
attribute [local go_sem] Oper.semAt_some

/-! ## plain -/
theorem mostL_of {P : PicL} {k : Int} (h : (sizeL P k).1 ≠ 0) : mostL P k = some (maxH P.parts, maxV P.parts) := by
  unfold sizeL at h
  rcases hm : mostL P k with _ | ⟨a, b⟩
  · rw [hm] at h; simp at h
  · unfold mostL at hm
    split at hm
    · exact hm.symm
    · cases hm
theorem unitAt_take (P : PicL) (c row col : Nat) (ps : List Int) (m : Nat) (h : m < ps.length) : unitAt P c row col (ps.take (m + 1)) = unitAt P c row col (ps.take m) ++ (List.range (partN P ps[m])).map (partU P c row col ps[m]) := by
  unfold unitAt
  rw [List.take_succ_eq_append_getElem h, List.flatMap_append]; simp
theorem map_range_succ {α : Type} (f : Nat → α) (n : Nat) : (List.range (n + 1)).map f = (List.range n).map f ++ [f n] := by rw [List.range_succ, List.map_append]; rfl
theorem vUnit_one (u : List (Int × Int)) (c : Int × Int) : vUnit (u ++ [c]) = vUnit u ++ [.int .i64 c.1, .int .i64 c.2] := by rw [vUnit_app]; rfl
theorem unitAt_len (P : PicL) (c row col : Nat) (ps : List Int) (h : ∀ k ∈ ps, partN P k ≤ 16) : (unitAt P c row col ps).length ≤ 16 * ps.length := by
  unfold unitAt
  induction ps with
  | nil => simp
  | cons k ps ih =>
    rw [List.flatMap_cons, List.length_append, List.length_map, List.length_range, List.length_cons]
    have h1 := h k (by simp)
    have h2 := ih (fun x hx => h x (by simp [hx]))
    omega
/-- a part that has sizes -/
structure PartOk (P : PicL) (k : Int) (H V : Nat) : Prop where
  h : (partAt P k).h = (H : Int)
  v : (partAt P k).v = (V : Int)
  h1 : 1 ≤ H
  h4 : H ≤ 4
  v1 : 1 ≤ V
  v4 : V ≤ 4
  k0 : 0 ≤ k
  lt : k.toNat < P.parts.length
  n : partN P k = H * V
theorem partOk_of {P : PicL} {k : Int} (h : (sizeL P k).1 ≠ 0) : ∃ H V, PartOk P k H V := by
  have hm := mostL_of h
  obtain ⟨hk, hw, hh, hf, h14, v14⟩ := mostL_some hm
  obtain ⟨a, b, c, _⟩ := part_in hm
  refine ⟨(partAt P k).h.toNat, (partAt P k).v.toNat, by omega, by omega, by omega, by omega, by omega, by omega, by omega, c, ?_⟩
  unfold partN
  rw [Int.toNat_mul (by omega) (by omega)]
theorem PartOk.n16 {P : PicL} {k : Int} {H V : Nat} (h : PartOk P k H V) : partN P k ≤ 16 := by
  rw [h.n]
  exact Nat.mul_le_mul h.h4 h.v4
theorem tyL : ElemTy Try.prog 35 38 (.agg #[.int .i64 0, .int .i64 0]) 2 16 := elemTy Try.underlying35 (by kernel_rfl) rfl (by decide)

/-! ## the blocks below N -/
def Low (N : Nat) (A B : World) : Prop := ∀ b, b < N → B.heap[b]? = A.heap[b]?
theorem Low.below {N n : Nat} {A B : World} (h : Below n A B) (hn : N ≤ n) : Low N A B := fun b hb => h.block b (by omega)
theorem Low.trans {N : Nat} {A B C : World} (h : Low N A B) (k : Low N B C) : Low N A C := fun b hb => (k b hb).trans (h b hb)
theorem Low.cell {A B : World} (h : Low A.heap.size A B) {p : Addr} {v : Value} (hc : A.cell? p = some v) : B.cell? p = some v := by
  rw [World.cell?_of_block (h p.block (World.block_lt_of_cell? _ _ hc))]; exact hc
theorem Low.els {α : Type} {size : Nat} {Φ : World → List Value → α → Prop} {w w' : World} {v : Value} {qs : List α} (hl : Low w.heap.size w w') (h : Els size Φ w v qs) (hΦ : ∀ cs q, Φ w cs q → Φ w' cs q) : Els size Φ w' v qs := by
  obtain ⟨a, cap, hv, hc, hx⟩ := h
  exact ⟨a, cap, hv, hc, fun i hi => let ⟨b, off, cs, ha, h1, h2, h3⟩ := hx i hi; ⟨b, off, cs, ha, h1, fun j u hj => hl.cell (h2 j u hj), hΦ _ _ h3⟩⟩
theorem Low.pts {w w' : World} {v : Value} {ps : List PartL} (hl : Low w.heap.size w w') (h : Pts w v ps) : Pts w' v ps :=
  hl.els h (fun cs p ⟨x, h1, h2, h3⟩ => ⟨x, h1, h2, hl.els h3 (fun _ _ h => h)⟩)
theorem Low.slN {size : Nat} {w w' : World} {v : Value} {n : Nat} {xs : List Value} (hl : Low w.heap.size w w') (h : SlN size w v n xs) : SlN size w' v n xs := by
  refine ⟨h.1, ?_⟩
  rcases h.2 with h | ⟨b, off, cap, hv, hc, hn, hx⟩
  · exact .inl h
  · exact .inr ⟨b, off, cap, hv, hc, hn, fun i u hu => hl.cell (hx i u hu)⟩
theorem Low.keep {N : Nat} {bs : List Nat} {U : Nat} {A B : World} (h : KeepU bs U A B) (hN : N ≤ A.heap.size) (hs : ∀ b, b < N → b ∈ bs) : Low N A B := fun b hb => h.2 b (.inl (hs b hb)) (by omega)
theorem row_ne2 {w : World} {base B : Nat} {v : Value} {s n : Nat} {xs : List Value} {C : Array Value} {e ty : TypeId} {fr : Nat × Nat} (h : w.ownsRow base e s v n xs) (hb : w.heap[B]? = some (.cells C ty fr)) (ht : ty ≠ e) : v.ownBlock ≠ some B := by
  intro hj
  rcases h.2 with ⟨h1, _⟩ | ⟨g, cap, cur, h1, _, h2, _⟩
  · rw [h1] at hj; simp [Value.ownBlock] at hj
  · rw [h1] at hj
    simp only [Value.ownBlock, Option.some.injEq] at hj
    subst hj
    rw [hb] at h2
    simp only [Option.some.injEq, Obj.cells.injEq] at h2
    exact ht h2.2.1
theorem owns_len {w : World} {base : Nat} {e : TypeId} {size : Nat} {v : Value} {n : Nat} {xs : List Value} (h : w.ownsRow base e size v n xs) : ∃ a c, v = .slice a n c := by
  rcases h.2 with ⟨rfl, rfl⟩ | ⟨g, cap, cur, rfl, _⟩
  · exact ⟨_, _, rfl⟩
  · exact ⟨_, _, rfl⟩
theorem heap_low {w w' : World} {B : Nat} {o : Obj} (h : w.heap[B]? = some o) (hb : Below w.heap.size w w') : w'.heap[B]? = some o := by
  rw [hb.block B (Array.getElem?_eq_some_iff.1 h).1]; exact h
/-- a part's box -/
def PtBox (W : World) (BX : Nat) (p : PartL) (x : Value) : Prop := W.heap[BX]? = some (.cells (vPart p x).toArray 48 (0, 0))
theorem PtBox.hv {W : World} {BX : Nat} {p : PartL} {x : Value} (h : PtBox W BX p x) : W.cell? ⟨BX, 1, none⟩ = some (.int .i64 p.h) ∧ W.cell? ⟨BX, 2, none⟩ = some (.int .i64 p.v) :=
  ⟨by rw [cell_of_row _ _ 1 _ _ _ h]; rfl, by rw [cell_of_row _ _ 2 _ _ _ h]; rfl⟩
/-- the cells that the first region reads -/
def SvC (w : World) (B : Nat) (P : PicL) (q0 q1 q2 q3 pv kv : Value) (kb ko : Nat) (k0 : Int) (X : World) : Prop :=
  PBox X B P q0 q1 q2 q3 pv kv ∧ X.cell? ⟨kb, ko, none⟩ = some (.int .i64 k0) ∧ Below w.heap.size w X
/-- the parts and their numbers can be read, and stay so -/
structure DataU (D : World → Prop) (P : PicL) (pv psv : Value) (ps : List Int) (bs : List Nat) (U : Nat) : Prop where
  pts : ∀ W, D W → Pts W pv P.parts
  ns : ∀ W, D W → Ns W psv ps
  old : ∀ W W', D W → Below W.heap.size W W' → D W'
  keep : ∀ W W', D W → KeepU bs U W W' → D W'
theorem dataU_low {P : PicL} {pv psv : Value} {ps : List Int} {bs : List Nat} {U : Nat} {w0 : World} (hc : Pts w0 pv P.parts) (hps : Ns w0 psv ps) (hbs : ∀ b, b < w0.heap.size → b ∈ bs) : DataU (fun W => Low w0.heap.size w0 W ∧ w0.heap.size ≤ W.heap.size) P pv psv ps bs U :=
  ⟨fun W h => h.1.pts hc, fun W h => h.1.slN hps, fun W W' h hb => ⟨h.1.trans (Low.below hb h.2), Nat.le_trans h.2 hb.size⟩, fun W W' h hk => ⟨h.1.trans (Low.keep hk h.2 hbs), Nat.le_trans h.2 hk.1⟩⟩
/-- where the outer loops stand -/
structure SvI (B : Nat) (D : World → Prop) (P : PicL) (q0 q1 q2 q3 pv kv : Value) (J : List Value → World → Prop) (pre : List Value) (W : World) : Prop where
  j : J pre W
  box : PBox W B P q0 q1 q2 q3 pv kv
  data : D W
  size : B < W.heap.size
theorem SvI.below {U B : Nat} {D : World → Prop} {P : PicL} {q0 q1 q2 q3 pv kv psv : Value} {ps : List Int} {bs : List Nat} {J : List Value → World → Prop} {pre : List Value} {W W' : World} (h : SvI B D P q0 q1 q2 q3 pv kv J pre W) (hJ : SinceB U J) (hU : U ≤ B) (hD : DataU D P pv psv ps bs U) (hb : Below W.heap.size W W') : SvI B D P q0 q1 q2 q3 pv kv J pre W' :=
  ⟨hJ _ _ _ h.j (hb.mono (Nat.le_trans hU (Nat.le_of_lt h.size))), h.box.old hb, hD.old _ _ h.data hb, Nat.lt_of_lt_of_le h.size hb.size⟩
theorem SvI.kept {U B : Nat} {bs : List Nat} {D : World → Prop} {P : PicL} {q0 q1 q2 q3 pv kv psv : Value} {ps : List Int} {J : List Value → World → Prop} {pre pre' : List Value} {W W' : World} (h : SvI B D P q0 q1 q2 q3 pv kv J pre W) (hj : J pre' W') (hU : U ≤ B) (hD : DataU D P pv psv ps bs U) (hk : KeepU bs U W W') : SvI B D P q0 q1 q2 q3 pv kv J pre' W' :=
  ⟨hj, (hk.2 B (.inr hU) h.size).trans h.box, hD.keep _ _ h.data hk, Nat.lt_of_lt_of_le h.size hk.1⟩
theorem sl_lit2 (w : World) (a b : Value) (e : TypeId) : SlN 2 (w.alloc (.cells #[a, b] e)) (.slice (some ⟨w.heap.size, 0, none⟩) 1 1) 1 [a, b] :=
  ⟨rfl, .inr ⟨w.heap.size, 0, 1, rfl, Nat.le_refl _, by decide, fun i u hu => by
    rw [Nat.zero_add, cell_of_row _ w.heap.size i _ _ (0, 0) (heap_alloc_new _ _)]
    simpa using hu⟩⟩
/-- the numbers of a block's place -/
theorem place_in {row cols col i : Nat} {hz vz : Int} (h1 : 1 ≤ hz ∧ hz ≤ 4) (v1 : 1 ≤ vz ∧ vz ≤ 4) (hr : row ≤ 65535) (hc : cols ≤ 65535) (hcl : col ≤ 65535) (hi : (i : Int) < 17) :
    ∃ dq dr m1 m2 m3 m4 m5 m6 m7 : Int, (i : Int).tdiv hz = dq ∧ (i : Int).tmod hz = dr ∧ IntKind.i64.wrap ((row : Int) * vz) = m1 ∧ IntKind.i64.wrap dq = dq ∧ IntKind.i64.wrap dr = dr ∧ IntKind.i64.wrap (m1 + dq) = m2 ∧ IntKind.i64.wrap (m2 * (cols : Int)) = m3 ∧ IntKind.i64.wrap (m3 * hz) = m4 ∧
      IntKind.i64.wrap ((col : Int) * hz) = m5 ∧ IntKind.i64.wrap (m4 + m5) = m6 ∧ IntKind.i64.wrap (m6 + dr) = m7 ∧ m7 = ((row : Int) * vz + (i : Int) / hz) * (cols : Int) * hz + (col : Int) * hz + (i : Int) % hz := by
  have a1 := mul_in (a := (row : Int)) (b := vz) (m := 65535) (n := 4) (by omega) (by omega)
  have e1 : (i : Int).tdiv hz = (i : Int) / hz := Int.tdiv_eq_ediv_of_nonneg (by omega)
  have e2 : (i : Int).tmod hz = (i : Int) % hz := Int.tmod_eq_emod_of_nonneg (by omega)
  have d0 := Int.ediv_nonneg (show 0 ≤ (i : Int) by omega) (show 0 ≤ hz by omega)
  have d1 : (i : Int) / hz ≤ i := Int.ediv_le_self _ (by omega)
  have r0 := Int.emod_nonneg (i : Int) (show hz ≠ 0 by omega)
  have r1 := Int.emod_lt_of_pos (i : Int) (show 0 < hz by omega)
  have a3 := mul_in (a := (row : Int) * vz + (i : Int) / hz) (b := (cols : Int)) (m := 300000) (n := 65535) (by omega) (by omega)
  have a4 := mul_in (a := ((row : Int) * vz + (i : Int) / hz) * (cols : Int)) (b := hz) (m := 19660500000) (n := 4) (by omega) (by omega)
  have a5 := mul_in (a := (col : Int)) (b := hz) (m := 65535) (n := 4) (by omega) (by omega)
  refine ⟨_, _, _, _, _, _, _, _, _, e1, e2, IntWalk.i64_in _ (by omega), IntWalk.i64_in _ (by omega), IntWalk.i64_in _ (by omega), IntWalk.i64_in _ (by omega), IntWalk.i64_in _ (by omega), IntWalk.i64_in _ (by omega), IntWalk.i64_in _ (by omega), IntWalk.i64_in _ (by omega), IntWalk.i64_in _ (by omega), rfl⟩
end Go.Proofs.Ytbcbfnkpnfbfjaa
