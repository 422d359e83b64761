/- Segments in rows of the call's own, and read as lists. By an AI agent. -/
import Derived.Test.YtlljooncoingnaaSegI
import Derived.Test.YtlljooncoingnaaMarkS
import Derived.Test.YtlljooncoingnaaEls
namespace Go.Proofs.Ytlljooncoingnaa
open Go.RowKit Go.BigFrame
set_option linter.unusedVariables false
set_option linter.unusedSimpArgs false

theorem tyM : ElemTy Try.prog 28 58 (.agg #[.int .i64 0, .slice none 0 0, .slice none 0 0]) 3 56 := elemTy Try.underlying28 (by kernel_rfl) rfl (by decide)
theorem IvV.bss {base : Nat} {w : World} {v : Value} {ps : List BvP} (h : IvV base w v ps) : Bss w v (ps.map (·.1)) := by
  refine ⟨valsP ps, by rw [List.length_map]; exact sl_of_owns h.row, fun i hi => ?_⟩
  have hi' : i < ps.length := by simpa using hi
  refine ⟨ps[i].2, by simp [valsP, hi'], ?_⟩
  have := sl_of_owns (h.data ps[i] (List.getElem_mem _))
  simpa [Bs] using this
/-- an item, its slices -/
structure ItP where
  m : Int
  d : BvP
  iv : Value
  ps : List BvP
def ItP.it (x : ItP) : Itm := (x.m, x.d.1, x.ps.map (·.1))
def cellsI (xs : List ItP) : List Value := xs.flatMap fun x => [.int .i64 x.m, x.d.2, x.iv]
theorem cellsI_snoc (xs : List ItP) (x : ItP) : cellsI (xs ++ [x]) = cellsI xs ++ [.int .i64 x.m, x.d.2, x.iv] := by simp [cellsI]
theorem cellsI_at (xs : List ItP) (i : Nat) (h : i < xs.length) : (cellsI xs)[i * 3]? = some (.int .i64 xs[i].m) ∧ (cellsI xs)[i * 3 + 1]? = some xs[i].d.2 ∧ (cellsI xs)[i * 3 + 2]? = some xs[i].iv := by
  induction xs generalizing i with
  | nil => exact absurd h (Nat.not_lt_zero i)
  | cons p ps ih =>
    cases i with
    | zero => exact ⟨rfl, rfl, rfl⟩
    | succ i =>
      have h' : i < ps.length := by simpa using h
      have := ih i h'
      have e : cellsI (p :: ps) = [.int .i64 p.m, p.d.2, p.iv] ++ cellsI ps := by simp [cellsI]
      rw [e, List.getElem?_append_right (by simp; omega), List.getElem?_append_right (by simp; omega), List.getElem?_append_right (by simp; omega)]
      simp only [List.length_cons, List.length_nil, List.getElem_cons_succ]
      rw [show (i + 1) * 3 - (0 + 1 + 1 + 1) = i * 3 by omega, show (i + 1) * 3 + 1 - (0 + 1 + 1 + 1) = i * 3 + 1 by omega, show (i + 1) * 3 + 2 - (0 + 1 + 1 + 1) = i * 3 + 2 by omega]
      exact this
/-- an item's cells -/
def ItC (w : World) (cs : List Value) (it : Itm) : Prop := ∃ dv iv, cs = [.int .i64 it.1, dv, iv] ∧ Bs w dv it.2.1 ∧ Bss w iv it.2.2
def Its (w : World) (v : Value) (its : List Itm) : Prop := Els 3 ItC w v its
theorem Its.old {w w' : World} {v : Value} {its : List Itm} (h : Its w v its) (hb : Below w.heap.size w w') : Its w' v its :=
  Els.old h hb (fun _ _ ⟨dv, iv, h1, h2, h3⟩ => ⟨dv, iv, h1, h2.old hb, h3.old hb⟩)
theorem its_at {w : World} {v : Value} {its : List Itm} (h : Its w v its) : ∃ a cap, v = .slice a its.length cap ∧ its.length ≤ cap ∧ ∀ i (hi : i < its.length), ∃ b off dv iv, a = some ⟨b, off, none⟩ ∧ Bs w dv its[i].2.1 ∧ Bss w iv its[i].2.2 ∧
    w.cell? ⟨b, off + i * 3, none⟩ = some (.int .i64 its[i].1) ∧ w.cell? ⟨b, off + i * 3 + 1, none⟩ = some dv ∧ w.cell? ⟨b, off + i * 3 + 2, none⟩ = some iv := by
  obtain ⟨a, cap, hv, hc, hx⟩ := h
  refine ⟨a, cap, hv, hc, fun i hi => ?_⟩
  obtain ⟨b, off, cs, ha, hl, hcell, dv, iv, rfl, h1, h2⟩ := hx i hi
  exact ⟨b, off, dv, iv, ha, h1, h2, hcell 0 _ rfl, hcell 1 _ rfl, hcell 2 _ rfl⟩
/-- Rows of the call's own: the list's, each data's, all intervals'. -/
structure ItV (ty : TypeId) (base : Nat) (w : World) (v : Value) (xs : List ItP) : Prop where
  row : w.ownsRow base ty 3 v xs.length (cellsI xs)
  data : ∀ x ∈ xs, w.ownsRow base 5 1 x.d.2 x.d.1.length (vBs x.d.1)
  ivs : ∀ x ∈ xs, IvV base w x.iv x.ps
theorem ItV.nil (ty : TypeId) (base : Nat) (w : World) : ItV ty base w (.slice none 0 0) [] := ⟨World.ownsRow_nil _ _ _ _, fun p hp => by simp at hp, fun p hp => by simp at hp⟩
theorem ItV.low {ty : TypeId} {base : Nat} {w w' : World} {v : Value} {xs : List ItP} (h : ItV ty base w v xs) {R : Nat} (hg : w.grownBy w' (some R)) (hR : R < base) : ItV ty base w' v xs :=
  ⟨owns_low h.row hg hR, fun p hp => owns_low (h.data p hp) hg hR, fun p hp => (h.ivs p hp).low hg hR⟩
theorem ItV.old {ty : TypeId} {base : Nat} {w w' : World} {v : Value} {xs : List ItP} (h : ItV ty base w v xs) (hb : Below w.heap.size w w') : ItV ty base w' v xs :=
  ⟨owns_below h.row hb, fun p hp => owns_below (h.data p hp) hb, fun p hp => (h.ivs p hp).old hb⟩
theorem ItV.mono {ty : TypeId} {base base' : Nat} {w : World} {v : Value} {xs : List ItP} (h : ItV ty base w v xs) (hb : base' ≤ base) : ItV ty base' w v xs :=
  ⟨World.ownsRow.mono h.row hb, fun p hp => World.ownsRow.mono (h.data p hp) hb, fun p hp => (h.ivs p hp).mono hb⟩
theorem IvV.kept {base base2 : Nat} {w w' : World} {v v2 : Value} {ps : List BvP} {e : TypeId} {s n : Nat} {xs : List Value} (h : IvV base w v ps) (hr : w.ownsRow base2 e s v2 n xs) (hg : w.grownBy w' v2.ownBlock) (h1 : 22 ≠ e) (h2 : 5 ≠ e) : IvV base w' v ps :=
  ⟨h.row.kept hg (own_ne h.row hr h1), fun p hp => (h.data p hp).kept hg (own_ne (h.data p hp) hr h2)⟩
/-- behind an append -/
theorem ItV.snoc {ty : TypeId} {base : Nat} {w w' : World} {v v' : Value} {xs : List ItP} {x : ItP} (h : ItV ty base w v xs) (hd : w.ownsRow base 5 1 x.d.2 x.d.1.length (vBs x.d.1)) (hi : IvV base w x.iv x.ps) (hg : w.grownBy w' v.ownBlock) (ho : w'.ownsRow base ty 3 v' (xs.length + 1) (cellsI xs ++ [.int .i64 x.m, x.d.2, x.iv]))
    (h1 : 22 ≠ ty) (h2 : 5 ≠ ty) : ItV ty base w' v' (xs ++ [x]) := by
  refine ⟨by rw [List.length_append, cellsI_snoc]; exact ho, fun q hq => ?_, fun q hq => ?_⟩
  · rw [List.mem_append] at hq
    rcases hq with hq | hq
    · exact (h.data q hq).kept hg (own_ne (h.data q hq) h.row h2)
    · have : q = x := by simpa using hq
      subst this
      exact hd.kept hg (own_ne hd h.row h2)
  · rw [List.mem_append] at hq
    rcases hq with hq | hq
    · exact (h.ivs q hq).kept h.row hg h1 h2
    · have : q = x := by simpa using hq
      subst this
      exact hi.kept h.row hg h1 h2
theorem ItV.its {ty : TypeId} {base : Nat} {w : World} {v : Value} {xs : List ItP} (h : ItV ty base w v xs) : Its w v (xs.map ItP.it) := by
  have h1 := sl_of_owns h.row
  rcases h1.2 with ⟨a, cap, rfl, h0⟩ | ⟨b, off, cap, rfl, hc, hn, hx⟩
  · have : xs = [] := List.eq_nil_of_length_eq_zero h0
    subst this
    exact Els.nil _ _ _ _ _
  · refine ⟨some ⟨b, off, none⟩, cap, by simp, by simpa using hc, fun i hi => ?_⟩
    have hi' : i < xs.length := by simpa using hi
    obtain ⟨e1, e2, e3⟩ := cellsI_at xs i hi'
    refine ⟨b, off, [.int .i64 xs[i].m, xs[i].d.2, xs[i].iv], rfl, rfl, fun j u hj => ?_, xs[i].d.2, xs[i].iv, by simp [ItP.it], ?_, ?_⟩
    · match j, hj with
      | 0, hj => simp only [List.getElem?_cons_zero, Option.some.injEq] at hj; subst hj; exact hx _ _ e1
      | 1, hj => simp only [List.getElem?_cons_succ, List.getElem?_cons_zero, Option.some.injEq] at hj; subst hj; rw [Nat.add_assoc]; exact hx _ _ e2
      | 2, hj => simp only [List.getElem?_cons_succ, List.getElem?_cons_zero, Option.some.injEq] at hj; subst hj; rw [Nat.add_assoc]; exact hx _ _ e3
      | j + 3, hj => simp at hj
    · have := sl_of_owns (h.data xs[i] (List.getElem_mem _))
      simpa [Bs, ItP.it] using this
    · have := (h.ivs xs[i] (List.getElem_mem _)).bss
      simpa [ItP.it] using this
end Go.Proofs.Ytlljooncoingnaa
