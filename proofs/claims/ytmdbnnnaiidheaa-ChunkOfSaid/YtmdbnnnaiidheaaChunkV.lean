/- Chunks in rows of the call's own. By an AI agent. -/
import Derived.Test.YtmdbnnnaiidheaaChunkS
namespace Go.Proofs.Ytmdbnnnaiidheaa
open Go.RowKit Go.BigFrame
set_option linter.unusedVariables false
set_option linter.unusedSimpArgs false

theorem tyC : ElemTy Try.prog 25 39 (.agg #[.string ⟨#[]⟩, .slice none 0 0]) 2 40 := elemTy Try.underlying25 (by kernel_rfl) rfl (by decide)
/-- a chunk, its data's slice -/
abbrev ChP := Chk × Value
def cellsP (ps : List ChP) : List Value := ps.flatMap fun p => [.string (strOf p.1.1), p.2]
theorem cellsP_snoc (ps : List ChP) (p : ChP) : cellsP (ps ++ [p]) = cellsP ps ++ [.string (strOf p.1.1), p.2] := by simp [cellsP]
theorem cellsP_len (ps : List ChP) : (cellsP ps).length = ps.length * 2 := by
  induction ps with
  | nil => rfl
  | cons p ps ih => simp [cellsP] at ih ⊢; omega
theorem cellsP_at (ps : List ChP) (i : Nat) (h : i < ps.length) : (cellsP ps)[i * 2]? = some (.string (strOf ps[i].1.1)) ∧ (cellsP ps)[i * 2 + 1]? = some ps[i].2 := by
  induction ps generalizing i with
  | nil => exact absurd h (Nat.not_lt_zero i)
  | cons p ps ih =>
    cases i with
    | zero => exact ⟨rfl, rfl⟩
    | succ i =>
      have h' : i < ps.length := by simpa using h
      have := ih i h'
      have e : cellsP (p :: ps) = [.string (strOf p.1.1), p.2] ++ cellsP ps := by simp [cellsP]
      rw [e, List.getElem?_append_right (by simp; omega), List.getElem?_append_right (by simp; omega)]
      simp only [List.length_cons, List.length_nil, List.getElem_cons_succ]
      rw [show (i + 1) * 2 - (0 + 1 + 1) = i * 2 by omega, show (i + 1) * 2 + 1 - (0 + 1 + 1) = i * 2 + 1 by omega]
      exact this
/-- A slice reads as the chunks. -/
def Cks (w : World) (v : Value) (cs : List Chk) : Prop :=
  ∃ a cap, v = .slice a cs.length cap ∧ ∀ i (h : i < cs.length), ∃ b off x, a = some ⟨b, off, none⟩ ∧ w.cell? ⟨b, off + i * 2, none⟩ = some (.string (strOf cs[i].1)) ∧ w.cell? ⟨b, off + i * 2 + 1, none⟩ = some x ∧ Bs w x cs[i].2
theorem Cks.old {w w' : World} {v : Value} {cs : List Chk} (h : Cks w v cs) (hb : Below w.heap.size w w') : Cks w' v cs := by
  obtain ⟨a, cap, hv, hx⟩ := h
  exact ⟨a, cap, hv, fun i hi => let ⟨b, off, x, ha, h1, h2, h3⟩ := hx i hi; ⟨b, off, x, ha, cell_old hb h1, cell_old hb h2, h3.old hb⟩⟩
/-- Rows of the call's own: the list's, each data's. -/
structure ChV (base : Nat) (w : World) (v : Value) (ps : List ChP) : Prop where
  row : w.ownsRow base 39 2 v ps.length (cellsP ps)
  data : ∀ p ∈ ps, w.ownsRow base 5 1 p.2 p.1.2.length (vBs p.1.2)
theorem own_ne {w : World} {b1 b2 : Nat} {e1 e2 : TypeId} {s1 s2 : Nat} {v1 v2 : Value} {n1 n2 : Nat} {xs1 xs2 : List Value} (h1 : w.ownsRow b1 e1 s1 v1 n1 xs1) (h2 : w.ownsRow b2 e2 s2 v2 n2 xs2) (he : e1 ≠ e2) : v1.ownBlock = none ∨ v1.ownBlock ≠ v2.ownBlock := by
  rcases h1.2 with ⟨rfl, _⟩ | ⟨g, cap, cur, rfl, _, hg, _⟩
  · exact .inl rfl
  rcases h2.2 with ⟨rfl, _⟩ | ⟨g', cap', cur', rfl, _, hg', _⟩
  · right; simp [Value.ownBlock]
  right
  intro e
  simp only [Value.ownBlock, Option.some.injEq] at e
  subst e
  rw [hg] at hg'
  simp only [Option.some.injEq, Obj.cells.injEq] at hg'
  exact he hg'.2.1
theorem ChV.bs {base : Nat} {w : World} {v : Value} {ps : List ChP} (h : ChV base w v ps) : Cks w v (ps.map (·.1)) := by
  have h1 := sl_of_owns h.row
  rcases h1.2 with ⟨a, cap, rfl, h0⟩ | ⟨b, off, cap, rfl, hc, hn, hx⟩
  · have : ps = [] := List.eq_nil_of_length_eq_zero h0
    subst this
    exact ⟨a, cap, rfl, fun i hi => absurd hi (Nat.not_lt_zero i)⟩
  · refine ⟨some ⟨b, off, none⟩, cap, by simp, fun i hi => ?_⟩
    have hi' : i < ps.length := by simpa using hi
    obtain ⟨e1, e2⟩ := cellsP_at ps i hi'
    refine ⟨b, off, ps[i].2, rfl, ?_, ?_, ?_⟩
    · rw [hx _ _ e1]; simp
    · rw [Nat.add_assoc, hx _ _ e2]
    · have := sl_of_owns (h.data ps[i] (List.getElem_mem _))
      simpa [Bs] using this
theorem ChV.nil (base : Nat) (w : World) : ChV base w (.slice none 0 0) [] := ⟨World.ownsRow_nil _ _ _ _, fun p hp => by simp at hp⟩
theorem ChV.low {base : Nat} {w w' : World} {v : Value} {ps : List ChP} (h : ChV base w v ps) {R : Nat} (hg : w.grownBy w' (some R)) (hR : R < base) : ChV base w' v ps :=
  ⟨owns_low h.row hg hR, fun p hp => owns_low (h.data p hp) hg hR⟩
theorem ChV.old {base : Nat} {w w' : World} {v : Value} {ps : List ChP} (h : ChV base w v ps) (hb : Below w.heap.size w w') : ChV base w' v ps :=
  ⟨owns_below h.row hb, fun p hp => owns_below (h.data p hp) hb⟩
/-- behind an append -/
theorem ChV.snoc {base : Nat} {w w' : World} {v v' : Value} {ps : List ChP} {p : ChP} (h : ChV base w v ps) (hp : w.ownsRow base 5 1 p.2 p.1.2.length (vBs p.1.2)) (hg : w.grownBy w' v.ownBlock) (ho : w'.ownsRow base 39 2 v' (ps.length + 1) (cellsP ps ++ [.string (strOf p.1.1), p.2])) : ChV base w' v' (ps ++ [p]) := by
  refine ⟨by rw [List.length_append, cellsP_snoc]; exact ho, fun q hq => ?_⟩
  rw [List.mem_append] at hq
  rcases hq with hq | hq
  · exact (h.data q hq).kept hg (own_ne (h.data q hq) h.row (by decide))
  · have : q = p := by simpa using hq
    subst this
    exact hp.kept hg (own_ne hp h.row (by decide))
end Go.Proofs.Ytmdbnnnaiidheaa
