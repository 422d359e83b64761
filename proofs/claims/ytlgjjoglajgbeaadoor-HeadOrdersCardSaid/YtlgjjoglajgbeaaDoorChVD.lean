/- Chunks in rows of the call's own; lists of copies (for a seat without the reader of chunks). By an AI agent. -/
import Derived.Test.YtlgjjoglajgbeaaDoorGoodL
import Derived.Test.YtlgjjoglajgbeaaDoorCopy
import Derived.Test.YtlgjjoglajgbeaaDoorStep
import Derived.Test.YtlgjjoglajgbeaaDoorRF
namespace Go.Proofs.YtlgjjoglajgbeaaDoor
open Go.RowKit Go.BigFrame
set_option linter.unusedVariables false
set_option linter.unusedSimpArgs false

theorem owns_low {w w' : World} {base : Nat} {e : TypeId} {size : Nat} {v : Value} {n : Nat} {xs : List Value} (h : w.ownsRow base e size v n xs) {R : Nat} (hg : w.grownBy w' (some R)) (hR : R < base) : w'.ownsRow base e size v n xs :=
  h.kept hg (by
    cases hv : v.ownBlock with
    | none => exact .inl rfl
    | some k => right; have := (h.lt k hv).1; intro e; simp only [Option.some.injEq] at e; omega)
theorem named_str (v : Value) (nm : List UInt8) (w : World) (hb : Bs w v nm) : (convert 24 9 v).run Tryd.prog w = .ok (.string (strOf nm)) w :=
  run_str (P := Tryd.prog) w 24 5 9 Tryd.underlying24 Tryd.underlying5 Tryd.underlying9 hb
theorem tyC : ElemTy Tryd.prog 22 26 (.agg #[.string ⟨#[]⟩, .slice none 0 0]) 2 40 := elemTy Tryd.underlying22 (by kernel_rfl) rfl (by decide)
/-- a chunk, its data's slice -/
abbrev ChP := Chk × Value
def cellsP (ps : List ChP) : List Value := ps.flatMap fun p => [.string (strOf p.1.1), p.2]
theorem cellsP_snoc (ps : List ChP) (p : ChP) : cellsP (ps ++ [p]) = cellsP ps ++ [.string (strOf p.1.1), p.2] := by simp [cellsP]
theorem cellsP_len (ps : List ChP) : (cellsP ps).length = ps.length * 2 := by
  induction ps with
  | nil => rfl
  | cons p ps ih => simp [cellsP] at ih ⊢; omega
theorem cellsP_at (ps : List ChP) (i : Nat) (h : i < ps.length) : (cellsP ps)[i * 2]? = some (.string (strOf ps[i].1.1)) ∧ (cellsP ps)[i * 2 + 1]? = some ps[i].2 := by
  induction ps generalizing i with
  | nil => exact absurd h (Nat.not_lt_zero i)
  | cons p ps ih =>
    cases i with
    | zero => exact ⟨rfl, rfl⟩
    | succ i =>
      have h' : i < ps.length := by simpa using h
      have := ih i h'
      have e : cellsP (p :: ps) = [.string (strOf p.1.1), p.2] ++ cellsP ps := by simp [cellsP]
      rw [e, List.getElem?_append_right (by simp; omega), List.getElem?_append_right (by simp; omega)]
      simp only [List.length_cons, List.length_nil, List.getElem_cons_succ]
      rw [show (i + 1) * 2 - (0 + 1 + 1) = i * 2 by omega, show (i + 1) * 2 + 1 - (0 + 1 + 1) = i * 2 + 1 by omega]
      exact this
/-- A slice reads as the chunks. -/
def Cks (w : World) (v : Value) (cs : List Chk) : Prop :=
  ∃ a cap, v = .slice a cs.length cap ∧ ∀ i (h : i < cs.length), ∃ b off x, a = some ⟨b, off, none⟩ ∧ w.cell? ⟨b, off + i * 2, none⟩ = some (.string (strOf cs[i].1)) ∧ w.cell? ⟨b, off + i * 2 + 1, none⟩ = some x ∧ Bs w x cs[i].2
theorem Cks.old {w w' : World} {v : Value} {cs : List Chk} (h : Cks w v cs) (hb : Below w.heap.size w w') : Cks w' v cs := by
  obtain ⟨a, cap, hv, hx⟩ := h
  exact ⟨a, cap, hv, fun i hi => let ⟨b, off, x, ha, h1, h2, h3⟩ := hx i hi; ⟨b, off, x, ha, cell_old hb h1, cell_old hb h2, h3.old hb⟩⟩
/-- Rows of the call's own: the list's, each data's. -/
structure ChV (base : Nat) (w : World) (v : Value) (ps : List ChP) : Prop where
  row : w.ownsRow base 26 2 v ps.length (cellsP ps)
  data : ∀ p ∈ ps, w.ownsRow base 5 1 p.2 p.1.2.length (vBs p.1.2)
theorem own_ne {w : World} {b1 b2 : Nat} {e1 e2 : TypeId} {s1 s2 : Nat} {v1 v2 : Value} {n1 n2 : Nat} {xs1 xs2 : List Value} (h1 : w.ownsRow b1 e1 s1 v1 n1 xs1) (h2 : w.ownsRow b2 e2 s2 v2 n2 xs2) (he : e1 ≠ e2) : v1.ownBlock = none ∨ v1.ownBlock ≠ v2.ownBlock := by
  rcases h1.2 with ⟨rfl, _⟩ | ⟨g, cap, cur, rfl, _, hg, _⟩
  · exact .inl rfl
  rcases h2.2 with ⟨rfl, _⟩ | ⟨g', cap', cur', rfl, _, hg', _⟩
  · right; simp [Value.ownBlock]
  right
  intro e
  simp only [Value.ownBlock, Option.some.injEq] at e
  subst e
  rw [hg] at hg'
  simp only [Option.some.injEq, Obj.cells.injEq] at hg'
  exact he hg'.2.1
theorem ChV.bs {base : Nat} {w : World} {v : Value} {ps : List ChP} (h : ChV base w v ps) : Cks w v (ps.map (·.1)) := by
  have h1 := sl_of_owns h.row
  rcases h1.2 with ⟨a, cap, rfl, h0⟩ | ⟨b, off, cap, rfl, hc, hn, hx⟩
  · have : ps = [] := List.eq_nil_of_length_eq_zero h0
    subst this
    exact ⟨a, cap, rfl, fun i hi => absurd hi (Nat.not_lt_zero i)⟩
  · refine ⟨some ⟨b, off, none⟩, cap, by simp, fun i hi => ?_⟩
    have hi' : i < ps.length := by simpa using hi
    obtain ⟨e1, e2⟩ := cellsP_at ps i hi'
    refine ⟨b, off, ps[i].2, rfl, ?_, ?_, ?_⟩
    · rw [hx _ _ e1]; simp
    · rw [Nat.add_assoc, hx _ _ e2]
    · have := sl_of_owns (h.data ps[i] (List.getElem_mem _))
      simpa [Bs] using this
theorem ChV.nil (base : Nat) (w : World) : ChV base w (.slice none 0 0) [] := ⟨World.ownsRow_nil _ _ _ _, fun p hp => by simp at hp⟩
theorem ChV.low {base : Nat} {w w' : World} {v : Value} {ps : List ChP} (h : ChV base w v ps) {R : Nat} (hg : w.grownBy w' (some R)) (hR : R < base) : ChV base w' v ps :=
  ⟨owns_low h.row hg hR, fun p hp => owns_low (h.data p hp) hg hR⟩
theorem ChV.old {base : Nat} {w w' : World} {v : Value} {ps : List ChP} (h : ChV base w v ps) (hb : Below w.heap.size w w') : ChV base w' v ps :=
  ⟨owns_below h.row hb, fun p hp => owns_below (h.data p hp) hb⟩
/-- behind an append -/
theorem ChV.snoc {base : Nat} {w w' : World} {v v' : Value} {ps : List ChP} {p : ChP} (h : ChV base w v ps) (hp : w.ownsRow base 5 1 p.2 p.1.2.length (vBs p.1.2)) (hg : w.grownBy w' v.ownBlock) (ho : w'.ownsRow base 26 2 v' (ps.length + 1) (cellsP ps ++ [.string (strOf p.1.1), p.2])) : ChV base w' v' (ps ++ [p]) := by
  refine ⟨by rw [List.length_append, cellsP_snoc]; exact ho, fun q hq => ?_⟩
  rw [List.mem_append] at hq
  rcases hq with hq | hq
  · exact (h.data q hq).kept hg (own_ne (h.data q hq) h.row (by decide))
  · have : q = p := by simpa using hq
    subst this
    exact hp.kept hg (own_ne hp h.row (by decide))
/-! ## a list of copies -/
structure CpV (base : Nat) (w : World) (v : Value) (ps : List ChP) : Prop where
  row : w.ownsRow base 26 2 v ps.length (cellsP ps)
  data : ∀ p ∈ ps, ∃ g, Cp w p.2 g p.1.2
theorem Cp.grown {w w' : World} {u v : Value} {g base n : Nat} {l : List UInt8} {xs : List Value} (h : Cp w u g l) (ho : w.ownsRow base 26 2 v n xs) (hg : w.grownBy w' v.ownBlock) : Cp w' u g l := by
  refine ⟨h.1, ?_⟩
  rw [hg.block g (Array.getElem?_eq_some_iff.1 h.2).1 ?_]
  · exact h.2
  · rcases ho.2 with ⟨rfl, _⟩ | ⟨g', cap', cur', rfl, _, hg', _⟩
    · simp [Value.ownBlock]
    · intro e
      simp only [Value.ownBlock, Option.some.injEq] at e
      subst e
      have := h.2
      rw [hg'] at this
      simp only [Option.some.injEq, Obj.cells.injEq] at this
      exact absurd this.2.1 (by decide)
theorem CpV.old {base : Nat} {w w' : World} {v : Value} {ps : List ChP} (h : CpV base w v ps) (hb : Below w.heap.size w w') : CpV base w' v ps :=
  ⟨owns_below h.row hb, fun p hp => let ⟨g, hc⟩ := h.data p hp; ⟨g, hc.old hb⟩⟩
theorem CpV.snoc {base : Nat} {w w' : World} {v v' : Value} {ps : List ChP} {p : ChP} {g : Nat} (h : CpV base w v ps) (hp : Cp w p.2 g p.1.2) (hg : w.grownBy w' v.ownBlock) (ho : w'.ownsRow base 26 2 v' (ps.length + 1) (cellsP ps ++ [.string (strOf p.1.1), p.2])) : CpV base w' v' (ps ++ [p]) := by
  refine ⟨by rw [List.length_append, cellsP_snoc]; exact ho, fun q hq => ?_⟩
  rw [List.mem_append] at hq
  rcases hq with hq | hq
  · obtain ⟨g', hc⟩ := h.data q hq
    exact ⟨g', hc.grown h.row hg⟩
  · have : q = p := by simpa using hq
    subst this
    exact ⟨g, hp.grown h.row hg⟩
theorem CpV.bs {base : Nat} {w : World} {v : Value} {ps : List ChP} (h : CpV base w v ps) : Cks w v (ps.map (·.1)) := by
  have h1 := sl_of_owns h.row
  rcases h1.2 with ⟨a, cap, rfl, h0⟩ | ⟨b, off, cap, rfl, hc, hn, hx⟩
  · have : ps = [] := List.eq_nil_of_length_eq_zero h0
    subst this
    exact ⟨a, cap, rfl, fun i hi => absurd hi (Nat.not_lt_zero i)⟩
  · refine ⟨some ⟨b, off, none⟩, cap, by simp, fun i hi => ?_⟩
    have hi' : i < ps.length := by simpa using hi
    obtain ⟨e1, e2⟩ := cellsP_at ps i hi'
    refine ⟨b, off, ps[i].2, rfl, ?_, ?_, ?_⟩
    · rw [hx _ _ e1]; simp
    · rw [Nat.add_assoc, hx _ _ e2]
    · obtain ⟨g, hc⟩ := h.data ps[i] (List.getElem_mem _)
      simpa using hc.bs
theorem CpV.at {base : Nat} {w : World} {v : Value} {ps : List ChP} (h : CpV base w v ps) (i : Nat) (hi : i < ps.length) : ∃ b off cap g, v = .slice (some ⟨b, off, none⟩) ps.length cap ∧ w.cell? ⟨b, off + i * 2, none⟩ = some (.string (strOf ps[i].1.1)) ∧ w.cell? ⟨b, off + i * 2 + 1, none⟩ = some ps[i].2 ∧ Cp w ps[i].2 g ps[i].1.2 := by
  have h1 := sl_of_owns h.row
  rcases h1.2 with ⟨a, cap, rfl, h0⟩ | ⟨b, off, cap, rfl, hc, hn, hx⟩
  · omega
  · obtain ⟨e1, e2⟩ := cellsP_at ps i hi
    obtain ⟨g, hc⟩ := h.data ps[i] (List.getElem_mem _)
    exact ⟨b, off, cap, g, rfl, by rw [hx _ _ e1], by rw [Nat.add_assoc, hx _ _ e2], hc⟩
theorem sl_two {w : World} (u v : Value) (e : TypeId) : SlN 2 (w.alloc (.cells #[u, v] e)) (.slice (some ⟨w.heap.size, 0, none⟩) 1 1) 1 [u, v] := by
  have h := World.ownsRow_lit (base := 0) (e := e) (size := 2) w #[u, v] 1 (Nat.zero_le _) (by unfold maxLen; omega) (by simp)
  exact sl_of_owns h
theorem one_two (s : List UInt8) (b : Nat) (n c : Nat) : ∀ u ∈ [Value.string (strOf s), .slice (some ⟨b, 0, none⟩) n c], u.oneCell' = true := by
  intro u hu; simp at hu; rcases hu with rfl | rfl <;> rfl
def CRel (base : Nat) (ls : List Chk) (w0 : World) (o i : Value) (W : World) : Prop :=
  ∃ ps : List ChP, i = .int .i64 (ps.length : Nat) ∧ ps.map (·.1) = ls.take ps.length ∧ ps.length ≤ ls.length ∧ CpV base W o ps ∧ Below base w0 W
end Go.Proofs.YtlgjjoglajgbeaaDoor
