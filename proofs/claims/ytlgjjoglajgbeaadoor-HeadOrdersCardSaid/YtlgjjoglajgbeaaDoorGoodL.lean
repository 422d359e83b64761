/- Which chunks are good, plain. By an AI agent. -/
import Derived.Test.YtlgjjoglajgbeaaDoorNmP
namespace Go.Proofs.YtlgjjoglajgbeaaDoor
set_option linter.unusedVariables false
set_option linter.unusedSimpArgs false

/-- a name, data -/
abbrev Chk := List UInt8 × List UInt8
def iend : List UInt8 := [73, 69, 78, 68]
/-- a chunk that stands before others; the last one -/
def midOk (c : Chk) : Bool := namedB c.1 && decide (c.1 ≠ iend)
def endOk (c : Chk) : Bool := decide (c.1 = iend) && decide (c.2 = [])
def goodL : List Chk → Bool
  | [] => false
  | [c] => endOk c
  | c :: d :: r => midOk c && goodL (d :: r)
theorem named_iend : namedB iend = true := by decide
def okC (c : Chk) (last : Bool) : Bool := namedB c.1 && (decide (c.1 = iend) == last) && !(decide (c.1 = iend) && decide (0 < c.2.length))
def okAt (cs : List Chk) (i : Nat) : Bool := match cs[i]? with
  | none => true
  | some c => okC c (decide (i + 1 = cs.length))
theorem okAt_get (cs : List Chk) (i : Nat) (h : i < cs.length) : okAt cs i = okC cs[i] (decide (i + 1 = cs.length)) := by
  unfold okAt; rw [List.getElem?_eq_getElem h]
theorem okAt_cons (c d : Chk) (r : List Chk) (i : Nat) : okAt (c :: d :: r) (i + 1) = okAt (d :: r) i := by
  unfold okAt
  simp only [List.getElem?_cons_succ, List.length_cons]
  split
  · rfl
  · rw [show decide (i + 1 + 1 = r.length + 1 + 1) = decide (i + 1 = r.length + 1) by rw [decide_eq_decide]; omega]
theorem goodL_iff : ∀ cs : List Chk, goodL cs = true ↔ (cs ≠ [] ∧ ∀ i, i < cs.length → okAt cs i = true)
  | [] => by simp [goodL]
  | [c] => by
    have e : ∀ i, i < [c].length → i = 0 := fun i h => by simp at h; omega
    constructor
    · intro h
      simp only [goodL, endOk, Bool.and_eq_true, decide_eq_true_eq] at h
      refine ⟨by simp, fun i hi => ?_⟩
      rw [e i hi]
      simp [okAt, okC, h.1, h.2, named_iend]
    · intro ⟨_, h⟩
      have := h 0 (by simp)
      simp only [okAt, okC, List.getElem?_cons_zero, List.length_singleton, Bool.and_eq_true, Bool.not_eq_true'] at this
      have h1 : c.1 = iend := by simpa using this.1.2
      simp only [goodL, endOk, Bool.and_eq_true, decide_eq_true_eq]
      refine ⟨h1, ?_⟩
      have h2 := this.2
      simp only [h1, decide_true, Bool.true_and, decide_eq_false_iff_not] at h2
      exact List.eq_nil_of_length_eq_zero (by omega)
  | c :: d :: r => by
    have ih := goodL_iff (d :: r)
    have h0 : okAt (c :: d :: r) 0 = midOk c := by
      simp only [okAt, okC, List.getElem?_cons_zero, List.length_cons, midOk]
      have : decide (0 + 1 = r.length + 1 + 1) = false := by rw [decide_eq_false_iff_not]; omega
      rw [this]
      by_cases h : c.1 = iend <;> simp [h]
    show (midOk c && goodL (d :: r)) = true ↔ _
    rw [Bool.and_eq_true, ih]
    constructor
    · rintro ⟨h1, _, h2⟩
      refine ⟨by simp, fun i hi => ?_⟩
      cases i with
      | zero => rw [h0]; exact h1
      | succ i => rw [okAt_cons]; exact h2 i (by simpa using hi)
    · rintro ⟨_, h⟩
      refine ⟨by rw [← h0]; exact h 0 (by simp), by simp, fun i hi => ?_⟩
      rw [← okAt_cons c]; exact h (i + 1) (by simpa using hi)
theorem bad_at {cs : List Chk} {k : Nat} (h : k < cs.length) (hb : okAt cs k = false) : goodL cs = false := by
  rw [Bool.eq_false_iff]
  intro hg
  have := ((goodL_iff cs).1 hg).2 k h
  rw [hb] at this
  cases this
/-! ## sizes -/
theorem good_named {cs : List Chk} (h : goodL cs = true) : ∀ c ∈ cs, c.1.length = 4 := by
  intro c hc
  obtain ⟨i, hi, rfl⟩ := List.getElem_of_mem hc
  have := ((goodL_iff cs).1 h).2 i hi
  rw [okAt_get cs i hi] at this
  simp only [okC, namedB, Bool.and_eq_true, decide_eq_true_eq] at this
  exact this.1.1.1
end Go.Proofs.YtlgjjoglajgbeaaDoor
