/- Which chunks are good, at each place; how many bytes they have. By an AI agent. -/
import Derived.Test.YtmdbnnnaiidheaaChunkP
namespace Go.Proofs.Ytmdbnnnaiidheaa
set_option linter.unusedVariables false
set_option linter.unusedSimpArgs false

def okC (c : Chk) (last : Bool) : Bool := namedB c.1 && (decide (c.1 = iend) == last) && !(decide (c.1 = iend) && decide (0 < c.2.length))
def okAt (cs : List Chk) (i : Nat) : Bool := match cs[i]? with
  | none => true
  | some c => okC c (decide (i + 1 = cs.length))
theorem okAt_get (cs : List Chk) (i : Nat) (h : i < cs.length) : okAt cs i = okC cs[i] (decide (i + 1 = cs.length)) := by
  unfold okAt; rw [List.getElem?_eq_getElem h]
theorem okAt_cons (c d : Chk) (r : List Chk) (i : Nat) : okAt (c :: d :: r) (i + 1) = okAt (d :: r) i := by
  unfold okAt
  simp only [List.getElem?_cons_succ, List.length_cons]
  split
  · rfl
  · rw [show decide (i + 1 + 1 = r.length + 1 + 1) = decide (i + 1 = r.length + 1) by rw [decide_eq_decide]; omega]
theorem goodL_iff : ∀ cs : List Chk, goodL cs = true ↔ (cs ≠ [] ∧ ∀ i, i < cs.length → okAt cs i = true)
  | [] => by simp [goodL]
  | [c] => by
    have e : ∀ i, i < [c].length → i = 0 := fun i h => by simp at h; omega
    constructor
    · intro h
      simp only [goodL, endOk, Bool.and_eq_true, decide_eq_true_eq] at h
      refine ⟨by simp, fun i hi => ?_⟩
      rw [e i hi]
      simp [okAt, okC, h.1, h.2, named_iend]
    · intro ⟨_, h⟩
      have := h 0 (by simp)
      simp only [okAt, okC, List.getElem?_cons_zero, List.length_singleton, Bool.and_eq_true, Bool.not_eq_true'] at this
      have h1 : c.1 = iend := by simpa using this.1.2
      simp only [goodL, endOk, Bool.and_eq_true, decide_eq_true_eq]
      refine ⟨h1, ?_⟩
      have h2 := this.2
      simp only [h1, decide_true, Bool.true_and, decide_eq_false_iff_not] at h2
      exact List.eq_nil_of_length_eq_zero (by omega)
  | c :: d :: r => by
    have ih := goodL_iff (d :: r)
    have h0 : okAt (c :: d :: r) 0 = midOk c := by
      simp only [okAt, okC, List.getElem?_cons_zero, List.length_cons, midOk]
      have : decide (0 + 1 = r.length + 1 + 1) = false := by rw [decide_eq_false_iff_not]; omega
      rw [this]
      by_cases h : c.1 = iend <;> simp [h]
    show (midOk c && goodL (d :: r)) = true ↔ _
    rw [Bool.and_eq_true, ih]
    constructor
    · rintro ⟨h1, _, h2⟩
      refine ⟨by simp, fun i hi => ?_⟩
      cases i with
      | zero => rw [h0]; exact h1
      | succ i => rw [okAt_cons]; exact h2 i (by simpa using hi)
    · rintro ⟨_, h⟩
      refine ⟨by rw [← h0]; exact h 0 (by simp), by simp, fun i hi => ?_⟩
      rw [← okAt_cons c]; exact h (i + 1) (by simpa using hi)
theorem bad_at {cs : List Chk} {k : Nat} (h : k < cs.length) (hb : okAt cs k = false) : goodL cs = false := by
  rw [Bool.eq_false_iff]
  intro hg
  have := ((goodL_iff cs).1 hg).2 k h
  rw [hb] at this
  cases this
/-! ## sizes -/
def sizeW (cs : List Chk) : Nat := 8 + (cs.map fun c => 12 + min c.2.length 1048576).sum
theorem sizeW_take (cs : List Chk) (k : Nat) (h : k < cs.length) : sizeW (cs.take (k + 1)) = sizeW (cs.take k) + (12 + min cs[k].2.length 1048576) := by
  unfold sizeW
  rw [List.take_succ_eq_append_getElem h, List.map_append, List.sum_append]; simp; omega
theorem sizeW_le (cs : List Chk) (k : Nat) : sizeW (cs.take k) ≤ 8 + 1048588 * k := by
  induction k with
  | zero => simp [sizeW]
  | succ k ih =>
    by_cases h : k < cs.length
    · rw [sizeW_take cs k h]; omega
    · rw [List.take_of_length_le (by omega)] at ih ⊢; omega
def writeC (cs : List Chk) : Nat := if !goodL cs then 6 else if 1048576 < sizeW cs then 4 else 0
theorem good_named {cs : List Chk} (h : goodL cs = true) : ∀ c ∈ cs, c.1.length = 4 := by
  intro c hc
  obtain ⟨i, hi, rfl⟩ := List.getElem_of_mem hc
  have := ((goodL_iff cs).1 h).2 i hi
  rw [okAt_get cs i hi] at this
  simp only [okC, namedB, Bool.and_eq_true, decide_eq_true_eq] at this
  exact this.1.1.1
theorem sizeW_mem {cs : List Chk} (h : sizeW cs ≤ 1048576) : ∀ c ∈ cs, c.2.length ≤ 1048576 := by
  intro c hc
  have : 12 + min c.2.length 1048576 ≤ (cs.map fun c => 12 + min c.2.length 1048576).sum := by
    induction cs with
    | nil => cases hc
    | cons d r ih =>
      simp only [List.map_cons, List.sum_cons]
      rcases List.mem_cons.1 hc with rfl | hc
      · omega
      · have := ih (by unfold sizeW at h ⊢; simp only [List.map_cons, List.sum_cons] at h; omega) hc; omega
  unfold sizeW at h
  omega
theorem writeL_take (cs : List Chk) (k : Nat) (h : k < cs.length) : writeL (cs.take (k + 1)) = writeL (cs.take k) ++ chunkL cs[k] := by
  unfold writeL
  rw [List.take_succ_eq_append_getElem h, List.map_append, List.flatten_append, List.append_assoc]; simp
theorem writeL_len {cs : List Chk} (hn : ∀ c ∈ cs, c.1.length = 4) : (writeL cs).length = 8 + (cs.map fun c => 12 + c.2.length).sum := by
  unfold writeL
  rw [List.length_append]
  congr 1
  induction cs with
  | nil => rfl
  | cons c r ih =>
    simp only [List.map_cons, List.flatten_cons, List.length_append, List.sum_cons]
    rw [ih (fun x hx => hn x (List.mem_cons_of_mem _ hx)), chunkL_len c (hn c List.mem_cons_self)]
theorem sizeW_eq {cs : List Chk} (h : ∀ c ∈ cs, c.2.length ≤ 1048576) : sizeW cs = 8 + (cs.map fun c => 12 + c.2.length).sum := by
  unfold sizeW
  congr 2
  apply List.map_congr_left
  intro c hc
  rw [Nat.min_eq_left (h c hc)]
theorem writeL_size {cs : List Chk} (hg : goodL cs = true) (h : sizeW cs ≤ 1048576) : (writeL cs).length = sizeW cs := by
  rw [writeL_len (good_named hg), sizeW_eq (sizeW_mem h)]
theorem sum_take (f : Chk → Nat) (cs : List Chk) (k : Nat) : ((cs.take k).map f).sum ≤ (cs.map f).sum := by
  conv => rhs; rw [← List.take_append_drop k cs, List.map_append, List.sum_append]
  omega
theorem writeL_take_le {cs : List Chk} (hg : goodL cs = true) (h : sizeW cs ≤ 1048576) (k : Nat) : (writeL (cs.take k)).length ≤ 1048576 := by
  rw [writeL_len (fun c hc => good_named hg c (List.mem_of_mem_take hc))]
  have h1 := sum_take (fun c => 12 + c.2.length) cs k
  rw [sizeW_eq (sizeW_mem h)] at h
  omega
/-- what is written is parsed -/
theorem parse_write {cs : List Chk} (hg : goodL cs = true) (h : sizeW cs ≤ 1048576) : parseL (writeL cs) = (cs, 0) := by
  have hl := writeL_size hg h
  have hlen : cs.length ≤ (writeL cs).length := by
    rw [writeL_len (good_named hg)]
    have : ∀ l : List Chk, l.length ≤ (l.map fun c => 12 + c.2.length).sum := fun l => by
      induction l with
      | nil => simp
      | cons c r ih => simp only [List.length_cons, List.map_cons, List.sum_cons]; omega
    have := this cs
    omega
  unfold parseL
  rw [if_neg (by omega), if_neg (by simp [writeL, signL])]
  have e : (writeL cs).drop 8 = (cs.map chunkL).flatten := by
    unfold writeL
    rw [List.drop_append_of_le_length (by simp [signL])]
    simp [signL]
  rw [e, parseF_write cs _ [] hg (fun c hc => by have := sizeW_mem h c hc; omega) hlen]
  rfl
/-- what is parsed is written so -/
theorem write_parse {l : List UInt8} {cs : List Chk} (h : parseL l = (cs, 0)) : l = writeL cs ∧ goodL cs = true ∧ sizeW cs ≤ 1048576 := by
  unfold parseL at h
  split at h
  · simp at h
  · rename_i hl
    split at h
    · simp at h
    · rename_i hs
      have hs' := Decidable.not_not.1 hs
      obtain ⟨ds, e1, e2, e3⟩ := parseF_some _ _ _ _ h
      rw [List.nil_append] at e1
      subst e1
      have e : l = writeL cs := by
        unfold writeL
        rw [← e2, ← hs', List.take_append_drop]
      refine ⟨e, e3, ?_⟩
      rw [e, writeL_len (good_named e3)] at hl
      have : ∀ l : List Chk, (l.map fun c => 12 + min c.2.length 1048576).sum ≤ (l.map fun c => 12 + c.2.length).sum := fun l => by
        induction l with
        | nil => simp
        | cons c r ih => simp only [List.map_cons, List.sum_cons]; omega
      have := this cs
      unfold sizeW
      omega
/-! ## one byte of what is written, changed -/
theorem parseF_set : ∀ (cs : List Chk) (f : Nat) (acc : List Chk) (i : Nat) (y : UInt8), goodL cs = true → (∀ c ∈ cs, c.2.length ≤ 2147483647) → (hi : i < (cs.map chunkL).flatten.length) → (cs.map chunkL).flatten[i] ≠ y →
    (∀ k, k < cs.length → ¬ (((cs.take k).map chunkL).flatten.length ≤ i ∧ i < ((cs.take k).map chunkL).flatten.length + 4)) → ∃ n, n ≠ 0 ∧ parseF f ((cs.map chunkL).flatten.set i y) acc = ([], n)
  | [], _, _, i, _, _, _, hi, _, _ => by simp at hi
  | c :: r, 0, acc, i, y, hg, hd, hi, hy, hf => ⟨8, by decide, rfl⟩
  | c :: r, f + 1, acc, i, y, hg, hd, hi, hy, hf => by
    have hn : namedB c.1 = true := by
      have := ((goodL_iff (c :: r)).1 hg).2 0 (by simp)
      rw [okAt_get _ 0 (by simp)] at this
      simp only [okC, Bool.and_eq_true] at this
      exact this.1.1
    have hl := good_named hg c List.mem_cons_self
    have e : ((c :: r).map chunkL).flatten = chunkL c ++ (r.map chunkL).flatten := by simp
    simp only [e] at hi hy ⊢
    have h0 := hf 0 (by simp)
    simp only [List.take_zero, List.map_nil, List.flatten_nil, List.length_nil, Nat.zero_add] at h0
    by_cases hb : i < (chunkL c).length
    · rw [List.set_append_left _ _ hb]
      obtain ⟨n, h1, h2⟩ := step_spoilt c (r.map chunkL).flatten hn (hd c List.mem_cons_self) i (by omega) hb y (by rwa [List.getElem_append_left hb] at hy)
      exact ⟨n, h1, by unfold parseF; rw [h2]⟩
    · rw [List.set_append_right _ _ (by omega)]
      unfold parseF
      rw [step_chunk c _ hn (hd c List.mem_cons_self)]
      simp only
      have hr : r ≠ [] := by rintro rfl; simp at hi; omega
      have hmid : c.1 ≠ iend := by
        rw [goodL_mid hr] at hg
        simp only [midOk, Bool.and_eq_true, decide_eq_true_eq] at hg
        exact hg.1.2
      rw [if_neg hmid]
      have hg' : goodL r = true := by rw [goodL_mid hr, Bool.and_eq_true] at hg; exact hg.2
      refine parseF_set r f _ (i - (chunkL c).length) y hg' (fun x hx => hd x (List.mem_cons_of_mem _ hx)) (by rw [List.length_append] at hi; omega) ?_ ?_
      · rwa [List.getElem_append_right (by omega)] at hy
      · intro k hk hx
        refine hf (k + 1) (by simpa using hk) ?_
        simp only [List.take_succ_cons, List.map_cons, List.flatten_cons, List.length_append]
        omega
theorem parse_set {cs : List Chk} (hg : goodL cs = true) (h : sizeW cs ≤ 1048576) {i : Nat} (hi : i < (writeL cs).length) {y : UInt8} (hy : (writeL cs)[i] ≠ y)
    (hf : ∀ k, k < cs.length → ¬ ((writeL (cs.take k)).length ≤ i ∧ i < (writeL (cs.take k)).length + 4)) : ∃ n, n ≠ 0 ∧ parseL ((writeL cs).set i y) = ([], n) := by
  have hl := writeL_size hg h
  have hs : signL.length = 8 := rfl
  have hw : writeL cs = signL ++ (cs.map chunkL).flatten := rfl
  unfold parseL
  rw [List.length_set, if_neg (by omega)]
  by_cases hb : i < 8
  · rw [if_pos ?_]
    · exact ⟨2, by decide, rfl⟩
    · intro e
      have e2 := congrArg (fun l : List UInt8 => l[i]?) e
      simp only [List.getElem?_take, hb, if_true, List.getElem?_set_self hi] at e2
      apply hy
      have h3 : (writeL cs)[i]? = signL[i]? := by rw [hw, List.getElem?_append_left (by omega)]
      rw [← e2, List.getElem?_eq_getElem hi] at h3
      exact Option.some.inj h3
  · have e : (writeL cs).set i y = signL ++ ((cs.map chunkL).flatten.set (i - 8) y) := by rw [hw, List.set_append_right _ _ (by omega)]; rfl
    have hi' : i - 8 < (cs.map chunkL).flatten.length := by rw [hw, List.length_append] at hi; omega
    rw [e, List.take_append_of_le_length (by omega), List.take_of_length_le (by omega), if_neg (by simp)]
    have ed : (signL ++ ((cs.map chunkL).flatten.set (i - 8) y)).drop 8 = (cs.map chunkL).flatten.set (i - 8) y := by
      rw [List.drop_append_of_le_length (by omega)]; simp [signL]
    rw [ed]
    refine parseF_set cs _ [] (i - 8) y hg (fun c hc => by have := sizeW_mem h c hc; omega) hi' ?_ ?_
    · have h3 : (writeL cs)[i]? = (cs.map chunkL).flatten[i - 8]? := by rw [hw, List.getElem?_append_right (by omega)]; rfl
      rw [List.getElem?_eq_getElem hi, List.getElem?_eq_getElem hi'] at h3
      rw [← Option.some.inj h3]; exact hy
    · intro k hk hx
      refine hf k hk ?_
      unfold writeL
      rw [List.length_append]
      omega
end Go.Proofs.Ytmdbnnnaiidheaa
