/- Plain: the nearest matches of all lengths at a place, as records and as the document says them. By an AI agent. -/
import Derived.Test.YtheomjoadgfkeaaMatch
namespace Go.Proofs.Ytheomjoadgfkeaa
open Go.RowKit
set_option linter.unusedVariables false
set_option linter.unusedSimpArgs false

/-- the length of the last record -/
def bestOf (r : List (Nat × Nat)) : Nat := match r.getLast? with | none => 2 | some t => t.1
theorem bestOf_nil : bestOf [] = 2 := rfl
theorem bestOf_snoc (r : List (Nat × Nat)) (t : Nat × Nat) : bestOf (r ++ [t]) = t.1 := by simp [bestOf]
/-- the records among the distances up to m: each longer than all that are nearer -/
def recsTo (l : List UInt8) (p : Nat) : Nat → List (Nat × Nat)
  | 0 => []
  | m + 1 => if bestOf (recsTo l p m) < commonOf l (p - (m + 1)) p then recsTo l p m ++ [(commonOf l (p - (m + 1)) p, m + 1)] else recsTo l p m
def recs (l : List UInt8) (p : Nat) : List (Nat × Nat) := recsTo l p (min p 32768)

theorem recsTo_yes {l : List UInt8} {p m : Nat} (h : bestOf (recsTo l p m) < commonOf l (p - (m + 1)) p) : recsTo l p (m + 1) = recsTo l p m ++ [(commonOf l (p - (m + 1)) p, m + 1)] := by
  rw [recsTo, if_pos h]
theorem recsTo_no {l : List UInt8} {p m : Nat} (h : commonOf l (p - (m + 1)) p ≤ bestOf (recsTo l p m)) : recsTo l p (m + 1) = recsTo l p m := by
  rw [recsTo, if_neg (by omega)]
theorem recsTo_skip {l : List UInt8} {p m : Nat} : ∀ k : Nat, (∀ far, m < far → far ≤ m + k → commonOf l (p - far) p ≤ bestOf (recsTo l p m)) → recsTo l p (m + k) = recsTo l p m
  | 0, _ => rfl
  | k + 1, h => by
    have ih := recsTo_skip k (fun far h1 h2 => h far h1 (by omega))
    rw [← Nat.add_assoc, recsTo_no, ih]
    rw [ih]
    exact h (m + k + 1) (by omega) (by omega)
theorem recsTo_upto {l : List UInt8} {p m M : Nat} (hm : m ≤ M) (h : ∀ far, m < far → far ≤ M → commonOf l (p - far) p ≤ bestOf (recsTo l p m)) : recsTo l p M = recsTo l p m := by
  obtain ⟨k, rfl⟩ : ∃ k, M = m + k := ⟨M - m, by omega⟩
  exact recsTo_skip k h
theorem recsTo_pre {l : List UInt8} {p m : Nat} : ∀ k : Nat, recsTo l p m <+: recsTo l p (m + k)
  | 0 => List.prefix_rfl
  | k + 1 => by
    refine (recsTo_pre k).trans ?_
    rw [← Nat.add_assoc, recsTo]
    split
    · exact List.prefix_append _ _
    · exact List.prefix_rfl
theorem bestOf_ge (l : List UInt8) (p : Nat) : ∀ m, 2 ≤ bestOf (recsTo l p m) ∧ bestOf (recsTo l p m) ≤ 258
  | 0 => ⟨Nat.le_refl 2, (by decide : 2 ≤ 258)⟩
  | m + 1 => by
    have ih := bestOf_ge l p m
    by_cases h : bestOf (recsTo l p m) < commonOf l (p - (m + 1)) p
    · rw [recsTo_yes h, bestOf_snoc]
      have := common_le l (p - (m + 1)) p
      simp only; omega
    · rw [recsTo_no (by omega)]; exact ih
theorem le_best (l : List UInt8) (p : Nat) : ∀ m far, 1 ≤ far → far ≤ m → commonOf l (p - far) p ≤ bestOf (recsTo l p m)
  | 0, far, h1, h2 => by omega
  | m + 1, far, h1, h2 => by
    by_cases h : bestOf (recsTo l p m) < commonOf l (p - (m + 1)) p
    · rw [recsTo_yes h, bestOf_snoc]
      simp only
      by_cases e : far = m + 1
      · rw [e]; exact Nat.le_refl _
      · have := le_best l p m far h1 (by omega); omega
    · rw [recsTo_no (by omega)]
      by_cases e : far = m + 1
      · rw [e]; omega
      · exact le_best l p m far h1 (by omega)
/-- what the records are -/
def RecOk (l : List UInt8) (p m : Nat) (t : Nat × Nat) : Prop := 3 ≤ t.1 ∧ t.1 ≤ 258 ∧ 1 ≤ t.2 ∧ t.2 ≤ m ∧ t.1 = commonOf l (p - t.2) p
theorem recs_ok (l : List UInt8) (p : Nat) : ∀ m, ∀ t ∈ recsTo l p m, RecOk l p m t
  | 0, t, h => by simp [recsTo] at h
  | m + 1, t, h => by
    have up : ∀ t ∈ recsTo l p m, RecOk l p (m + 1) t := fun t ht => by
      obtain ⟨a, b, c, d, e⟩ := recs_ok l p m t ht
      exact ⟨a, b, c, by omega, e⟩
    by_cases hc : bestOf (recsTo l p m) < commonOf l (p - (m + 1)) p
    · rw [recsTo_yes hc] at h
      rcases List.mem_append.1 h with h | h
      · exact up t h
      · rw [List.mem_singleton] at h
        subst h
        have := (bestOf_ge l p m).1
        exact ⟨by simp only; omega, common_le _ _ _, by simp, by simp, rfl⟩
    · rw [recsTo_no (by omega)] at h
      exact up t h

/-- the least distance of a length among records -/
def farOf (r : List (Nat × Nat)) (n : Nat) : Option Nat := (r.find? fun t => decide (n ≤ t.1)).map (·.2)
/-- the least distance of a length -/
def firstFar (l : List UInt8) (p n : Nat) : Nat → Option Nat
  | 0 => none
  | m + 1 => match firstFar l p n m with | some d => some d | none => if n ≤ commonOf l (p - (m + 1)) p then some (m + 1) else none
theorem farOf_none {r : List (Nat × Nat)} {n : Nat} (h : farOf r n = none) (h2 : 2 < n) : bestOf r < n := by
  unfold farOf at h
  rw [Option.map_eq_none_iff, List.find?_eq_none] at h
  unfold bestOf
  cases hl : r.getLast? with
  | none => exact h2
  | some t =>
    have := h t (List.mem_of_getLast? hl)
    simpa using this
theorem farOf_snoc (r : List (Nat × Nat)) (t : Nat × Nat) (n : Nat) : farOf (r ++ [t]) n = (farOf r n).or (if n ≤ t.1 then some t.2 else none) := by
  unfold farOf
  rw [List.find?_append]
  cases r.find? (fun t => decide (n ≤ t.1)) with
  | some x => simp
  | none =>
    by_cases e : n ≤ t.1
    · simp [e]
    · simp [e]
theorem far_first (l : List UInt8) (p n : Nat) (hn : 2 < n) : ∀ m, farOf (recsTo l p m) n = firstFar l p n m
  | 0 => rfl
  | m + 1 => by
    have ih := far_first l p n hn m
    rw [firstFar]
    by_cases hc : bestOf (recsTo l p m) < commonOf l (p - (m + 1)) p
    · rw [recsTo_yes hc, farOf_snoc, ih]
      cases firstFar l p n m with
      | some d => rfl
      | none => simp
    · rw [recsTo_no (by omega), ih]
      cases hf : firstFar l p n m with
      | some d => rfl
      | none =>
        have := farOf_none (ih.trans hf) hn
        simp only
        rw [if_neg (by omega)]
/-- records as a list of distances, from a length on -/
def expand : Nat → List (Nat × Nat) → List Nat
  | _, [] => []
  | b, t :: r => List.replicate (t.1 - b) t.2 ++ expand t.1 r
def nearL (l : List UInt8) (p : Nat) : List Nat := expand 2 (recs l p)
/-- rising from b on -/
def Rising : Nat → List (Nat × Nat) → Prop
  | _, [] => True
  | b, t :: r => b < t.1 ∧ Rising t.1 r
theorem rising_snoc : ∀ (b : Nat) (r : List (Nat × Nat)) (t : Nat × Nat), Rising b r → (match r.getLast? with | none => b | some x => x.1) < t.1 → Rising b (r ++ [t])
  | b, [], t, _, h => ⟨by simpa using h, trivial⟩
  | b, x :: r, t, hr, h => by
    refine ⟨hr.1, rising_snoc x.1 r t hr.2 ?_⟩
    cases r with
    | nil => simpa using h
    | cons y r => simpa [List.getLast?_cons] using h
theorem recs_rising (l : List UInt8) (p : Nat) : ∀ m, Rising 2 (recsTo l p m)
  | 0 => trivial
  | m + 1 => by
    by_cases hc : bestOf (recsTo l p m) < commonOf l (p - (m + 1)) p
    · rw [recsTo_yes hc]
      exact rising_snoc 2 _ _ (recs_rising l p m) hc
    · rw [recsTo_no (by omega)]; exact recs_rising l p m
theorem rising_lt : ∀ (b : Nat) (r : List (Nat × Nat)), Rising b r → ∀ t ∈ r, b < t.1
  | b, x :: r, h, t, ht => by
    rcases List.mem_cons.1 ht with rfl | ht
    · exact h.1
    · have := rising_lt x.1 r h.2 t ht
      have := h.1
      omega
theorem expand_at : ∀ (b : Nat) (r : List (Nat × Nat)), Rising b r → ∀ i, (expand b r)[i]? = farOf r (b + 1 + i)
  | b, [], _, i => by simp [expand, farOf]
  | b, t :: r, h, i => by
    rw [expand]
    by_cases hi : i < t.1 - b
    · rw [List.getElem?_append_left (by simpa using hi), List.getElem?_replicate, if_pos hi]
      unfold farOf
      rw [List.find?_cons, show decide (b + 1 + i ≤ t.1) = true from decide_eq_true (by omega)]
      rfl
    · have hb := h.1
      rw [List.getElem?_append_right (by simp; omega), List.length_replicate, expand_at t.1 r h.2]
      unfold farOf
      rw [List.find?_cons, show decide (b + 1 + i ≤ t.1) = false from decide_eq_false (by omega)]
      simp only
      rw [show t.1 + 1 + (i - (t.1 - b)) = b + 1 + i by omega]
theorem near_at (l : List UInt8) (p i : Nat) : (nearL l p)[i]? = firstFar l p (3 + i) (min p 32768) := by
  unfold nearL recs
  rw [expand_at 2 _ (recs_rising l p _), far_first _ _ _ (by omega)]
theorem expand_len : ∀ (b : Nat) (r : List (Nat × Nat)), Rising b r → (expand b r).length = (match r.getLast? with | none => b | some x => x.1) - b
  | b, [], _ => by simp [expand]
  | b, t :: r, h => by
    rw [expand, List.length_append, List.length_replicate, expand_len t.1 r h.2]
    have hb := h.1
    cases hr : r.getLast? with
    | none =>
      have : r = [] := by simpa using hr
      subst this
      simp
    | some x =>
      have hx := rising_lt t.1 r h.2 x (List.mem_of_getLast? hr)
      have e : (t :: r).getLast? = some x := by
        cases r with
        | nil => simp at hr
        | cons y r => rw [List.getLast?_cons_cons]; exact hr
      rw [e]
      simp only
      omega
theorem near_len (l : List UInt8) (p : Nat) : (nearL l p).length = bestOf (recs l p) - 2 := by
  unfold nearL
  rw [expand_len 2 (recs l p) (recs_rising l p _)]
  rfl
theorem near_le (l : List UInt8) (p : Nat) : (nearL l p).length ≤ 256 := by
  rw [near_len]
  have := (bestOf_ge l p (min p 32768)).2
  unfold recs
  omega
theorem near_nil (l : List UInt8) (p : Nat) : nearL l p = [] ↔ recs l p = [] := by
  refine ⟨fun h => ?_, fun h => by unfold nearL; rw [h]; rfl⟩
  cases hr : (recs l p).getLast? with
  | none => simpa using hr
  | some t =>
    have h1 := near_len l p
    rw [h] at h1
    have ht := recs_ok l p _ t (List.mem_of_getLast? hr)
    have : bestOf (recs l p) = t.1 := by unfold bestOf; rw [hr]
    have h3 := ht.1
    simp at h1
    omega
/-- the longest match is the last record -/
theorem near_last (l : List UInt8) (p : Nat) {t : Nat × Nat} (h : (recs l p).getLast? = some t) : t.1 = 2 + (nearL l p).length ∧ (nearL l p)[(nearL l p).length - 1]? = some t.2 := by
  have hb : bestOf (recs l p) = t.1 := by unfold bestOf; rw [h]
  have hl := near_len l p
  have ok := recs_ok l p _ t (List.mem_of_getLast? h)
  have h3 := ok.1
  have e : t.1 = 2 + (nearL l p).length := by omega
  refine ⟨e, ?_⟩
  have hr : Rising 2 (recs l p) := recs_rising l p (min p 32768)
  unfold nearL at hl e ⊢
  rw [expand_at 2 _ hr]
  rw [show 2 + 1 + ((expand 2 (recs l p)).length - 1) = t.1 by omega]
  obtain ⟨r, hr2⟩ : ∃ r, recs l p = r ++ [t] := by
    rcases List.eq_nil_or_concat (recs l p) with h0 | ⟨r, x, h0⟩
    · rw [h0] at h; simp at h
    · rw [List.concat_eq_append] at h0
      rw [h0, List.getLast?_concat] at h
      cases h
      exact ⟨r, h0⟩
  rw [hr2, farOf_snoc, if_pos (Nat.le_refl _)]
  cases hf : farOf r t.1 with
  | none => rfl
  | some d =>
    exfalso
    unfold farOf at hf
    rw [Option.map_eq_some_iff] at hf
    obtain ⟨x, hx, _⟩ := hf
    have hx1 := List.find?_some hx
    have hx2 := List.mem_of_find?_eq_some hx
    simp at hx1
    have hs : Rising 2 (r ++ [t]) := by rw [← hr2]; exact hr
    have hlt : ∀ (b : Nat) (r : List (Nat × Nat)), Rising b (r ++ [t]) → ∀ x ∈ r, x.1 < t.1 := by
      intro b r
      induction r generalizing b with
      | nil => intro _ x hx; simp at hx
      | cons y r ih =>
        intro h x hx
        rcases List.mem_cons.1 hx with rfl | hx
        · exact rising_lt _ _ h.2 t (by simp)
        · exact ih _ h.2 x hx
    have := hlt 2 r hs x hx2
    omega

/-! ## the places ahead that begin with the same three bytes -/
def lastK (l : List UInt8) (p : Nat) : Nat → Int
  | 0 => -1
  | k + 1 => if 3 ≤ commonOf l k p then (k : Int) else lastK l p k
theorem lastK_spec (l : List UInt8) (p : Nat) : ∀ k, (lastK l p k = -1 ∧ ∀ j, j < k → commonOf l j p < 3) ∨ ∃ K : Nat, lastK l p k = (K : Int) ∧ K < k ∧ 3 ≤ commonOf l K p ∧ ∀ j, K < j → j < k → commonOf l j p < 3
  | 0 => .inl ⟨rfl, fun j hj => absurd hj (Nat.not_lt_zero j)⟩
  | k + 1 => by
    by_cases h : 3 ≤ commonOf l k p
    · exact .inr ⟨k, by rw [lastK, if_pos h], Nat.lt_succ_self k, h, fun j h1 h2 => by omega⟩
    · rw [lastK, if_neg h]
      rcases lastK_spec l p k with ⟨h1, h2⟩ | ⟨K, h1, h2, h3, h4⟩
      · refine .inl ⟨h1, fun j hj => ?_⟩
        by_cases e : j = k
        · subst e; omega
        · exact h2 j (by omega)
      · refine .inr ⟨K, h1, by omega, h3, fun j hj1 hj2 => ?_⟩
        by_cases e : j = k
        · subst e; omega
        · exact h4 j hj1 (by omega)
/-- the same three bytes as at a place with the same three bytes -/
theorem lastK_same (l : List UInt8) (p q : Nat) (hqp : q ≤ p) (h : 3 ≤ commonOf l q p) : ∀ k, lastK l q k = lastK l p k
  | 0 => rfl
  | k + 1 => by
    have ih := lastK_same l p q hqp h k
    have hc := (common_iff l q p 3 (by omega)).1 h
    have e : 3 ≤ commonOf l k q ↔ 3 ≤ commonOf l k p := by
      rw [common_iff l k q 3 (by omega), common_iff l k p 3 (by omega)]
      refine ⟨fun hh i hi => ⟨(hc i hi).1, (hh i hi).2.trans (hc i hi).2⟩, fun hh i hi => ⟨by have := (hc i hi).1; omega, (hh i hi).2.trans (hc i hi).2.symm⟩⟩
    rw [lastK, lastK, ih]
    by_cases h2 : 3 ≤ commonOf l k q
    · rw [if_pos h2, if_pos (e.1 h2)]
    · rw [if_neg h2, if_neg (fun h3 => h2 (e.2 h3))]
theorem common_end (l : List UInt8) (a b t : Nat) (h : t ≤ commonOf l a b) (ht : 0 < t) : b + t ≤ l.length := by
  have := ((common_iff l a b t (Nat.le_trans h (common_le _ _ _))).1 h (t - 1) (by omega)).1
  omega

/-! ## a step of the search -/
theorem recs_end {l : List UInt8} {p m : Nat} (hm : m ≤ p) (hm2 : m ≤ 32768) (h : ∀ far, m < far → far ≤ p → far ≤ 32768 → commonOf l (p - far) p ≤ bestOf (recsTo l p m)) : recs l p = recsTo l p m := by
  unfold recs
  exact recsTo_upto (by omega) (fun far h1 h2 => h far h1 (by omega) (by omega))
theorem recs_none {l : List UInt8} {p m : Nat} (hm : m ≤ p) (hm2 : m ≤ 32768) (h : ∀ j, j < p - m → commonOf l j p < 3) : recs l p = recsTo l p m := by
  refine recs_end hm hm2 (fun far h1 h2 _ => ?_)
  have := h (p - far) (by omega)
  have := (bestOf_ge l p m).1
  omega
theorem recs_far {l : List UInt8} {p m K : Nat} (hm : m ≤ p) (hm2 : m ≤ 32768) (hK : K < p - m) (hf : 32768 < p - K) (h : ∀ j, K < j → j < p - m → commonOf l j p < 3) : recs l p = recsTo l p m := by
  refine recs_end hm hm2 (fun far h1 h2 h3 => ?_)
  have := h (p - far) (by omega) (by omega)
  have := (bestOf_ge l p m).1
  omega
theorem recs_full {l : List UInt8} {p m : Nat} (hm : m ≤ p) (hm2 : m ≤ 32768) (h : bestOf (recsTo l p m) = 258 ∨ l.length ≤ p + bestOf (recsTo l p m)) : recs l p = recsTo l p m := by
  refine recs_end hm hm2 (fun far h1 h2 h3 => ?_)
  have := common_le l (p - far) p
  rcases h with h | h
  · omega
  · rcases Nat.eq_zero_or_pos (commonOf l (p - far) p) with h0 | h0
    · omega
    · have := common_end l (p - far) p _ (Nat.le_refl _) h0
      omega
theorem recs_gap {l : List UInt8} {p m K : Nat} (hm : m ≤ p) (hK : K < p - m) (h : ∀ j, K < j → j < p - m → commonOf l j p < 3) : recsTo l p (p - K - 1) = recsTo l p m := by
  refine recsTo_upto (by omega) (fun far h1 h2 => ?_)
  have := h (p - far) (by omega) (by omega)
  have := (bestOf_ge l p m).1
  omega
theorem recs_no {l : List UInt8} {p m K : Nat} (hm : m ≤ p) (hK : K < p - m) (h : ∀ j, K < j → j < p - m → commonOf l j p < 3) (hc : commonOf l K p ≤ bestOf (recsTo l p m)) : recsTo l p (p - K) = recsTo l p m := by
  have g := recs_gap hm hK h
  have e : p - K = (p - K - 1) + 1 := by omega
  rw [e, recsTo_no, g]
  rw [g, show p - (p - K - 1 + 1) = K by omega]
  exact hc
theorem recs_yes {l : List UInt8} {p m K : Nat} (hm : m ≤ p) (hK : K < p - m) (h : ∀ j, K < j → j < p - m → commonOf l j p < 3) (hc : bestOf (recsTo l p m) < commonOf l K p) : recsTo l p (p - K) = recsTo l p m ++ [(commonOf l K p, p - K)] := by
  have g := recs_gap hm hK h
  have e : p - K = (p - K - 1) + 1 := by omega
  have e2 : p - (p - K - 1 + 1) = K := by omega
  rw [e, recsTo_yes, g, e2]
  rw [g, e2]
  exact hc
/-- what isn't longer ends ahead of the next byte -/
theorem common_stop {l : List UInt8} {K p b : Nat} (h : l.getD (K + b) 0 ≠ l.getD (p + b) 0) (hb : b < 258) : commonOf l K p ≤ b := by
  refine Nat.le_of_not_lt fun hlt => ?_
  exact h ((common_iff l K p (b + 1) (by omega)).1 hlt b (Nat.lt_succ_self b)).2
theorem recs_pre (l : List UInt8) (p m : Nat) (hm : m ≤ p) (hm2 : m ≤ 32768) : recsTo l p m <+: recs l p := by
  unfold recs
  obtain ⟨k, hk⟩ : ∃ k, min p 32768 = m + k := ⟨min p 32768 - m, by omega⟩
  rw [hk]
  exact recsTo_pre k
theorem prev_next (l : List UInt8) (p K : Nat) (hK : K ≤ p) (h : 3 ≤ commonOf l K p) : lastK l K K = lastK l p (p - (p - K)) := by
  rw [show p - (p - K) = K by omega]
  exact lastK_same l p K hK h K
end Go.Proofs.Ytheomjoadgfkeaa
