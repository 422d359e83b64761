/- Plain: the cheapest parse, as the program reckons it, and what it is. By an AI agent. -/
import Derived.Test.YtheomjoadgfkeaaPairs
namespace Go.Proofs.Ytheomjoadgfkeaa
open Go.RowKit
set_option linter.unusedVariables false
set_option linter.unusedSimpArgs false

/-- a way: its price, and by which token -/
abbrev Way := Int × Nat × Nat
def stepOf (t : Nat × Nat) : Nat := max t.1 1
def relax (cost : Nat × Nat → Int) (W : Nat → Way) (p : Nat) (t : Nat × Nat) : Nat → Way :=
  if cost t + (W p).1 < (W (p + stepOf t)).1 then fun j => if j = p + stepOf t then (cost t + (W p).1, t) else W j else W
def litT (l : List UInt8) (p : Nat) : Nat × Nat := (0, (l.getD p 0).toNat)
def edgesL (l : List UInt8) (p : Nat) : List (Nat × Nat) := pairsL (some l) (p : Int)
def stepTo (cost : Nat × Nat → Int) (p : Nat) (W : Nat → Way) (es : List (Nat × Nat)) : Nat → Way := es.foldl (fun W t => relax cost W p t) W
def endless : Int := 1152921504606846976
def ways (cost : Nat × Nat → Int) (l : List UInt8) : Nat → Nat → Way
  | 0 => fun j => if j = 0 then (0, 0, 0) else (endless, 0, 0)
  | k + 1 => stepTo cost k (relax cost (ways cost l k) k (litT l k)) (edgesL l k)
theorem stepTo_snoc (cost : Nat × Nat → Int) (p : Nat) (W : Nat → Way) (es : List (Nat × Nat)) (t : Nat × Nat) : stepTo cost p W (es ++ [t]) = relax cost (stepTo cost p W es) p t := by simp [stepTo]

/-- the steps that may be taken at a place -/
def Step (l : List UInt8) (p : Nat) (t : Nat × Nat) : Prop := t = litT l p ∨ t ∈ edgesL l p
def IsPath (l : List UInt8) : Nat → List (Nat × Nat) → Nat → Prop
  | p, [], q => p = q
  | p, t :: T, q => p < l.length ∧ Step l p t ∧ IsPath l (p + stepOf t) T q
def sumC (cost : Nat × Nat → Int) (T : List (Nat × Nat)) : Int := (T.map cost).sum
theorem sumC_app (cost : Nat × Nat → Int) (S T : List (Nat × Nat)) : sumC cost (S ++ T) = sumC cost S + sumC cost T := by simp [sumC]
theorem path_app (l : List UInt8) : ∀ (S : List (Nat × Nat)) (p q r : Nat) (T : List (Nat × Nat)), IsPath l p S q → IsPath l q T r → IsPath l p (S ++ T) r
  | [], p, q, r, T, h, k => by cases h; exact k
  | t :: S, p, q, r, T, h, k => ⟨h.1, h.2.1, path_app l S _ q r T h.2.2 k⟩
theorem stepOf_pos (t : Nat × Nat) : 1 ≤ stepOf t := by unfold stepOf; omega
theorem relax_low (cost : Nat × Nat → Int) (W : Nat → Way) (p : Nat) (t : Nat × Nat) (j : Nat) (hj : j ≠ p + stepOf t) : relax cost W p t j = W j := by
  unfold relax
  split
  · simp only; rw [if_neg hj]
  · rfl
theorem relax_le (cost : Nat × Nat → Int) (W : Nat → Way) (p : Nat) (t : Nat × Nat) (j : Nat) : (relax cost W p t j).1 ≤ (W j).1 := by
  unfold relax
  split
  · rename_i h
    simp only
    by_cases e : j = p + stepOf t
    · subst e; rw [if_pos rfl]; simp only; omega
    · rw [if_neg e]; exact Int.le_refl _
  · exact Int.le_refl _
theorem relax_self (cost : Nat × Nat → Int) (W : Nat → Way) (p : Nat) (t : Nat × Nat) : (relax cost W p t (p + stepOf t)).1 ≤ cost t + (W p).1 := by
  unfold relax
  split
  · simp only; simp
  · omega

/-- what stands while place k is worked on: 'done' of its steps are through -/
structure WInv (cost : Nat × Nat → Int) (l : List UInt8) (k : Nat) (done : Nat × Nat → Prop) (W : Nat → Way) : Prop where
  zero : W 0 = (0, 0, 0)
  low : ∀ j, j ≤ k → (W j).1 ≤ 1048576 * (j : Int)
  nonneg : ∀ j, 0 ≤ (W j).1 ∧ (W j).1 ≤ endless
  from_ : ∀ j, j ≠ 0 → (W j).1 = endless ∨ ∃ q, q ≤ k ∧ q + stepOf (W j).2 = j ∧ q < l.length ∧ Step l q (W j).2 ∧ (W j).1 = cost (W j).2 + (W q).1
  best : ∀ q, q < k → ∀ t, Step l q t → (W (q + stepOf t)).1 ≤ cost t + (W q).1
  here : ∀ t, done t → (W (k + stepOf t)).1 ≤ cost t + (W k).1

theorem WInv.relax {cost : Nat × Nat → Int} {l : List UInt8} {k : Nat} {done : Nat × Nat → Prop} {W : Nat → Way} (h : WInv cost l k done W) (hc : ∀ p t, Step l p t → 0 ≤ cost t) {t : Nat × Nat} (ht : Step l k t) (hk : k < l.length) :
    WInv cost l k (fun s => done s ∨ s = t) (relax cost W k t) := by
  have hp := stepOf_pos t
  have e : ∀ j, j ≤ k → Go.Proofs.Ytheomjoadgfkeaa.relax cost W k t j = W j := fun j hj => relax_low _ _ _ _ _ (by omega)
  have hct := hc k t ht
  refine ⟨by rw [e 0 (Nat.zero_le _)]; exact h.zero, fun j hj => by rw [e j hj]; exact h.low j hj, fun j => ?_, fun j hj => ?_, fun q hq s hs => ?_, fun s hs => ?_⟩
  · have h1 := relax_le cost W k t j
    have h2 := h.nonneg j
    refine ⟨?_, by omega⟩
    unfold Go.Proofs.Ytheomjoadgfkeaa.relax
    split
    · simp only
      split
      · simp only; have := (h.nonneg k).1; omega
      · exact h2.1
    · exact h2.1
  · by_cases ej : j = k + stepOf t
    · subst ej
      by_cases hlt : cost t + (W k).1 < (W (k + stepOf t)).1
      · right
        have er : Go.Proofs.Ytheomjoadgfkeaa.relax cost W k t (k + stepOf t) = (cost t + (W k).1, t) := by unfold Go.Proofs.Ytheomjoadgfkeaa.relax; rw [if_pos hlt]; simp
        rw [er]
        exact ⟨k, Nat.le_refl _, rfl, hk, ht, by rw [e k (Nat.le_refl _)]⟩
      · have er : Go.Proofs.Ytheomjoadgfkeaa.relax cost W k t = W := by unfold Go.Proofs.Ytheomjoadgfkeaa.relax; rw [if_neg hlt]
        rw [er]; exact h.from_ _ hj
    · rw [relax_low _ _ _ _ _ ej]
      rcases h.from_ j hj with h1 | ⟨q, h1, h2, h3, h4, h5⟩
      · exact .inl h1
      · exact .inr ⟨q, h1, h2, h3, h4, by rw [e q h1]; exact h5⟩
  · rw [e q (by omega)]
    exact Int.le_trans (relax_le _ _ _ _ _) (h.best q hq s hs)
  · rw [e k (Nat.le_refl _)]
    rcases hs with hs | rfl
    · exact Int.le_trans (relax_le _ _ _ _ _) (h.here s hs)
    · exact relax_self _ _ _ _
theorem WInv.mono {cost : Nat × Nat → Int} {l : List UInt8} {k : Nat} {done done' : Nat × Nat → Prop} {W : Nat → Way} (h : WInv cost l k done W) (hd : ∀ t, done' t → done t) : WInv cost l k done' W :=
  ⟨h.zero, h.low, h.nonneg, h.from_, h.best, fun t ht => h.here t (hd t ht)⟩
theorem WInv.steps {cost : Nat × Nat → Int} {l : List UInt8} {k : Nat} (hc : ∀ p t, Step l p t → 0 ≤ cost t) (hk : k < l.length) : ∀ (es : List (Nat × Nat)) (done : Nat × Nat → Prop) (W : Nat → Way), WInv cost l k done W → (∀ t ∈ es, Step l k t) →
    WInv cost l k (fun s => done s ∨ s ∈ es) (stepTo cost k W es)
  | [], done, W, h, _ => h.mono (fun t ht => by simpa using ht)
  | t :: es, done, W, h, hes => by
    have h1 := h.relax hc (hes t (by simp)) hk
    have h2 := WInv.steps hc hk es _ _ h1 (fun s hs => hes s (by simp [hs]))
    exact h2.mono (fun s hs => by simp only [List.mem_cons] at hs; rcases hs with hs | hs | hs; exact .inl (.inl hs); exact .inl (.inr hs); exact .inr hs)
theorem WInv.next {cost : Nat × Nat → Int} {l : List UInt8} {k : Nat} {W : Nat → Way} (h : WInv cost l k (Step l k) W) (hl : cost (litT l k) ≤ 1048576) : WInv cost l (k + 1) (fun _ => False) W := by
  refine ⟨h.zero, fun j hj => ?_, h.nonneg, fun j hj => ?_, fun q hq t ht => ?_, fun t ht => ht.elim⟩
  · by_cases e : j = k + 1
    · subst e
      have h1 := h.here (litT l k) (.inl rfl)
      have h2 := h.low k (Nat.le_refl _)
      have e1 : stepOf (litT l k) = 1 := rfl
      rw [e1] at h1
      have : ((k + 1 : Nat) : Int) = (k : Int) + 1 := by omega
      rw [this]
      omega
    · exact h.low j (by omega)
  · rcases h.from_ j hj with h1 | ⟨q, h1, h2⟩
    · exact .inl h1
    · exact .inr ⟨q, by omega, h2⟩
  · by_cases e : q = k
    · subst e; exact h.here t ht
    · exact h.best q (by omega) t ht
theorem ways_inv {cost : Nat × Nat → Int} {l : List UInt8} (hc : ∀ p t, Step l p t → 0 ≤ cost t) (hl : ∀ p, p < l.length → cost (litT l p) ≤ 1048576) : ∀ k, k ≤ l.length → WInv cost l k (fun _ => False) (ways cost l k)
  | 0, _ => by
    refine ⟨rfl, fun j hj => ?_, fun j => ?_, fun j hj => .inl ?_, fun q hq => absurd hq (Nat.not_lt_zero q), fun t ht => ht.elim⟩
    · obtain rfl : j = 0 := by omega
      exact Int.le_refl _
    · show 0 ≤ (if j = 0 then ((0, 0, 0) : Way) else (endless, 0, 0)).1 ∧ (if j = 0 then ((0, 0, 0) : Way) else (endless, 0, 0)).1 ≤ endless
      unfold endless
      split <;> simp
    · show (if j = 0 then ((0, 0, 0) : Way) else (endless, 0, 0)).1 = endless
      rw [if_neg hj]
  | k + 1, h => by
    have ih := ways_inv hc hl k (by omega)
    have h1 := ih.relax hc (t := litT l k) (.inl rfl) (by omega)
    have h2 := WInv.steps hc (by omega) (edgesL l k) _ _ h1 (fun t ht => .inr ht)
    refine WInv.next (h2.mono (fun t ht => ?_)) (hl k (by omega))
    rcases ht with rfl | ht
    · exact .inl (.inr rfl)
    · exact .inr ht
/-- no path costs less -/
theorem ways_opt {cost : Nat × Nat → Int} {l : List UInt8} {W : Nat → Way} (h : WInv cost l l.length (fun _ => False) W) : ∀ (T : List (Nat × Nat)) (p q : Nat), IsPath l p T q → (W q).1 ≤ (W p).1 + sumC cost T
  | [], p, q, hp => by cases hp; simp [sumC]
  | t :: T, p, q, ⟨h1, h2, h3⟩ => by
    have ih := ways_opt h T _ q h3
    have hb := h.best p h1 t h2
    have e : sumC cost (t :: T) = cost t + sumC cost T := by simp [sumC]
    omega
/-- the way back -/
def backL (W : Nat → Way) : Nat → Nat → List (Nat × Nat)
  | 0, _ => []
  | f + 1, j => if j = 0 then [] else backL W f (j - stepOf (W j).2) ++ [(W j).2]
theorem backL_path {cost : Nat × Nat → Int} {l : List UInt8} {W : Nat → Way} (h : WInv cost l l.length (fun _ => False) W) (hl : l.length ≤ 1000000) : ∀ (f j : Nat), j ≤ f → j ≤ l.length → IsPath l 0 (backL W f j) j ∧ sumC cost (backL W f j) = (W j).1
  | 0, j, hj, _ => by
    obtain rfl : j = 0 := by omega
    exact ⟨rfl, by rw [h.zero]; rfl⟩
  | f + 1, j, hj, hjl => by
    rw [backL]
    by_cases e : j = 0
    · subst e; rw [if_pos rfl]; exact ⟨rfl, by rw [h.zero]; rfl⟩
    · rw [if_neg e]
      rcases h.from_ j e with h1 | ⟨q, h1, h2, h3, h4, h5⟩
      · exfalso
        have := h.low j hjl
        rw [h1] at this
        unfold endless at this
        omega
      · have hp := stepOf_pos (W j).2
        have eq : j - stepOf (W j).2 = q := by omega
        rw [eq]
        obtain ⟨p1, p2⟩ := backL_path h hl f q (by omega) (by omega)
        refine ⟨path_app l _ 0 q j _ p1 ⟨h3, h4, by exact h2⟩, ?_⟩
        rw [sumC_app, p2, h5]
        simp [sumC]
        omega
theorem backL_fuel (W : Nat → Way) : ∀ (f j : Nat), j ≤ f → backL W f j = backL W j j
  | 0, j, h => by obtain rfl : j = 0 := by omega
                  rfl
  | f + 1, j, h => by
    by_cases e : j = f + 1
    · rw [e]
    · have key : ∀ (f g j : Nat), j ≤ f → j ≤ g → backL W f j = backL W g j := by
        intro f
        induction f with
        | zero =>
          intro g j h1 h2
          obtain rfl : j = 0 := by omega
          cases g with
          | zero => rfl
          | succ g => rw [backL, backL, if_pos rfl]
        | succ f ih =>
          intro g j h1 h2
          cases g with
          | zero => obtain rfl : j = 0 := by omega
                    rw [backL, backL, if_pos rfl]
          | succ g =>
            rw [backL, backL]
            by_cases e0 : j = 0
            · rw [if_pos e0, if_pos e0]
            · have hp := stepOf_pos (W j).2
              rw [if_neg e0, if_neg e0, ih g _ (by omega) (by omega)]
      exact key (f + 1) j j h (Nat.le_refl _)

/-- the cheapest parse -/
def cheapL (cost : Nat × Nat → Int) (l : List UInt8) : List (Nat × Nat) := backL (ways cost l l.length) l.length l.length

/-! ## from the end on -/
def leastF (cost : Nat × Nat → Int) (l : List UInt8) : Nat → Nat → Int
  | 0 => fun _ => 0
  | k + 1 => fun j => if j + k + 1 = l.length then (edgesL l j).foldl (fun best t => if cost t + leastF cost l k (j + t.1) < best then cost t + leastF cost l k (j + t.1) else best) (cost (litT l j) + leastF cost l k (j + 1)) else leastF cost l k j
theorem edge_len {l : List UInt8} {p : Nat} {t : Nat × Nat} (h : t ∈ edgesL l p) : 3 ≤ t.1 ∧ t.1 ≤ 258 ∧ 1 ≤ t.2 ∧ t.2 ≤ 32768 ∧ t.2 ≤ p ∧ t.1 ≤ commonOf l (p - t.2) p ∧ p + t.1 ≤ l.length ∧ (nearL l p)[t.1 - 3]? = some t.2 := by
  unfold edgesL pairsL at h
  rw [betterL_some] at h
  by_cases hok : 0 ≤ (p : Int) ∧ (p : Int) < (l.length : Int)
  · rw [if_pos hok] at h
    simp only [Int.toNat_natCast] at h
    have hr : Rising 2 (recs l p) := recs_rising l p (min p 32768)
    obtain ⟨i, hi, he⟩ := List.getElem_of_mem h
    have h1 := pairs_at 2 (recs l p) hr i
    rw [List.getElem?_eq_getElem hi, he] at h1
    change some t = ((nearL l p)[i]?).map _ at h1
    cases hn : (nearL l p)[i]? with
    | none => rw [hn] at h1; cases h1
    | some d =>
      rw [hn] at h1
      simp only [Option.map_some, Option.some.injEq] at h1
      subst h1
      simp only
      rw [near_at] at hn
      have hle := near_le l p
      have hil : i < (nearL l p).length := by
        have := near_at l p i
        rw [hn] at this
        exact (List.getElem?_eq_some_iff.1 this).1
      have key : ∀ {m d : Nat}, firstFar l p (3 + i) m = some d → 1 ≤ d ∧ d ≤ m ∧ 3 + i ≤ commonOf l (p - d) p := by
        intro m
        induction m with
        | zero => intro d hd; simp [firstFar] at hd
        | succ m ih =>
          intro d hd
          rw [firstFar] at hd
          cases hf : firstFar l p (3 + i) m with
          | some x => rw [hf] at hd; simp only [Option.some.injEq] at hd; subst hd; have := ih hf; exact ⟨this.1, by omega, this.2.2⟩
          | none =>
            rw [hf] at hd
            simp only at hd
            split at hd
            · simp only [Option.some.injEq] at hd; subst hd; exact ⟨by omega, Nat.le_refl _, by assumption⟩
            · cases hd
      have hk := key hn
      have hce := common_end l (p - d) p (3 + i) hk.2.2 (by omega)
      exact ⟨by omega, by omega, hk.1, by omega, by omega, by omega, by omega, by rw [show 2 + 1 + i - 3 = i by omega, near_at]; exact hn⟩
  · rw [if_neg hok] at h
    simp [pairs] at h
theorem edge_step {l : List UInt8} {p : Nat} {t : Nat × Nat} (h : t ∈ edgesL l p) : stepOf t = t.1 := by have := edge_len h; unfold stepOf; omega
theorem fold_min {α : Type} (g : α → Int) : ∀ (es : List α) (b : Int), (es.foldl (fun best t => if g t < best then g t else best) b ≤ b ∧ ∀ t ∈ es, es.foldl (fun best t => if g t < best then g t else best) b ≤ g t) ∧ (es.foldl (fun best t => if g t < best then g t else best) b = b ∨ ∃ t ∈ es, es.foldl (fun best t => if g t < best then g t else best) b = g t)
  | [], b => ⟨⟨Int.le_refl _, by simp⟩, .inl rfl⟩
  | t :: es, b => by
    simp only [List.foldl_cons]
    obtain ⟨⟨h1, h2⟩, h3⟩ := fold_min g es (if g t < b then g t else b)
    refine ⟨⟨?_, fun s hs => ?_⟩, ?_⟩
    · refine Int.le_trans h1 ?_; split <;> omega
    · rcases List.mem_cons.1 hs with rfl | hs
      · refine Int.le_trans h1 ?_; split <;> omega
      · exact h2 s hs
    · rcases h3 with h3 | ⟨s, hs, h3⟩
      · by_cases c : g t < b
        · rw [if_pos c] at h3 ⊢; exact .inr ⟨t, by simp, h3⟩
        · rw [if_neg c] at h3 ⊢; exact .inl h3
      · exact .inr ⟨s, by simp [hs], h3⟩
theorem leastF_keep (cost : Nat × Nat → Int) (l : List UInt8) (j : Nat) : ∀ (m k : Nat), l.length ≤ j + k → leastF cost l (k + m) j = leastF cost l k j
  | 0, k, _ => rfl
  | m + 1, k, h => by
    rw [← Nat.add_assoc, leastF]
    simp only
    rw [if_neg (by omega), leastF_keep cost l j m k h]
theorem leastF_at (cost : Nat × Nat → Int) (l : List UInt8) (j : Nat) (hj : j < l.length) : leastF cost l (l.length - j) j = (edgesL l j).foldl (fun best t => if cost t + leastF cost l (l.length - (j + t.1)) (j + t.1) < best then cost t + leastF cost l (l.length - (j + t.1)) (j + t.1) else best) (cost (litT l j) + leastF cost l (l.length - (j + 1)) (j + 1)) := by
  obtain ⟨k, hk⟩ : ∃ k, l.length - j = k + 1 := ⟨l.length - j - 1, by omega⟩
  rw [hk, leastF]
  simp only
  rw [if_pos (by omega)]
  have e1 : leastF cost l k (j + 1) = leastF cost l (l.length - (j + 1)) (j + 1) := by rw [show l.length - (j + 1) = k by omega]
  rw [e1]
  have key : ∀ (es : List (Nat × Nat)) (b : Int), (∀ t ∈ es, 1 ≤ t.1 ∧ j + t.1 ≤ l.length) → es.foldl (fun best t => if cost t + leastF cost l k (j + t.1) < best then cost t + leastF cost l k (j + t.1) else best) b = es.foldl (fun best t => if cost t + leastF cost l (l.length - (j + t.1)) (j + t.1) < best then cost t + leastF cost l (l.length - (j + t.1)) (j + t.1) else best) b := by
    intro es
    induction es with
    | nil => intro b _; rfl
    | cons t es ih =>
      intro b h
      have ht := h t (by simp)
      simp only [List.foldl_cons]
      have e2 : leastF cost l k (j + t.1) = leastF cost l (l.length - (j + t.1)) (j + t.1) := by
        obtain ⟨m, hm⟩ : ∃ m, k = (l.length - (j + t.1)) + m := ⟨k - (l.length - (j + t.1)), by omega⟩
        rw [hm, leastF_keep cost l (j + t.1) m _ (by omega)]
      rw [e2]
      exact ih _ (fun s hs => h s (by simp [hs]))
  exact key _ _ (fun t ht => by have := edge_len ht; omega)
/-- what the cheapest parse costs from a place on -/
def leastAt (cost : Nat × Nat → Int) (l : List UInt8) (j : Nat) : Int := leastF cost l (l.length - j) j
theorem leastAt_le (cost : Nat × Nat → Int) (l : List UInt8) (p : Nat) (hp : p < l.length) {t : Nat × Nat} (ht : Step l p t) : leastAt cost l p ≤ cost t + leastAt cost l (p + stepOf t) := by
  unfold leastAt
  rw [leastF_at cost l p hp]
  have h := (fold_min (fun t => cost t + leastF cost l (l.length - (p + t.1)) (p + t.1)) (edgesL l p) (cost (litT l p) + leastF cost l (l.length - (p + 1)) (p + 1))).1
  rcases ht with rfl | ht
  · exact h.1
  · rw [edge_step ht]; exact h.2 t ht
theorem least_path (cost : Nat × Nat → Int) (l : List UInt8) : ∀ (T : List (Nat × Nat)) (p : Nat), IsPath l p T l.length → leastAt cost l p ≤ sumC cost T
  | [], p, h => by cases h; unfold leastAt; rw [Nat.sub_self]; exact Int.le_refl _
  | t :: T, p, ⟨h1, h2, h3⟩ => by
    have ih := least_path cost l T _ h3
    have h4 := leastAt_le cost l p h1 h2
    have e : sumC cost (t :: T) = cost t + sumC cost T := by simp [sumC]
    omega
theorem least_some (cost : Nat × Nat → Int) (l : List UInt8) : ∀ (f p : Nat), l.length ≤ p + f → p ≤ l.length → ∃ T, IsPath l p T l.length ∧ sumC cost T = leastAt cost l p
  | 0, p, h, hp => by
    obtain rfl : p = l.length := by omega
    exact ⟨[], rfl, by unfold leastAt; rw [Nat.sub_self]; rfl⟩
  | f + 1, p, h, hp => by
    by_cases e : p = l.length
    · subst e; exact ⟨[], rfl, by unfold leastAt; rw [Nat.sub_self]; rfl⟩
    · have hpl : p < l.length := by omega
      have key : ∃ t, Step l p t ∧ p + stepOf t ≤ l.length ∧ leastAt cost l p = cost t + leastAt cost l (p + stepOf t) := by
        unfold leastAt
        rw [leastF_at cost l p hpl]
        rcases (fold_min (fun t => cost t + leastF cost l (l.length - (p + t.1)) (p + t.1)) (edgesL l p) (cost (litT l p) + leastF cost l (l.length - (p + 1)) (p + 1))).2 with h1 | ⟨t, ht, h1⟩
        · exact ⟨litT l p, .inl rfl, by show p + 1 ≤ _; omega, h1⟩
        · have := edge_len ht
          exact ⟨t, .inr ht, by rw [edge_step ht]; omega, by rw [edge_step ht]; exact h1⟩
      obtain ⟨t, h1, h2, h3⟩ := key
      have hs := stepOf_pos t
      obtain ⟨T, p1, p2⟩ := least_some cost l f (p + stepOf t) (by omega) h2
      exact ⟨t :: T, ⟨hpl, h1, p1⟩, by rw [h3, ← p2]; simp [sumC]⟩
/-- the program's price is the document's -/
theorem cheap_least {cost : Nat × Nat → Int} {l : List UInt8} (hc : ∀ p t, Step l p t → 0 ≤ cost t) (hl : ∀ p, p < l.length → cost (litT l p) ≤ 1048576) (hn : l.length ≤ 1000000) :
    IsPath l 0 (cheapL cost l) l.length ∧ sumC cost (cheapL cost l) = leastAt cost l 0 ∧ ∀ T, IsPath l 0 T l.length → sumC cost (cheapL cost l) ≤ sumC cost T := by
  have hi := ways_inv hc hl l.length (Nat.le_refl _)
  obtain ⟨p1, p2⟩ := backL_path hi hn l.length l.length (Nat.le_refl _) (Nat.le_refl _)
  have opt : ∀ T, IsPath l 0 T l.length → sumC cost (cheapL cost l) ≤ sumC cost T := fun T hT => by
    have := ways_opt hi T 0 l.length hT
    rw [hi.zero] at this
    unfold cheapL
    rw [p2]
    simpa using this
  refine ⟨p1, Int.le_antisymm ?_ (least_path cost l _ 0 p1), opt⟩
  obtain ⟨T, t1, t2⟩ := least_some cost l l.length 0 (by omega) (Nat.zero_le _)
  rw [← t2]
  exact opt T t1
end Go.Proofs.Ytheomjoadgfkeaa
