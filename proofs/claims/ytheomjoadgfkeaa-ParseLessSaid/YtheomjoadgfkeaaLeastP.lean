/- Plain: the document's price, place by place. By an AI agent. -/
import Derived.Test.YtheomjoadgfkeaaCheapW
namespace Go.Proofs.Ytheomjoadgfkeaa
open Go.RowKit
set_option linter.unusedVariables false
set_option linter.unusedSimpArgs false

theorem edge_at {l : List UInt8} {p : Nat} (hp : p < l.length) (i : Nat) : (edgesL l p)[i]? = ((nearL l p)[i]?).map (fun d => (3 + i, d)) := by
  unfold edgesL pairsL
  rw [betterL_some, if_pos ⟨by omega, by omega⟩]
  simp only [Int.toNat_natCast]
  have hr : Rising 2 (recs l p) := recs_rising l p (min p 32768)
  have h := pairs_at 2 (recs l p) hr i
  rw [h]
  unfold nearL
  congr 1
theorem edge_count {l : List UInt8} {p : Nat} (hp : p < l.length) : (edgesL l p).length = (nearL l p).length := by
  refine Nat.le_antisymm ?_ ?_
  · have := edge_at hp (nearL l p).length
    rw [List.getElem?_eq_none (Nat.le_refl _), Option.map_none] at this
    exact List.getElem?_eq_none_iff.1 this
  · have := edge_at hp (edgesL l p).length
    rw [List.getElem?_eq_none (Nat.le_refl _)] at this
    exact List.getElem?_eq_none_iff.1 (Option.map_eq_none_iff.1 this.symm)
def betterF (cost : Nat × Nat → Int) (l : List UInt8) (p : Nat) (best : Int) (t : Nat × Nat) : Int := if cost t + leastAt cost l (p + t.1) < best then cost t + leastAt cost l (p + t.1) else best
def bestF (cost : Nat × Nat → Int) (l : List UInt8) (p i : Nat) : Int := ((edgesL l p).take i).foldl (betterF cost l p) (cost (litT l p) + leastAt cost l (p + 1))
theorem best_0 (cost : Nat × Nat → Int) (l : List UInt8) (p : Nat) : bestF cost l p 0 = cost (litT l p) + leastAt cost l (p + 1) := rfl
theorem best_succ (cost : Nat × Nat → Int) (l : List UInt8) (p i : Nat) (t : Nat × Nat) (h : (edgesL l p)[i]? = some t) : bestF cost l p (i + 1) = betterF cost l p (bestF cost l p i) t := by
  obtain ⟨hi, he⟩ := List.getElem?_eq_some_iff.1 h
  unfold bestF
  rw [List.take_succ_eq_append_getElem hi, List.foldl_append, he]
  rfl
theorem best_all (cost : Nat × Nat → Int) (l : List UInt8) (p : Nat) (hp : p < l.length) : bestF cost l p (edgesL l p).length = leastAt cost l p := by
  unfold bestF
  rw [List.take_length]
  unfold leastAt
  rw [leastF_at cost l p hp]
  rfl
theorem least_end (cost : Nat × Nat → Int) (l : List UInt8) : leastAt cost l l.length = 0 := by unfold leastAt; rw [Nat.sub_self]; rfl
theorem sum_nonneg {a b c : List Int} (hg : goodP a b c = true) {l : List UInt8} : ∀ (T : List (Nat × Nat)) (p q : Nat), IsPath l p T q → 0 ≤ sumC (costN a b c) T
  | [], p, q, h => by simp [sumC]
  | t :: T, p, q, ⟨_, h, h3⟩ => by
    have h1 := sum_nonneg hg T _ q h3
    have h2 := cost_pos hg p t h
    have e : sumC (costN a b c) (t :: T) = costN a b c t + sumC (costN a b c) T := by simp [sumC]
    omega
theorem least_in {a b c : List Int} (hg : goodP a b c = true) {l : List UInt8} : ∀ (k p : Nat), p + k = l.length → 0 ≤ leastAt (costN a b c) l p ∧ leastAt (costN a b c) l p ≤ 1048576 * (k : Int)
  | 0, p, h => by obtain rfl : p = l.length := by omega
                  rw [least_end]; simp
  | k + 1, p, h => by
    obtain ⟨h1, h2⟩ := least_in hg (l := l) k (p + 1) (by omega)
    have h3 := leastAt_le (costN a b c) l p (by omega) (t := litT l p) (.inl rfl)
    have h4 := cost_lit hg (l := l) p (by omega)
    have e : stepOf (litT l p) = 1 := rfl
    rw [e] at h3
    refine ⟨?_, by have : ((k + 1 : Nat) : Int) = (k : Int) + 1 := by omega
                   rw [this]; omega⟩
    obtain ⟨T, t1, t2⟩ := least_some (costN a b c) l l.length p (by omega) (by omega)
    rw [← t2]
    exact sum_nonneg hg T p _ t1
theorem best_in {a b c : List Int} (hg : goodP a b c = true) {l : List UInt8} {p : Nat} (hp : p < l.length) : ∀ (i : Nat), 0 ≤ bestF (costN a b c) l p i ∧ bestF (costN a b c) l p i ≤ 1048576 * (l.length : Int)
  | 0 => by
    obtain ⟨h1, h2⟩ := least_in hg (l := l) (l.length - (p + 1)) (p + 1) (by omega)
    have h3 := cost_pos hg (l := l) p (litT l p) (.inl rfl)
    have h4 := cost_lit hg (l := l) p hp
    rw [best_0]
    omega
  | i + 1 => by
    obtain ⟨h1, h2⟩ := best_in hg hp i
    cases he : (edgesL l p)[i]? with
    | none =>
      have : bestF (costN a b c) l p (i + 1) = bestF (costN a b c) l p i := by
        unfold bestF
        rw [List.take_of_length_le (by have := List.getElem?_eq_none_iff.1 he; omega), List.take_of_length_le (List.getElem?_eq_none_iff.1 he)]
      rw [this]; exact ⟨h1, h2⟩
    | some t =>
      rw [best_succ _ _ _ _ t he]
      have hs : Step l p t := .inr (List.mem_of_getElem? he)
      have h3 := cost_pos hg p t hs
      obtain ⟨h4, _⟩ := least_in hg (l := l) (l.length - (p + t.1)) (p + t.1) (by have := edge_len (List.mem_of_getElem? he); omega)
      unfold betterF
      split <;> omega
/-- the row, from place j on -/
def rowL (cost : Nat × Nat → Int) (l : List UInt8) (j i : Nat) : Value := .int .i64 (if j ≤ i then leastAt cost l i else 0)
end Go.Proofs.Ytheomjoadgfkeaa
