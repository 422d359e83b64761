/- Plain: the nearest matches as pairs of a length and a distance. By an AI agent. -/
import Derived.Test.YtheomjoadgfkeaaBetter
namespace Go.Proofs.Ytheomjoadgfkeaa
open Go.RowKit
set_option linter.unusedVariables false
set_option linter.unusedSimpArgs false

/-- k lengths from b + 1 on, at one distance -/
def run (b d k : Nat) : List (Nat × Nat) := (List.range k).map fun i => (b + 1 + i, d)
theorem run_succ (b d k : Nat) : run b d (k + 1) = run b d k ++ [(b + 1 + k, d)] := by simp [run, List.range_succ]
theorem run_len (b d k : Nat) : (run b d k).length = k := by simp [run]
theorem run_pre (b d k m : Nat) (h : k ≤ m) : run b d k <+: run b d m := by
  obtain ⟨j, rfl⟩ : ∃ j, m = k + j := ⟨m - k, by omega⟩
  induction j with
  | zero => exact List.prefix_rfl
  | succ j ih => exact (ih (by omega)).trans (by rw [← Nat.add_assoc, run_succ]; exact List.prefix_append _ _)
def pairs : Nat → List (Nat × Nat) → List (Nat × Nat)
  | _, [] => []
  | b, t :: r => run b t.2 (t.1 - b) ++ pairs t.1 r
def lastB (b : Nat) (r : List (Nat × Nat)) : Nat := match r.getLast? with | none => b | some t => t.1
theorem lastB_cons (b : Nat) (t : Nat × Nat) (r : List (Nat × Nat)) : lastB b (t :: r) = lastB t.1 r := by
  unfold lastB
  cases r with
  | nil => rfl
  | cons y r => rw [List.getLast?_cons_cons]; cases h : (y :: r).getLast? with
    | none => simp at h
    | some z => rfl
theorem pairs_snoc : ∀ (b : Nat) (r : List (Nat × Nat)) (x : Nat × Nat), pairs b (r ++ [x]) = pairs b r ++ run (lastB b r) x.2 (x.1 - lastB b r)
  | b, [], x => by simp [pairs, lastB]
  | b, t :: r, x => by rw [List.cons_append, pairs, pairs, pairs_snoc t.1 r x, lastB_cons, List.append_assoc]
theorem pairs_pre : ∀ (b : Nat) (r s : List (Nat × Nat)), r <+: s → pairs b r <+: pairs b s
  | b, r, s, ⟨t, h⟩ => by
    subst h
    induction r generalizing b with
    | nil => exact List.nil_prefix
    | cons x r ih => rw [List.cons_append, pairs, pairs, List.prefix_append_right_inj]; exact ih x.1
theorem lastB_best (r : List (Nat × Nat)) : lastB 2 r = bestOf r := rfl
/-- all of them -/
def pairsL (lo : Option (List UInt8)) (p : Int) : List (Nat × Nat) := pairs 2 (betterL lo p)
theorem pairs_at : ∀ (b : Nat) (r : List (Nat × Nat)), Rising b r → ∀ i, (pairs b r)[i]? = (expand b r)[i]?.map fun d => (b + 1 + i, d)
  | b, [], _, i => by simp [pairs, expand]
  | b, t :: r, h, i => by
    rw [pairs, expand]
    by_cases hi : i < t.1 - b
    · rw [List.getElem?_append_left (by rw [run_len]; exact hi), List.getElem?_append_left (by simpa using hi)]
      simp [run, hi]
    · have hb := h.1
      rw [List.getElem?_append_right (by rw [run_len]; omega), List.getElem?_append_right (by simp; omega), run_len, List.length_replicate, pairs_at t.1 r h.2]
      rw [show t.1 + 1 + (i - (t.1 - b)) = b + 1 + i by omega]
theorem betterL_some (l : List UInt8) (p : Int) : betterL (some l) p = if 0 ≤ p ∧ p < (l.length : Int) then recs l p.toNat else [] := rfl
theorem rec_next {lo : Option (List UInt8)} {p : Int} {pre : List (Nat × Nat)} {x : Nat × Nat} (h : pre ++ [x] <+: betterL lo p) : bestOf pre < x.1 ∧ 3 ≤ x.1 ∧ x.1 ≤ 258 ∧ 1 ≤ x.2 ∧ x.2 ≤ 32768 ∧ 2 ≤ bestOf pre := by
  cases lo with
  | none => exact absurd h.length_le (by simp [betterL])
  | some l =>
    rw [betterL_some] at h
    by_cases hok : 0 ≤ p ∧ p < (l.length : Int)
    · rw [if_pos hok] at h
      unfold recs at h
      obtain ⟨t, ht⟩ := h
      have hx := recs_ok l p.toNat _ x (by rw [← ht]; simp)
      have hr := recs_rising l p.toNat (min p.toNat 32768)
      rw [← ht] at hr
      have key : ∀ (b : Nat) (q : List (Nat × Nat)), Rising b (q ++ [x] ++ t) → lastB b q < x.1 ∧ b ≤ lastB b q := by
        intro b q
        induction q generalizing b with
        | nil => intro h; exact ⟨h.1, Nat.le_refl _⟩
        | cons y q ih => intro h; rw [lastB_cons]; have := ih y.1 h.2; have h1 := h.1; omega
      obtain ⟨k1, k2⟩ := key 2 pre hr
      exact ⟨k1, hx.1, hx.2.1, hx.2.2.1, by have := hx.2.2.2.1; omega, k2⟩
    · rw [if_neg hok] at h
      exact absurd h.length_le (by simp)
end Go.Proofs.Ytheomjoadgfkeaa
