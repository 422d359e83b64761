/- Plain: paths of the greedy parse and of the literals; what a step tells of the text. By an AI agent. -/
import Derived.Test.YtheomjoadgfkeaaGreed
namespace Go.Proofs.Ytheomjoadgfkeaa
open Go.RowKit
set_option linter.unusedVariables false
set_option linter.unusedSimpArgs false

theorem greed_step (l : List UInt8) (p : Nat) (hp : p < l.length) : Step l p (greedT l p) := by
  rcases near_both l (p : Int) with ⟨_, h0⟩ | ⟨t, n, h1, h2, h3, h4, h5, h6, h7⟩
  · left
    unfold greedT
    rw [h0]
    rfl
  · right
    unfold greedT
    rw [h1, if_pos (by omega)]
    have hr : Rising 2 (recs l p) := recs_rising l p (min p 32768)
    have e := pairs_at 2 (recs l p) hr (n - 1)
    change (pairs 2 (recs l p))[n - 1]? = ((nearL l p)[n - 1]?).map _ at e
    have en : nearI l (p : Int) = (nearL l p).map fun d : Nat => (d : Int) := by
      show (if 0 ≤ (p : Int) ∧ (p : Int) < l.length then _ else _) = _
      rw [if_pos (by omega)]
      rfl
    rw [en, List.getElem?_map] at h6
    cases hx : (nearL l p)[n - 1]? with
    | none => rw [hx] at h6; simp at h6
    | some d =>
      rw [hx] at h6 e
      simp only [Option.map_some, Option.some.injEq] at h6 e
      have ed : d = t.2 := by omega
      have et : (2 + 1 + (n - 1), d) = t := by
        obtain ⟨a, b⟩ := t
        simp only at h5 ed
        rw [ed, Prod.mk.injEq]; omega
      rw [et] at e
      have hm := List.mem_of_getElem? e
      unfold edgesL pairsL
      rw [betterL_some, if_pos (by omega)]
      simpa using hm
/-- what a step tells -/
theorem step_tells {l : List UInt8} {p : Nat} {t : Nat × Nat} (hp : p < l.length) (h : Step l p t) :
    p + stepOf t ≤ l.length ∧ (0 < t.1 → 1 ≤ t.2 ∧ t.2 ≤ p ∧ stepOf t = t.1 ∧ ∀ k, k < t.1 → l.getD (p + k - t.2) 0 = l.getD (p + k) 0) ∧ (t.1 = 0 → stepOf t = 1 ∧ t.2 = (l.getD p 0).toNat) := by
  rcases h with rfl | h
  · exact ⟨by show p + 1 ≤ _; omega, fun h => absurd h (Nat.lt_irrefl 0), fun _ => ⟨rfl, rfl⟩⟩
  · obtain ⟨h1, h2, h3, h4, h5, h6, h7, h8⟩ := edge_len h
    have hs := edge_step h
    refine ⟨by omega, fun _ => ⟨h3, h5, hs, fun k hk => ?_⟩, fun h0 => by omega⟩
    have := ((common_iff l (p - t.2) p t.1 h2).1 h6 k hk).2
    rw [show p + k - t.2 = p - t.2 + k by omega]
    exact this
theorem greedF_path (l : List UInt8) : ∀ (f p : Nat), l.length ≤ p + f → p ≤ l.length → IsPath l p (greedF l f p) l.length
  | 0, p, h, hp => by
    have : p = l.length := by omega
    subst this; rfl
  | f + 1, p, h, hp => by
    rw [greedF]
    by_cases hpl : p < l.length
    · rw [if_pos hpl]
      have hs := greed_step l p hpl
      have ht := step_tells hpl hs
      have h1 := stepOf_pos (greedT l p)
      exact ⟨hpl, hs, greedF_path l f _ (by omega) ht.1⟩
    · rw [if_neg hpl]
      show p = l.length
      omega
theorem greed_path (l : List UInt8) : IsPath l 0 (greedL l) l.length := greedF_path l l.length 0 (by omega) (Nat.zero_le _)
/-- the literals -/
def litsF (l : List UInt8) : List (Nat × Nat) := l.map fun c => (0, c.toNat)
theorem lits_path (l : List UInt8) : ∀ (k p : Nat), p + k = l.length → IsPath l p ((l.drop p).map fun c => (0, c.toNat)) l.length
  | 0, p, h => by
    rw [List.drop_of_length_le (by omega)]
    show p = _
    omega
  | k + 1, p, h => by
    have hp : p < l.length := by omega
    rw [List.drop_eq_getElem_cons hp, List.map_cons]
    refine ⟨hp, .inl ?_, lits_path l k (p + 1) (by omega)⟩
    unfold litT
    rw [List.getD_eq_getElem?_getD, List.getElem?_eq_getElem hp]
    rfl
theorem path_len2 (l : List UInt8) : ∀ (T : List (Nat × Nat)) (p q : Nat), IsPath l p T q → p ≤ q ∧ p + T.length ≤ q
  | [], p, q, h => by cases h; simp
  | t :: T, p, q, ⟨_, _, h⟩ => by
    have := path_len2 l T _ q h
    have := stepOf_pos t
    simp only [List.length_cons]
    omega
theorem take_more (l : List UInt8) (p : Nat) (hp : p < l.length) : l.take (p + 1) = l.take p ++ [l.getD p 0] := by
  rw [List.take_succ_eq_append_getElem hp, List.getD_eq_getElem?_getD, List.getElem?_eq_getElem hp]; rfl
end Go.Proofs.Ytheomjoadgfkeaa
