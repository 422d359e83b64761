/- How often symbols stand: plain. By an AI agent. -/
import Derived.Test.YtheomjoadgfkeaaGoodT
import Derived.Test.YtheomjoadgfkeaaTok
import Derived.Deep.OwnRows
namespace Go.Proofs.Ytheomjoadgfkeaa
open Go.RowKit
set_option linter.unusedVariables false
set_option linter.unusedSimpArgs false

def symL (t : Int × Int) : Option Nat := if goodT t.1 t.2 then (if t.1 = 0 then some t.2.toNat else some (257 + symN lensN t.1.toNat)) else none
def symD (t : Int × Int) : Option Nat := if goodT t.1 t.2 then (if t.1 = 0 then none else some (0 + symN distsN t.2.toNat)) else none
def cntOf (s : Int × Int → Option Nat) (ts : List (Int × Int)) (j : Nat) : Nat := ts.countP fun t => s t == some j
theorem cntOf_le (s : Int × Int → Option Nat) (ts : List (Int × Int)) (j : Nat) : cntOf s ts j ≤ ts.length := List.countP_le_length
theorem cntOf_step (s : Int × Int → Option Nat) (ts : List (Int × Int)) (k : Nat) (h : k < ts.length) (j : Nat) : cntOf s (ts.take (k + 1)) j = cntOf s (ts.take k) j + if s ts[k] = some j then 1 else 0 := by
  unfold cntOf
  rw [List.take_succ_eq_append_getElem h, List.countP_append]
  congr 1
  by_cases e : s ts[k] = some j <;> simp [List.countP_cons, e]
/-- the numbers in a row behind k tokens -/
def cF (s : Int × Int → Option Nat) (e : Nat) (ts : List (Int × Int)) (k j : Nat) : Nat := cntOf s (ts.take k) j + if j = e then 1 else 0
def cV (s : Int × Int → Option Nat) (e : Nat) (ts : List (Int × Int)) (k j : Nat) : Value := .int .i64 (cF s e ts k j : Nat)
theorem cF_le (s : Int × Int → Option Nat) (e : Nat) (ts : List (Int × Int)) (k j : Nat) : cF s e ts k j ≤ k + 1 := by
  have := cntOf_le s (ts.take k) j
  have h2 : (ts.take k).length ≤ k := List.length_take_le _ _
  unfold cF
  split <;> omega
theorem cF_none (s : Int × Int → Option Nat) (e : Nat) (ts : List (Int × Int)) (k : Nat) (h : k < ts.length) (hs : s ts[k] = none) (j : Nat) : cF s e ts (k + 1) j = cF s e ts k j := by
  unfold cF
  rw [cntOf_step s ts k h, hs]
  simp
theorem cF_some (s : Int × Int → Option Nat) (e : Nat) (ts : List (Int × Int)) (k : Nat) (h : k < ts.length) {m : Nat} (hs : s ts[k] = some m) (j : Nat) : cF s e ts (k + 1) j = if j = m then cF s e ts k m + 1 else cF s e ts k j := by
  unfold cF
  rw [cntOf_step s ts k h, hs]
  by_cases hj : j = m
  · subst hj; simp; omega
  · rw [if_neg hj, if_neg (by intro h; exact hj (Option.some.inj h).symm)]; simp
theorem row_none {W : World} {g n : Nat} {t : TypeId} (s : Int × Int → Option Nat) (e : Nat) (ts : List (Int × Int)) (k : Nat) (h : k < ts.length) (hs : s ts[k] = none) (hr : W.rowIs g t n (cV s e ts k)) : W.rowIs g t n (cV s e ts (k + 1)) :=
  hr.congr fun j _ => by unfold cV; rw [cF_none s e ts k h hs]
theorem row_some {W : World} {g n : Nat} {t : TypeId} (s : Int × Int → Option Nat) (e : Nat) (ts : List (Int × Int)) (k : Nat) (h : k < ts.length) {m : Nat} (hs : s ts[k] = some m) (hr : W.rowIs g t n (cV s e ts k)) :
    (W.setCell ⟨g, m, none⟩ (.int .i64 ((cF s e ts k m : Nat) + 1))).rowIs g t n (cV s e ts (k + 1)) :=
  (hr.set m _).congr fun j _ => by
    unfold cV
    rw [cF_some s e ts k h hs]
    by_cases hj : j = m
    · rw [if_pos hj, if_pos hj]; rfl
    · rw [if_neg hj, if_neg hj]
/-- all the numbers -/
def cL (s : Int × Int → Option Nat) (e : Nat) (ts : List (Int × Int)) (n : Nat) : List Int := (List.range n).map fun j => ((cF s e ts ts.length j : Nat) : Int)
theorem cL_ns {W : World} {g n : Nat} {t : TypeId} (s : Int × Int → Option Nat) (e : Nat) (ts : List (Int × Int)) (hr : W.rowIs g t n (cV s e ts ts.length)) (hn : 0 < n) : Ns W (.slice (some ⟨g, 0, none⟩) n n) (cL s e ts n) := by
  have hl : (cL s e ts n).length = n := by simp [cL]
  refine ⟨by simp [vIs_length], ?_⟩
  rw [hl]
  refine .inr ⟨g, 0, n, rfl, Nat.le_refl _, hn, fun i u hu => ?_⟩
  have hi : i < n := by have := (List.getElem?_eq_some_iff.1 hu).1; simpa [vIs_length, hl] using this
  rw [Nat.zero_add, hr.cell hi, ← hu]
  simp [vIs, vI, cL, hi, cV]

/-- which tokens there are -/
theorem tok_cases (a b : Int) :
    (a = 0 ∧ 0 ≤ b ∧ b < 256 ∧ symL (a, b) = some b.toNat ∧ symD (a, b) = none) ∨
    (a = 0 ∧ (b < 0 ∨ 256 ≤ b) ∧ symL (a, b) = none ∧ symD (a, b) = none) ∨
    (a ≠ 0 ∧ (a < 3 ∨ 258 < a) ∧ symL (a, b) = none ∧ symD (a, b) = none) ∨
    (a ≠ 0 ∧ 3 ≤ a ∧ a ≤ 258 ∧ (b < 1 ∨ 32768 < b) ∧ symL (a, b) = none ∧ symD (a, b) = none) ∨
    (3 ≤ a ∧ a ≤ 258 ∧ 1 ≤ b ∧ b ≤ 32768 ∧ symL (a, b) = some (257 + symN lensN a.toNat) ∧ symD (a, b) = some (0 + symN distsN b.toNat)) := by
  have no : goodT a b = false → symL (a, b) = none ∧ symD (a, b) = none := fun h => by simp [symL, symD, h]
  by_cases h0 : a = 0
  · by_cases hb : 0 ≤ b ∧ b < 256
    · have hg : goodT a b = true := by unfold goodT; rw [if_pos h0]; simpa using hb
      exact .inl ⟨h0, hb.1, hb.2, by unfold symL; rw [if_pos hg, if_pos h0], by unfold symD; rw [if_pos hg, if_pos h0]⟩
    · have hg : goodT a b = false := by unfold goodT; rw [if_pos h0]; simpa using hb
      exact .inr (.inl ⟨h0, by omega, no hg⟩)
  · by_cases ha : 3 ≤ a ∧ a ≤ 258
    · by_cases hb : 1 ≤ b ∧ b ≤ 32768
      · have hg : goodT a b = true := by unfold goodT; rw [if_neg h0]; simp; omega
        exact .inr (.inr (.inr (.inr ⟨ha.1, ha.2, hb.1, hb.2, by simp [symL, hg, h0], by simp [symD, hg, h0]⟩)))
      · have hg : goodT a b = false := by unfold goodT; rw [if_neg h0, decide_eq_false_iff_not]; omega
        exact .inr (.inr (.inr (.inl ⟨h0, ha.1, ha.2, by omega, no hg⟩)))
    · have hg : goodT a b = false := by unfold goodT; rw [if_neg h0, decide_eq_false_iff_not]; omega
      exact .inr (.inr (.inl ⟨h0, by omega, no hg⟩))
theorem lens_lt (n : Nat) (h : 3 ≤ n) : symN lensN n < 29 := (sym_facts lensN lens_sorted (by decide) n (by show 3 ≤ n; exact h)).1
theorem dists_lt (n : Nat) (h : 1 ≤ n) : symN distsN n < 30 := (sym_facts distsN dists_sorted (by decide) n (by show 1 ≤ n; exact h)).1
end Go.Proofs.Ytheomjoadgfkeaa
