/- The order of chunks: the code, plain. By an AI agent. -/
import Derived.Test.YtlgjjoglajgbeaaDoorOrdP
import Derived.Test.YtlgjjoglajgbeaaDoorHeadT
import Derived.Test.YtlgjjoglajgbeaaDoorCrit
namespace Go.Proofs.YtlgjjoglajgbeaaDoor
open Go.RowKit
set_option linter.unusedVariables false
set_option linter.unusedSimpArgs false

def atC (cs : List Chk) (i : Nat) : Chk := cs.getD i ([], [])
theorem atC_get (cs : List Chk) (i : Nat) (h : i < cs.length) : atC cs i = cs[i] := by unfold atC; simp [h]
def stepO (C D : Int) (cs : List Chk) (i : Nat) : Int :=
  if !smallU ((atC cs i).1.getD 0 0) && !knownL.contains (atC cs i).1 then 3 else if wrongB C D (cs.take i) (atC cs i) then 2 else 0
def endO (C : Int) (cs : List Chk) : Int := if cnt1 nIDAT cs = 0 ∨ (C = 3 ∧ cnt1 nPLTE cs = 0) then 2 else 0
def runC (s : Nat → Int) (e : Int) : Nat → Nat → Int
  | i, 0 => e
  | i, k + 1 => if s i = 0 then runC s e (i + 1) k else s i
theorem run_bad (s : Nat → Int) (e : Int) : ∀ (k i m : Nat), (∀ j, i ≤ j → j < m → s j = 0) → i ≤ m → m < i + k → s m ≠ 0 → runC s e i k = s m
  | 0, i, m, _, h1, h2, _ => by omega
  | k + 1, i, m, h, h1, h2, h3 => by
    unfold runC
    by_cases hi : i = m
    · subst hi; rw [if_neg h3]
    · rw [if_pos (h i (Nat.le_refl _) (by omega))]
      exact run_bad s e k (i + 1) m (fun j hj hl => h j (by omega) hl) (by omega) (by omega) h3
theorem run_end (s : Nat → Int) (e : Int) : ∀ (k i : Nat), (∀ j, i ≤ j → j < i + k → s j = 0) → runC s e i k = e
  | 0, i, _ => rfl
  | k + 1, i, h => by
    unfold runC
    rw [if_pos (h i (Nat.le_refl _) (by omega))]
    exact run_end s e k (i + 1) (fun j hj hl => h j (by omega) (by omega))
def colorO (cs : List Chk) : Int := bOf (atC cs 0).2 9
def depthO (cs : List Chk) : Int := bOf (atC cs 0).2 8
def tailO (cs : List Chk) : Int := runC (stepO (colorO cs) (depthO cs) cs) (endO (colorO cs) cs) 1 (cs.length - 1)
def orderC (cs : List Chk) : Int :=
  if goodL cs = false then 6 else if (atC cs 0).1 ≠ nIHDR then 2 else if takeC (atC cs 0).2 ≠ 0 then takeC (atC cs 0).2 else tailO cs
def orderV (cs : List Chk) : Value := if orderC cs = 0 then takeV (atC cs 0).2 else headV 0 0 0 0 0
theorem order_bad {cs : List Chk} (h : goodL cs = false) : orderC cs = 6 ∧ orderV cs = headV 0 0 0 0 0 := by
  have e : orderC cs = 6 := by unfold orderC; rw [if_pos h]
  exact ⟨e, by unfold orderV; rw [e, if_neg (by decide)]⟩
theorem order_first {cs : List Chk} (h : goodL cs = true) (h1 : (atC cs 0).1 ≠ nIHDR) : orderC cs = 2 ∧ orderV cs = headV 0 0 0 0 0 := by
  have e : orderC cs = 2 := by unfold orderC; rw [if_neg (by rw [h]; decide), if_pos h1]
  exact ⟨e, by unfold orderV; rw [e, if_neg (by decide)]⟩
theorem order_head {cs : List Chk} (h : goodL cs = true) (h1 : (atC cs 0).1 = nIHDR) (h2 : takeC (atC cs 0).2 ≠ 0) : orderC cs = takeC (atC cs 0).2 ∧ orderV cs = headV 0 0 0 0 0 := by
  have e : orderC cs = takeC (atC cs 0).2 := by unfold orderC; rw [if_neg (by rw [h]; decide), if_neg (fun hn => hn h1), if_pos h2]
  exact ⟨e, by unfold orderV; rw [e, if_neg h2]⟩
theorem order_tail {cs : List Chk} (h : goodL cs = true) (h1 : (atC cs 0).1 = nIHDR) (h2 : takeC (atC cs 0).2 = 0) : orderC cs = tailO cs := by
  unfold orderC; rw [if_neg (by rw [h]; decide), if_neg (fun hn => hn h1), if_neg (fun hn => hn h2)]
/-- a step of the walk is the document's -/
theorem step_eq {C D : Int} {cs : List Chk} {i : Nat} {f : List UInt8 → Nat} {pal : Nat} {en : Bool} (hg : goodL cs = true) (hi : i < cs.length) (h : Seen (cs.take i) f pal en) :
    (if criticalB (atC cs i).1 && !knownL.contains (atC cs i).1 then (3 : Int) else if badW C D f pal en (atC cs i) then 2 else 0) = stepO C D cs i := by
  have hn : namedB (atC cs i).1 = true := by
    have h1 := ((goodL_iff cs).1 hg).2 i hi
    rw [okAt_get cs i hi] at h1
    rw [atC_get cs i hi]
    unfold okC at h1
    simp only [Bool.and_eq_true] at h1
    exact h1.1.1
  have hc : criticalB (atC cs i).1 = !smallU ((atC cs i).1.getD 0 0) := by
    unfold criticalB smallAt
    rw [hn]; simp
  unfold stepO
  rw [hc, h.bad]
theorem good_head {cs : List Chk} (hg : goodL cs = true) (h1 : (atC cs 0).1 = nIHDR) : 2 ≤ cs.length := by
  rcases cs with _ | ⟨c, _ | ⟨d, r⟩⟩
  · simp [goodL] at hg
  · exfalso
    have : c.1 = nIHDR := h1
    unfold goodL endOk at hg
    rw [this] at hg
    have e : decide (nIHDR = iend) = false := by decide
    rw [e] at hg
    simp at hg
  · simp
end Go.Proofs.YtlgjjoglajgbeaaDoor
