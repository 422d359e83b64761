/- How many columns and rows a pass has: plain mathematics. By an AI agent. -/
import Derived.Test.YtfmkcpilljfidaaPass
namespace Go.Proofs.Ytfmkcpilljfidaa

def nX (p : Nat) : Nat := ([0, 4, 0, 2, 0, 1, 0] : List Nat).getD p 0
def nDx (p : Nat) : Nat := ([8, 8, 4, 4, 2, 2, 1] : List Nat).getD p 0
def nY (p : Nat) : Nat := ([0, 0, 4, 0, 2, 0, 1] : List Nat).getD p 0
def nDy (p : Nat) : Nat := ([8, 8, 8, 4, 4, 2, 2] : List Nat).getD p 0
def alongN (n first step : Nat) : Nat := if n ≤ first then 0 else (n - first + step - 1) / step
def colsN (p n : Nat) : Nat := alongN n (nX p) (nDx p)
def rowsH (p n : Nat) : Nat := alongN n (nY p) (nDy p)
/-- a pass's columns and rows -/
def sizeN (p W H : Nat) : Nat × Nat := if colsN p W = 0 ∨ rowsH p H = 0 then (0, 0) else (colsN p W, rowsH p H)

theorem passOf_res : ∀ p < 7, ∀ x < 8, ∀ y < 8, (passOf x y = p ↔ y % nDy p = nY p ∧ x % nDx p = nX p) := by decide +kernel
theorem nD_dvd : ∀ p < 7, 8 % nDx p = 0 ∧ 8 % nDy p = 0 ∧ nX p < nDx p ∧ nY p < nDy p ∧ nY p < 8 ∧ nX p < 8 ∧ 0 < nDx p ∧ 0 < nDy p := by decide +kernel
theorem passOf_mod8 (x y : Nat) : passOf x y = passOf (x % 8) (y % 8) := by unfold passOf; rw [Nat.mod_mod, Nat.mod_mod]
theorem passOf_iff (p x y : Nat) (hp : p < 7) : passOf x y = p ↔ y % nDy p = nY p ∧ x % nDx p = nX p := by
  rw [passOf_mod8, passOf_res p hp (x % 8) (Nat.mod_lt _ (by decide)) (y % 8) (Nat.mod_lt _ (by decide))]
  obtain ⟨h1, h2, _⟩ := nD_dvd p hp
  rw [Nat.mod_mod_of_dvd x (Nat.dvd_of_mod_eq_zero h1), Nat.mod_mod_of_dvd y (Nat.dvd_of_mod_eq_zero h2)]

def colN (p y : Nat) : Nat → Nat
  | 0 => 0
  | n + 1 => colN p y n + (if passOf n y = p then 1 else 0)
theorem colN_le (p y n : Nat) : colN p y n ≤ n := by
  induction n with
  | zero => exact Nat.le_refl _
  | succ n ih => unfold colN; split <;> omega
theorem colsN_succ (p n : Nat) (hp : p < 7) : colsN p (n + 1) = colsN p n + (if n % nDx p = nX p then 1 else 0) := by
  rcases (by omega : p = 0 ∨ p = 1 ∨ p = 2 ∨ p = 3 ∨ p = 4 ∨ p = 5 ∨ p = 6) with rfl | rfl | rfl | rfl | rfl | rfl | rfl <;>
    simp only [colsN, alongN, nX, nDx, List.getD_cons_zero, List.getD_cons_succ] <;> split <;> split <;> split <;> omega
theorem colN_eq (p y n : Nat) (hp : p < 7) : colN p y n = if y % nDy p = nY p then colsN p n else 0 := by
  induction n with
  | zero =>
    have : colsN p 0 = 0 := by unfold colsN alongN; rw [if_pos (Nat.zero_le _)]
    unfold colN
    rw [this]; split <;> rfl
  | succ n ih =>
    unfold colN
    rw [ih, colsN_succ p n hp]
    by_cases h : y % nDy p = nY p
    · rw [if_pos h, if_pos h]
      by_cases h2 : n % nDx p = nX p
      · rw [if_pos ((passOf_iff p n y hp).2 ⟨h, h2⟩), if_pos h2]
      · rw [if_neg (fun e => h2 ((passOf_iff p n y hp).1 e).2), if_neg h2]
    · rw [if_neg h, if_neg h, if_neg (fun e => h ((passOf_iff p n y hp).1 e).1)]

/-- what the reference's counters hold after m rows of the table -/
def wAt (p W H m : Nat) : Nat := if nY p < m ∧ nY p < H then colsN p W else 0
def hAt (p H : Nat) : Nat → Nat
  | 0 => 0
  | m + 1 => hAt p H m + (if m % nDy p = nY p then (H - m + 7) / 8 else 0)
theorem wAt_succ (p W H m : Nat) (hp : p < 7) : wAt p W H (m + 1) = if 0 < colN p m W ∧ wAt p W H m = 0 ∧ m < H then colN p m W else wAt p W H m := by
  rw [colN_eq p m W hp]
  obtain ⟨_, _, _, h4, _⟩ := nD_dvd p hp
  have hself : nY p % nDy p = nY p := Nat.mod_eq_of_lt h4
  have hle : m % nDy p = nY p → nY p ≤ m := fun h => h ▸ Nat.mod_le _ _
  unfold wAt
  by_cases h : m % nDy p = nY p
  · rw [if_pos h]
    have := hle h
    by_cases e : nY p = m
    · by_cases hH : m < H
      · rw [if_pos ⟨by omega, by omega⟩, if_neg (by omega : ¬(nY p < m ∧ nY p < H))]
        by_cases hc : 0 < colsN p W
        · rw [if_pos ⟨hc, rfl, hH⟩]
        · rw [if_neg (fun x => hc x.1)]; omega
      · rw [if_neg (by omega : ¬(nY p < m + 1 ∧ nY p < H)), if_neg (fun x => hH x.2.2), if_neg (by omega)]
    · by_cases hH : nY p < H
      · have e1 : (if nY p < m ∧ nY p < H then colsN p W else 0) = colsN p W := if_pos ⟨by omega, hH⟩
        have e2 : (if nY p < m + 1 ∧ nY p < H then colsN p W else 0) = colsN p W := if_pos ⟨by omega, hH⟩
        rw [e1, e2]
        split <;> rfl
      · have e1 : (if nY p < m ∧ nY p < H then colsN p W else 0) = 0 := if_neg (fun x => hH x.2)
        have e2 : (if nY p < m + 1 ∧ nY p < H then colsN p W else 0) = 0 := if_neg (fun x => hH x.2)
        rw [e1, e2, if_neg (fun x => hH (by omega))]
  · rw [if_neg h]
    have hne : nY p ≠ m := fun e => h (e ▸ hself)
    have e0 : ∀ (q : Prop) [Decidable q] (a b : Nat), (if 0 < 0 ∧ q then a else b) = b := fun q _ a b => if_neg (fun x => Nat.lt_irrefl 0 x.1)
    rw [e0]
    by_cases hh : nY p < m ∧ nY p < H
    · have e1 : (if nY p < m ∧ nY p < H then colsN p W else 0) = colsN p W := if_pos hh
      have e2 : (if nY p < m + 1 ∧ nY p < H then colsN p W else 0) = colsN p W := if_pos ⟨by omega, hh.2⟩
      rw [e1, e2]
    · have e1 : (if nY p < m ∧ nY p < H then colsN p W else 0) = 0 := if_neg hh
      have e2 : (if nY p < m + 1 ∧ nY p < H then colsN p W else 0) = 0 := if_neg (fun x => hh ⟨by omega, x.2⟩)
      rw [e1, e2]
theorem hAt_8 (p H : Nat) (hp : p < 7) : hAt p H 8 = rowsH p H := by
  rcases (by omega : p = 0 ∨ p = 1 ∨ p = 2 ∨ p = 3 ∨ p = 4 ∨ p = 5 ∨ p = 6) with rfl | rfl | rfl | rfl | rfl | rfl | rfl <;>
    simp [hAt, rowsH, alongN, nY, nDy] <;> first | omega | (split <;> omega)
/-- the counters at the end: the pass's size -/
theorem size_end (p W H : Nat) (hp : p < 7) : (if wAt p W H 8 = 0 ∨ (if 0 < colsN p W then hAt p H 8 else 0) = 0 then (0, 0) else (wAt p W H 8, (if 0 < colsN p W then hAt p H 8 else 0))) = sizeN p W H := by
  obtain ⟨_, _, _, h4, h5, _, _, h8⟩ := nD_dvd p hp
  rw [hAt_8 p H hp]
  unfold sizeN wAt
  by_cases hc : colsN p W = 0
  · rw [hc]; simp
  · rw [if_pos (by omega : 0 < colsN p W)]
    by_cases hH : nY p < H
    · have e1 : (if nY p < 8 ∧ nY p < H then colsN p W else 0) = colsN p W := if_pos ⟨h5, hH⟩
      rw [e1]
    · have : rowsH p H = 0 := by unfold rowsH alongN; rw [if_pos (by omega)]
      have e1 : (if nY p < 8 ∧ nY p < H then colsN p W else 0) = 0 := if_neg (fun x => hH x.2)
      rw [this, e1, if_pos (Or.inl rfl), if_pos (Or.inr rfl)]
/-- the reference's h after m rows -/
def hS (p W H m : Nat) : Nat := if 0 < colsN p W then hAt p H m else 0
theorem hS_succ (p W H m : Nat) (hp : p < 7) : hS p W H (m + 1) = hS p W H m + (if 0 < colN p m W then (H - m + 7) / 8 else 0) := by
  rw [colN_eq p m W hp]
  unfold hS
  by_cases h : m % nDy p = nY p
  · rw [if_pos h]
    split
    · rw [hAt, if_pos h]
    · rfl
  · rw [if_neg h, if_neg (Nat.lt_irrefl 0)]
    rw [hAt, if_neg h]
    simp only [Nat.add_zero]
theorem hAt_le (p H m : Nat) (hH : 1 ≤ H) : hAt p H m ≤ m * H := by
  induction m with
  | zero => exact Nat.zero_le _
  | succ m ih =>
    rw [Nat.succ_mul]
    unfold hAt
    have : (H - m + 7) / 8 ≤ H := by omega
    split <;> omega
theorem hS_le (p W H m : Nat) (hH : 1 ≤ H) : hS p W H m ≤ m * H := by
  unfold hS
  split
  · exact hAt_le p H m hH
  · exact Nat.zero_le _
theorem alongN_le (n a d : Nat) (hd : 0 < d) : alongN n a d ≤ n := by
  unfold alongN
  split
  · omega
  · calc (n - a + d - 1) / d ≤ n - a := by
          rw [Nat.div_le_iff_le_mul_add_pred hd]
          have : n - a ≤ d * (n - a) := Nat.le_mul_of_pos_left _ hd
          omega
      _ ≤ n := by omega
end Go.Proofs.Ytfmkcpilljfidaa
