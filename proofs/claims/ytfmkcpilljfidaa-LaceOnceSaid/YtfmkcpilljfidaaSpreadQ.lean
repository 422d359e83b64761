/- The grids' steps, in plain Lean. By an AI agent. -/
import Derived.Test.YtfmkcpilljfidaaSpreadP
namespace Go.Proofs.Ytfmkcpilljfidaa
set_option linter.unusedVariables false
set_option linter.unusedSimpArgs false

theorem mod_gap {a b d g : Nat} (h1 : a % d = g) (h2 : b % d = g) (h3 : a < b) (h4 : b < a + d) : False := by
  have h := Nat.sub_mod_eq_zero_of_mod_eq (h2.trans h1.symm)
  rw [Nat.mod_eq_of_lt (by omega)] at h
  omega
section
variable {sel : Nat → Nat → Bool} {gx dx gy dy : Nat}
theorem sel_yes (hsel : ∀ x y, sel x y = (x % dx == gx && y % dy == gy)) {x y : Nat} (h : sel x y = true) : x % dx = gx ∧ y % dy = gy := by
  rw [hsel, Bool.and_eq_true, beq_iff_eq, beq_iff_eq] at h
  exact h
theorem sel_no_y (hsel : ∀ x y, sel x y = (x % dx == gx && y % dy == gy)) {x y : Nat} (h : y % dy ≠ gy) : sel x y = false := by
  cases hs : sel x y with
  | false => rfl
  | true => exact absurd (sel_yes hsel hs).2 h
theorem sel_no_x (hsel : ∀ x y, sel x y = (x % dx == gx && y % dy == gy)) {x y : Nat} (h : x % dx ≠ gx) : sel x y = false := by
  cases hs : sel x y with
  | false => rfl
  | true => exact absurd (sel_yes hsel hs).1 h
theorem rowsL_start (hsel : ∀ x y, sel x y = (x % dx == gx && y % dy == gy)) (W : Nat) (hg : gy < dy) : rowsL sel W gy = [] := by
  rw [rowsL_none sel W 0 gy (fun y _ h x => sel_no_y hsel (by rw [Nat.mod_eq_of_lt (by omega)]; omega)) (Nat.zero_le _)]
  rfl
theorem cellsL_start (hsel : ∀ x y, sel x y = (x % dx == gx && y % dy == gy)) (W y : Nat) (hg : gx < dx) : cellsL sel W y gx = [] := by
  rw [cellsL_none sel W y 0 gx (fun x _ h => sel_no_x hsel (by rw [Nat.mod_eq_of_lt (by omega)]; omega)) (Nat.zero_le _)]
  rfl
theorem rowsL_step (hsel : ∀ x y, sel x y = (x % dx == gx && y % dy == gy)) (W y : Nat) (hg : gy < dy) (h : y % dy = gy) : rowsL sel W (y + dy) = rowsL sel W y ++ cellsL sel W y W := by
  rw [← rowsL_succ]
  exact rowsL_none sel W (y + 1) (y + dy) (fun y' h1 h2 x => sel_no_y hsel (fun h3 => mod_gap h h3 (by omega) (by omega))) (by omega)
theorem cellsL_step (hsel : ∀ x y, sel x y = (x % dx == gx && y % dy == gy)) (W y x : Nat) (hg : gx < dx) (h : x % dx = gx) (hy : y % dy = gy) : cellsL sel W y (x + dx) = cellsL sel W y x ++ [((y * W + x : Nat) : Int)] := by
  have hs : sel x y = true := by rw [hsel, Bool.and_eq_true, beq_iff_eq, beq_iff_eq]; exact ⟨h, hy⟩
  have := cellsL_succ sel W y x
  rw [if_pos hs] at this
  rw [← this]
  exact cellsL_none sel W y (x + 1) (x + dx) (fun x' h1 h2 => sel_no_x hsel (fun h3 => mod_gap h h3 (by omega) (by omega))) (by omega)
theorem rowsL_end (hsel : ∀ x y, sel x y = (x % dx == gx && y % dy == gy)) (W H y : Nat) (h : y % dy = gy) (h1 : H ≤ y) (h2 : y < H + dy) : rowsL sel W y = rowsL sel W H :=
  rowsL_none sel W H y (fun y' a b x => sel_no_y hsel (fun h3 => mod_gap h3 h (by omega) (by omega))) h1
theorem cellsL_end (hsel : ∀ x y, sel x y = (x % dx == gx && y % dy == gy)) (W y x : Nat) (h : x % dx = gx) (h1 : W ≤ x) (h2 : x < W + dx) : cellsL sel W y x = cellsL sel W y W :=
  cellsL_none sel W y W x (fun x' a b => sel_no_x hsel (fun h3 => mod_gap h3 h (by omega) (by omega))) h1
end
theorem add_mod_step {a d g : Nat} (h : a % d = g) : (a + d) % d = g := by rw [Nat.add_mod_right]; exact h
end Go.Proofs.Ytfmkcpilljfidaa
