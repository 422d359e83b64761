/- Each pixel stands in just one pass: plain. By an AI agent. -/
import Derived.Test.YtfmkcpilljfidaaSpreadP
import Derived.Test.YtfmkcpilljfidaaSizeP
namespace Go.Proofs.Ytfmkcpilljfidaa
open Go.RowKit
set_option linter.unusedVariables false
set_option linter.unusedSimpArgs false

theorem along_mul (n g d : Nat) (hd : 0 < d) (hg : g < d) (h : n % d = g) : n = g + alongN n g d * d := by
  have h1 := Nat.div_add_mod n d
  unfold alongN
  by_cases hn : n ≤ g
  · rw [if_pos hn]
    have : n < d := by omega
    rw [Nat.mod_eq_of_lt this] at h
    omega
  · rw [if_neg hn]
    obtain ⟨q, hq⟩ : ∃ q, n / d = q := ⟨_, rfl⟩
    rw [hq, h] at h1
    have e : n - g + d - 1 = d * q + (d - 1) := by omega
    rw [e, Nat.mul_add_div hd, Nat.div_eq_of_lt (show d - 1 < d by omega), Nat.add_zero, Nat.mul_comm]
    omega
theorem along_lt (n g d c : Nat) (hd : 0 < d) (h : c < alongN n g d) : g + c * d < n := by
  unfold alongN at h
  split at h
  · omega
  · have h2 : (c + 1) * d ≤ n - g + d - 1 := (Nat.le_div_iff_mul_le hd).1 h
    rw [Nat.succ_mul] at h2
    omega
theorem selP_1 (p x y : Nat) (hp : p < 7) : selP 1 p x y = (y % nDy p == nY p && x % nDx p == nX p) := by
  unfold selP
  rw [if_pos rfl, Bool.eq_iff_iff, beq_iff_eq, passOf_iff p x y hp]
  simp
/-- a row's pixels of a pass -/
def cellsE (W p y n : Nat) : List Int := (List.range n).map fun c => ((y * W + (nX p + c * nDx p) : Nat) : Int)
theorem cellsE_succ (W p y n : Nat) : cellsE W p y (n + 1) = cellsE W p y n ++ [((y * W + (nX p + n * nDx p) : Nat) : Int)] := by simp [cellsE, List.range_succ]
theorem cells_eq (W p y : Nat) (hp : p < 7) (hy : y % nDy p = nY p) : ∀ n, cellsL (selP 1 p) W y n = cellsE W p y (colsN p n)
  | 0 => by
    have : colsN p 0 = 0 := by unfold colsN alongN; rw [if_pos (Nat.zero_le _)]
    rw [this]; rfl
  | n + 1 => by
    obtain ⟨_, _, h1, h2, _, _, h3, h4⟩ := nD_dvd p hp
    rw [cellsL_succ, cells_eq W p y hp hy n, colsN_succ p n hp, selP_1 p n y hp]
    by_cases h : n % nDx p = nX p
    · have e := along_mul n (nX p) (nDx p) h3 h1 h
      have hc : colsN p n = alongN n (nX p) (nDx p) := rfl
      rw [if_pos (by simp [hy, h]), if_pos h, cellsE_succ, hc, ← e]
    · rw [if_neg (by simp [h]), if_neg h, List.append_nil, Nat.add_zero]
theorem cells_nil (W p y n : Nat) (hp : p < 7) (hy : y % nDy p ≠ nY p) : cellsL (selP 1 p) W y n = [] := by
  unfold cellsL
  rw [List.map_eq_nil_iff, List.filter_eq_nil_iff]
  intro x _
  rw [selP_1 p x y hp]
  simp [hy]
/-- a pass's pixels -/
def rowsE (W p a : Nat) (b : Nat) : List Int := (List.range b).flatMap fun r => cellsE W p (nY p + r * nDy p) a
theorem rowsE_succ (W p a b : Nat) : rowsE W p a (b + 1) = rowsE W p a b ++ cellsE W p (nY p + b * nDy p) a := by simp [rowsE, List.range_succ]
theorem rowsH_succ (p n : Nat) (hp : p < 7) : rowsH p (n + 1) = rowsH p n + (if n % nDy p = nY p then 1 else 0) := by
  obtain ⟨_, _, h1, h2, _, _, h3, h4⟩ := nD_dvd p hp
  have h := Nat.div_add_mod n (nDy p)
  unfold rowsH alongN
  by_cases hm : n % nDy p = nY p
  · rw [if_pos hm]
    have e := along_mul n (nY p) (nDy p) h4 h2 hm
    unfold alongN at e
    rw [if_neg (by omega : ¬ n + 1 ≤ nY p)]
    obtain ⟨k, hk⟩ : ∃ k, (if n ≤ nY p then 0 else (n - nY p + nDy p - 1) / nDy p) = k := ⟨_, rfl⟩
    rw [hk] at e
    rw [hk]
    have e2 : n + 1 - nY p + nDy p - 1 = nDy p * (k + 1) := by rw [Nat.mul_add, Nat.mul_comm]; omega
    rw [e2, Nat.mul_div_cancel_left _ h4]
  · rw [if_neg hm, Nat.add_zero]
    by_cases hn : n + 1 ≤ nY p
    · rw [if_pos hn, if_pos (by omega)]
    · rw [if_neg hn]
      by_cases hn2 : n ≤ nY p
      · obtain rfl : n = nY p := by omega
        exact absurd (Nat.mod_eq_of_lt h2) hm
      · rw [if_neg hn2]
        obtain ⟨q, hq⟩ : ∃ q, n / nDy p = q := ⟨_, rfl⟩
        obtain ⟨r, hr⟩ : ∃ r, n % nDy p = r := ⟨_, rfl⟩
        rw [hq, hr] at h
        rw [hr] at hm
        have hrl : r < nDy p := by rw [← hr]; exact Nat.mod_lt _ h4
        by_cases hlt : r < nY p
        · have q1 : 1 ≤ q := by
            rcases Nat.eq_zero_or_pos q with h0 | h0
            · rw [h0] at h; omega
            · exact h0
          obtain ⟨q', rfl⟩ : ∃ q', q = q' + 1 := ⟨q - 1, by omega⟩
          rw [Nat.mul_add, Nat.mul_one] at h
          have a1 : n + 1 - nY p + nDy p - 1 = nDy p * (q' + 1) + (r + nDy p - nY p) := by rw [Nat.mul_add, Nat.mul_one]; omega
          have a2 : n - nY p + nDy p - 1 = nDy p * (q' + 1) + (r + nDy p - nY p - 1) := by rw [Nat.mul_add, Nat.mul_one]; omega
          rw [a1, a2, Nat.mul_add_div h4, Nat.mul_add_div h4, Nat.div_eq_of_lt (by omega), Nat.div_eq_of_lt (by omega)]
        · have a1 : n + 1 - nY p + nDy p - 1 = nDy p * (q + 1) + (r - nY p) := by rw [Nat.mul_add, Nat.mul_one]; omega
          have a2 : n - nY p + nDy p - 1 = nDy p * (q + 1) + (r - nY p - 1) := by rw [Nat.mul_add, Nat.mul_one]; omega
          rw [a1, a2, Nat.mul_add_div h4, Nat.mul_add_div h4, Nat.div_eq_of_lt (by omega), Nat.div_eq_of_lt (by omega)]
theorem rows_eq (W p : Nat) (hp : p < 7) : ∀ n, rowsL (selP 1 p) W n = rowsE W p (colsN p W) (rowsH p n)
  | 0 => by
    have : rowsH p 0 = 0 := by unfold rowsH alongN; rw [if_pos (Nat.zero_le _)]
    rw [this]; rfl
  | n + 1 => by
    obtain ⟨_, _, h1, h2, _, _, h3, h4⟩ := nD_dvd p hp
    rw [rowsL_succ, rows_eq W p hp n, rowsH_succ p n hp]
    by_cases h : n % nDy p = nY p
    · have e := along_mul n (nY p) (nDy p) h4 h2 h
      have hc : rowsH p n = alongN n (nY p) (nDy p) := rfl
      rw [if_pos h, rowsE_succ, cells_eq W p n hp h, hc, ← e]
    · rw [if_neg h, cells_nil W p n W hp h, List.append_nil, Nat.add_zero]
theorem rows_sized (W H p : Nat) (hp : p < 7) : rowsL (selP 1 p) W H = if 0 < (sizeN p W H).1 then rowsE W p (sizeN p W H).1 (sizeN p W H).2 else [] := by
  rw [rows_eq W p hp H]
  unfold sizeN
  by_cases h : colsN p W = 0 ∨ rowsH p H = 0
  · rw [if_pos h, if_neg (by decide)]
    unfold rowsE
    rcases h with h | h
    · rw [h]; simp [cellsE]
    · rw [h]; rfl
  · rw [if_neg h, if_pos (by show 0 < colsN p W; omega)]
/-- where a pass's pixel stands in the pass's list -/
theorem cellsE_len (W p y n : Nat) : (cellsE W p y n).length = n := by simp [cellsE]
theorem rowsE_len (W p a : Nat) : ∀ b, (rowsE W p a b).length = b * a
  | 0 => by simp [rowsE]
  | b + 1 => by rw [rowsE_succ, List.length_append, rowsE_len W p a b, cellsE_len, Nat.succ_mul]
theorem rowsE_at (W p a r c : Nat) (hc : c < a) : ∀ b, r < b → (rowsE W p a b)[r * a + c]? = some (((nY p + r * nDy p) * W + (nX p + c * nDx p) : Nat) : Int)
  | 0, h => absurd h (Nat.not_lt_zero _)
  | b + 1, h => by
    rw [rowsE_succ]
    by_cases hr : r < b
    · have h1 : r * a + c < b * a := by
        have : (r + 1) * a ≤ b * a := Nat.mul_le_mul_right a hr
        rw [Nat.succ_mul] at this
        omega
      rw [List.getElem?_append_left (by rw [rowsE_len]; exact h1)]
      exact rowsE_at W p a r c hc b hr
    · obtain rfl : r = b := by omega
      rw [List.getElem?_append_right (by rw [rowsE_len]; omega), rowsE_len, Nat.add_sub_cancel_left]
      simp [cellsE, hc]
/-! ## each pixel once -/
theorem ite_iff {p q : Prop} [Decidable p] [Decidable q] (h : p ↔ q) : (if p then (1 : Nat) else 0) = if q then 1 else 0 := by
  by_cases hp : p
  · rw [if_pos hp, if_pos (h.1 hp)]
  · rw [if_neg hp, if_neg (fun x => hp (h.2 x))]
theorem count_cast (j : Nat) : ∀ l : List Nat, (l.map fun k => ((k : Nat) : Int)).count (j : Int) = l.count j
  | [] => rfl
  | k :: l => by
    rw [List.map_cons, List.count_cons, List.count_cons, count_cast j l]
    congr 1
    apply ite_iff
    simp only [beq_iff_eq]
    omega
theorem count_cells (sel : Nat → Nat → Bool) (W y : Nat) (j : Nat) (hW : 0 < W) : ∀ n, n ≤ W → (cellsL sel W y n).count (j : Int) = if j / W = y ∧ j % W < n ∧ sel (j % W) y = true then 1 else 0
  | 0, _ => by simp [cellsL]
  | n + 1, h => by
    have hd := Nat.div_add_mod j W
    have hm := Nat.mod_lt j hW
    rw [cellsL_succ, List.count_append, count_cells sel W y j hW n (by omega)]
    by_cases e : j / W = y ∧ j % W = n
    · obtain ⟨e1, e2⟩ := e
      have hj : y * W + n = j := by rw [Nat.mul_comm, ← e1, ← e2]; exact hd
      rw [hj, e1, e2]
      by_cases hs : sel n y = true <;> simp [hs]
    · have hj : y * W + n ≠ j := by
        intro hj
        apply e
        subst hj
        rw [Nat.mul_comm, Nat.mul_add_div hW, Nat.mul_add_mod, Nat.mod_eq_of_lt (by omega), Nat.div_eq_of_lt (by omega)]
        omega
      have c0 : (if sel n y = true then [((y * W + n : Nat) : Int)] else []).count (j : Int) = 0 := by
        split
        · rw [List.count_singleton]
          rw [if_neg]
          simp only [beq_iff_eq]
          omega
        · rfl
      rw [c0, Nat.add_zero]
      by_cases e1 : j / W = y
      · have e2 : j % W ≠ n := fun h => e ⟨e1, h⟩
        exact ite_iff ⟨fun h => ⟨h.1, by omega, h.2.2⟩, fun h => ⟨h.1, by omega, h.2.2⟩⟩
      · rw [if_neg (fun h => e1 h.1), if_neg (fun h => e1 h.1)]
theorem count_rows (sel : Nat → Nat → Bool) (W : Nat) (j : Nat) (hW : 0 < W) : ∀ n, (rowsL sel W n).count (j : Int) = if j / W < n ∧ sel (j % W) (j / W) = true then 1 else 0
  | 0 => by simp [rowsL]
  | n + 1 => by
    have hm := Nat.mod_lt j hW
    rw [rowsL_succ, List.count_append, count_rows sel W j hW n, count_cells sel W n j hW W (Nat.le_refl _)]
    by_cases e : j / W = n
    · rw [if_neg (by omega : ¬ (j / W < n ∧ sel (j % W) (j / W) = true)), Nat.zero_add, e]
      by_cases hs : sel (j % W) n = true <;> simp [hs, hm]
    · rw [if_neg (fun h => e h.1 : ¬ (j / W = n ∧ j % W < W ∧ sel (j % W) n = true)), Nat.add_zero]
      exact ite_iff ⟨fun h => ⟨by omega, h.2⟩, fun h => ⟨by omega, h.2⟩⟩
theorem count_pass (W H : Nat) (j : Nat) (hW : 0 < W) : ∀ n, (passL (selP 1) W H n).count (j : Int) = if j / W < H ∧ passOf (j % W) (j / W) < n then 1 else 0
  | 0 => by simp [passL]
  | n + 1 => by
    rw [passL_succ, List.count_append, count_pass W H j hW n, count_rows _ W j hW H]
    have hs : (selP 1 n (j % W) (j / W) = true) ↔ (passOf (j % W) (j / W) = n) := by unfold selP; rw [if_pos rfl, beq_iff_eq]
    rw [ite_iff (show (j / W < H ∧ selP 1 n (j % W) (j / W) = true) ↔ (j / W < H ∧ passOf (j % W) (j / W) = n) from ⟨fun h => ⟨h.1, hs.1 h.2⟩, fun h => ⟨h.1, hs.2 h.2⟩⟩)]
    by_cases hH : j / W < H
    · by_cases e : passOf (j % W) (j / W) = n
      · rw [if_neg (by omega), if_pos ⟨hH, e⟩, if_pos (by omega)]
      · rw [if_neg (fun h => e h.2 : ¬ (j / W < H ∧ passOf (j % W) (j / W) = n)), Nat.add_zero]
        exact ite_iff ⟨fun h => ⟨h.1, by omega⟩, fun h => ⟨h.1, by omega⟩⟩
    · rw [if_neg (fun h => hH h.1), if_neg (fun h => hH h.1), if_neg (fun h => hH h.1)]
theorem passOf_lt (x y : Nat) : passOf x y < 7 := by
  rw [passOf_mod8]
  have : ∀ a, a < 8 → ∀ b, b < 8 → passOf a b < 7 := by decide +kernel
  exact this _ (Nat.mod_lt _ (by decide)) _ (Nat.mod_lt _ (by decide))
theorem pass_nat (S : Nat → Nat → Nat → Bool) (W H n : Nat) : ∀ z ∈ passL S W H n, 0 ≤ z := by
  intro z hz
  simp only [passL, rowsL, cellsL, List.mem_flatMap, List.mem_map] at hz
  obtain ⟨_, _, _, _, x, _, rfl⟩ := hz
  omega
theorem pass_perm (W H : Nat) (hW : 0 < W) : (passL (selP 1) W H 7).Perm ((List.range (W * H)).map fun j : Nat => ((j : Nat) : Int)) := by
  rw [List.perm_iff_count]
  intro a
  by_cases ha : 0 ≤ a
  · obtain ⟨j, rfl⟩ : ∃ j : Nat, a = (j : Int) := ⟨a.toNat, by omega⟩
    rw [count_pass W H j hW 7]
    rw [count_cast, List.count_range]
    have h2 : j / W < H ↔ j < W * H := by rw [Nat.div_lt_iff_lt_mul hW, Nat.mul_comm]
    by_cases h : j < W * H
    · rw [if_pos ⟨h2.2 h, passOf_lt _ _⟩, if_pos h]
    · rw [if_neg (fun x => h (h2.1 x.1)), if_neg h]
  · rw [List.count_eq_zero.2 (fun h => ha (pass_nat _ _ _ _ _ h)), List.count_eq_zero.2 (fun h => by
      obtain ⟨j, _, rfl⟩ := List.mem_map.1 h
      exact ha (by omega))]
theorem pass_len (W H : Nat) (hW : 0 < W) : (passL (selP 1) W H 7).length = W * H := by
  rw [(pass_perm W H hW).length_eq]; simp
theorem pass_mem (W H : Nat) (hW : 0 < W) : ∀ z ∈ passL (selP 1) W H 7, ∃ j : Nat, j < W * H ∧ z = (j : Int) := by
  intro z hz
  obtain ⟨j, hj, rfl⟩ := List.mem_map.1 ((pass_perm W H hW).mem_iff.1 hz)
  exact ⟨j, List.mem_range.1 hj, rfl⟩
end Go.Proofs.Ytfmkcpilljfidaa
