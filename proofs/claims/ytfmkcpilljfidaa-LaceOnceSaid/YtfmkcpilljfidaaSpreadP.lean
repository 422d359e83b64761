/- The order of the pixels: lists, in plain Lean. By an AI agent. -/
import Derived.Test.YtfmkcpilljfidaaPass
import Derived.Test.YtfmkcpilljfidaaInts
namespace Go.Proofs.Ytfmkcpilljfidaa
open Go.RowKit
set_option linter.unusedVariables false
set_option linter.unusedSimpArgs false

def cellsL (sel : Nat → Nat → Bool) (W y n : Nat) : List Int := ((List.range n).filter fun x => sel x y).map fun x => ((y * W + x : Nat) : Int)
def rowsL (sel : Nat → Nat → Bool) (W n : Nat) : List Int := (List.range n).flatMap fun y => cellsL sel W y W
def passL (S : Nat → Nat → Nat → Bool) (W H n : Nat) : List Int := (List.range n).flatMap fun p => rowsL (S p) W H
/-- does pass p take the pixel? -/
def selP (lace p x y : Nat) : Bool := if lace = 1 then passOf x y == p else p == 0

theorem cellsL_succ (sel : Nat → Nat → Bool) (W y n : Nat) : cellsL sel W y (n + 1) = cellsL sel W y n ++ if sel n y = true then [((y * W + n : Nat) : Int)] else [] := by
  unfold cellsL
  rw [List.range_succ, List.filter_append, List.map_append]
  by_cases h : sel n y = true <;> simp [h]
theorem rowsL_succ (sel : Nat → Nat → Bool) (W n : Nat) : rowsL sel W (n + 1) = rowsL sel W n ++ cellsL sel W n W := by simp [rowsL, List.range_succ]
theorem passL_succ (S : Nat → Nat → Nat → Bool) (W H n : Nat) : passL S W H (n + 1) = passL S W H n ++ rowsL (S n) W H := by simp [passL, List.range_succ]
theorem cellsL_len (sel : Nat → Nat → Bool) (W y n : Nat) : (cellsL sel W y n).length ≤ n := by
  unfold cellsL
  rw [List.length_map]
  exact Nat.le_trans (List.length_filter_le _ _) (by simp)
theorem rowsL_len (sel : Nat → Nat → Bool) (W n : Nat) : (rowsL sel W n).length ≤ n * W := by
  induction n with
  | zero => simp [rowsL]
  | succ n ih => rw [rowsL_succ, List.length_append, Nat.succ_mul]; exact Nat.add_le_add ih (cellsL_len _ _ _ _)
theorem passL_len (S : Nat → Nat → Nat → Bool) (W H n : Nat) : (passL S W H n).length ≤ n * (H * W) := by
  induction n with
  | zero => simp [passL]
  | succ n ih => rw [passL_succ, List.length_append, Nat.succ_mul]; exact Nat.add_le_add ih (rowsL_len _ _ _)
theorem cellsL_none (sel : Nat → Nat → Bool) (W y m : Nat) : ∀ n, (∀ x, m ≤ x → x < n → sel x y = false) → m ≤ n → cellsL sel W y n = cellsL sel W y m := by
  intro n
  induction n with
  | zero => intro _ h; obtain rfl : m = 0 := by omega
            rfl
  | succ n ih =>
    intro h hm
    by_cases hc : m = n + 1
    · rw [hc]
    · rw [cellsL_succ, h n (by omega) (by omega), ih (fun x a b => h x a (by omega)) (by omega)]
      simp
theorem rowsL_none (sel : Nat → Nat → Bool) (W m : Nat) : ∀ n, (∀ y, m ≤ y → y < n → ∀ x, sel x y = false) → m ≤ n → rowsL sel W n = rowsL sel W m := by
  intro n
  induction n with
  | zero => intro _ h; obtain rfl : m = 0 := by omega
            rfl
  | succ n ih =>
    intro h hm
    by_cases hc : m = n + 1
    · rw [hc]
    · rw [rowsL_succ, ih (fun x a b => h x a (by omega)) (by omega)]
      have : cellsL sel W n W = [] := by
        rw [cellsL_none sel W n 0 W (fun x _ _ => h n (by omega) (by omega) x) (Nat.zero_le _)]
        rfl
      rw [this, List.append_nil]
/-- a row of ints of one's own -/
def Ow (b : Nat) (w : World) (v : Value) (L : List Int) : Prop := w.ownsRow b 3 1 v L.length (vIs L)
theorem Ow.nil (b : Nat) (w : World) : Ow b w (.slice none 0 0) [] := ⟨rfl, .inl ⟨rfl, rfl⟩⟩
theorem Ow.ns {b : Nat} {w : World} {v : Value} {L : List Int} (h : Ow b w v L) : Ns w v L := sl_of_owns h
theorem Ow.old {b : Nat} {w w' : World} {v : Value} {L : List Int} (h : Ow b w v L) (hb : Below w.heap.size w w') : Ow b w' v L := by
  refine ⟨h.1, ?_⟩
  rcases h.2 with h | ⟨g, cap, cur, hv, hg, hc, hr⟩
  · exact .inl h
  · refine .inr ⟨g, cap, cur, hv, hg, ?_, hr⟩
    rw [hb.block g (Array.getElem?_eq_some_iff.1 hc).1]
    exact hc
theorem Ow.snoc {b : Nat} {w : World} {v : Value} {L L' : List Int} {t : Int} (h : w.ownsRow b 3 1 v (L.length + 1) (vIs L ++ [.int .i64 t])) (hL : L' = L ++ [t]) : Ow b w v L' := by
  subst hL
  unfold Ow
  rw [vIs_append, List.length_append]
  exact h
theorem tyN : ElemTy Try.prog 27 3 (.int .i64 0) 1 8 := elemTy Try.underlying27 (by kernel_rfl) rfl (by decide)
end Go.Proofs.Ytfmkcpilljfidaa
