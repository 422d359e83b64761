/- lace.Spread and burnishref15.Spread at arguments that are no picture's. By an AI agent. -/
import Derived.Test.YtfmkcpilljfidaaSpreadW
import Derived.Test.YtfmkcpilljfidaaErr
namespace Go.Proofs.Ytfmkcpilljfidaa
open Go.RowKit
set_option linter.unusedVariables false
set_option linter.unusedSimpArgs false

set_option maxHeartbeats 1600000 in
theorem spread_neg (W H L : Int) (w : World) (h : W < 1 ∨ H < 1) :
    Calls Try.prog 14 #[.int .i64 W, .int .i64 H, .int .i64 L] w fun e w' => e = .returned (.tuple #[.slice none 0 0, .iface 36 (.int .i64 6)]) ∧ w = w' := by
  have c : decide (W < 1) = true ∨ (decide (W < 1) = false ∧ decide (H < 1) = true) := by simp only [decide_eq_true_eq, decide_eq_false_iff_not]; omega
  clear h
  rcases c with h1 | ⟨h1, h2⟩
  all_goals
    go_enter Try.func14, Try.ntmps14
    go_wp2_with fail
    go_ret2
    exact ⟨rfl, rfl⟩
set_option maxHeartbeats 1600000 in
theorem spread_out (W H : Nat) (L : Int) (w : World) (hW : 1 ≤ W) (hH : 1 ≤ H) (h : 262144 < W * H ∨ L < 0 ∨ 1 < L) :
    Calls Try.prog 14 #[.int .i64 (W : Int), .int .i64 (H : Int), .int .i64 L] w fun e w' => e = .returned (.tuple #[.slice none 0 0, .iface 36 (.int .i64 6)]) ∧ w = w' := by
  have d1 : decide ((W : Int) < 1) = false := by rw [decide_eq_false_iff_not]; omega
  have d2 : decide ((H : Int) < 1) = false := by rw [decide_eq_false_iff_not]; omega
  obtain ⟨q, hq⟩ : ∃ q, 262144 / H = q := ⟨_, rfl⟩
  have d4 : (262144 : Int).tdiv (H : Int) = (q : Int) := quo_nat 262144 H q hq
  have d4' : (262144 : Int) / (H : Int) = (q : Int) := quo_nat' 262144 H q hq
  have hqb : q < W ↔ 262144 < W * H := by rw [← hq]; exact Nat.div_lt_iff_lt_mul hH
  have hqm : q ≤ 262144 := by rw [← hq]; exact Nat.div_le_self _ _
  clear hq
  have n1 : ¬ (H : Int) = 0 := by omega
  have n2 : ¬ H = 0 := by omega
  have d7 : IntKind.i64.wrap (q : Int) = (q : Int) := IntWalk.i64_in _ (by omega)
  have d7' : wrap64 (q : Int) = (q : Int) := IntWalk.wrap64_in _ (by omega)
  rw [← hqb] at h
  have c : (decide (q < W) = true ∧ decide ((q : Int) < (W : Int)) = true) ∨ (decide (q < W) = false ∧ decide ((q : Int) < (W : Int)) = false ∧ decide (L < 0) = true) ∨ (decide (q < W) = false ∧ decide ((q : Int) < (W : Int)) = false ∧ decide (L < 0) = false ∧ decide ((1 : Int) < L) = true) := by
    simp only [decide_eq_true_eq, decide_eq_false_iff_not]; omega
  clear h hqb hW hH
  rcases c with ⟨h1, h1'⟩ | ⟨h1, h1', h2⟩ | ⟨h1, h1', h2, h3⟩
  all_goals
    go_enter Try.func14, Try.ntmps14
    go_wp2_with fail
    go_ret2
    exact ⟨rfl, rfl⟩
set_option maxHeartbeats 1600000 in
theorem refSpread_neg (W H L : Int) (w : World) (h : W < 1 ∨ H < 1) :
    Calls Try.prog 16 #[.int .i64 W, .int .i64 H, .int .i64 L] w fun e w' => e = .returned (.tuple #[.slice none 0 0, .bool false]) ∧ w = w' := by
  have c : decide (W < 1) = true ∨ (decide (W < 1) = false ∧ decide (H < 1) = true) := by simp only [decide_eq_true_eq, decide_eq_false_iff_not]; omega
  clear h
  rcases c with h1 | ⟨h1, h2⟩
  all_goals
    go_enter Try.func16, Try.ntmps16
    go_wp2_with fail
    go_ret2
    exact ⟨rfl, rfl⟩
set_option maxHeartbeats 1600000 in
theorem refSpread_out (W H : Nat) (L : Int) (w : World) (hW : 1 ≤ W) (hH : 1 ≤ H) (h : 262144 < W * H ∨ L < 0 ∨ 1 < L) :
    Calls Try.prog 16 #[.int .i64 (W : Int), .int .i64 (H : Int), .int .i64 L] w fun e w' => e = .returned (.tuple #[.slice none 0 0, .bool false]) ∧ w = w' := by
  have d1 : decide ((W : Int) < 1) = false := by rw [decide_eq_false_iff_not]; omega
  have d2 : decide ((H : Int) < 1) = false := by rw [decide_eq_false_iff_not]; omega
  obtain ⟨wh, hwh⟩ : ∃ q, W * H = q := ⟨_, rfl⟩
  have a0 : (W : Int) * (H : Int) = (wh : Int) := by rw [← hwh]; simp
  have hb : W ≤ 262144 → H ≤ 262144 → wh ≤ 68719476736 := fun h1 h2 => by rw [← hwh]; exact Nat.mul_le_mul h1 h2
  rw [hwh] at h
  have c : (decide ((262144 : Int) < (W : Int)) = true ∧ decide (262144 < W) = true) ∨ ((decide ((262144 : Int) < (W : Int)) = false ∧ decide (262144 < W) = false) ∧ decide ((262144 : Int) < (H : Int)) = true ∧ decide (262144 < H) = true) ∨
      ((decide ((262144 : Int) < (W : Int)) = false ∧ decide (262144 < W) = false) ∧ (decide ((262144 : Int) < (H : Int)) = false ∧ decide (262144 < H) = false) ∧ (IntKind.i64.wrap ((W : Int) * (H : Int)) = (wh : Int) ∧ wrap64 ((W : Int) * (H : Int)) = (wh : Int)) ∧ decide ((262144 : Int) < (wh : Int)) = true ∧ decide (262144 < wh) = true) ∨
      ((decide ((262144 : Int) < (W : Int)) = false ∧ decide (262144 < W) = false) ∧ (decide ((262144 : Int) < (H : Int)) = false ∧ decide (262144 < H) = false) ∧ (IntKind.i64.wrap ((W : Int) * (H : Int)) = (wh : Int) ∧ wrap64 ((W : Int) * (H : Int)) = (wh : Int)) ∧ (decide ((262144 : Int) < (wh : Int)) = false ∧ decide (262144 < wh) = false) ∧ (L != 0) = true ∧ (L != 1) = true) := by
    simp only [decide_eq_true_eq, decide_eq_false_iff_not, bne_iff_ne]
    by_cases h1 : W ≤ 262144
    · by_cases h2 : H ≤ 262144
      · have := hb h1 h2
        rw [a0, IntWalk.i64_in _ (by omega), IntWalk.wrap64_in _ (by omega)]
        omega
      · omega
    · omega
  clear h hb a0 hwh hW hH
  rcases c with ⟨h1, h1'⟩ | ⟨⟨h1, h1'⟩, h2, h2'⟩ | ⟨⟨h1, h1'⟩, ⟨h2, h2'⟩, ⟨h3, h3'⟩, h4, h4'⟩ | ⟨⟨h1, h1'⟩, ⟨h2, h2'⟩, ⟨h3, h3'⟩, ⟨h4, h4'⟩, h5, h6⟩
  all_goals
    go_enter Try.func16, Try.ntmps16
    go_wp2_with fail
    go_ret2
    exact ⟨rfl, rfl⟩
end Go.Proofs.Ytfmkcpilljfidaa
