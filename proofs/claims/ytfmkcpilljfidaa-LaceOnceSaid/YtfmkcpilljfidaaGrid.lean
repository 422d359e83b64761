/- The walks of chapter 15. By an AI agent. -/
import Derived.Test.YtfmkcpilljfidaaProg
import Derived.Test.YtfmkcpilljfidaaPass
import Derived.Deep.QuietTactic
import Derived.BigQuiet
import Derived.Laws.Tables
namespace Go.Proofs.Ytfmkcpilljfidaa
open Go.RowKit
set_option linter.unusedVariables false
set_option linter.unusedSimpArgs false

def gX : List Int := [0, 4, 0, 2, 0, 1, 0]
def gDx : List Int := [8, 8, 4, 4, 2, 2, 1]
def gY : List Int := [0, 0, 4, 0, 2, 0, 1]
def gDy : List Int := [8, 8, 8, 4, 4, 2, 2]
theorem bad_in (c : Int) (w : World) (hc : 0 ≤ c ∧ c < 65535) : Calls Try.prog 23 #[.int .i64 c] w fun e w' => e = .returned (.bool false) ∧ w = w' := by
  have d1 : decide (c < (0 : Int)) = false := by rw [decide_eq_false_iff_not]; omega
  have d2 : decide ((65535 : Int) ≤ c) = false := by rw [decide_eq_false_iff_not]; omega
  clear hc
  go_enter Try.func23, Try.ntmps23
  go_wp2
  go_ret
  exact ⟨rfl, rfl⟩
theorem bad_out (c : Int) (w : World) (hc : c < 0 ∨ 65535 ≤ c) : Calls Try.prog 23 #[.int .i64 c] w fun e w' => e = .returned (.bool true) ∧ w = w' := by
  have d : decide (c < (0 : Int)) = true ∨ (decide (c < (0 : Int)) = false ∧ decide ((65535 : Int) ≤ c) = true) := by simp only [decide_eq_true_eq, decide_eq_false_iff_not]; omega
  clear hc
  rcases d with d1 | ⟨d1, d2⟩
  all_goals
    go_enter Try.func23, Try.ntmps23
    go_wp2
    go_ret
    exact ⟨rfl, rfl⟩

def gridsA : Array Value := #[.int .i64 0, .int .i64 8, .int .i64 0, .int .i64 8, .int .i64 4, .int .i64 8, .int .i64 0, .int .i64 8, .int .i64 0, .int .i64 4, .int .i64 4, .int .i64 8, .int .i64 2, .int .i64 4, .int .i64 0, .int .i64 4, .int .i64 0, .int .i64 2, .int .i64 2, .int .i64 4, .int .i64 1, .int .i64 2, .int .i64 0, .int .i64 2, .int .i64 0, .int .i64 1, .int .i64 1, .int .i64 2]
set_option maxHeartbeats 800000 in
theorem grids_any (w : World) : Calls Try.prog 24 #[] w fun e w' => e = .returned (.agg gridsA) ∧ Below w.heap.size w w' := by
  have b0 : (Try.prog.built 54 [(0, .int .i64 0), (1, .int .i64 8), (2, .int .i64 0), (3, .int .i64 8)]) = some #[.int .i64 0, .int .i64 8, .int .i64 0, .int .i64 8] := by kernel_rfl
  have b1 : (Try.prog.built 54 [(0, .int .i64 4), (1, .int .i64 8), (2, .int .i64 0), (3, .int .i64 8)]) = some #[.int .i64 4, .int .i64 8, .int .i64 0, .int .i64 8] := by kernel_rfl
  have b2 : (Try.prog.built 54 [(0, .int .i64 0), (1, .int .i64 4), (2, .int .i64 4), (3, .int .i64 8)]) = some #[.int .i64 0, .int .i64 4, .int .i64 4, .int .i64 8] := by kernel_rfl
  have b3 : (Try.prog.built 54 [(0, .int .i64 2), (1, .int .i64 4), (2, .int .i64 0), (3, .int .i64 4)]) = some #[.int .i64 2, .int .i64 4, .int .i64 0, .int .i64 4] := by kernel_rfl
  have b4 : (Try.prog.built 54 [(0, .int .i64 0), (1, .int .i64 2), (2, .int .i64 2), (3, .int .i64 4)]) = some #[.int .i64 0, .int .i64 2, .int .i64 2, .int .i64 4] := by kernel_rfl
  have b5 : (Try.prog.built 54 [(0, .int .i64 1), (1, .int .i64 2), (2, .int .i64 0), (3, .int .i64 2)]) = some #[.int .i64 1, .int .i64 2, .int .i64 0, .int .i64 2] := by kernel_rfl
  have b6 : (Try.prog.built 54 [(0, .int .i64 0), (1, .int .i64 1), (2, .int .i64 1), (3, .int .i64 2)]) = some #[.int .i64 0, .int .i64 1, .int .i64 1, .int .i64 2] := by kernel_rfl
  have b7 : (Try.prog.built 55 [(0, .agg #[.int .i64 0, .int .i64 8, .int .i64 0, .int .i64 8]), (1, .agg #[.int .i64 4, .int .i64 8, .int .i64 0, .int .i64 8]), (2, .agg #[.int .i64 0, .int .i64 4, .int .i64 4, .int .i64 8]), (3, .agg #[.int .i64 2, .int .i64 4, .int .i64 0, .int .i64 4]), (4, .agg #[.int .i64 0, .int .i64 2, .int .i64 2, .int .i64 4]), (5, .agg #[.int .i64 1, .int .i64 2, .int .i64 0, .int .i64 2]), (6, .agg #[.int .i64 0, .int .i64 1, .int .i64 1, .int .i64 2])]) = some gridsA := by kernel_rfl
  have hz : (Try.prog.info? 55).map (·.size) = some gridsA.size := by kernel_rfl
  have h1 : gridsA.all (·.oneCell') = true := by kernel_rfl
  have B0 := Lib.hid b0
  have B1 := Lib.hid b1
  have B2 := Lib.hid b2
  have B3 := Lib.hid b3
  have B4 := Lib.hid b4
  have B5 := Lib.hid b5
  have B6 := Lib.hid b6
  have B7 := Lib.hid b7
  have HZ := Lib.hid hz
  have H1 := Lib.hid h1
  clear b0 b1 b2 b3 b4 b5 b6 b7 hz h1
  go_enter Try.func24, Try.ntmps24
  go_wp2_with (first | refine wpList_agg rfl _ _ rfl _ _ rfl B0.out ?_ | refine wpList_agg rfl _ _ rfl _ _ rfl B1.out ?_ | refine wpList_agg rfl _ _ rfl _ _ rfl B2.out ?_ | refine wpList_agg rfl _ _ rfl _ _ rfl B3.out ?_ | refine wpList_agg rfl _ _ rfl _ _ rfl B4.out ?_ | refine wpList_agg rfl _ _ rfl _ _ rfl B5.out ?_ | refine wpList_agg rfl _ _ rfl _ _ rfl B6.out ?_ | refine wpList_agg rfl _ _ rfl _ _ rfl B7.out ?_ | refine wpList_store_row rfl _ _ _ rfl w.heap.size gridsA rfl rfl 55 _ (heap_alloc_new _ _) HZ.out rfl H1.out ?_)
  refine bodyPost_ret (v := .agg gridsA) (results_cell_row rfl _ _ w.heap.size 55 gridsA (0, 0) _ rfl ?_ Try.underlying55 rfl (by kernel_rfl)) rfl ⟨rfl, ?_⟩
  · exact setRow_heap _ _ _ _ _ _ (heap_alloc_new _ _)
  · exact below_setRow ((Below.refl _ _).alloc (Nat.le_refl _) _) (Nat.le_refl _) _
theorem grid_at0 (w : World) : (Instr.index 55 (.agg gridsA) (.int .i64 0)).run Try.prog w = .ok (.agg #[.int .i64 0, .int .i64 8, .int .i64 0, .int .i64 8]) w := by kernel_rfl
theorem grid_at1 (w : World) : (Instr.index 55 (.agg gridsA) (.int .i64 1)).run Try.prog w = .ok (.agg #[.int .i64 4, .int .i64 8, .int .i64 0, .int .i64 8]) w := by kernel_rfl
theorem grid_at2 (w : World) : (Instr.index 55 (.agg gridsA) (.int .i64 2)).run Try.prog w = .ok (.agg #[.int .i64 0, .int .i64 4, .int .i64 4, .int .i64 8]) w := by kernel_rfl
theorem grid_at3 (w : World) : (Instr.index 55 (.agg gridsA) (.int .i64 3)).run Try.prog w = .ok (.agg #[.int .i64 2, .int .i64 4, .int .i64 0, .int .i64 4]) w := by kernel_rfl
theorem grid_at4 (w : World) : (Instr.index 55 (.agg gridsA) (.int .i64 4)).run Try.prog w = .ok (.agg #[.int .i64 0, .int .i64 2, .int .i64 2, .int .i64 4]) w := by kernel_rfl
theorem grid_at5 (w : World) : (Instr.index 55 (.agg gridsA) (.int .i64 5)).run Try.prog w = .ok (.agg #[.int .i64 1, .int .i64 2, .int .i64 0, .int .i64 2]) w := by kernel_rfl
theorem grid_at6 (w : World) : (Instr.index 55 (.agg gridsA) (.int .i64 6)).run Try.prog w = .ok (.agg #[.int .i64 0, .int .i64 1, .int .i64 1, .int .i64 2]) w := by kernel_rfl
end Go.Proofs.Ytfmkcpilljfidaa
