/- HeadChecks: the law's walk. By an AI agent. -/
import Derived.Test.YtlgjjoglajgbeaaHeadS
import Derived.Test.YtlgjjoglajgbeaaErr
import Derived.Handy
namespace Go.Proofs.Ytlgjjoglajgbeaa
open Go.RowKit
set_option linter.unusedVariables false
set_option linter.unusedSimpArgs false

set_option maxHeartbeats 800000 in
theorem three_any (w : World) : Calls Try.prog 7 #[] w fun e w' => e = .returned (headV 3 1 2 0 0) ∧ Below w.heap.size w w' := by
  unfold headV
  go_enter Try.func7, Try.ntmps7
  go_wp2_with fail
  go_returns
  exact ⟨rfl, (Below.refl _ _).alloc (Nat.le_refl _) _⟩
theorem row_three : rowN 3 1 2 0 0 3 = 1 := by decide

set_option maxHeartbeats 3200000 in
theorem headChecks_any (W H D C L x : Int) (w : World) (hW : -9223372036854775808 ≤ W ∧ W ≤ 9223372036854775807) (hH : -9223372036854775808 ≤ H ∧ H ≤ 9223372036854775807) (hD : -9223372036854775808 ≤ D ∧ D ≤ 9223372036854775807)
    (hC : -9223372036854775808 ≤ C ∧ C ≤ 9223372036854775807) (hL : -9223372036854775808 ≤ L ∧ L ≤ 9223372036854775807) (hx : -9223372036854775808 ≤ x ∧ x ≤ 9223372036854775807) :
    Calls Try.prog 3 #[headV W H D C L, .int .i64 x] w fun e w' => e = .returned (.bool true) ∧ Below w.heap.size w w' := by
  have c1 := check_any W H D C L
  have c2 := refCheck_any W H D C L
  have c3 := rowSize_any W H D C L x
  have c4 := refRowSize_any W H D C L x
  have c5 := rowSize_any 3 1 2 0 0 3
  rw [row_three] at c5
  have c6 := three_any
  generalize headC W H D C L = n at *
  generalize rowN W H D C L x = r at *
  unfold headV at *
  have C1 := Lib.hid c1
  have C2 := Lib.hid c2
  have C3 := Lib.hid c3
  have C4 := Lib.hid c4
  have C5 := Lib.hid c5
  have C6 := Lib.hid c6
  clear c1 c2 c3 c4 c5 c6 hW hH hD hC hL hx
  go_enter Try.func3, Try.ntmps3
  go_wp2_with fail
  have hb0 : Held5 w w.heap.size W H D C L ((w.alloc (.cells #[.int .i64 W, .int .i64 H, .int .i64 D, .int .i64 C, .int .i64 L] 23)).drew) := ⟨(box_of (heap_alloc_new _ _)).1, (box_of (heap_alloc_new _ _)).2.1, (box_of (heap_alloc_new _ _)).2.2.1, (box_of (heap_alloc_new _ _)).2.2.2.1, (box_of (heap_alloc_new _ _)).2.2.2.2, ((Below.refl _ _).alloc (Nat.le_refl _) _).drew⟩
  go_region_held3 (fun V => V.cell? ⟨w.heap.size, 0, none⟩ = some (.int .i64 W) ∧ V.cell? ⟨w.heap.size, 1, none⟩ = some (.int .i64 H) ∧ V.cell? ⟨w.heap.size, 2, none⟩ = some (.int .i64 D) ∧ V.cell? ⟨w.heap.size, 3, none⟩ = some (.int .i64 C) ∧ V.cell? ⟨w.heap.size, 4, none⟩ = some (.int .i64 L) ∧ Below w.heap.size w V) (first | exact hb0 | assumption | exact keep5 (by assumption) hbx) (first
    | (go_at_call 7; refine (C6.out _).mono ?_; rintro e w' ⟨rfl, hbx⟩)
    | (go_at_call_of 6 (Value.int IntKind.i64 x); refine (C3.out _).mono ?_; rintro e w' ⟨rfl, hbx⟩)
    | (go_at_call 6; refine (C5.out _).mono ?_; rintro e w' ⟨rfl, hbx⟩)
    | (go_at_call 9; refine (C1.out _).mono ?_; rintro e w' ⟨rfl, hbx⟩)
    | (go_at_call 8; refine (num_any n _).mono ?_; rintro e w' ⟨rfl, rfl⟩)
    | (go_at_call 10; refine (C2.out _).mono ?_; rintro e w' ⟨rfl, hbx⟩)
    | (go_at_call 11; refine (C4.out _).mono ?_; rintro e w' ⟨rfl, hbx⟩)
    | (go_at_call 12; refine (channels_any C _).mono ?_; rintro e w' ⟨rfl, rfl⟩)
    | (go_at_call 13; refine (refChannels_any C _).mono ?_; rintro e w' ⟨rfl, hbx⟩))
  all_goals
    have HF := (show _ ∧ _ ∧ _ ∧ _ ∧ _ ∧ Below w.heap.size w _ by assumption).2.2.2.2.2
    go_wp2_with fail
    go_ret
    exact ⟨rfl, HF⟩
end Go.Proofs.Ytlgjjoglajgbeaa
