/- The walks of chapter 15. By an AI agent. -/
import Derived.Test.YtfmkcpilljfidaaProg
import Derived.Test.YtfmkcpilljfidaaGrid
import Derived.Deep.QuietTactic
import Derived.BigQuiet
import Derived.Laws.Tables
namespace Go.Proofs.Ytfmkcpilljfidaa
open Go.RowKit
set_option linter.unusedVariables false
set_option linter.unusedSimpArgs false

set_option maxHeartbeats 1600000 in
theorem place_in (p : Nat) (hp : p < 7) (c r : Int) (w : World) (hc : 0 ≤ c ∧ c < 65535) (hr : 0 ≤ r ∧ r < 65535) :
    Calls Try.prog 9 #[.int .i64 (p : Int), .int .i64 c, .int .i64 r] w fun e w' => e = .returned (.tuple #[.int .i64 (gX.getD p 0 + c * gDx.getD p 0), .int .i64 (gY.getD p 0 + r * gDy.getD p 0)]) ∧ Below w.heap.size w w' := by
  have HC := Lib.hid hc
  have HR := Lib.hid hr
  clear hc hr
  rcases (by omega : p = 0 ∨ p = 1 ∨ p = 2 ∨ p = 3 ∨ p = 4 ∨ p = 5 ∨ p = 6) with rfl | rfl | rfl | rfl | rfl | rfl | rfl
  · have hi := grid_at0
    go_enter Try.func9, Try.ntmps9
    go_wp2_with fail
    refine (bad_in c _ HC.out).mono ?_; rintro e w' ⟨rfl, rfl⟩
    go_wp2_with fail
    refine (bad_in r _ HR.out).mono ?_; rintro e w' ⟨rfl, rfl⟩
    go_wp2_with fail
    refine (grids_any _).mono ?_; rintro e w1 ⟨rfl, hb1⟩
    have HB1 := Lib.hid hb1
    clear hb1
    go_wp2_with fail
    obtain ⟨c0, c1⟩ := HC.out
    obtain ⟨r0, r1⟩ := HR.out
    go_quiet (fail)
    go_wp2
    go_ret2
    refine ⟨rt2 (by simp [gX, gDx]) (by simp [gY, gDy]), ?_⟩
    exact below_drewN (HB1.out.alloc HB1.out.size _) _
  · have hi := grid_at1
    go_enter Try.func9, Try.ntmps9
    go_wp2_with fail
    refine (bad_in c _ HC.out).mono ?_; rintro e w' ⟨rfl, rfl⟩
    go_wp2_with fail
    refine (bad_in r _ HR.out).mono ?_; rintro e w' ⟨rfl, rfl⟩
    go_wp2_with fail
    refine (grids_any _).mono ?_; rintro e w1 ⟨rfl, hb1⟩
    have HB1 := Lib.hid hb1
    clear hb1
    go_wp2_with fail
    obtain ⟨c0, c1⟩ := HC.out
    obtain ⟨r0, r1⟩ := HR.out
    go_quiet (fail)
    go_wp2
    go_ret2
    refine ⟨rt2 (by simp [gX, gDx]) (by simp [gY, gDy]), ?_⟩
    exact below_drewN (HB1.out.alloc HB1.out.size _) _
  · have hi := grid_at2
    go_enter Try.func9, Try.ntmps9
    go_wp2_with fail
    refine (bad_in c _ HC.out).mono ?_; rintro e w' ⟨rfl, rfl⟩
    go_wp2_with fail
    refine (bad_in r _ HR.out).mono ?_; rintro e w' ⟨rfl, rfl⟩
    go_wp2_with fail
    refine (grids_any _).mono ?_; rintro e w1 ⟨rfl, hb1⟩
    have HB1 := Lib.hid hb1
    clear hb1
    go_wp2_with fail
    obtain ⟨c0, c1⟩ := HC.out
    obtain ⟨r0, r1⟩ := HR.out
    go_quiet (fail)
    go_wp2
    go_ret2
    refine ⟨rt2 (by simp [gX, gDx]) (by simp [gY, gDy]), ?_⟩
    exact below_drewN (HB1.out.alloc HB1.out.size _) _
  · have hi := grid_at3
    go_enter Try.func9, Try.ntmps9
    go_wp2_with fail
    refine (bad_in c _ HC.out).mono ?_; rintro e w' ⟨rfl, rfl⟩
    go_wp2_with fail
    refine (bad_in r _ HR.out).mono ?_; rintro e w' ⟨rfl, rfl⟩
    go_wp2_with fail
    refine (grids_any _).mono ?_; rintro e w1 ⟨rfl, hb1⟩
    have HB1 := Lib.hid hb1
    clear hb1
    go_wp2_with fail
    obtain ⟨c0, c1⟩ := HC.out
    obtain ⟨r0, r1⟩ := HR.out
    go_quiet (fail)
    go_wp2
    go_ret2
    refine ⟨rt2 (by simp [gX, gDx]) (by simp [gY, gDy]), ?_⟩
    exact below_drewN (HB1.out.alloc HB1.out.size _) _
  · have hi := grid_at4
    go_enter Try.func9, Try.ntmps9
    go_wp2_with fail
    refine (bad_in c _ HC.out).mono ?_; rintro e w' ⟨rfl, rfl⟩
    go_wp2_with fail
    refine (bad_in r _ HR.out).mono ?_; rintro e w' ⟨rfl, rfl⟩
    go_wp2_with fail
    refine (grids_any _).mono ?_; rintro e w1 ⟨rfl, hb1⟩
    have HB1 := Lib.hid hb1
    clear hb1
    go_wp2_with fail
    obtain ⟨c0, c1⟩ := HC.out
    obtain ⟨r0, r1⟩ := HR.out
    go_quiet (fail)
    go_wp2
    go_ret2
    refine ⟨rt2 (by simp [gX, gDx]) (by simp [gY, gDy]), ?_⟩
    exact below_drewN (HB1.out.alloc HB1.out.size _) _
  · have hi := grid_at5
    go_enter Try.func9, Try.ntmps9
    go_wp2_with fail
    refine (bad_in c _ HC.out).mono ?_; rintro e w' ⟨rfl, rfl⟩
    go_wp2_with fail
    refine (bad_in r _ HR.out).mono ?_; rintro e w' ⟨rfl, rfl⟩
    go_wp2_with fail
    refine (grids_any _).mono ?_; rintro e w1 ⟨rfl, hb1⟩
    have HB1 := Lib.hid hb1
    clear hb1
    go_wp2_with fail
    obtain ⟨c0, c1⟩ := HC.out
    obtain ⟨r0, r1⟩ := HR.out
    go_quiet (fail)
    go_wp2
    go_ret2
    refine ⟨rt2 (by simp [gX, gDx]) (by simp [gY, gDy]), ?_⟩
    exact below_drewN (HB1.out.alloc HB1.out.size _) _
  · have hi := grid_at6
    go_enter Try.func9, Try.ntmps9
    go_wp2_with fail
    refine (bad_in c _ HC.out).mono ?_; rintro e w' ⟨rfl, rfl⟩
    go_wp2_with fail
    refine (bad_in r _ HR.out).mono ?_; rintro e w' ⟨rfl, rfl⟩
    go_wp2_with fail
    refine (grids_any _).mono ?_; rintro e w1 ⟨rfl, hb1⟩
    have HB1 := Lib.hid hb1
    clear hb1
    go_wp2_with fail
    obtain ⟨c0, c1⟩ := HC.out
    obtain ⟨r0, r1⟩ := HR.out
    go_quiet (fail)
    go_wp2
    go_ret2
    refine ⟨rt2 (by simp [gX, gDx]) (by simp [gY, gDy]), ?_⟩
    exact below_drewN (HB1.out.alloc HB1.out.size _) _
theorem place_at (P : Int) (p : Nat) (hP : P = (p : Int)) (hp : p < 7) (c r x y : Int) (w : World) (hc : 0 ≤ c ∧ c < 65535) (hr : 0 ≤ r ∧ r < 65535) (hx : x = gX.getD p 0 + c * gDx.getD p 0) (hy : y = gY.getD p 0 + r * gDy.getD p 0) :
    Calls Try.prog 9 #[.int .i64 P, .int .i64 c, .int .i64 r] w fun e w' => e = .returned (.tuple #[.int .i64 x, .int .i64 y]) ∧ Below w.heap.size w w' := by
  subst hP hx hy; exact place_in p hp c r w hc hr
theorem place_out (p c r : Int) (w : World) (h : p < 0 ∨ 7 ≤ p ∨ c < 0 ∨ 65535 ≤ c ∨ r < 0 ∨ 65535 ≤ r) :
    Calls Try.prog 9 #[.int .i64 p, .int .i64 c, .int .i64 r] w fun e w' => e = .returned (.tuple #[.int .i64 (-1), .int .i64 (-1)]) ∧ w = w' := by
  by_cases hp : p < 0 ∨ 7 ≤ p
  · have d : decide (p < (0 : Int)) = true ∨ (decide (p < (0 : Int)) = false ∧ decide ((7 : Int) ≤ p) = true) := by simp only [decide_eq_true_eq, decide_eq_false_iff_not]; omega
    clear h hp
    rcases d with d1 | ⟨d1, d2⟩
    all_goals
      go_enter Try.func9, Try.ntmps9
      go_wp2_with fail
      go_ret2
      exact ⟨rfl, rfl⟩
  · have d1 : decide (p < (0 : Int)) = false := by rw [decide_eq_false_iff_not]; omega
    have d2 : decide ((7 : Int) ≤ p) = false := by rw [decide_eq_false_iff_not]; omega
    by_cases hc : c < 0 ∨ 65535 ≤ c
    · have HC := Lib.hid hc
      clear h hp hc
      go_enter Try.func9, Try.ntmps9
      go_wp2_with fail
      refine (bad_out c _ HC.out).mono ?_; rintro e w' ⟨rfl, rfl⟩
      go_wp2_with fail
      go_ret2
      exact ⟨rfl, rfl⟩
    · have HC : Hid (0 ≤ c ∧ c < 65535) := Lib.hid (by omega)
      have HR : Hid (r < 0 ∨ 65535 ≤ r) := Lib.hid (by omega)
      clear h hp hc
      go_enter Try.func9, Try.ntmps9
      go_wp2_with fail
      refine (bad_in c _ HC.out).mono ?_; rintro e w' ⟨rfl, rfl⟩
      go_wp2_with fail
      refine (bad_out r _ HR.out).mono ?_; rintro e w' ⟨rfl, rfl⟩
      go_wp2_with fail
      go_ret2
      exact ⟨rfl, rfl⟩
end Go.Proofs.Ytfmkcpilljfidaa
