/- How many blocks a part has: frame.up, sided, factor, most; burnishref23.up, Factors. By an AI agent. -/
import Derived.Test.YtnhalnjdlkdnkaaPicV
import Derived.Test.YtnhalnjdlkdnkaaQT
import Derived.BigFrame
import Derived.RegionTactic
namespace Go.Proofs.Ytnhalnjdlkdnkaa
open Go.RowKit Go.BigFrame
set_option linter.unusedVariables false
set_option linter.unusedSimpArgs false
set_option maxRecDepth 20000

def upI (a b : Int) : Int := (a + b - 1) / b
theorem upI_eq (a b : Int) (ha : 0 ≤ a) (hb : 0 < b) : upI a b = a / b + (if 0 < a % b then 1 else 0) := by
  unfold upI
  have h1 := Int.mul_ediv_add_emod a b
  have h2 := Int.emod_nonneg a (show b ≠ 0 by omega)
  have h3 := Int.emod_lt_of_pos a hb
  generalize a / b = q at h1
  generalize a % b = r at h1 h2 h3
  split
  · have e : a + b - 1 = (r - 1) + b * (q + 1) := by rw [Int.mul_add]; omega
    rw [e, Int.add_mul_ediv_left _ _ (by omega), Int.ediv_eq_zero_of_lt (by omega) (by omega)]; omega
  · have e : a + b - 1 = (b - 1) + b * q := by omega
    rw [e, Int.add_mul_ediv_left _ _ (by omega), Int.ediv_eq_zero_of_lt (by omega) (by omega)]; omega
theorem upI_in (a b : Int) (ha : 0 ≤ a) (hb : 0 < b) : 0 ≤ upI a b ∧ upI a b ≤ a := by
  unfold upI
  refine ⟨Int.ediv_nonneg (by omega) (by omega), ?_⟩
  by_cases h : a = 0
  · subst h
    rw [Int.ediv_eq_zero_of_lt (by omega) (by omega)]
    exact Int.le_refl _
  · refine Int.le_of_lt_add_one (Int.ediv_lt_of_lt_mul hb ?_)
    have : (a + 1) * b = a * b + b := by rw [Int.add_mul, Int.one_mul]
    have h2 : a * 1 ≤ a * b := Int.mul_le_mul_of_nonneg_left (by omega) ha
    omega
set_option maxHeartbeats 800000 in
theorem up_any (a b : Int) (w : World) (ha : 0 ≤ a ∧ a ≤ 1000000) (hb : 1 ≤ b ∧ b ≤ 1000) :
    Calls Try.prog 80 #[.int .i64 a, .int .i64 b] w fun e w' => e = .returned (.int .i64 (upI a b)) ∧ w = w' := by
  have hin := upI_in a b ha.1 (by omega)
  have e1 : IntKind.i64.wrap (a + b) = a + b := IntWalk.i64_in _ (by omega)
  have e2 : IntKind.i64.wrap (a + b - 1) = a + b - 1 := IntWalk.i64_in _ (by omega)
  have e1' : wrap64 (a + b) = a + b := IntWalk.wrap64_in _ (by omega)
  have e2' : wrap64 (a + b - 1) = a + b - 1 := IntWalk.wrap64_in _ (by omega)
  have e3 : (a + b - 1).tdiv b = upI a b := by unfold upI; exact Int.tdiv_eq_ediv_of_nonneg (by omega)
  have e4 : (b == 0) = false := by rw [beq_eq_false_iff_ne]; omega
  have e5 : ¬ b = 0 := by omega
  have e6 : IntKind.i64.wrap (upI a b) = upI a b := IntWalk.i64_in _ (by omega)
  have e6' : wrap64 (upI a b) = upI a b := IntWalk.wrap64_in _ (by omega)
  clear hin ha hb
  go_enter Try.func80, Try.ntmps80
  go_wp2_with fail
  go_ret
  exact ⟨rfl, rfl⟩
def sidedB (n : Int) : Bool := decide (1 ≤ n) && decide (n ≤ 65535)
def factorB (n : Int) : Bool := decide (1 ≤ n) && decide (n ≤ 4)
set_option maxHeartbeats 800000 in
theorem sided_any (n : Int) (w : World) : Calls Try.prog 50 #[.int .i64 n] w fun e w' => e = .returned (.bool (sidedB n)) ∧ w = w' := by
  rcases h1 : decide ((1 : Int) ≤ n) with _ | _ <;> rcases h2 : decide (n ≤ (65535 : Int)) with _ | _
  all_goals
    go_enter Try.func50, Try.ntmps50
    go_wp2
    go_ret
    exact ⟨rb (by simp only [sidedB, h1, h2]; rfl), rfl⟩
set_option maxHeartbeats 800000 in
theorem factor_any (n : Int) (w : World) : Calls Try.prog 89 #[.int .i64 n] w fun e w' => e = .returned (.bool (factorB n)) ∧ w = w' := by
  rcases h1 : decide ((1 : Int) ≤ n) with _ | _ <;> rcases h2 : decide (n ≤ (4 : Int)) with _ | _
  all_goals
    go_enter Try.func89, Try.ntmps89
    go_wp2
    go_ret
    exact ⟨rb (by simp only [factorB, h1, h2]; rfl), rfl⟩
set_option maxHeartbeats 800000 in
theorem refUp_any (a b : Int) (w : World) (ha : 0 ≤ a ∧ a ≤ 1000000) (hb : 1 ≤ b ∧ b ≤ 1000) :
    Calls Try.prog 63 #[.int .i64 a, .int .i64 b] w fun e w' => e = .returned (.int .i64 (upI a b)) ∧ w = w' := by
  have h0 := upI_eq a b ha.1 (by omega)
  have hq : a.tdiv b = a / b := Int.tdiv_eq_ediv_of_nonneg (by omega)
  have hr : a.tmod b = a % b := Int.tmod_eq_emod_of_nonneg (by omega)
  have q0 : 0 ≤ a / b := Int.ediv_nonneg (by omega) (by omega)
  have q1 : a / b ≤ a := Int.ediv_le_self _ ha.1
  have e4 : (b == 0) = false := by rw [beq_eq_false_iff_ne]; omega
  have e5 : ¬ b = 0 := by omega
  have r0 := Int.emod_nonneg a (show b ≠ 0 by omega)
  have r1 := Int.emod_lt_of_pos a (show 0 < b by omega)
  obtain ⟨q, hqq⟩ : ∃ q, a / b = q := ⟨_, rfl⟩
  obtain ⟨r, hrr⟩ : ∃ r, a % b = r := ⟨_, rfl⟩
  rw [hqq] at h0 hq q0 q1
  rw [hrr] at h0 hr r0 r1
  have e6 : IntKind.i64.wrap q = q := IntWalk.i64_in _ (by omega)
  have e6' : wrap64 q = q := IntWalk.wrap64_in _ (by omega)
  have e8 : wrap64 r = r := IntWalk.wrap64_in _ (by omega)
  have e7 : IntKind.i64.wrap (q + 1) = q + 1 := IntWalk.i64_in _ (by omega)
  have e7' : wrap64 (q + 1) = q + 1 := IntWalk.wrap64_in _ (by omega)
  have H0 := Lib.hid h0
  clear h0 hqq hrr ha hb q0 q1 r0 r1
  by_cases hp : 0 < r
  · have g1 : decide (0 < r) = true := by rw [decide_eq_true_eq]; exact hp
    rw [if_pos hp] at H0
    go_enter Try.func63, Try.ntmps63
    go_wp2_with fail
    go_ret
    exact ⟨ri H0.out.symm, rfl⟩
  · have g1 : decide (0 < r) = false := by rw [decide_eq_false_iff_not]; exact hp
    rw [if_neg hp, Int.add_zero] at H0
    go_enter Try.func63, Try.ntmps63
    go_wp2_with fail
    go_ret
    exact ⟨ri H0.out.symm, rfl⟩
end Go.Proofs.Ytnhalnjdlkdnkaa
