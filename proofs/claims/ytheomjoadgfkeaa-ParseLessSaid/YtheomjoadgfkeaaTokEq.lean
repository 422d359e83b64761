/- Tokens compared. By an AI agent. -/
import Derived.Test.YtheomjoadgfkeaaRGreed
namespace Go.Proofs.Ytheomjoadgfkeaa
open Go.RowKit Go.Shelf
set_option linter.unusedVariables false
set_option linter.unusedSimpArgs false

set_option maxRecDepth 100000 in
set_option maxHeartbeats 4000000 in
theorem tokens_same (v1 v2 : Value) (S : List (Int × Int)) (w : World) (h1 : Tk w v1 S) (h2 : Tk w v2 S) (hl : S.length ≤ 140737488351232) :
    Calls Try.prog 24 #[v1, v2] w fun e w' => e = .returned (.bool true) ∧ Below w.heap.size w w' := by
  obtain ⟨a1, c1, rfl, x1⟩ := h1
  obtain ⟨a2, c2, rfl, x2⟩ := h2
  have X1 := Lib.hid x1
  have X2 := Lib.hid x2
  clear x1 x2
  go_enter Try.func24, Try.ntmps24
  go_wp2_with fail
  go_loopw [13] (fun i w' => ∃ k : Nat, k ≤ S.length ∧ i = .int .i64 (k : Int) ∧ Below w.heap.size w w') (fun i _ => S.length - (intOf i).toNat)
  case atStart => exact ⟨0, Nat.zero_le _, rfl, Below.refl _ _⟩
  case round =>
    obtain ⟨k, hk, rfl, hb⟩ := hrel
    by_cases hks : k < S.length
    · have f1 : decide ((k : Int) < (S.length : Int)) = true := by rw [decide_eq_true_eq]; omega
      have f2 : decide (k < S.length) = true := by rw [decide_eq_true_eq]; omega
      have f3 : ((k : Int) < (S.length : Int)) := by omega
      obtain ⟨b1, o1, rfl, p1, p2⟩ := X1.out k hks
      obtain ⟨b2, o2, rfl, p3, p4⟩ := X2.out k hks
      obtain ⟨⟨ta, tb⟩, ht⟩ : ∃ t, S[k] = t := ⟨_, rfl⟩
      rw [ht] at p1 p2 p3 p4
      simp only at p1 p2 p3 p4
      have q1 := cell_old hb p1
      have q2 := cell_old hb p2
      have q3 := cell_old hb p3
      have q4 := cell_old hb p4
      have HB := Lib.hid hb
      clear p1 p2 p3 p4 hb ht X1 X2
      go_wp2_with fail
      go_region
      go_wp2_with fail
      go_roundw
      case rel => exact ⟨k + 1, by omega, by go_num, HB.out.drew⟩
      case measure => simp [intOf]; omega
    · have f1 : decide ((k : Int) < (S.length : Int)) = false := by rw [decide_eq_false_iff_not]; omega
      have f2 : decide (k < S.length) = false := by rw [decide_eq_false_iff_not]; omega
      have HB := Lib.hid hb
      clear hb
      go_wp2_with fail
      go_ret
      exact ⟨rfl, HB.out⟩
end Go.Proofs.Ytheomjoadgfkeaa
