/- The reference's symbols: burnishref06.Lens, Dists, burnishref09.Length, Dist. By an AI agent. -/
import Derived.Test.YtheomjoadgfkeaaSym
import Derived.Test.YtheomjoadgfkeaaInts
namespace Go.Proofs.Ytheomjoadgfkeaa
open Go.RowKit
set_option linter.unusedVariables false
set_option linter.unusedSimpArgs false

theorem cells_nat (L : List Nat) (A : Array Value) (hA : A = (L.map fun n : Nat => Value.int .i64 (n : Int)).toArray) (i : Nat) (hi : i < L.length) : A[i]? = some (.int .i64 (L.getD i 0 : Nat)) := by
  subst hA
  simp [List.getElem?_eq_getElem hi]
set_option maxHeartbeats 1600000 in
theorem Lens_any (w : World) : Calls Try.prog 33 #[] w fun e w' => ∃ g v2, e = .returned (.tuple #[.slice (some ⟨g, 0, none⟩) 29 29, v2]) ∧ (∀ i, i < 29 → w'.cell? ⟨g, i, none⟩ = some (.int .i64 (lensN.getD i 0 : Nat))) ∧ Below w.heap.size w w' := by
  go_enter Try.func33, Try.ntmps33
  go_wp2_with fail
  go_ret2
  refine ⟨w.heap.size, _, rfl, fun i hi => ?_, ((Below.refl _ _).alloc (Nat.le_refl _) _).alloc (by simp) _⟩
  rw [cell_of_row _ w.heap.size i _ _ (0, 0) (heap_new0 _ _ _)]
  exact cells_nat lensN _ (by kernel_rfl) i (by rw [show lensN.length = 29 by decide]; exact hi)
set_option maxHeartbeats 1600000 in
theorem refLength_any (n : Nat) (w : World) (h : 3 ≤ n) (hn : n ≤ 9223372036854775807) : Calls Try.prog 10 #[.int .i64 (n : Int)] w fun e w' => e = .returned (.int .i64 ((257 + symN lensN n : Nat) : Int)) ∧ Below w.heap.size w w' := by
  obtain ⟨s1, s2, s3⟩ := sym_facts lensN lens_sorted (by decide) n (by show 3 ≤ n; exact h)
  have e29 : lensN.length = 29 := by decide
  have le := fun i hi => cnt_iff n lensN lens_sorted i hi
  rw [e29] at s1 s3
  have s4 : ∀ i, i < 29 → i ≤ symN lensN n → lensN.getD i 0 ≤ n := by
    intro i hi his
    have hi' : i < lensN.length := by rw [e29]; exact hi
    have h2 := (le i hi').2 (by unfold symN at his s1; have : 0 < cnt lensN n := (le 0 (by decide)).1 (by show 3 ≤ n; exact h); omega)
    rw [List.getD_eq_getElem?_getD, List.getElem?_eq_getElem hi']
    exact h2
  obtain ⟨s, hs⟩ : ∃ s, symN lensN n = s := ⟨_, rfl⟩
  rw [hs] at s1 s2 s3 s4
  rw [hs]
  have S1 := Lib.hid s1
  have S3 := Lib.hid s3
  have S4 := Lib.hid s4
  clear h s1 s2 s3 s4 e29 hs le
  go_enter Try.func10, Try.ntmps10
  go_wp2_with fail
  refine (Lens_any _).mono ?_; rintro e w1 ⟨g, v2, rfl, hc, hb⟩
  have HC := Lib.hid hc
  have HB := Lib.hid hb
  clear hc hb
  go_wp2_with fail
  go_loopw [5] (fun i w' => ∃ k : Nat, k ≤ s ∧ i = .int .i64 k ∧ w1 = w') (fun i _ => 100 - (intOf i).toNat)
  case atStart => exact ⟨0, Nat.zero_le _, rfl, rfl⟩
  case round =>
    obtain ⟨k, hk, rfl, rfl⟩ := hrel
    have hs30 : s < 29 := S1.out
    obtain ⟨m, hm⟩ : ∃ m, k + 1 = m := ⟨_, rfl⟩
    have w1 : wrap64 ((k : Int) + 1) = (m : Int) ∧ IntKind.i64.wrap ((k : Int) + 1) = (m : Int) := ⟨by rw [IntWalk.wrap64_in _ (by omega)]; omega, by rw [IntWalk.i64_in _ (by omega)]; omega⟩
    have w2 : (k : Int) + 1 = (m : Int) := by omega
    obtain ⟨w1a, w1b⟩ := w1
    by_cases hm30 : m < 29
    · have f1 : decide ((m : Int) < 29) = true := by rw [decide_eq_true_eq]; omega
      have f2 : decide (m < 29) = true := by rw [decide_eq_true_eq]; exact hm30
      have i1 : (m : Int) < 29 := by omega
      have c := HC.out m hm30
      obtain ⟨B, hB⟩ : ∃ B, lensN.getD m 0 = B := ⟨_, rfl⟩
      rw [hB] at c
      by_cases hks : k < s
      · have hle : B ≤ n := by rw [← hB]; exact S4.out m hm30 (by omega)
        have g1 : decide ((B : Int) ≤ (n : Int)) = true := by rw [decide_eq_true_eq]; omega
        have g2 : decide (B ≤ n) = true := by rw [decide_eq_true_eq]; exact hle
        have HM := Lib.hid hm
        clear hB hle hm
        go_wp2_with fail
        go_roundw
        case rel => exact ⟨m, by have := HM.out; omega, by first | rfl | go_num, by first | rfl | trivial⟩
        case measure => have := HM.out; simp [intOf]; omega
      · have hgt : ¬ B ≤ n := by rw [← hB]; exact S3.out m hm30 (by omega)
        have g1 : decide ((B : Int) ≤ (n : Int)) = false := by rw [decide_eq_false_iff_not]; omega
        have g2 : decide (B ≤ n) = false := by rw [decide_eq_false_iff_not]; exact hgt
        have HKS : Hid (k = s) := Lib.hid (by omega)
        have hk30 : k ≤ 30 := by omega
        clear hB hgt hm hks hk
        go_wp2_with fail
        go_ret
        exact ⟨ri (by rw [← HKS.out]; omega), HB.out⟩
    · have f1 : decide ((m : Int) < 29) = false := by rw [decide_eq_false_iff_not]; omega
      have f2 : decide (m < 29) = false := by rw [decide_eq_false_iff_not]; exact hm30
      have HKS : Hid (k = s) := Lib.hid (by omega)
      have hk30 : k ≤ 30 := by omega
      clear hm hk
      go_wp2_with fail
      go_ret
      exact ⟨ri (by rw [← HKS.out]; omega), HB.out⟩
set_option maxHeartbeats 1600000 in
theorem Dists_any (w : World) : Calls Try.prog 34 #[] w fun e w' => ∃ g v2, e = .returned (.tuple #[.slice (some ⟨g, 0, none⟩) 30 30, v2]) ∧ (∀ i, i < 30 → w'.cell? ⟨g, i, none⟩ = some (.int .i64 (distsN.getD i 0 : Nat))) ∧ Below w.heap.size w w' := by
  go_enter Try.func34, Try.ntmps34
  go_wp2_with fail
  go_ret2
  refine ⟨w.heap.size, _, rfl, fun i hi => ?_, ((Below.refl _ _).alloc (Nat.le_refl _) _).alloc (by simp) _⟩
  rw [cell_of_row _ w.heap.size i _ _ (0, 0) (heap_new0 _ _ _)]
  exact cells_nat distsN _ (by kernel_rfl) i (by rw [show distsN.length = 30 by decide]; exact hi)
set_option maxHeartbeats 1600000 in
theorem refDist_any (n : Nat) (w : World) (h : 1 ≤ n) (hn : n ≤ 9223372036854775807) : Calls Try.prog 11 #[.int .i64 (n : Int)] w fun e w' => e = .returned (.int .i64 ((0 + symN distsN n : Nat) : Int)) ∧ Below w.heap.size w w' := by
  obtain ⟨s1, s2, s3⟩ := sym_facts distsN dists_sorted (by decide) n (by show 1 ≤ n; exact h)
  have e29 : distsN.length = 30 := by decide
  have le := fun i hi => cnt_iff n distsN dists_sorted i hi
  rw [e29] at s1 s3
  have s4 : ∀ i, i < 30 → i ≤ symN distsN n → distsN.getD i 0 ≤ n := by
    intro i hi his
    have hi' : i < distsN.length := by rw [e29]; exact hi
    have h2 := (le i hi').2 (by unfold symN at his s1; have : 0 < cnt distsN n := (le 0 (by decide)).1 (by show 1 ≤ n; exact h); omega)
    rw [List.getD_eq_getElem?_getD, List.getElem?_eq_getElem hi']
    exact h2
  obtain ⟨s, hs⟩ : ∃ s, symN distsN n = s := ⟨_, rfl⟩
  rw [hs] at s1 s2 s3 s4
  rw [hs]
  have S1 := Lib.hid s1
  have S3 := Lib.hid s3
  have S4 := Lib.hid s4
  clear h s1 s2 s3 s4 e29 hs le
  go_enter Try.func11, Try.ntmps11
  go_wp2_with fail
  refine (Dists_any _).mono ?_; rintro e w1 ⟨g, v2, rfl, hc, hb⟩
  have HC := Lib.hid hc
  have HB := Lib.hid hb
  clear hc hb
  go_wp2_with fail
  go_loopw [5] (fun i w' => ∃ k : Nat, k ≤ s ∧ i = .int .i64 k ∧ w1 = w') (fun i _ => 100 - (intOf i).toNat)
  case atStart => exact ⟨0, Nat.zero_le _, rfl, rfl⟩
  case round =>
    obtain ⟨k, hk, rfl, rfl⟩ := hrel
    have hs30 : s < 30 := S1.out
    obtain ⟨m, hm⟩ : ∃ m, k + 1 = m := ⟨_, rfl⟩
    have w1 : wrap64 ((k : Int) + 1) = (m : Int) ∧ IntKind.i64.wrap ((k : Int) + 1) = (m : Int) := ⟨by rw [IntWalk.wrap64_in _ (by omega)]; omega, by rw [IntWalk.i64_in _ (by omega)]; omega⟩
    have w2 : (k : Int) + 1 = (m : Int) := by omega
    obtain ⟨w1a, w1b⟩ := w1
    by_cases hm30 : m < 30
    · have f1 : decide ((m : Int) < 30) = true := by rw [decide_eq_true_eq]; omega
      have f2 : decide (m < 30) = true := by rw [decide_eq_true_eq]; exact hm30
      have i1 : (m : Int) < 30 := by omega
      have c := HC.out m hm30
      obtain ⟨B, hB⟩ : ∃ B, distsN.getD m 0 = B := ⟨_, rfl⟩
      rw [hB] at c
      by_cases hks : k < s
      · have hle : B ≤ n := by rw [← hB]; exact S4.out m hm30 (by omega)
        have g1 : decide ((B : Int) ≤ (n : Int)) = true := by rw [decide_eq_true_eq]; omega
        have g2 : decide (B ≤ n) = true := by rw [decide_eq_true_eq]; exact hle
        have HM := Lib.hid hm
        clear hB hle hm
        go_wp2_with fail
        go_roundw
        case rel => exact ⟨m, by have := HM.out; omega, by first | rfl | go_num, by first | rfl | trivial⟩
        case measure => have := HM.out; simp [intOf]; omega
      · have hgt : ¬ B ≤ n := by rw [← hB]; exact S3.out m hm30 (by omega)
        have g1 : decide ((B : Int) ≤ (n : Int)) = false := by rw [decide_eq_false_iff_not]; omega
        have g2 : decide (B ≤ n) = false := by rw [decide_eq_false_iff_not]; exact hgt
        have HKS : Hid (k = s) := Lib.hid (by omega)
        have hk30 : k ≤ 30 := by omega
        clear hB hgt hm hks hk
        go_wp2_with fail
        go_ret
        exact ⟨ri (by rw [← HKS.out]; omega), HB.out⟩
    · have f1 : decide ((m : Int) < 30) = false := by rw [decide_eq_false_iff_not]; omega
      have f2 : decide (m < 30) = false := by rw [decide_eq_false_iff_not]; exact hm30
      have HKS : Hid (k = s) := Lib.hid (by omega)
      have hk30 : k ≤ 30 := by omega
      clear hm hk
      go_wp2_with fail
      go_ret
      exact ⟨ri (by rw [← HKS.out]; omega), HB.out⟩
end Go.Proofs.Ytheomjoadgfkeaa
