/- Length and distance symbols: LengthBase, DistBase, LengthSymbol, DistSymbol of inflate. By an AI agent. -/
import Derived.Test.YtheomjoadgfkeaaProg
import Derived.Test.YtheomjoadgfkeaaLib
import Derived.Handy
namespace Go.Proofs.Ytheomjoadgfkeaa
open Go.RowKit
set_option linter.unusedVariables false
set_option linter.unusedSimpArgs false

def lensN : List Nat := [3, 4, 5, 6, 7, 8, 9, 10, 11, 13, 15, 17, 19, 23, 27, 31, 35, 43, 51, 59, 67, 83, 99, 115, 131, 163, 195, 227, 258]
def distsN : List Nat := [1, 2, 3, 4, 5, 7, 9, 13, 17, 25, 33, 49, 65, 97, 129, 193, 257, 385, 513, 769, 1025, 1537, 2049, 3073, 4097, 6145, 8193, 12289, 16385, 24577]
/-- how many of the bases are no greater -/
def cnt (L : List Nat) (n : Nat) : Nat := (L.filter fun b => decide (b ≤ n)).length
theorem cnt_iff (n : Nat) : ∀ L : List Nat, L.Pairwise (· < ·) → ∀ i (h : i < L.length), L[i] ≤ n ↔ i < cnt L n
  | [], _, i, h => absurd h (Nat.not_lt_zero i)
  | b :: L, hp, i, h => by
    rw [List.pairwise_cons] at hp
    by_cases hb : b ≤ n
    · have hc : cnt (b :: L) n = cnt L n + 1 := by simp [cnt, hb]
      rw [hc]
      cases i with
      | zero => simp [hb]
      | succ i =>
        have := cnt_iff n L hp.2 i (by simpa using h)
        simp only [List.getElem_cons_succ]
        omega
    · have hz : ∀ x ∈ L, ¬ x ≤ n := fun x hx => by have := hp.1 x hx; omega
      have hc : cnt (b :: L) n = 0 := by
        unfold cnt
        rw [List.length_eq_zero_iff, List.filter_eq_nil_iff]
        intro x hx
        rcases List.mem_cons.1 hx with rfl | hx
        · simp [hb]
        · simpa using hz x hx
      rw [hc]
      refine ⟨fun h2 => ?_, fun h2 => absurd h2 (Nat.not_lt_zero _)⟩
      cases i with
      | zero => exact absurd h2 hb
      | succ i =>
        simp only [List.getElem_cons_succ] at h2
        exact absurd h2 (hz _ (List.getElem_mem _))

set_option maxHeartbeats 1600000 in
theorem distBase_at (s : Nat) (w : World) (h : s < 30) : Calls Try.prog 50 #[.int .i64 (s : Int)] w fun e w' => (∃ x, e = .returned (.tuple #[.int .i64 (distsN.getD s 0 : Nat), .int .i64 x, .bool true])) ∧ w = w' := by
  rcases (by omega : s = 0 ∨ s = 1 ∨ s = 2 ∨ s = 3 ∨ s = 4 ∨ s = 5 ∨ s = 6 ∨ s = 7 ∨ s = 8 ∨ s = 9 ∨ s = 10 ∨ s = 11 ∨ s = 12 ∨ s = 13 ∨ s = 14 ∨ s = 15 ∨ s = 16 ∨ s = 17 ∨ s = 18 ∨ s = 19 ∨ s = 20 ∨ s = 21 ∨ s = 22 ∨ s = 23 ∨ s = 24 ∨ s = 25 ∨ s = 26 ∨ s = 27 ∨ s = 28 ∨ s = 29) with rfl | rfl | rfl | rfl | rfl | rfl | rfl | rfl | rfl | rfl | rfl | rfl | rfl | rfl | rfl | rfl | rfl | rfl | rfl | rfl | rfl | rfl | rfl | rfl | rfl | rfl | rfl | rfl | rfl | rfl
  all_goals
    go_enter Try.func50, Try.ntmps50
    go_wp2
    go_ret3
    exact ⟨⟨_, rfl⟩, rfl⟩
set_option maxHeartbeats 1600000 in
theorem lengthBase_at (s : Nat) (w : World) (h : s < 29) : Calls Try.prog 49 #[.int .i64 ((257 + s : Nat) : Int)] w fun e w' => (∃ x, e = .returned (.tuple #[.int .i64 (lensN.getD s 0 : Nat), .int .i64 x, .bool true])) ∧ w = w' := by
  rcases (by omega : s = 0 ∨ s = 1 ∨ s = 2 ∨ s = 3 ∨ s = 4 ∨ s = 5 ∨ s = 6 ∨ s = 7 ∨ s = 8 ∨ s = 9 ∨ s = 10 ∨ s = 11 ∨ s = 12 ∨ s = 13 ∨ s = 14 ∨ s = 15 ∨ s = 16 ∨ s = 17 ∨ s = 18 ∨ s = 19 ∨ s = 20 ∨ s = 21 ∨ s = 22 ∨ s = 23 ∨ s = 24 ∨ s = 25 ∨ s = 26 ∨ s = 27 ∨ s = 28) with rfl | rfl | rfl | rfl | rfl | rfl | rfl | rfl | rfl | rfl | rfl | rfl | rfl | rfl | rfl | rfl | rfl | rfl | rfl | rfl | rfl | rfl | rfl | rfl | rfl | rfl | rfl | rfl | rfl
  all_goals
    go_enter Try.func49, Try.ntmps49
    go_wp2
    go_ret3
    exact ⟨⟨_, rfl⟩, rfl⟩
/-- the symbol: the greatest whose base is no greater -/
def symN (L : List Nat) (n : Nat) : Nat := cnt L n - 1
theorem sym_facts (L : List Nat) (hp : L.Pairwise (· < ·)) (h0 : 0 < L.length) (n : Nat) (hn : L.getD 0 0 ≤ n) : symN L n < L.length ∧ L.getD (symN L n) 0 ≤ n ∧ ∀ i, i < L.length → symN L n < i → ¬ L.getD i 0 ≤ n := by
  have hc : cnt L n ≤ L.length := by unfold cnt; exact List.length_filter_le _ _
  have hg : ∀ i (h : i < L.length), L.getD i 0 = L[i] := fun i h => by rw [List.getD_eq_getElem?_getD, List.getElem?_eq_getElem h]; rfl
  have h1 : 0 < cnt L n := (cnt_iff n L hp 0 h0).1 (by rw [← hg 0 h0]; exact hn)
  unfold symN
  refine ⟨by omega, ?_, fun i hi hlt => ?_⟩
  · rw [hg _ (by omega)]
    exact (cnt_iff n L hp _ (by omega)).2 (by omega)
  · rw [hg i hi, cnt_iff n L hp i hi]
    omega
theorem lens_sorted : lensN.Pairwise (· < ·) := by decide
theorem dists_sorted : distsN.Pairwise (· < ·) := by decide
set_option maxHeartbeats 1600000 in
theorem lengthSym_no (n : Int) (w : World) (h : n < 3 ∨ 258 < n) : Calls Try.prog 31 #[.int .i64 n] w fun e w' => e = .returned (.tuple #[.int .i64 0, .bool false]) ∧ w = w' := by
  have c : decide (n < 3) = true ∨ (decide (n < 3) = false ∧ decide (258 < n) = true) := by simp only [decide_eq_true_eq, decide_eq_false_iff_not]; omega
  clear h
  rcases c with c1 | ⟨c1, c2⟩
  all_goals
    go_enter Try.func31, Try.ntmps31
    go_wp2_with fail
    go_ret2
    exact ⟨rfl, rfl⟩
set_option maxHeartbeats 1600000 in
theorem lengthSym_yes (n : Nat) (w : World) (h : 3 ≤ n ∧ n ≤ 258) : Calls Try.prog 31 #[.int .i64 (n : Int)] w fun e w' => e = .returned (.tuple #[.int .i64 ((257 + symN lensN n : Nat) : Int), .bool true]) ∧ w = w' := by
  have c1 : decide ((n : Int) < 3) = false := by rw [decide_eq_false_iff_not]; omega
  have c2 : decide ((258 : Int) < (n : Int)) = false := by rw [decide_eq_false_iff_not]; omega
  have c3 : decide (n < 3) = false := by rw [decide_eq_false_iff_not]; omega
  have c4 : decide (258 < n) = false := by rw [decide_eq_false_iff_not]; omega
  obtain ⟨s1, s2, s3⟩ := sym_facts lensN lens_sorted (by decide) n (by show 3 ≤ n; exact h.1)
  have e29 : lensN.length = 29 := by decide
  rw [e29] at s1 s3
  obtain ⟨s, hs⟩ : ∃ s, symN lensN n = s := ⟨_, rfl⟩
  rw [hs] at s1 s2 s3
  rw [hs]
  have S1 := Lib.hid s1
  have S2 := Lib.hid s2
  have S3 := Lib.hid s3
  clear h s1 s2 s3 e29 hs
  go_enter Try.func31, Try.ntmps31
  go_wp2_with fail
  clear c1 c2 c3 c4
  go_loopw [4] (fun i w' => ∃ k : Nat, s ≤ k ∧ k < 29 ∧ i = .int .i64 ((257 + k : Nat) : Int) ∧ w = w') (fun i _ => (intOf i).toNat)
  case atStart => exact ⟨28, by have := S1.out; omega, by decide, rfl, rfl⟩
  case round =>
    obtain ⟨k, hsk, hk, rfl, rfl⟩ := hrel
    obtain ⟨j, hj⟩ : ∃ j : Nat, 257 + k = j := ⟨_, rfl⟩
    have HJ := Lib.hid hj
    obtain ⟨B, hB⟩ : ∃ B, lensN.getD k 0 = B := ⟨_, rfl⟩
    have CB : Hid (∀ W, Calls Try.prog 49 #[.int .i64 (j : Int)] W fun e w' => (∃ x, e = .returned (.tuple #[.int .i64 (B : Nat), .int .i64 x, .bool true])) ∧ W = w') := Lib.hid (fun W => by have h := lengthBase_at k W hk; rw [hB] at h; rw [← hj]; exact h)
    rw [hj]
    by_cases hks : k = s
    · have hle : B ≤ n := by rw [← hB, hks]; exact S2.out
      have f1 : decide ((B : Int) ≤ (n : Int)) = true := by rw [decide_eq_true_eq]; omega
      have f2 : decide (B ≤ n) = true := by rw [decide_eq_true_eq]; exact hle
      have HKS := Lib.hid hks
      clear hj hB hle hks
      go_wp2_with fail
      refine (CB.out _).mono ?_; rintro e w' ⟨⟨x, rfl⟩, rfl⟩
      go_wp2_with fail
      go_ret2
      exact ⟨by rw [← HKS.out, HJ.out]; rfl, rfl⟩
    · have hgt : ¬ B ≤ n := by rw [← hB]; exact S3.out k hk (by omega)
      have f1 : decide ((B : Int) ≤ (n : Int)) = false := by rw [decide_eq_false_iff_not]; omega
      have f2 : decide (B ≤ n) = false := by rw [decide_eq_false_iff_not]; exact hgt
      have hj1 : 1 ≤ j ∧ j ≤ 1000 := by omega
      have w1 : wrap64 ((j : Int) - 1) = (j : Int) - 1 := IntWalk.wrap64_in _ (by omega)
      clear hB hgt
      go_wp2_with fail
      refine (CB.out _).mono ?_; rintro e w' ⟨⟨x, rfl⟩, rfl⟩
      go_wp2_with fail
      go_roundw
      case rel => exact ⟨k - 1, by omega, by omega, by first | (rw [w1]; exact vi (by omega)) | exact vi (by omega), by first | rfl | trivial⟩
      case measure => simp [intOf]; omega
set_option maxHeartbeats 1600000 in
theorem distSym_no (n : Int) (w : World) (h : n < 1 ∨ 32768 < n) : Calls Try.prog 32 #[.int .i64 n] w fun e w' => e = .returned (.tuple #[.int .i64 0, .bool false]) ∧ w = w' := by
  have c : decide (n < 1) = true ∨ (decide (n < 1) = false ∧ decide (32768 < n) = true) := by simp only [decide_eq_true_eq, decide_eq_false_iff_not]; omega
  clear h
  rcases c with c1 | ⟨c1, c2⟩
  all_goals
    go_enter Try.func32, Try.ntmps32
    go_wp2_with fail
    go_ret2
    exact ⟨rfl, rfl⟩
set_option maxHeartbeats 1600000 in
theorem distSym_yes (n : Nat) (w : World) (h : 1 ≤ n ∧ n ≤ 32768) : Calls Try.prog 32 #[.int .i64 (n : Int)] w fun e w' => e = .returned (.tuple #[.int .i64 ((0 + symN distsN n : Nat) : Int), .bool true]) ∧ w = w' := by
  have c1 : decide ((n : Int) < 1) = false := by rw [decide_eq_false_iff_not]; omega
  have c2 : decide ((32768 : Int) < (n : Int)) = false := by rw [decide_eq_false_iff_not]; omega
  have c3 : decide (n < 1) = false := by rw [decide_eq_false_iff_not]; omega
  have c4 : decide (32768 < n) = false := by rw [decide_eq_false_iff_not]; omega
  obtain ⟨s1, s2, s3⟩ := sym_facts distsN dists_sorted (by decide) n (by show 1 ≤ n; exact h.1)
  have e29 : distsN.length = 30 := by decide
  rw [e29] at s1 s3
  obtain ⟨s, hs⟩ : ∃ s, symN distsN n = s := ⟨_, rfl⟩
  rw [hs] at s1 s2 s3
  rw [hs]
  have S1 := Lib.hid s1
  have S2 := Lib.hid s2
  have S3 := Lib.hid s3
  clear h s1 s2 s3 e29 hs
  go_enter Try.func32, Try.ntmps32
  go_wp2_with fail
  clear c1 c2 c3 c4
  go_loopw [4] (fun i w' => ∃ k : Nat, s ≤ k ∧ k < 30 ∧ i = .int .i64 ((0 + k : Nat) : Int) ∧ w = w') (fun i _ => (intOf i).toNat)
  case atStart => exact ⟨29, by have := S1.out; omega, by decide, rfl, rfl⟩
  case round =>
    obtain ⟨k, hsk, hk, rfl, rfl⟩ := hrel
    obtain ⟨j, hj⟩ : ∃ j : Nat, 0 + k = j := ⟨_, rfl⟩
    have HJ := Lib.hid hj
    obtain ⟨B, hB⟩ : ∃ B, distsN.getD k 0 = B := ⟨_, rfl⟩
    have CB : Hid (∀ W, Calls Try.prog 50 #[.int .i64 (j : Int)] W fun e w' => (∃ x, e = .returned (.tuple #[.int .i64 (B : Nat), .int .i64 x, .bool true])) ∧ W = w') := Lib.hid (fun W => by have h := distBase_at k W hk; rw [hB] at h; rw [← hj]; rw [Nat.zero_add]; exact h)
    rw [hj]
    by_cases hks : k = s
    · have hle : B ≤ n := by rw [← hB, hks]; exact S2.out
      have f1 : decide ((B : Int) ≤ (n : Int)) = true := by rw [decide_eq_true_eq]; omega
      have f2 : decide (B ≤ n) = true := by rw [decide_eq_true_eq]; exact hle
      have HKS := Lib.hid hks
      clear hj hB hle hks
      go_wp2_with fail
      refine (CB.out _).mono ?_; rintro e w' ⟨⟨x, rfl⟩, rfl⟩
      go_wp2_with fail
      go_ret2
      exact ⟨by rw [← HKS.out, HJ.out]; rfl, rfl⟩
    · have hgt : ¬ B ≤ n := by rw [← hB]; exact S3.out k hk (by omega)
      have f1 : decide ((B : Int) ≤ (n : Int)) = false := by rw [decide_eq_false_iff_not]; omega
      have f2 : decide (B ≤ n) = false := by rw [decide_eq_false_iff_not]; exact hgt
      have hj1 : 1 ≤ j ∧ j ≤ 1000 := by omega
      have w1 : wrap64 ((j : Int) - 1) = (j : Int) - 1 := IntWalk.wrap64_in _ (by omega)
      clear hB hgt
      go_wp2_with fail
      refine (CB.out _).mono ?_; rintro e w' ⟨⟨x, rfl⟩, rfl⟩
      go_wp2_with fail
      go_roundw
      case rel => exact ⟨k - 1, by omega, by omega, by first | (rw [w1]; exact vi (by omega)) | exact vi (by omega), by first | rfl | trivial⟩
      case measure => simp [intOf]; omega

end Go.Proofs.Ytheomjoadgfkeaa
