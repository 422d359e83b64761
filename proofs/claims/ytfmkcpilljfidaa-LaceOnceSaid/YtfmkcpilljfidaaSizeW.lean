/- The walks of lace.side, lace.along, lace.Size. By an AI agent. -/
import Derived.Test.YtfmkcpilljfidaaGrid
import Derived.Test.YtfmkcpilljfidaaSizeP
import Derived.Deep.RegionWith
namespace Go.Proofs.Ytfmkcpilljfidaa
open Go.RowKit
set_option linter.unusedVariables false
set_option linter.unusedSimpArgs false

theorem side_yes (n : Int) (w : World) (h : 1 ≤ n ∧ n ≤ 65535) : Calls Try.prog 25 #[.int .i64 n] w fun e w' => e = .returned (.bool true) ∧ w = w' := by
  have d1 : decide ((1 : Int) ≤ n) = true := by rw [decide_eq_true_eq]; omega
  have d2 : decide (n ≤ (65535 : Int)) = true := by rw [decide_eq_true_eq]; omega
  clear h
  go_enter Try.func25, Try.ntmps25
  go_wp2
  go_ret
  exact ⟨rfl, rfl⟩
theorem side_no (n : Int) (w : World) (h : ¬(1 ≤ n ∧ n ≤ 65535)) : Calls Try.prog 25 #[.int .i64 n] w fun e w' => e = .returned (.bool false) ∧ w = w' := by
  have d : decide ((1 : Int) ≤ n) = false ∨ (decide ((1 : Int) ≤ n) = true ∧ decide (n ≤ (65535 : Int)) = false) := by simp only [decide_eq_true_eq, decide_eq_false_iff_not]; omega
  clear h
  rcases d with d1 | ⟨d1, d2⟩
  all_goals
    go_enter Try.func25, Try.ntmps25
    go_wp2
    go_ret
    exact ⟨rfl, rfl⟩
theorem along_at (N A D : Int) (n a d r : Nat) (w : World) (hN : N = (n : Int)) (hA : A = (a : Int)) (hD : D = (d : Int)) (hn : n ≤ 65535) (ha : a ≤ 8) (hd : 1 ≤ d ∧ d ≤ 8) (hr : alongN n a d = r) :
    Calls Try.prog 26 #[.int .i64 N, .int .i64 A, .int .i64 D] w fun e w' => e = .returned (.int .i64 (r : Int)) ∧ w' = w := by
  by_cases h : n ≤ a
  · have d1 : decide (N ≤ A) = true := by rw [decide_eq_true_eq]; omega
    have HR : Hid ((0 : Int) = (r : Int)) := Lib.hid (by rw [← hr]; unfold alongN; rw [if_pos h]; rfl)
    clear hN hA hD hn ha hd hr h
    go_enter Try.func26, Try.ntmps26
    go_wp2
    go_ret
    exact ⟨ri HR.out, rfl⟩
  · have d1 : decide (N ≤ A) = false := by rw [decide_eq_false_iff_not]; omega
    have s1 : wrap64 (N - A) = N - A := IntWalk.wrap64_in _ (by omega)
    have s2 : wrap64 (N - A + D) = N - A + D := IntWalk.wrap64_in _ (by omega)
    have s3 : wrap64 (N - A + D - 1) = N - A + D - 1 := IntWalk.wrap64_in _ (by omega)
    have HR : Hid ((N - A + D - 1) / D = (r : Int)) := Lib.hid (by
      rw [← hr]; unfold alongN; rw [if_neg h, hN, hA, hD, Int.natCast_ediv]; congr 1; omega)
    have p1 : 0 ≤ N - A + D - 1 := by omega
    have p2 : 1 ≤ D := by omega
    have p3 : D ≤ 8 := by omega
    have p4 : 0 ≤ N - A := by omega
    have p5 : N - A ≤ 65535 := by omega
    clear hN hA hD hn ha hd hr h
    go_enter Try.func26, Try.ntmps26
    go_wp2
    go_ret
    refine ⟨ri ?_, rfl⟩
    first | exact HR.out | (rw [← HR.out]; exact IntWalk.wrap64_in _ (by omega))

set_option maxHeartbeats 1600000 in
theorem size_in (p W H : Nat) (hp : p < 7) (w : World) (hW : 1 ≤ W ∧ W ≤ 65535) (hH : 1 ≤ H ∧ H ≤ 65535) :
    Calls Try.prog 12 #[.int .i64 (W : Int), .int .i64 (H : Int), .int .i64 (p : Int)] w fun e w' => e = .returned (.tuple #[.int .i64 ((sizeN p W H).1 : Nat), .int .i64 ((sizeN p W H).2 : Nat)]) ∧ Below w.heap.size w w' := by
  have HW := Lib.hid hW
  have HH := Lib.hid hH
  clear hW hH
  rcases (by omega : p = 0 ∨ p = 1 ∨ p = 2 ∨ p = 3 ∨ p = 4 ∨ p = 5 ∨ p = 6) with rfl | rfl | rfl | rfl | rfl | rfl | rfl
  · have hi := grid_at0
    go_enter Try.func12, Try.ntmps12
    go_wp2_with fail
    refine (side_yes _ _ (by have := HW.out; omega)).mono ?_; rintro e w' ⟨rfl, rfl⟩
    go_wp2_with fail
    refine (side_yes _ _ (by have := HH.out; omega)).mono ?_; rintro e w' ⟨rfl, rfl⟩
    go_wp2_with fail
    refine (grids_any _).mono ?_; rintro e w1 ⟨rfl, hb1⟩
    have HB1 := Lib.hid hb1
    clear hb1
    go_wp2_with fail
    obtain ⟨A, hA⟩ : ∃ A, colsN 0 W = A := ⟨_, rfl⟩
    obtain ⟨B, hB⟩ : ∃ B, rowsH 0 H = B := ⟨_, rfl⟩
    have ca := fun W' => along_at (W : Int) 0 8 W 0 8 A W' rfl rfl rfl HW.out.2 (by decide) (by decide) hA
    have cb := fun W' => along_at (H : Int) 0 8 H 0 8 B W' rfl rfl rfl HH.out.2 (by decide) (by decide) hB
    have CA := Lib.hid ca
    have CB := Lib.hid cb
    have HA := Lib.hid hA
    have HBb := Lib.hid hB
    clear ca cb hA hB
    go_quiet ((first | (go_at_call_of 26 (Value.int IntKind.i64 (W : Int)); exact Calls.quiet_of_same (CA.out _)) | (go_at_call_of 26 (Value.int IntKind.i64 (H : Int)); exact Calls.quiet_of_same (CB.out _))))
    by_cases h0 : A = 0
    · have e0 : ((A : Int) == 0) = true := by rw [beq_iff_eq]; omega
      have F : Hid (sizeN 0 W H = (0, 0)) := Lib.hid (by unfold sizeN; rw [if_pos (Or.inl (HA.out.trans h0))])
      clear h0
      go_wp2
      go_ret2
      exact ⟨rt2 (by rw [F.out]; rfl) (by rw [F.out]; rfl), below_drewN (HB1.out.alloc HB1.out.size _) _⟩
    · have e0 : ((A : Int) == 0) = false := by rw [beq_eq_false_iff_ne]; omega
      by_cases h1 : B = 0
      · have e1 : ((B : Int) == 0) = true := by rw [beq_iff_eq]; omega
        have F : Hid (sizeN 0 W H = (0, 0)) := Lib.hid (by unfold sizeN; rw [if_pos (Or.inr (HBb.out.trans h1))])
        clear h0 h1
        go_wp2
        go_ret2
        exact ⟨rt2 (by rw [F.out]; rfl) (by rw [F.out]; rfl), below_drewN (HB1.out.alloc HB1.out.size _) _⟩
      · have e1 : ((B : Int) == 0) = false := by rw [beq_eq_false_iff_ne]; omega
        have F : Hid (sizeN 0 W H = (A, B)) := Lib.hid (by unfold sizeN; rw [HA.out, HBb.out, if_neg (fun x => x.elim h0 h1)])
        clear h0 h1
        go_wp2
        go_ret2
        exact ⟨rt2 (by rw [F.out]) (by rw [F.out]), below_drewN (HB1.out.alloc HB1.out.size _) _⟩
  · have hi := grid_at1
    go_enter Try.func12, Try.ntmps12
    go_wp2_with fail
    refine (side_yes _ _ (by have := HW.out; omega)).mono ?_; rintro e w' ⟨rfl, rfl⟩
    go_wp2_with fail
    refine (side_yes _ _ (by have := HH.out; omega)).mono ?_; rintro e w' ⟨rfl, rfl⟩
    go_wp2_with fail
    refine (grids_any _).mono ?_; rintro e w1 ⟨rfl, hb1⟩
    have HB1 := Lib.hid hb1
    clear hb1
    go_wp2_with fail
    obtain ⟨A, hA⟩ : ∃ A, colsN 1 W = A := ⟨_, rfl⟩
    obtain ⟨B, hB⟩ : ∃ B, rowsH 1 H = B := ⟨_, rfl⟩
    have ca := fun W' => along_at (W : Int) 4 8 W 4 8 A W' rfl rfl rfl HW.out.2 (by decide) (by decide) hA
    have cb := fun W' => along_at (H : Int) 0 8 H 0 8 B W' rfl rfl rfl HH.out.2 (by decide) (by decide) hB
    have CA := Lib.hid ca
    have CB := Lib.hid cb
    have HA := Lib.hid hA
    have HBb := Lib.hid hB
    clear ca cb hA hB
    go_quiet ((first | (go_at_call_of 26 (Value.int IntKind.i64 (W : Int)); exact Calls.quiet_of_same (CA.out _)) | (go_at_call_of 26 (Value.int IntKind.i64 (H : Int)); exact Calls.quiet_of_same (CB.out _))))
    by_cases h0 : A = 0
    · have e0 : ((A : Int) == 0) = true := by rw [beq_iff_eq]; omega
      have F : Hid (sizeN 1 W H = (0, 0)) := Lib.hid (by unfold sizeN; rw [if_pos (Or.inl (HA.out.trans h0))])
      clear h0
      go_wp2
      go_ret2
      exact ⟨rt2 (by rw [F.out]; rfl) (by rw [F.out]; rfl), below_drewN (HB1.out.alloc HB1.out.size _) _⟩
    · have e0 : ((A : Int) == 0) = false := by rw [beq_eq_false_iff_ne]; omega
      by_cases h1 : B = 0
      · have e1 : ((B : Int) == 0) = true := by rw [beq_iff_eq]; omega
        have F : Hid (sizeN 1 W H = (0, 0)) := Lib.hid (by unfold sizeN; rw [if_pos (Or.inr (HBb.out.trans h1))])
        clear h0 h1
        go_wp2
        go_ret2
        exact ⟨rt2 (by rw [F.out]; rfl) (by rw [F.out]; rfl), below_drewN (HB1.out.alloc HB1.out.size _) _⟩
      · have e1 : ((B : Int) == 0) = false := by rw [beq_eq_false_iff_ne]; omega
        have F : Hid (sizeN 1 W H = (A, B)) := Lib.hid (by unfold sizeN; rw [HA.out, HBb.out, if_neg (fun x => x.elim h0 h1)])
        clear h0 h1
        go_wp2
        go_ret2
        exact ⟨rt2 (by rw [F.out]) (by rw [F.out]), below_drewN (HB1.out.alloc HB1.out.size _) _⟩
  · have hi := grid_at2
    go_enter Try.func12, Try.ntmps12
    go_wp2_with fail
    refine (side_yes _ _ (by have := HW.out; omega)).mono ?_; rintro e w' ⟨rfl, rfl⟩
    go_wp2_with fail
    refine (side_yes _ _ (by have := HH.out; omega)).mono ?_; rintro e w' ⟨rfl, rfl⟩
    go_wp2_with fail
    refine (grids_any _).mono ?_; rintro e w1 ⟨rfl, hb1⟩
    have HB1 := Lib.hid hb1
    clear hb1
    go_wp2_with fail
    obtain ⟨A, hA⟩ : ∃ A, colsN 2 W = A := ⟨_, rfl⟩
    obtain ⟨B, hB⟩ : ∃ B, rowsH 2 H = B := ⟨_, rfl⟩
    have ca := fun W' => along_at (W : Int) 0 4 W 0 4 A W' rfl rfl rfl HW.out.2 (by decide) (by decide) hA
    have cb := fun W' => along_at (H : Int) 4 8 H 4 8 B W' rfl rfl rfl HH.out.2 (by decide) (by decide) hB
    have CA := Lib.hid ca
    have CB := Lib.hid cb
    have HA := Lib.hid hA
    have HBb := Lib.hid hB
    clear ca cb hA hB
    go_quiet ((first | (go_at_call_of 26 (Value.int IntKind.i64 (W : Int)); exact Calls.quiet_of_same (CA.out _)) | (go_at_call_of 26 (Value.int IntKind.i64 (H : Int)); exact Calls.quiet_of_same (CB.out _))))
    by_cases h0 : A = 0
    · have e0 : ((A : Int) == 0) = true := by rw [beq_iff_eq]; omega
      have F : Hid (sizeN 2 W H = (0, 0)) := Lib.hid (by unfold sizeN; rw [if_pos (Or.inl (HA.out.trans h0))])
      clear h0
      go_wp2
      go_ret2
      exact ⟨rt2 (by rw [F.out]; rfl) (by rw [F.out]; rfl), below_drewN (HB1.out.alloc HB1.out.size _) _⟩
    · have e0 : ((A : Int) == 0) = false := by rw [beq_eq_false_iff_ne]; omega
      by_cases h1 : B = 0
      · have e1 : ((B : Int) == 0) = true := by rw [beq_iff_eq]; omega
        have F : Hid (sizeN 2 W H = (0, 0)) := Lib.hid (by unfold sizeN; rw [if_pos (Or.inr (HBb.out.trans h1))])
        clear h0 h1
        go_wp2
        go_ret2
        exact ⟨rt2 (by rw [F.out]; rfl) (by rw [F.out]; rfl), below_drewN (HB1.out.alloc HB1.out.size _) _⟩
      · have e1 : ((B : Int) == 0) = false := by rw [beq_eq_false_iff_ne]; omega
        have F : Hid (sizeN 2 W H = (A, B)) := Lib.hid (by unfold sizeN; rw [HA.out, HBb.out, if_neg (fun x => x.elim h0 h1)])
        clear h0 h1
        go_wp2
        go_ret2
        exact ⟨rt2 (by rw [F.out]) (by rw [F.out]), below_drewN (HB1.out.alloc HB1.out.size _) _⟩
  · have hi := grid_at3
    go_enter Try.func12, Try.ntmps12
    go_wp2_with fail
    refine (side_yes _ _ (by have := HW.out; omega)).mono ?_; rintro e w' ⟨rfl, rfl⟩
    go_wp2_with fail
    refine (side_yes _ _ (by have := HH.out; omega)).mono ?_; rintro e w' ⟨rfl, rfl⟩
    go_wp2_with fail
    refine (grids_any _).mono ?_; rintro e w1 ⟨rfl, hb1⟩
    have HB1 := Lib.hid hb1
    clear hb1
    go_wp2_with fail
    obtain ⟨A, hA⟩ : ∃ A, colsN 3 W = A := ⟨_, rfl⟩
    obtain ⟨B, hB⟩ : ∃ B, rowsH 3 H = B := ⟨_, rfl⟩
    have ca := fun W' => along_at (W : Int) 2 4 W 2 4 A W' rfl rfl rfl HW.out.2 (by decide) (by decide) hA
    have cb := fun W' => along_at (H : Int) 0 4 H 0 4 B W' rfl rfl rfl HH.out.2 (by decide) (by decide) hB
    have CA := Lib.hid ca
    have CB := Lib.hid cb
    have HA := Lib.hid hA
    have HBb := Lib.hid hB
    clear ca cb hA hB
    go_quiet ((first | (go_at_call_of 26 (Value.int IntKind.i64 (W : Int)); exact Calls.quiet_of_same (CA.out _)) | (go_at_call_of 26 (Value.int IntKind.i64 (H : Int)); exact Calls.quiet_of_same (CB.out _))))
    by_cases h0 : A = 0
    · have e0 : ((A : Int) == 0) = true := by rw [beq_iff_eq]; omega
      have F : Hid (sizeN 3 W H = (0, 0)) := Lib.hid (by unfold sizeN; rw [if_pos (Or.inl (HA.out.trans h0))])
      clear h0
      go_wp2
      go_ret2
      exact ⟨rt2 (by rw [F.out]; rfl) (by rw [F.out]; rfl), below_drewN (HB1.out.alloc HB1.out.size _) _⟩
    · have e0 : ((A : Int) == 0) = false := by rw [beq_eq_false_iff_ne]; omega
      by_cases h1 : B = 0
      · have e1 : ((B : Int) == 0) = true := by rw [beq_iff_eq]; omega
        have F : Hid (sizeN 3 W H = (0, 0)) := Lib.hid (by unfold sizeN; rw [if_pos (Or.inr (HBb.out.trans h1))])
        clear h0 h1
        go_wp2
        go_ret2
        exact ⟨rt2 (by rw [F.out]; rfl) (by rw [F.out]; rfl), below_drewN (HB1.out.alloc HB1.out.size _) _⟩
      · have e1 : ((B : Int) == 0) = false := by rw [beq_eq_false_iff_ne]; omega
        have F : Hid (sizeN 3 W H = (A, B)) := Lib.hid (by unfold sizeN; rw [HA.out, HBb.out, if_neg (fun x => x.elim h0 h1)])
        clear h0 h1
        go_wp2
        go_ret2
        exact ⟨rt2 (by rw [F.out]) (by rw [F.out]), below_drewN (HB1.out.alloc HB1.out.size _) _⟩
  · have hi := grid_at4
    go_enter Try.func12, Try.ntmps12
    go_wp2_with fail
    refine (side_yes _ _ (by have := HW.out; omega)).mono ?_; rintro e w' ⟨rfl, rfl⟩
    go_wp2_with fail
    refine (side_yes _ _ (by have := HH.out; omega)).mono ?_; rintro e w' ⟨rfl, rfl⟩
    go_wp2_with fail
    refine (grids_any _).mono ?_; rintro e w1 ⟨rfl, hb1⟩
    have HB1 := Lib.hid hb1
    clear hb1
    go_wp2_with fail
    obtain ⟨A, hA⟩ : ∃ A, colsN 4 W = A := ⟨_, rfl⟩
    obtain ⟨B, hB⟩ : ∃ B, rowsH 4 H = B := ⟨_, rfl⟩
    have ca := fun W' => along_at (W : Int) 0 2 W 0 2 A W' rfl rfl rfl HW.out.2 (by decide) (by decide) hA
    have cb := fun W' => along_at (H : Int) 2 4 H 2 4 B W' rfl rfl rfl HH.out.2 (by decide) (by decide) hB
    have CA := Lib.hid ca
    have CB := Lib.hid cb
    have HA := Lib.hid hA
    have HBb := Lib.hid hB
    clear ca cb hA hB
    go_quiet ((first | (go_at_call_of 26 (Value.int IntKind.i64 (W : Int)); exact Calls.quiet_of_same (CA.out _)) | (go_at_call_of 26 (Value.int IntKind.i64 (H : Int)); exact Calls.quiet_of_same (CB.out _))))
    by_cases h0 : A = 0
    · have e0 : ((A : Int) == 0) = true := by rw [beq_iff_eq]; omega
      have F : Hid (sizeN 4 W H = (0, 0)) := Lib.hid (by unfold sizeN; rw [if_pos (Or.inl (HA.out.trans h0))])
      clear h0
      go_wp2
      go_ret2
      exact ⟨rt2 (by rw [F.out]; rfl) (by rw [F.out]; rfl), below_drewN (HB1.out.alloc HB1.out.size _) _⟩
    · have e0 : ((A : Int) == 0) = false := by rw [beq_eq_false_iff_ne]; omega
      by_cases h1 : B = 0
      · have e1 : ((B : Int) == 0) = true := by rw [beq_iff_eq]; omega
        have F : Hid (sizeN 4 W H = (0, 0)) := Lib.hid (by unfold sizeN; rw [if_pos (Or.inr (HBb.out.trans h1))])
        clear h0 h1
        go_wp2
        go_ret2
        exact ⟨rt2 (by rw [F.out]; rfl) (by rw [F.out]; rfl), below_drewN (HB1.out.alloc HB1.out.size _) _⟩
      · have e1 : ((B : Int) == 0) = false := by rw [beq_eq_false_iff_ne]; omega
        have F : Hid (sizeN 4 W H = (A, B)) := Lib.hid (by unfold sizeN; rw [HA.out, HBb.out, if_neg (fun x => x.elim h0 h1)])
        clear h0 h1
        go_wp2
        go_ret2
        exact ⟨rt2 (by rw [F.out]) (by rw [F.out]), below_drewN (HB1.out.alloc HB1.out.size _) _⟩
  · have hi := grid_at5
    go_enter Try.func12, Try.ntmps12
    go_wp2_with fail
    refine (side_yes _ _ (by have := HW.out; omega)).mono ?_; rintro e w' ⟨rfl, rfl⟩
    go_wp2_with fail
    refine (side_yes _ _ (by have := HH.out; omega)).mono ?_; rintro e w' ⟨rfl, rfl⟩
    go_wp2_with fail
    refine (grids_any _).mono ?_; rintro e w1 ⟨rfl, hb1⟩
    have HB1 := Lib.hid hb1
    clear hb1
    go_wp2_with fail
    obtain ⟨A, hA⟩ : ∃ A, colsN 5 W = A := ⟨_, rfl⟩
    obtain ⟨B, hB⟩ : ∃ B, rowsH 5 H = B := ⟨_, rfl⟩
    have ca := fun W' => along_at (W : Int) 1 2 W 1 2 A W' rfl rfl rfl HW.out.2 (by decide) (by decide) hA
    have cb := fun W' => along_at (H : Int) 0 2 H 0 2 B W' rfl rfl rfl HH.out.2 (by decide) (by decide) hB
    have CA := Lib.hid ca
    have CB := Lib.hid cb
    have HA := Lib.hid hA
    have HBb := Lib.hid hB
    clear ca cb hA hB
    go_quiet ((first | (go_at_call_of 26 (Value.int IntKind.i64 (W : Int)); exact Calls.quiet_of_same (CA.out _)) | (go_at_call_of 26 (Value.int IntKind.i64 (H : Int)); exact Calls.quiet_of_same (CB.out _))))
    by_cases h0 : A = 0
    · have e0 : ((A : Int) == 0) = true := by rw [beq_iff_eq]; omega
      have F : Hid (sizeN 5 W H = (0, 0)) := Lib.hid (by unfold sizeN; rw [if_pos (Or.inl (HA.out.trans h0))])
      clear h0
      go_wp2
      go_ret2
      exact ⟨rt2 (by rw [F.out]; rfl) (by rw [F.out]; rfl), below_drewN (HB1.out.alloc HB1.out.size _) _⟩
    · have e0 : ((A : Int) == 0) = false := by rw [beq_eq_false_iff_ne]; omega
      by_cases h1 : B = 0
      · have e1 : ((B : Int) == 0) = true := by rw [beq_iff_eq]; omega
        have F : Hid (sizeN 5 W H = (0, 0)) := Lib.hid (by unfold sizeN; rw [if_pos (Or.inr (HBb.out.trans h1))])
        clear h0 h1
        go_wp2
        go_ret2
        exact ⟨rt2 (by rw [F.out]; rfl) (by rw [F.out]; rfl), below_drewN (HB1.out.alloc HB1.out.size _) _⟩
      · have e1 : ((B : Int) == 0) = false := by rw [beq_eq_false_iff_ne]; omega
        have F : Hid (sizeN 5 W H = (A, B)) := Lib.hid (by unfold sizeN; rw [HA.out, HBb.out, if_neg (fun x => x.elim h0 h1)])
        clear h0 h1
        go_wp2
        go_ret2
        exact ⟨rt2 (by rw [F.out]) (by rw [F.out]), below_drewN (HB1.out.alloc HB1.out.size _) _⟩
  · have hi := grid_at6
    go_enter Try.func12, Try.ntmps12
    go_wp2_with fail
    refine (side_yes _ _ (by have := HW.out; omega)).mono ?_; rintro e w' ⟨rfl, rfl⟩
    go_wp2_with fail
    refine (side_yes _ _ (by have := HH.out; omega)).mono ?_; rintro e w' ⟨rfl, rfl⟩
    go_wp2_with fail
    refine (grids_any _).mono ?_; rintro e w1 ⟨rfl, hb1⟩
    have HB1 := Lib.hid hb1
    clear hb1
    go_wp2_with fail
    obtain ⟨A, hA⟩ : ∃ A, colsN 6 W = A := ⟨_, rfl⟩
    obtain ⟨B, hB⟩ : ∃ B, rowsH 6 H = B := ⟨_, rfl⟩
    have ca := fun W' => along_at (W : Int) 0 1 W 0 1 A W' rfl rfl rfl HW.out.2 (by decide) (by decide) hA
    have cb := fun W' => along_at (H : Int) 1 2 H 1 2 B W' rfl rfl rfl HH.out.2 (by decide) (by decide) hB
    have CA := Lib.hid ca
    have CB := Lib.hid cb
    have HA := Lib.hid hA
    have HBb := Lib.hid hB
    clear ca cb hA hB
    go_quiet ((first | (go_at_call_of 26 (Value.int IntKind.i64 (W : Int)); exact Calls.quiet_of_same (CA.out _)) | (go_at_call_of 26 (Value.int IntKind.i64 (H : Int)); exact Calls.quiet_of_same (CB.out _))))
    by_cases h0 : A = 0
    · have e0 : ((A : Int) == 0) = true := by rw [beq_iff_eq]; omega
      have F : Hid (sizeN 6 W H = (0, 0)) := Lib.hid (by unfold sizeN; rw [if_pos (Or.inl (HA.out.trans h0))])
      clear h0
      go_wp2
      go_ret2
      exact ⟨rt2 (by rw [F.out]; rfl) (by rw [F.out]; rfl), below_drewN (HB1.out.alloc HB1.out.size _) _⟩
    · have e0 : ((A : Int) == 0) = false := by rw [beq_eq_false_iff_ne]; omega
      by_cases h1 : B = 0
      · have e1 : ((B : Int) == 0) = true := by rw [beq_iff_eq]; omega
        have F : Hid (sizeN 6 W H = (0, 0)) := Lib.hid (by unfold sizeN; rw [if_pos (Or.inr (HBb.out.trans h1))])
        clear h0 h1
        go_wp2
        go_ret2
        exact ⟨rt2 (by rw [F.out]; rfl) (by rw [F.out]; rfl), below_drewN (HB1.out.alloc HB1.out.size _) _⟩
      · have e1 : ((B : Int) == 0) = false := by rw [beq_eq_false_iff_ne]; omega
        have F : Hid (sizeN 6 W H = (A, B)) := Lib.hid (by unfold sizeN; rw [HA.out, HBb.out, if_neg (fun x => x.elim h0 h1)])
        clear h0 h1
        go_wp2
        go_ret2
        exact ⟨rt2 (by rw [F.out]) (by rw [F.out]), below_drewN (HB1.out.alloc HB1.out.size _) _⟩

theorem size_at (W H P : Int) (w' h p : Nat) (w : World) (hW : W = (w' : Int)) (hH : H = (h : Int)) (hP : P = (p : Int)) (hp : p < 7) (h1 : 1 ≤ w' ∧ w' ≤ 65535) (h2 : 1 ≤ h ∧ h ≤ 65535) :
    Calls Try.prog 12 #[.int .i64 W, .int .i64 H, .int .i64 P] w fun e W' => e = .returned (.tuple #[.int .i64 ((sizeN p w' h).1 : Nat), .int .i64 ((sizeN p w' h).2 : Nat)]) ∧ Below w.heap.size w W' := by
  subst hW hH hP; exact size_in p w' h hp w h1 h2
set_option maxHeartbeats 800000 in
theorem size_out (W H p : Int) (w : World) (h : p < 0 ∨ 7 ≤ p ∨ ¬(1 ≤ W ∧ W ≤ 65535) ∨ ¬(1 ≤ H ∧ H ≤ 65535)) :
    Calls Try.prog 12 #[.int .i64 W, .int .i64 H, .int .i64 p] w fun e w' => e = .returned (.tuple #[.int .i64 0, .int .i64 0]) ∧ w = w' := by
  by_cases hp : p < 0 ∨ 7 ≤ p
  · have d : decide (p < (0 : Int)) = true ∨ (decide (p < (0 : Int)) = false ∧ decide ((7 : Int) ≤ p) = true) := by simp only [decide_eq_true_eq, decide_eq_false_iff_not]; omega
    clear h hp
    rcases d with d1 | ⟨d1, d2⟩
    all_goals
      go_enter Try.func12, Try.ntmps12
      go_wp2_with fail
      go_ret2
      exact ⟨rfl, rfl⟩
  · have d1 : decide (p < (0 : Int)) = false := by rw [decide_eq_false_iff_not]; omega
    have d2 : decide ((7 : Int) ≤ p) = false := by rw [decide_eq_false_iff_not]; omega
    by_cases hW : 1 ≤ W ∧ W ≤ 65535
    · have HW := Lib.hid hW
      have HH : Hid (¬(1 ≤ H ∧ H ≤ 65535)) := Lib.hid (by omega)
      clear h hp hW
      go_enter Try.func12, Try.ntmps12
      go_wp2_with fail
      refine (side_yes _ _ HW.out).mono ?_; rintro e w' ⟨rfl, rfl⟩
      go_wp2_with fail
      refine (side_no _ _ HH.out).mono ?_; rintro e w' ⟨rfl, rfl⟩
      go_wp2_with fail
      go_ret2
      exact ⟨rfl, rfl⟩
    · have HW := Lib.hid hW
      clear h hp hW
      go_enter Try.func12, Try.ntmps12
      go_wp2_with fail
      refine (side_no _ _ HW.out).mono ?_; rintro e w' ⟨rfl, rfl⟩
      go_wp2_with fail
      go_ret2
      exact ⟨rfl, rfl⟩
end Go.Proofs.Ytfmkcpilljfidaa
