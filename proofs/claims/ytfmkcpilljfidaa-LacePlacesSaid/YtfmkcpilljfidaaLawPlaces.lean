/- LacePlaces: the law's walk. By an AI agent. -/
import Derived.Test.YtfmkcpilljfidaaLace
namespace Go.Proofs.Ytfmkcpilljfidaa
open Go.RowKit
set_option linter.unusedVariables false
set_option linter.unusedSimpArgs false

theorem pass_at (X Y : Int) (x y n : Nat) (w : World) (hX : X = (x : Int)) (hY : Y = (y : Int)) (hn : passOf x y = n) :
    Calls Try.prog 10 #[.int .i64 X, .int .i64 Y] w fun e w' => e = .returned (.int .i64 (n : Int)) ∧ Below w.heap.size w w' := by
  subst hX hY hn; exact pass_any x y w

theorem passOf_mod (x y : Nat) : passOf x y = passOf (x % 8) (y % 8) := by unfold passOf; rw [Nat.mod_mod, Nat.mod_mod]

set_option maxHeartbeats 1600000 in
theorem first_any (p a b c d : Nat) (w : World) (h1 : ∀ x, x < c → x ≠ a → passOf x b ≠ p) (h2 : ∀ y, y < d → y ≠ b → passOf a y ≠ p) (hb : a < 16 ∧ b < 16 ∧ c ≤ 16 ∧ d ≤ 16) :
    Calls Try.prog 11 #[.int .i64 (p : Int), .int .i64 (a : Int), .int .i64 (b : Int), .int .i64 (c : Int), .int .i64 (d : Int)] w fun e w' => e = .returned (.bool true) ∧ Below w.heap.size w w' := by
  have H1 := Lib.hid h1
  have H2 := Lib.hid h2
  have HB := Lib.hid hb
  obtain ⟨_, _, hc16, hd16⟩ := hb
  clear h1 h2
  go_enter Try.func11, Try.ntmps11
  go_wp2
  go_loopw [11, 14] (fun _ i w' => ∃ k : Nat, k ≤ c ∧ i = .int .i64 k ∧ Below w.heap.size w w') (fun _ i _ => c - (intOf i).toNat)
  case atStart => exact ⟨0, Nat.zero_le _, rfl, Below.refl _ _⟩
  case round =>
    obtain ⟨k, hk, rfl, hbl⟩ := hrel
    have HBL := Lib.hid hbl
    clear hbl
    by_cases hkc : k < c
    · by_cases hka : k = a
      · have e1 : ((k : Int) != (a : Int)) = false := by rw [bne_eq_false_iff_eq]; omega
        have e2 : (k != a) = false := by rw [bne_eq_false_iff_eq]; exact hka
        clear hka
        go_wp2
        go_roundw
        case rel => exact ⟨k + 1, by omega, by go_num, HBL.out⟩
        case measure => simp [intOf]; omega
      · have e1 : ((k : Int) != (a : Int)) = true := by rw [bne_iff_ne]; omega
        have e2 : (k != a) = true := by rw [bne_iff_ne]; exact hka
        have hne := H1.out k hkc hka
        have e3 : ((passOf k b : Int) == (p : Int)) = false := by rw [beq_eq_false_iff_ne]; omega
        have e4 : (passOf k b == p) = false := by rw [beq_eq_false_iff_ne]; exact hne
        generalize hq : passOf k b = q at *
        have HQ := Lib.hid hq
        clear hka hne hq
        go_wp2_with fail
        refine (pass_at _ _ k b q _ rfl rfl HQ.out).mono ?_; rintro e w1 ⟨rfl, hb1⟩
        have HB1 := Lib.hid hb1
        clear hb1
        go_wp2_with fail
        go_roundw
        case rel => exact ⟨k + 1, by omega, by go_num, HBL.out.trans (HB1.out.mono HBL.out.size)⟩
        case measure => simp [intOf]; omega
    · obtain rfl : k = c := by omega
      go_wp2
      have HBK := Lib.hid HBL.out
      go_loopw [12, 29] (fun _ i w' => ∃ k : Nat, k ≤ d ∧ i = .int .i64 k ∧ Below w.heap.size w w') (fun _ i _ => d - (intOf i).toNat)
      case atStart => exact ⟨0, Nat.zero_le _, rfl, HBK.out⟩
      case round =>
        obtain ⟨k, hk, rfl, hbl⟩ := hrel
        have HBL := Lib.hid hbl
        clear hbl
        by_cases hkc : k < d
        · by_cases hka : k = b
          · have e1 : ((k : Int) != (b : Int)) = false := by rw [bne_eq_false_iff_eq]; omega
            have e2 : (k != b) = false := by rw [bne_eq_false_iff_eq]; exact hka
            clear hka
            go_wp2
            go_roundw
            case rel => exact ⟨k + 1, by omega, by go_num, HBL.out⟩
            case measure => simp [intOf]; omega
          · have e1 : ((k : Int) != (b : Int)) = true := by rw [bne_iff_ne]; omega
            have e2 : (k != b) = true := by rw [bne_iff_ne]; exact hka
            have hne := H2.out k hkc hka
            have e3 : ((passOf a k : Int) == (p : Int)) = false := by rw [beq_eq_false_iff_ne]; omega
            have e4 : (passOf a k == p) = false := by rw [beq_eq_false_iff_ne]; exact hne
            generalize hq : passOf a k = q at *
            have HQ := Lib.hid hq
            clear hka hne hq
            go_wp2_with fail
            refine (pass_at _ _ a k q _ rfl rfl HQ.out).mono ?_; rintro e w1 ⟨rfl, hb1⟩
            have HB1 := Lib.hid hb1
            clear hb1
            go_wp2_with fail
            go_roundw
            case rel => exact ⟨k + 1, by omega, by go_num, HBL.out.trans (HB1.out.mono HBL.out.size)⟩
            case measure => simp [intOf]; omega
        · obtain rfl : k = d := by omega
          go_wp2
          go_ret
          exact ⟨rfl, HBL.out⟩

theorem passOf_grid : ∀ p < 7, ∀ c < 8, ∀ r < 8, passOf ((([0, 4, 0, 2, 0, 1, 0] : List Nat).getD p 0) + c * (([8, 8, 4, 4, 2, 2, 1] : List Nat).getD p 0)) ((([0, 0, 4, 0, 2, 0, 1] : List Nat).getD p 0) + r * (([8, 8, 8, 4, 4, 2, 2] : List Nat).getD p 0)) = p := by decide +kernel
theorem pass_fit (p a dx b dy : Nat) (hp : p < 7) (ha : ([0, 4, 0, 2, 0, 1, 0] : List Nat).getD p 0 = a) (hdx : ([8, 8, 4, 4, 2, 2, 1] : List Nat).getD p 0 = dx) (hb : ([0, 0, 4, 0, 2, 0, 1] : List Nat).getD p 0 = b) (hdy : ([8, 8, 8, 4, 4, 2, 2] : List Nat).getD p 0 = dy) (c r : Nat) : passOf (a + c * dx) (b + r * dy) = p := by
  have h := passOf_grid p hp (c % 8) (Nat.mod_lt _ (by decide)) (r % 8) (Nat.mod_lt _ (by decide))
  rw [ha, hdx, hb, hdy] at h
  have e : ∀ a c dx : Nat, (a + c * dx) % 8 = (a + c % 8 * dx) % 8 := fun a c dx => by
    have h : c * dx % 8 = c % 8 * dx % 8 := by rw [Nat.mul_mod c dx, Nat.mul_mod (c % 8) dx, Nat.mod_mod]
    rw [Nat.add_mod, h, ← Nat.add_mod]
  rw [passOf_mod, e a c dx, e b r dy, ← passOf_mod]
  exact h

theorem first_at (P A B C D : Int) (p a b c d : Nat) (w : World) (hP : P = (p : Int)) (hA : A = (a : Int)) (hB : B = (b : Int)) (hC : C = (c : Int)) (hD : D = (d : Int)) (h1 : ∀ x, x < c → x ≠ a → passOf x b ≠ p) (h2 : ∀ y, y < d → y ≠ b → passOf a y ≠ p) (hb : a < 16 ∧ b < 16 ∧ c ≤ 16 ∧ d ≤ 16) :
    Calls Try.prog 11 #[.int .i64 P, .int .i64 A, .int .i64 B, .int .i64 C, .int .i64 D] w fun e w' => e = .returned (.bool true) ∧ Below w.heap.size w w' := by
  subst hP hA hB hC hD; exact first_any p a b c d w h1 h2 hb

set_option maxHeartbeats 1600000 in
theorem lawPlaces_0 (C R : Nat) (w : World) (hc : C < 65535) (hr : R < 65535) :
    Calls Try.prog 3 #[.int .i64 0, .int .i64 (C : Int), .int .i64 (R : Int)] w fun e w' => e = .returned (.bool true) ∧ Below w.heap.size w w' := by
  have hfit := pass_fit 0 0 8 0 8 (by decide) rfl rfl rfl rfl C R
  have HF := Lib.hid hfit
  have HC := Lib.hid hc
  have HR := Lib.hid hr
  have d1 : decide ((C : Int) < 0) = false := by rw [decide_eq_false_iff_not]; omega
  have d2 : decide ((R : Int) < 0) = false := by rw [decide_eq_false_iff_not]; omega
  have d3 : decide ((65535 : Int) ≤ C) = false := by rw [decide_eq_false_iff_not]; omega
  have d4 : decide ((65535 : Int) ≤ R) = false := by rw [decide_eq_false_iff_not]; omega
  obtain ⟨X, hX⟩ : ∃ X : Int, X = ((0 + C * 8 : Nat) : Int) := ⟨_, rfl⟩
  obtain ⟨Y, hY⟩ : ∃ Y : Int, Y = ((0 + R * 8 : Nat) : Int) := ⟨_, rfl⟩
  have d5 : decide (X < 0) = false := by rw [decide_eq_false_iff_not]; omega
  have d6 : decide (Y < 0) = false := by rw [decide_eq_false_iff_not]; omega
  have hXb : Hid (0 + (C : Int) * 8 = X) := Lib.hid (by omega)
  have hYb : Hid (0 + (R : Int) * 8 = Y) := Lib.hid (by omega)
  have HX := Lib.hid hX
  have HY := Lib.hid hY
  have e1 : (X == (C : Int) * 8) = true := by rw [beq_iff_eq]; omega
  have e2 : (Y == (R : Int) * 8) = true := by rw [beq_iff_eq]; omega
  clear hfit hX hY
  go_enter Try.func3, Try.ntmps3
  go_wp2_with fail
  refine (place_at 2 2 rfl (by decide) 1 0 4 4 _ (by decide) (by decide) rfl rfl).mono ?_; rintro e w1 ⟨rfl, hb1⟩
  have HB1 := Lib.hid hb1
  clear hb1
  go_wp2_with fail
  refine (place_at 0 0 rfl (by decide) C R X Y _ (by omega) (by omega) (by rw [HX.out]; simp [gX, gDx]) (by rw [HY.out]; simp [gY, gDy])).mono ?_; rintro e w2 ⟨rfl, hb2⟩
  have HB2 := Lib.hid (HB1.out.trans (hb2.mono HB1.out.size))
  clear hb2 HB1
  go_wp2_with fail
  refine (pass_at X Y (0 + C * 8) (0 + R * 8) 0 _ HX.out HY.out HF.out).mono ?_; rintro e w3 ⟨rfl, hb3⟩
  have HB3 := Lib.hid (HB2.out.trans (hb3.mono HB2.out.size))
  clear hb3 HB2
  go_wp2_with fail
  refine (place_at 0 0 rfl (by decide) 0 0 0 0 _ (by decide) (by decide) (by decide) (by decide)).mono ?_; rintro e w4 ⟨rfl, hb4⟩
  have HB4 := Lib.hid (HB3.out.trans (hb4.mono HB3.out.size))
  clear hb4 HB3
  go_wp2_with fail
  refine (place_at 0 0 rfl (by decide) 1 1 8 8 _ (by decide) (by decide) (by decide) (by decide)).mono ?_; rintro e w5 ⟨rfl, hb5⟩
  have HB5 := Lib.hid (HB4.out.trans (hb5.mono HB4.out.size))
  clear hb5 HB4
  go_wp2_with fail
  refine (pass_at 0 0 0 0 0 _ rfl rfl (by decide +kernel)).mono ?_; rintro e w6 ⟨rfl, hb6⟩
  have HB6 := Lib.hid (HB5.out.trans (hb6.mono HB5.out.size))
  clear hb6 HB5
  go_wp2_with fail
  refine (first_at 0 0 0 8 8 0 0 0 8 8 _ rfl rfl rfl rfl rfl (by decide +kernel) (by decide +kernel) (by decide)).mono ?_; rintro e w7 ⟨rfl, hb7⟩
  have HB7 := Lib.hid (HB6.out.trans (hb7.mono HB6.out.size))
  clear hb7 HB6
  go_wp2_with fail
  go_ret
  exact ⟨rfl, HB7.out⟩

set_option maxHeartbeats 1600000 in
theorem lawPlaces_1 (C R : Nat) (w : World) (hc : C < 65535) (hr : R < 65535) :
    Calls Try.prog 3 #[.int .i64 1, .int .i64 (C : Int), .int .i64 (R : Int)] w fun e w' => e = .returned (.bool true) ∧ Below w.heap.size w w' := by
  have hfit := pass_fit 1 4 8 0 8 (by decide) rfl rfl rfl rfl C R
  have HF := Lib.hid hfit
  have HC := Lib.hid hc
  have HR := Lib.hid hr
  have d1 : decide ((C : Int) < 0) = false := by rw [decide_eq_false_iff_not]; omega
  have d2 : decide ((R : Int) < 0) = false := by rw [decide_eq_false_iff_not]; omega
  have d3 : decide ((65535 : Int) ≤ C) = false := by rw [decide_eq_false_iff_not]; omega
  have d4 : decide ((65535 : Int) ≤ R) = false := by rw [decide_eq_false_iff_not]; omega
  obtain ⟨X, hX⟩ : ∃ X : Int, X = ((4 + C * 8 : Nat) : Int) := ⟨_, rfl⟩
  obtain ⟨Y, hY⟩ : ∃ Y : Int, Y = ((0 + R * 8 : Nat) : Int) := ⟨_, rfl⟩
  have d5 : decide (X < 0) = false := by rw [decide_eq_false_iff_not]; omega
  have d6 : decide (Y < 0) = false := by rw [decide_eq_false_iff_not]; omega
  have hXb : Hid (4 + (C : Int) * 8 = X) := Lib.hid (by omega)
  have hYb : Hid (0 + (R : Int) * 8 = Y) := Lib.hid (by omega)
  have HX := Lib.hid hX
  have HY := Lib.hid hY
  have e1 : (X == 4 + (C : Int) * 8) = true := by rw [beq_iff_eq]; omega
  have e2 : (Y == (R : Int) * 8) = true := by rw [beq_iff_eq]; omega
  clear hfit hX hY
  go_enter Try.func3, Try.ntmps3
  go_wp2_with fail
  refine (place_at 2 2 rfl (by decide) 1 0 4 4 _ (by decide) (by decide) rfl rfl).mono ?_; rintro e w1 ⟨rfl, hb1⟩
  have HB1 := Lib.hid hb1
  clear hb1
  go_wp2_with fail
  refine (place_at 1 1 rfl (by decide) C R X Y _ (by omega) (by omega) (by rw [HX.out]; simp [gX, gDx]) (by rw [HY.out]; simp [gY, gDy])).mono ?_; rintro e w2 ⟨rfl, hb2⟩
  have HB2 := Lib.hid (HB1.out.trans (hb2.mono HB1.out.size))
  clear hb2 HB1
  go_wp2_with fail
  refine (pass_at X Y (4 + C * 8) (0 + R * 8) 1 _ HX.out HY.out HF.out).mono ?_; rintro e w3 ⟨rfl, hb3⟩
  have HB3 := Lib.hid (HB2.out.trans (hb3.mono HB2.out.size))
  clear hb3 HB2
  go_wp2_with fail
  refine (place_at 1 1 rfl (by decide) 0 0 4 0 _ (by decide) (by decide) (by decide) (by decide)).mono ?_; rintro e w4 ⟨rfl, hb4⟩
  have HB4 := Lib.hid (HB3.out.trans (hb4.mono HB3.out.size))
  clear hb4 HB3
  go_wp2_with fail
  refine (place_at 1 1 rfl (by decide) 1 1 12 8 _ (by decide) (by decide) (by decide) (by decide)).mono ?_; rintro e w5 ⟨rfl, hb5⟩
  have HB5 := Lib.hid (HB4.out.trans (hb5.mono HB4.out.size))
  clear hb5 HB4
  go_wp2_with fail
  refine (pass_at 4 0 4 0 1 _ rfl rfl (by decide +kernel)).mono ?_; rintro e w6 ⟨rfl, hb6⟩
  have HB6 := Lib.hid (HB5.out.trans (hb6.mono HB5.out.size))
  clear hb6 HB5
  go_wp2_with fail
  refine (first_at 1 4 0 12 8 1 4 0 12 8 _ rfl rfl rfl rfl rfl (by decide +kernel) (by decide +kernel) (by decide)).mono ?_; rintro e w7 ⟨rfl, hb7⟩
  have HB7 := Lib.hid (HB6.out.trans (hb7.mono HB6.out.size))
  clear hb7 HB6
  go_wp2_with fail
  go_ret
  exact ⟨rfl, HB7.out⟩

set_option maxHeartbeats 1600000 in
theorem lawPlaces_2 (C R : Nat) (w : World) (hc : C < 65535) (hr : R < 65535) :
    Calls Try.prog 3 #[.int .i64 2, .int .i64 (C : Int), .int .i64 (R : Int)] w fun e w' => e = .returned (.bool true) ∧ Below w.heap.size w w' := by
  have hfit := pass_fit 2 0 4 4 8 (by decide) rfl rfl rfl rfl C R
  have HF := Lib.hid hfit
  have HC := Lib.hid hc
  have HR := Lib.hid hr
  have d1 : decide ((C : Int) < 0) = false := by rw [decide_eq_false_iff_not]; omega
  have d2 : decide ((R : Int) < 0) = false := by rw [decide_eq_false_iff_not]; omega
  have d3 : decide ((65535 : Int) ≤ C) = false := by rw [decide_eq_false_iff_not]; omega
  have d4 : decide ((65535 : Int) ≤ R) = false := by rw [decide_eq_false_iff_not]; omega
  obtain ⟨X, hX⟩ : ∃ X : Int, X = ((0 + C * 4 : Nat) : Int) := ⟨_, rfl⟩
  obtain ⟨Y, hY⟩ : ∃ Y : Int, Y = ((4 + R * 8 : Nat) : Int) := ⟨_, rfl⟩
  have d5 : decide (X < 0) = false := by rw [decide_eq_false_iff_not]; omega
  have d6 : decide (Y < 0) = false := by rw [decide_eq_false_iff_not]; omega
  have hXb : Hid (0 + (C : Int) * 4 = X) := Lib.hid (by omega)
  have hYb : Hid (4 + (R : Int) * 8 = Y) := Lib.hid (by omega)
  have HX := Lib.hid hX
  have HY := Lib.hid hY
  have e1 : (X == (C : Int) * 4) = true := by rw [beq_iff_eq]; omega
  have e2 : (Y == 4 + (R : Int) * 8) = true := by rw [beq_iff_eq]; omega
  clear hfit hX hY
  go_enter Try.func3, Try.ntmps3
  go_wp2_with fail
  refine (place_at 2 2 rfl (by decide) 1 0 4 4 _ (by decide) (by decide) rfl rfl).mono ?_; rintro e w1 ⟨rfl, hb1⟩
  have HB1 := Lib.hid hb1
  clear hb1
  go_wp2_with fail
  refine (place_at 2 2 rfl (by decide) C R X Y _ (by omega) (by omega) (by rw [HX.out]; simp [gX, gDx]) (by rw [HY.out]; simp [gY, gDy])).mono ?_; rintro e w2 ⟨rfl, hb2⟩
  have HB2 := Lib.hid (HB1.out.trans (hb2.mono HB1.out.size))
  clear hb2 HB1
  go_wp2_with fail
  refine (pass_at X Y (0 + C * 4) (4 + R * 8) 2 _ HX.out HY.out HF.out).mono ?_; rintro e w3 ⟨rfl, hb3⟩
  have HB3 := Lib.hid (HB2.out.trans (hb3.mono HB2.out.size))
  clear hb3 HB2
  go_wp2_with fail
  refine (place_at 2 2 rfl (by decide) 0 0 0 4 _ (by decide) (by decide) (by decide) (by decide)).mono ?_; rintro e w4 ⟨rfl, hb4⟩
  have HB4 := Lib.hid (HB3.out.trans (hb4.mono HB3.out.size))
  clear hb4 HB3
  go_wp2_with fail
  refine (place_at 2 2 rfl (by decide) 1 1 4 12 _ (by decide) (by decide) (by decide) (by decide)).mono ?_; rintro e w5 ⟨rfl, hb5⟩
  have HB5 := Lib.hid (HB4.out.trans (hb5.mono HB4.out.size))
  clear hb5 HB4
  go_wp2_with fail
  refine (pass_at 0 4 0 4 2 _ rfl rfl (by decide +kernel)).mono ?_; rintro e w6 ⟨rfl, hb6⟩
  have HB6 := Lib.hid (HB5.out.trans (hb6.mono HB5.out.size))
  clear hb6 HB5
  go_wp2_with fail
  refine (first_at 2 0 4 4 12 2 0 4 4 12 _ rfl rfl rfl rfl rfl (by decide +kernel) (by decide +kernel) (by decide)).mono ?_; rintro e w7 ⟨rfl, hb7⟩
  have HB7 := Lib.hid (HB6.out.trans (hb7.mono HB6.out.size))
  clear hb7 HB6
  go_wp2_with fail
  go_ret
  exact ⟨rfl, HB7.out⟩

set_option maxHeartbeats 1600000 in
theorem lawPlaces_3 (C R : Nat) (w : World) (hc : C < 65535) (hr : R < 65535) :
    Calls Try.prog 3 #[.int .i64 3, .int .i64 (C : Int), .int .i64 (R : Int)] w fun e w' => e = .returned (.bool true) ∧ Below w.heap.size w w' := by
  have hfit := pass_fit 3 2 4 0 4 (by decide) rfl rfl rfl rfl C R
  have HF := Lib.hid hfit
  have HC := Lib.hid hc
  have HR := Lib.hid hr
  have d1 : decide ((C : Int) < 0) = false := by rw [decide_eq_false_iff_not]; omega
  have d2 : decide ((R : Int) < 0) = false := by rw [decide_eq_false_iff_not]; omega
  have d3 : decide ((65535 : Int) ≤ C) = false := by rw [decide_eq_false_iff_not]; omega
  have d4 : decide ((65535 : Int) ≤ R) = false := by rw [decide_eq_false_iff_not]; omega
  obtain ⟨X, hX⟩ : ∃ X : Int, X = ((2 + C * 4 : Nat) : Int) := ⟨_, rfl⟩
  obtain ⟨Y, hY⟩ : ∃ Y : Int, Y = ((0 + R * 4 : Nat) : Int) := ⟨_, rfl⟩
  have d5 : decide (X < 0) = false := by rw [decide_eq_false_iff_not]; omega
  have d6 : decide (Y < 0) = false := by rw [decide_eq_false_iff_not]; omega
  have hXb : Hid (2 + (C : Int) * 4 = X) := Lib.hid (by omega)
  have hYb : Hid (0 + (R : Int) * 4 = Y) := Lib.hid (by omega)
  have HX := Lib.hid hX
  have HY := Lib.hid hY
  have e1 : (X == 2 + (C : Int) * 4) = true := by rw [beq_iff_eq]; omega
  have e2 : (Y == (R : Int) * 4) = true := by rw [beq_iff_eq]; omega
  clear hfit hX hY
  go_enter Try.func3, Try.ntmps3
  go_wp2_with fail
  refine (place_at 2 2 rfl (by decide) 1 0 4 4 _ (by decide) (by decide) rfl rfl).mono ?_; rintro e w1 ⟨rfl, hb1⟩
  have HB1 := Lib.hid hb1
  clear hb1
  go_wp2_with fail
  refine (place_at 3 3 rfl (by decide) C R X Y _ (by omega) (by omega) (by rw [HX.out]; simp [gX, gDx]) (by rw [HY.out]; simp [gY, gDy])).mono ?_; rintro e w2 ⟨rfl, hb2⟩
  have HB2 := Lib.hid (HB1.out.trans (hb2.mono HB1.out.size))
  clear hb2 HB1
  go_wp2_with fail
  refine (pass_at X Y (2 + C * 4) (0 + R * 4) 3 _ HX.out HY.out HF.out).mono ?_; rintro e w3 ⟨rfl, hb3⟩
  have HB3 := Lib.hid (HB2.out.trans (hb3.mono HB2.out.size))
  clear hb3 HB2
  go_wp2_with fail
  refine (place_at 3 3 rfl (by decide) 0 0 2 0 _ (by decide) (by decide) (by decide) (by decide)).mono ?_; rintro e w4 ⟨rfl, hb4⟩
  have HB4 := Lib.hid (HB3.out.trans (hb4.mono HB3.out.size))
  clear hb4 HB3
  go_wp2_with fail
  refine (place_at 3 3 rfl (by decide) 1 1 6 4 _ (by decide) (by decide) (by decide) (by decide)).mono ?_; rintro e w5 ⟨rfl, hb5⟩
  have HB5 := Lib.hid (HB4.out.trans (hb5.mono HB4.out.size))
  clear hb5 HB4
  go_wp2_with fail
  refine (pass_at 2 0 2 0 3 _ rfl rfl (by decide +kernel)).mono ?_; rintro e w6 ⟨rfl, hb6⟩
  have HB6 := Lib.hid (HB5.out.trans (hb6.mono HB5.out.size))
  clear hb6 HB5
  go_wp2_with fail
  refine (first_at 3 2 0 6 4 3 2 0 6 4 _ rfl rfl rfl rfl rfl (by decide +kernel) (by decide +kernel) (by decide)).mono ?_; rintro e w7 ⟨rfl, hb7⟩
  have HB7 := Lib.hid (HB6.out.trans (hb7.mono HB6.out.size))
  clear hb7 HB6
  go_wp2_with fail
  go_ret
  exact ⟨rfl, HB7.out⟩

set_option maxHeartbeats 1600000 in
theorem lawPlaces_4 (C R : Nat) (w : World) (hc : C < 65535) (hr : R < 65535) :
    Calls Try.prog 3 #[.int .i64 4, .int .i64 (C : Int), .int .i64 (R : Int)] w fun e w' => e = .returned (.bool true) ∧ Below w.heap.size w w' := by
  have hfit := pass_fit 4 0 2 2 4 (by decide) rfl rfl rfl rfl C R
  have HF := Lib.hid hfit
  have HC := Lib.hid hc
  have HR := Lib.hid hr
  have d1 : decide ((C : Int) < 0) = false := by rw [decide_eq_false_iff_not]; omega
  have d2 : decide ((R : Int) < 0) = false := by rw [decide_eq_false_iff_not]; omega
  have d3 : decide ((65535 : Int) ≤ C) = false := by rw [decide_eq_false_iff_not]; omega
  have d4 : decide ((65535 : Int) ≤ R) = false := by rw [decide_eq_false_iff_not]; omega
  obtain ⟨X, hX⟩ : ∃ X : Int, X = ((0 + C * 2 : Nat) : Int) := ⟨_, rfl⟩
  obtain ⟨Y, hY⟩ : ∃ Y : Int, Y = ((2 + R * 4 : Nat) : Int) := ⟨_, rfl⟩
  have d5 : decide (X < 0) = false := by rw [decide_eq_false_iff_not]; omega
  have d6 : decide (Y < 0) = false := by rw [decide_eq_false_iff_not]; omega
  have hXb : Hid (0 + (C : Int) * 2 = X) := Lib.hid (by omega)
  have hYb : Hid (2 + (R : Int) * 4 = Y) := Lib.hid (by omega)
  have HX := Lib.hid hX
  have HY := Lib.hid hY
  have e1 : (X == (C : Int) * 2) = true := by rw [beq_iff_eq]; omega
  have e2 : (Y == 2 + (R : Int) * 4) = true := by rw [beq_iff_eq]; omega
  clear hfit hX hY
  go_enter Try.func3, Try.ntmps3
  go_wp2_with fail
  refine (place_at 2 2 rfl (by decide) 1 0 4 4 _ (by decide) (by decide) rfl rfl).mono ?_; rintro e w1 ⟨rfl, hb1⟩
  have HB1 := Lib.hid hb1
  clear hb1
  go_wp2_with fail
  refine (place_at 4 4 rfl (by decide) C R X Y _ (by omega) (by omega) (by rw [HX.out]; simp [gX, gDx]) (by rw [HY.out]; simp [gY, gDy])).mono ?_; rintro e w2 ⟨rfl, hb2⟩
  have HB2 := Lib.hid (HB1.out.trans (hb2.mono HB1.out.size))
  clear hb2 HB1
  go_wp2_with fail
  refine (pass_at X Y (0 + C * 2) (2 + R * 4) 4 _ HX.out HY.out HF.out).mono ?_; rintro e w3 ⟨rfl, hb3⟩
  have HB3 := Lib.hid (HB2.out.trans (hb3.mono HB2.out.size))
  clear hb3 HB2
  go_wp2_with fail
  refine (place_at 4 4 rfl (by decide) 0 0 0 2 _ (by decide) (by decide) (by decide) (by decide)).mono ?_; rintro e w4 ⟨rfl, hb4⟩
  have HB4 := Lib.hid (HB3.out.trans (hb4.mono HB3.out.size))
  clear hb4 HB3
  go_wp2_with fail
  refine (place_at 4 4 rfl (by decide) 1 1 2 6 _ (by decide) (by decide) (by decide) (by decide)).mono ?_; rintro e w5 ⟨rfl, hb5⟩
  have HB5 := Lib.hid (HB4.out.trans (hb5.mono HB4.out.size))
  clear hb5 HB4
  go_wp2_with fail
  refine (pass_at 0 2 0 2 4 _ rfl rfl (by decide +kernel)).mono ?_; rintro e w6 ⟨rfl, hb6⟩
  have HB6 := Lib.hid (HB5.out.trans (hb6.mono HB5.out.size))
  clear hb6 HB5
  go_wp2_with fail
  refine (first_at 4 0 2 2 6 4 0 2 2 6 _ rfl rfl rfl rfl rfl (by decide +kernel) (by decide +kernel) (by decide)).mono ?_; rintro e w7 ⟨rfl, hb7⟩
  have HB7 := Lib.hid (HB6.out.trans (hb7.mono HB6.out.size))
  clear hb7 HB6
  go_wp2_with fail
  go_ret
  exact ⟨rfl, HB7.out⟩

set_option maxHeartbeats 1600000 in
theorem lawPlaces_5 (C R : Nat) (w : World) (hc : C < 65535) (hr : R < 65535) :
    Calls Try.prog 3 #[.int .i64 5, .int .i64 (C : Int), .int .i64 (R : Int)] w fun e w' => e = .returned (.bool true) ∧ Below w.heap.size w w' := by
  have hfit := pass_fit 5 1 2 0 2 (by decide) rfl rfl rfl rfl C R
  have HF := Lib.hid hfit
  have HC := Lib.hid hc
  have HR := Lib.hid hr
  have d1 : decide ((C : Int) < 0) = false := by rw [decide_eq_false_iff_not]; omega
  have d2 : decide ((R : Int) < 0) = false := by rw [decide_eq_false_iff_not]; omega
  have d3 : decide ((65535 : Int) ≤ C) = false := by rw [decide_eq_false_iff_not]; omega
  have d4 : decide ((65535 : Int) ≤ R) = false := by rw [decide_eq_false_iff_not]; omega
  obtain ⟨X, hX⟩ : ∃ X : Int, X = ((1 + C * 2 : Nat) : Int) := ⟨_, rfl⟩
  obtain ⟨Y, hY⟩ : ∃ Y : Int, Y = ((0 + R * 2 : Nat) : Int) := ⟨_, rfl⟩
  have d5 : decide (X < 0) = false := by rw [decide_eq_false_iff_not]; omega
  have d6 : decide (Y < 0) = false := by rw [decide_eq_false_iff_not]; omega
  have hXb : Hid (1 + (C : Int) * 2 = X) := Lib.hid (by omega)
  have hYb : Hid (0 + (R : Int) * 2 = Y) := Lib.hid (by omega)
  have HX := Lib.hid hX
  have HY := Lib.hid hY
  have e1 : (X == 1 + (C : Int) * 2) = true := by rw [beq_iff_eq]; omega
  have e2 : (Y == (R : Int) * 2) = true := by rw [beq_iff_eq]; omega
  clear hfit hX hY
  go_enter Try.func3, Try.ntmps3
  go_wp2_with fail
  refine (place_at 2 2 rfl (by decide) 1 0 4 4 _ (by decide) (by decide) rfl rfl).mono ?_; rintro e w1 ⟨rfl, hb1⟩
  have HB1 := Lib.hid hb1
  clear hb1
  go_wp2_with fail
  refine (place_at 5 5 rfl (by decide) C R X Y _ (by omega) (by omega) (by rw [HX.out]; simp [gX, gDx]) (by rw [HY.out]; simp [gY, gDy])).mono ?_; rintro e w2 ⟨rfl, hb2⟩
  have HB2 := Lib.hid (HB1.out.trans (hb2.mono HB1.out.size))
  clear hb2 HB1
  go_wp2_with fail
  refine (pass_at X Y (1 + C * 2) (0 + R * 2) 5 _ HX.out HY.out HF.out).mono ?_; rintro e w3 ⟨rfl, hb3⟩
  have HB3 := Lib.hid (HB2.out.trans (hb3.mono HB2.out.size))
  clear hb3 HB2
  go_wp2_with fail
  refine (place_at 5 5 rfl (by decide) 0 0 1 0 _ (by decide) (by decide) (by decide) (by decide)).mono ?_; rintro e w4 ⟨rfl, hb4⟩
  have HB4 := Lib.hid (HB3.out.trans (hb4.mono HB3.out.size))
  clear hb4 HB3
  go_wp2_with fail
  refine (place_at 5 5 rfl (by decide) 1 1 3 2 _ (by decide) (by decide) (by decide) (by decide)).mono ?_; rintro e w5 ⟨rfl, hb5⟩
  have HB5 := Lib.hid (HB4.out.trans (hb5.mono HB4.out.size))
  clear hb5 HB4
  go_wp2_with fail
  refine (pass_at 1 0 1 0 5 _ rfl rfl (by decide +kernel)).mono ?_; rintro e w6 ⟨rfl, hb6⟩
  have HB6 := Lib.hid (HB5.out.trans (hb6.mono HB5.out.size))
  clear hb6 HB5
  go_wp2_with fail
  refine (first_at 5 1 0 3 2 5 1 0 3 2 _ rfl rfl rfl rfl rfl (by decide +kernel) (by decide +kernel) (by decide)).mono ?_; rintro e w7 ⟨rfl, hb7⟩
  have HB7 := Lib.hid (HB6.out.trans (hb7.mono HB6.out.size))
  clear hb7 HB6
  go_wp2_with fail
  go_ret
  exact ⟨rfl, HB7.out⟩

set_option maxHeartbeats 1600000 in
theorem lawPlaces_6 (C R : Nat) (w : World) (hc : C < 65535) (hr : R < 65535) :
    Calls Try.prog 3 #[.int .i64 6, .int .i64 (C : Int), .int .i64 (R : Int)] w fun e w' => e = .returned (.bool true) ∧ Below w.heap.size w w' := by
  have hfit := pass_fit 6 0 1 1 2 (by decide) rfl rfl rfl rfl C R
  have HF := Lib.hid hfit
  have HC := Lib.hid hc
  have HR := Lib.hid hr
  have d1 : decide ((C : Int) < 0) = false := by rw [decide_eq_false_iff_not]; omega
  have d2 : decide ((R : Int) < 0) = false := by rw [decide_eq_false_iff_not]; omega
  have d3 : decide ((65535 : Int) ≤ C) = false := by rw [decide_eq_false_iff_not]; omega
  have d4 : decide ((65535 : Int) ≤ R) = false := by rw [decide_eq_false_iff_not]; omega
  obtain ⟨X, hX⟩ : ∃ X : Int, X = ((0 + C * 1 : Nat) : Int) := ⟨_, rfl⟩
  obtain ⟨Y, hY⟩ : ∃ Y : Int, Y = ((1 + R * 2 : Nat) : Int) := ⟨_, rfl⟩
  have d5 : decide (X < 0) = false := by rw [decide_eq_false_iff_not]; omega
  have d6 : decide (Y < 0) = false := by rw [decide_eq_false_iff_not]; omega
  have hXb : Hid (0 + (C : Int) * 1 = X) := Lib.hid (by omega)
  have hYb : Hid (1 + (R : Int) * 2 = Y) := Lib.hid (by omega)
  have HX := Lib.hid hX
  have HY := Lib.hid hY
  have e1 : (X == (C : Int)) = true := by rw [beq_iff_eq]; omega
  have e2 : (Y == 1 + (R : Int) * 2) = true := by rw [beq_iff_eq]; omega
  clear hfit hX hY
  go_enter Try.func3, Try.ntmps3
  go_wp2_with fail
  refine (place_at 2 2 rfl (by decide) 1 0 4 4 _ (by decide) (by decide) rfl rfl).mono ?_; rintro e w1 ⟨rfl, hb1⟩
  have HB1 := Lib.hid hb1
  clear hb1
  go_wp2_with fail
  refine (place_at 6 6 rfl (by decide) C R X Y _ (by omega) (by omega) (by rw [HX.out]; simp [gX, gDx]) (by rw [HY.out]; simp [gY, gDy])).mono ?_; rintro e w2 ⟨rfl, hb2⟩
  have HB2 := Lib.hid (HB1.out.trans (hb2.mono HB1.out.size))
  clear hb2 HB1
  go_wp2_with fail
  refine (pass_at X Y (0 + C * 1) (1 + R * 2) 6 _ HX.out HY.out HF.out).mono ?_; rintro e w3 ⟨rfl, hb3⟩
  have HB3 := Lib.hid (HB2.out.trans (hb3.mono HB2.out.size))
  clear hb3 HB2
  go_wp2_with fail
  refine (place_at 6 6 rfl (by decide) 0 0 0 1 _ (by decide) (by decide) (by decide) (by decide)).mono ?_; rintro e w4 ⟨rfl, hb4⟩
  have HB4 := Lib.hid (HB3.out.trans (hb4.mono HB3.out.size))
  clear hb4 HB3
  go_wp2_with fail
  refine (place_at 6 6 rfl (by decide) 1 1 1 3 _ (by decide) (by decide) (by decide) (by decide)).mono ?_; rintro e w5 ⟨rfl, hb5⟩
  have HB5 := Lib.hid (HB4.out.trans (hb5.mono HB4.out.size))
  clear hb5 HB4
  go_wp2_with fail
  refine (pass_at 0 1 0 1 6 _ rfl rfl (by decide +kernel)).mono ?_; rintro e w6 ⟨rfl, hb6⟩
  have HB6 := Lib.hid (HB5.out.trans (hb6.mono HB5.out.size))
  clear hb6 HB5
  go_wp2_with fail
  refine (first_at 6 0 1 1 3 6 0 1 1 3 _ rfl rfl rfl rfl rfl (by decide +kernel) (by decide +kernel) (by decide)).mono ?_; rintro e w7 ⟨rfl, hb7⟩
  have HB7 := Lib.hid (HB6.out.trans (hb7.mono HB6.out.size))
  clear hb7 HB6
  go_wp2_with fail
  go_ret
  exact ⟨rfl, HB7.out⟩

set_option maxHeartbeats 800000 in
theorem lawPlaces_out (p c r : Int) (w : World) (h : p < 0 ∨ 7 ≤ p ∨ c < 0 ∨ 65535 ≤ c ∨ r < 0 ∨ 65535 ≤ r) :
    Calls Try.prog 3 #[.int .i64 p, .int .i64 c, .int .i64 r] w fun e w' => e = .returned (.bool true) ∧ Below w.heap.size w w' := by
  have H := Lib.hid h
  have hd : decide (p < (0 : Int)) = true ∨ (decide (p < (0 : Int)) = false ∧ decide ((6 : Int) < p) = true) ∨ (decide (p < (0 : Int)) = false ∧ decide ((6 : Int) < p) = false ∧ decide (c < (0 : Int)) = true) ∨
      (decide (p < (0 : Int)) = false ∧ decide ((6 : Int) < p) = false ∧ decide (c < (0 : Int)) = false ∧ decide (r < (0 : Int)) = true) ∨
      (decide (p < (0 : Int)) = false ∧ decide ((6 : Int) < p) = false ∧ decide (c < (0 : Int)) = false ∧ decide (r < (0 : Int)) = false ∧ decide ((65535 : Int) ≤ c) = true) ∨
      (decide (p < (0 : Int)) = false ∧ decide ((6 : Int) < p) = false ∧ decide (c < (0 : Int)) = false ∧ decide (r < (0 : Int)) = false ∧ decide ((65535 : Int) ≤ c) = false ∧ decide ((65535 : Int) ≤ r) = true) := by
    simp only [decide_eq_true_eq, decide_eq_false_iff_not]
    omega
  clear h
  rcases hd with h1 | ⟨h1, h2⟩ | ⟨h1, h2, h3⟩ | ⟨h1, h2, h3, h4⟩ | ⟨h1, h2, h3, h4, h5⟩ | ⟨h1, h2, h3, h4, h5, h6⟩
  all_goals
    go_enter Try.func3, Try.ntmps3
    go_wp2_with fail
    refine (place_at 2 2 rfl (by decide) 1 0 4 4 _ (by decide) (by decide) rfl rfl).mono ?_; rintro e w1 ⟨rfl, hb1⟩
    have HB1 := Lib.hid hb1
    clear hb1
    go_wp2_with fail
    refine (place_out p c r _ H.out).mono ?_; rintro e w' ⟨rfl, rfl⟩
    go_wp2_with fail
    go_ret
    exact ⟨rfl, HB1.out⟩

theorem lawPlaces_any (p c r : Int) (w : World) (_ : -9223372036854775808 ≤ p ∧ p ≤ 9223372036854775807) (_ : -9223372036854775808 ≤ c ∧ c ≤ 9223372036854775807) (_ : -9223372036854775808 ≤ r ∧ r ≤ 9223372036854775807) :
    Calls Try.prog 3 #[.int .i64 p, .int .i64 c, .int .i64 r] w fun e w' => e = .returned (.bool true) ∧ Below w.heap.size w w' := by
  by_cases h : p < 0 ∨ 7 ≤ p ∨ c < 0 ∨ 65535 ≤ c ∨ r < 0 ∨ 65535 ≤ r
  · exact lawPlaces_out p c r w h
  · obtain ⟨C, rfl⟩ : ∃ C : Nat, c = (C : Int) := ⟨c.toNat, by omega⟩
    obtain ⟨R, rfl⟩ : ∃ R : Nat, r = (R : Int) := ⟨r.toNat, by omega⟩
    have hc : C < 65535 := by omega
    have hr : R < 65535 := by omega
    rcases (by omega : p = 0 ∨ p = 1 ∨ p = 2 ∨ p = 3 ∨ p = 4 ∨ p = 5 ∨ p = 6) with rfl | rfl | rfl | rfl | rfl | rfl | rfl
    · exact lawPlaces_0 C R w hc hr
    · exact lawPlaces_1 C R w hc hr
    · exact lawPlaces_2 C R w hc hr
    · exact lawPlaces_3 C R w hc hr
    · exact lawPlaces_4 C R w hc hr
    · exact lawPlaces_5 C R w hc hr
    · exact lawPlaces_6 C R w hc hr
end Go.Proofs.Ytfmkcpilljfidaa
