/- The walk of burnishref15.Size. By an AI agent. -/
import Derived.Test.YtfmkcpilljfidaaPass
import Derived.Test.YtfmkcpilljfidaaSizeP
namespace Go.Proofs.Ytfmkcpilljfidaa
open Go.RowKit
set_option linter.unusedVariables false
set_option linter.unusedSimpArgs false

set_option maxHeartbeats 3200000 in
theorem refSize_in (p W H : Nat) (hp : p < 7) (w : World) (hW : 1 ≤ W ∧ W ≤ 65535) (hH : 1 ≤ H ∧ H ≤ 65535) :
    Calls Try.prog 13 #[.int .i64 (W : Int), .int .i64 (H : Int), .int .i64 (p : Int)] w fun e w' => e = .returned (.tuple #[.int .i64 ((sizeN p W H).1 : Nat), .int .i64 ((sizeN p W H).2 : Nat)]) ∧ Below w.heap.size w w' := by
  have d1 : decide ((W : Int) < 1) = false := by rw [decide_eq_false_iff_not]; omega
  have d2 : decide ((H : Int) < 1) = false := by rw [decide_eq_false_iff_not]; omega
  have d3 : decide ((65535 : Int) < W) = false := by rw [decide_eq_false_iff_not]; omega
  have d4 : decide ((65535 : Int) < H) = false := by rw [decide_eq_false_iff_not]; omega
  have d5 : decide ((p : Int) < 0) = false := by rw [decide_eq_false_iff_not]; omega
  have d6 : decide ((6 : Int) < p) = false := by rw [decide_eq_false_iff_not]; omega
  have HW := Lib.hid hW
  have HH := Lib.hid hH
  have HP := Lib.hid hp
  clear hW hH hp
  go_enter Try.func13, Try.ntmps13
  go_wp2_with fail
  clear d1 d2 d3 d4 d5 d6
  go_loopw [8, 9, 10, 11, 12, 13] (fun a b c _ _ _ w' => ∃ m : Nat, m ≤ 8 ∧ a = .int .i64 (wAt p W H m : Nat) ∧ b = .int .i64 (hS p W H m : Nat) ∧ c = .int .i64 m ∧ Below w.heap.size w w') (fun _ _ c _ _ _ _ => 8 - (intOf c).toNat)
  case atStart => exact ⟨0, by omega, by simp [wAt], by simp [hS, hAt], rfl, Below.refl _ _⟩
  case round =>
    obtain ⟨m, hm, rfl, rfl, rfl, hbl⟩ := hrel
    have HBL := Lib.hid hbl
    clear hbl
    have WS := Lib.hid (wAt_succ p W H m HP.out)
    have HSS := Lib.hid (hS_succ p W H m HP.out)
    have HLE := Lib.hid (hS_le p W H m HH.out.1)
    by_cases hm8 : m < 8
    · have dm : decide ((m : Int) < 8) = true := by rw [decide_eq_true_eq]; omega
      go_wp2
      go_loopw [11, 12] (fun c x w' => ∃ n : Nat, n ≤ W ∧ c = .int .i64 (colN p m n : Nat) ∧ x = .int .i64 n ∧ Below w.heap.size w w') (fun _ x _ => W - (intOf x).toNat)
      case atStart => exact ⟨0, Nat.zero_le _, rfl, rfl, HBL.out⟩
      case round =>
        obtain ⟨n, hn, rfl, rfl, hbl⟩ := hrel
        have HBL2 := Lib.hid hbl
        have HLC := Lib.hid (colN_le p m n)
        clear hbl
        by_cases hnW : n < W
        · have hq1 : Hid (passOf n m = passOf n m) := Lib.hid rfl
          obtain ⟨q, hq⟩ : ∃ q, passOf n m = q := ⟨_, rfl⟩
          have HQ := Lib.hid hq
          have HCN : Hid (colN p m (n + 1) = colN p m n + (if q = p then 1 else 0)) := Lib.hid (by rw [← hq]; rfl)
          obtain ⟨cc, hcc⟩ : ∃ cc, colN p m n = cc := ⟨_, rfl⟩
          have hcb : cc ≤ 65535 := by have := HLC.out; have := HW.out; omega
          have hnb : n ≤ 65535 := by have := HW.out; omega
          rw [hcc]
          have HCC := Lib.hid hcc
          clear hq hcc hq1
          by_cases hqp : q = p
          · have e1 : ((q : Int) == (p : Int)) = true := by rw [beq_iff_eq]; omega
            have e2 : (q == p) = true := by rw [beq_iff_eq]; exact hqp
            have HQP := Lib.hid hqp
            clear hqp
            go_wp2_with fail
            refine (pass_any n m _).mono ?_; rintro e w1 ⟨rfl, hb1⟩
            rw [HQ.out]
            have HB1 := Lib.hid hb1
            clear hb1
            go_wp2_with fail
            go_roundw
            case rel => exact ⟨n + 1, by omega, by rw [HCN.out, HCC.out, if_pos HQP.out]; go_num, by go_num, HBL2.out.trans (HB1.out.mono HBL2.out.size)⟩
            case measure => simp [intOf]; omega
          · have e1 : ((q : Int) == (p : Int)) = false := by rw [beq_eq_false_iff_ne]; omega
            have e2 : (q == p) = false := by rw [beq_eq_false_iff_ne]; exact hqp
            have HQP := Lib.hid hqp
            clear hqp
            go_wp2_with fail
            refine (pass_any n m _).mono ?_; rintro e w1 ⟨rfl, hb1⟩
            rw [HQ.out]
            have HB1 := Lib.hid hb1
            clear hb1
            go_wp2_with fail
            go_roundw
            case rel => exact ⟨n + 1, by omega, by rw [HCN.out, HCC.out, if_neg HQP.out]; rfl, by go_num, HBL2.out.trans (HB1.out.mono HBL2.out.size)⟩
            case measure => simp [intOf]; omega
        · obtain rfl : n = W := by omega
          obtain ⟨C, hC⟩ : ∃ C, colN p m n = C := ⟨_, rfl⟩
          obtain ⟨w0, hw0⟩ : ∃ x, wAt p n H m = x := ⟨_, rfl⟩
          obtain ⟨h0, hh0⟩ : ∃ x, hS p n H m = x := ⟨_, rfl⟩
          rw [hC, hw0, hh0]
          have WSN : Hid (wAt p n H (m + 1) = if 0 < C ∧ w0 = 0 ∧ m < H then C else w0) := Lib.hid (by rw [WS.out, hC, hw0])
          have HSN : Hid (hS p n H (m + 1) = h0 + (if 0 < C then (H - m + 7) / 8 else 0)) := Lib.hid (by rw [HSS.out, hC, hh0])
          have hCb : C ≤ 65535 := by have := HLC.out; have := HW.out; omega
          have hh0b : h0 ≤ 524280 := by
            have h1 := HLE.out
            have h2 := Nat.mul_le_mul (Nat.le_of_lt hm8) HH.out.2
            omega
          have hHb : H ≤ 65535 := HH.out.2
          clear hC hw0 hh0 hnW hn
          have tail : ∀ w1 : Nat, True := fun _ => trivial
          clear tail
          by_cases hC0 : 0 < C
          · have e1 : decide ((0 : Int) < (C : Int)) = true := by rw [decide_eq_true_eq]; omega
            have e1' : decide (0 < C) = true := by rw [decide_eq_true_eq]; exact hC0
            have key : (∃ w1 : Nat, w1 = wAt p n H (m + 1) ∧ (((((w0 : Int) == 0) = true ∧ decide (m < H) = true) ∧ w1 = C) ∨ ((((w0 : Int) == 0) = true ∧ decide (m < H) = false) ∧ w1 = w0) ∨ (((w0 : Int) == 0) = false ∧ w1 = w0))) := by
              refine ⟨_, rfl, ?_⟩
              rw [WSN.out]
              simp only [beq_iff_eq, decide_eq_true_eq, decide_eq_false_iff_not, beq_eq_false_iff_ne]
              by_cases a1 : w0 = 0
              · by_cases a2 : m < H
                · rw [if_pos ⟨hC0, a1, a2⟩]; exact .inl ⟨⟨by omega, a2⟩, rfl⟩
                · rw [if_neg (fun x => a2 x.2.2)]; exact .inr (.inl ⟨⟨by omega, a2⟩, rfl⟩)
              · rw [if_neg (fun x => a1 x.2.1)]; exact .inr (.inr ⟨by omega, rfl⟩)
            have HSC : Hid (hS p n H (m + 1) = h0 + (H - m + 7) / 8) := Lib.hid (by rw [HSN.out, if_pos hC0])
            obtain ⟨w1, hw1, hk⟩ := key
            have HW1 := Lib.hid hw1
            clear hw1 hC0
            rcases hk with ⟨⟨k1, k2⟩, rfl⟩ | ⟨⟨k1, k2⟩, rfl⟩ | ⟨k1, rfl⟩
            all_goals
              go_wp2
              try clear k1
              try clear k2
              go_loopw [9, 13] (fun b k w' => ∃ j : Nat, j ≤ (H - m + 7) / 8 ∧ b = .int .i64 ((h0 + j : Nat) : Int) ∧ k = .int .i64 ((m + 8 * j : Nat) : Int) ∧ Below w.heap.size w w') (fun _ k _ => H + 8 - (intOf k).toNat)
              case atStart => exact ⟨0, Nat.zero_le _, rfl, rfl, HBL2.out⟩
              case round =>
                obtain ⟨j, hj, rfl, rfl, hbl⟩ := hrel
                have HBL3 := Lib.hid hbl
                clear hbl
                by_cases hjH : m + 8 * j < H
                · have f1 : decide (m + 8 * j < H) = true := by rw [decide_eq_true_eq]; exact hjH
                  have f2 : decide (((m + 8 * j : Nat) : Int) < (H : Int)) = true := by rw [decide_eq_true_eq]; omega
                  have hjb : h0 + j ≤ 532480 := by omega
                  go_wp2
                  go_roundw
                  case rel => exact ⟨j + 1, by omega, by go_num, by go_num, HBL3.out⟩
                  case measure => simp [intOf]; omega
                · have f1 : decide (m + 8 * j < H) = false := by rw [decide_eq_false_iff_not]; exact hjH
                  have f2 : decide (((m + 8 * j : Nat) : Int) < (H : Int)) = false := by rw [decide_eq_false_iff_not]; omega
                  have HJ : Hid (hS p n H (m + 1) = h0 + j) := Lib.hid (by rw [HSC.out]; omega)
                  go_wp2
                  go_roundw
                  case rel => exact ⟨m + 1, by omega, by rw [← HW1.out], by rw [HJ.out]; go_num, by go_num, HBL3.out⟩
                  case measure => simp [intOf]; omega
          · have e1 : decide ((0 : Int) < (C : Int)) = false := by rw [decide_eq_false_iff_not]; omega
            have e1' : decide (0 < C) = false := by rw [decide_eq_false_iff_not]; exact hC0
            have HJ : Hid (hS p n H (m + 1) = h0) := Lib.hid (by rw [HSN.out, if_neg hC0]; rfl)
            have HW1 : Hid (wAt p n H (m + 1) = w0) := Lib.hid (by rw [WSN.out, if_neg (fun x => hC0 x.1)])
            clear hC0
            rcases hmH : decide (m < H) with _ | _
            all_goals
              go_wp2
              go_loopw [9, 13] (fun b k w' => b = .int .i64 (h0 : Nat) ∧ k = .int .i64 m ∧ Below w.heap.size w w') (fun _ k _ => 0)
              case atStart => exact ⟨rfl, rfl, HBL2.out⟩
              case round =>
                obtain ⟨rfl, rfl, hbl⟩ := hrel
                have HBL3 := Lib.hid hbl
                clear hbl
                go_wp2
                go_roundw
                case rel => exact ⟨m + 1, by omega, by rw [HW1.out], by rw [HJ.out], by go_num, HBL3.out⟩
                case measure => simp [intOf]; omega
    · obtain rfl : m = 8 := by omega
      have HF := Lib.hid (size_end p W H HP.out)
      have HLE8 : hS p W H 8 ≤ 524280 := by
        have h1 := HLE.out
        have h2 := HH.out.2
        omega
      have hdef : hS p W H 8 = (if 0 < colsN p W then hAt p H 8 else 0) := rfl
      rw [← hdef] at HF
      obtain ⟨a, ha⟩ : ∃ x, wAt p W H 8 = x := ⟨_, rfl⟩
      obtain ⟨b, hb⟩ : ∃ x, hS p W H 8 = x := ⟨_, rfl⟩
      have HF2 : Hid (sizeN p W H = if a = 0 ∨ b = 0 then (0, 0) else (a, b)) := Lib.hid (by rw [← HF.out, ha, hb])
      rw [ha, hb]
      clear ha hb hdef HLE8 hm hm8
      by_cases h0 : a = 0
      · have e0 : ((a : Int) == 0) = true := by rw [beq_iff_eq]; omega
        have F : Hid (sizeN p W H = (0, 0)) := Lib.hid (by rw [HF2.out, if_pos (Or.inl h0)])
        clear h0
        go_wp2
        go_ret2
        exact ⟨rt2 (by rw [F.out]; rfl) (by rw [F.out]; rfl), HBL.out⟩
      · have e0 : ((a : Int) == 0) = false := by rw [beq_eq_false_iff_ne]; omega
        by_cases h1 : b = 0
        · have e1 : ((b : Int) == 0) = true := by rw [beq_iff_eq]; omega
          have F : Hid (sizeN p W H = (0, 0)) := Lib.hid (by rw [HF2.out, if_pos (Or.inr h1)])
          clear h0 h1
          go_wp2
          go_ret2
          exact ⟨rt2 (by rw [F.out]; rfl) (by rw [F.out]; rfl), HBL.out⟩
        · have e1 : ((b : Int) == 0) = false := by rw [beq_eq_false_iff_ne]; omega
          have F : Hid (sizeN p W H = (a, b)) := Lib.hid (by rw [HF2.out, if_neg (fun x => x.elim h0 h1)])
          clear h0 h1
          go_wp2
          go_ret2
          exact ⟨rt2 (by rw [F.out]) (by rw [F.out]), HBL.out⟩

theorem refSize_at (W H P : Int) (w' h p : Nat) (w : World) (hW : W = (w' : Int)) (hH : H = (h : Int)) (hP : P = (p : Int)) (hp : p < 7) (h1 : 1 ≤ w' ∧ w' ≤ 65535) (h2 : 1 ≤ h ∧ h ≤ 65535) :
    Calls Try.prog 13 #[.int .i64 W, .int .i64 H, .int .i64 P] w fun e W' => e = .returned (.tuple #[.int .i64 ((sizeN p w' h).1 : Nat), .int .i64 ((sizeN p w' h).2 : Nat)]) ∧ Below w.heap.size w W' := by
  subst hW hH hP; exact refSize_in p w' h hp w h1 h2
set_option maxHeartbeats 800000 in
theorem refSize_out (W H p : Int) (w : World) (h : p < 0 ∨ 7 ≤ p ∨ ¬(1 ≤ W ∧ W ≤ 65535) ∨ ¬(1 ≤ H ∧ H ≤ 65535)) :
    Calls Try.prog 13 #[.int .i64 W, .int .i64 H, .int .i64 p] w fun e w' => e = .returned (.tuple #[.int .i64 0, .int .i64 0]) ∧ w = w' := by
  have c : decide (W < 1) = true ∨ (decide (W < 1) = false ∧ decide (H < 1) = true) ∨ (decide (W < 1) = false ∧ decide (H < 1) = false ∧ decide ((65535 : Int) < W) = true) ∨
      (decide (W < 1) = false ∧ decide (H < 1) = false ∧ decide ((65535 : Int) < W) = false ∧ decide ((65535 : Int) < H) = true) ∨
      (decide (W < 1) = false ∧ decide (H < 1) = false ∧ decide ((65535 : Int) < W) = false ∧ decide ((65535 : Int) < H) = false ∧ decide (p < 0) = true) ∨
      (decide (W < 1) = false ∧ decide (H < 1) = false ∧ decide ((65535 : Int) < W) = false ∧ decide ((65535 : Int) < H) = false ∧ decide (p < 0) = false ∧ decide ((6 : Int) < p) = true) := by
    simp only [decide_eq_true_eq, decide_eq_false_iff_not]
    omega
  clear h
  rcases c with h1 | ⟨h1, h2⟩ | ⟨h1, h2, h3⟩ | ⟨h1, h2, h3, h4⟩ | ⟨h1, h2, h3, h4, h5⟩ | ⟨h1, h2, h3, h4, h5, h6⟩
  all_goals
    go_enter Try.func13, Try.ntmps13
    go_wp2_with fail
    go_ret2
    exact ⟨rfl, rfl⟩
end Go.Proofs.Ytfmkcpilljfidaa
