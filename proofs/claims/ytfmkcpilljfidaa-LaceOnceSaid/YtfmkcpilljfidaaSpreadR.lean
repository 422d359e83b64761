/- The walk of burnishref15.Spread. By an AI agent. -/
import Derived.Test.YtfmkcpilljfidaaSpreadP
namespace Go.Proofs.Ytfmkcpilljfidaa
open Go.RowKit
set_option linter.unusedVariables false
set_option linter.unusedSimpArgs false

theorem sr_facts (j n W H jw t : Nat) (hj : j < H) (hn : n < W) (hWH : W * H ≤ 262144) (h1 : j * W = jw) (h2 : jw + n = t) :
    IntKind.i64.wrap ((j : Int) * (W : Int)) = (jw : Int) ∧ wrap64 ((j : Int) * (W : Int)) = (jw : Int) ∧ IntKind.i64.wrap ((jw : Int) + (n : Int)) = (t : Int) ∧ wrap64 ((jw : Int) + (n : Int)) = (t : Int) := by
  have a1 : (j : Int) * (W : Int) = (jw : Int) := by rw [← h1]; simp
  have hb : jw ≤ 262144 := by rw [← h1]; exact Nat.le_trans (Nat.mul_le_mul_right W (Nat.le_of_lt hj)) (by rw [Nat.mul_comm]; exact hWH)
  have hW : W ≤ 262144 := Nat.le_trans (Nat.le_mul_of_pos_right W (by omega)) hWH
  have a2 : (jw : Int) + (n : Int) = (t : Int) := by omega
  rw [a1, a2]
  exact ⟨IntWalk.i64_in _ (by omega), IntWalk.wrap64_in _ (by omega), IntWalk.i64_in _ (by omega), IntWalk.wrap64_in _ (by omega)⟩

set_option maxHeartbeats 3200000 in
theorem refSpread_0 (W H : Nat) (w : World) (hW : 1 ≤ W ∧ W ≤ 262144) (hH : 1 ≤ H ∧ H ≤ 262144) (hWH : W * H ≤ 262144) :
    Calls Try.prog 16 #[.int .i64 (W : Int), .int .i64 (H : Int), .int .i64 0] w fun e w' => ∃ v, e = .returned (.tuple #[v, .bool true]) ∧ Ns w' v (passL (selP 0) W H 7) ∧ Below w.heap.size w w' := by
  have d1 : decide ((W : Int) < 1) = false := by rw [decide_eq_false_iff_not]; omega
  have d2 : decide ((H : Int) < 1) = false := by rw [decide_eq_false_iff_not]; omega
  have d3 : decide ((262144 : Int) < W) = false := by rw [decide_eq_false_iff_not]; omega
  have d4 : decide ((262144 : Int) < H) = false := by rw [decide_eq_false_iff_not]; omega
  obtain ⟨wh, hwh⟩ : ∃ q, W * H = q := ⟨_, rfl⟩
  have a0 : (W : Int) * (H : Int) = (wh : Int) := by rw [← hwh]; simp
  have d5 : IntKind.i64.wrap ((W : Int) * (H : Int)) = (wh : Int) := by rw [a0]; exact IntWalk.i64_in _ (by omega)
  have d5' : wrap64 ((W : Int) * (H : Int)) = (wh : Int) := by rw [a0]; exact IntWalk.wrap64_in _ (by omega)
  have d6 : decide ((262144 : Int) < (wh : Int)) = false := by rw [decide_eq_false_iff_not]; omega
  have d6' : decide (262144 < wh) = false := by rw [decide_eq_false_iff_not]; omega
  have HW := Lib.hid hW
  have HH := Lib.hid hH
  have HWH := Lib.hid hWH
  clear hW hH hWH hwh a0
  go_enter Try.func16, Try.ntmps16
  go_wp2_with fail
  clear d1 d2 d3 d4 d5 d5' d6 d6'
  go_loopw [8, 9, 10, 11] (fun o p _ _ w' => ∃ k : Nat, k ≤ 7 ∧ Ow w.heap.size w' o (passL (selP 0) W H k) ∧ p = .int .i64 k ∧ Below w.heap.size w w') (fun _ p _ _ _ => 7 - (intOf p).toNat)
  case atStart => exact ⟨0, Nat.zero_le _, Ow.nil _ _, rfl, Below.refl _ _⟩
  case round =>
    obtain ⟨k, hk, how, rfl, hbl⟩ := hrel
    have HO := Lib.hid how
    have HB := Lib.hid hbl
    clear how hbl
    by_cases hk7 : k < 7
    · have f1 : decide ((k : Int) < 7) = true := by rw [decide_eq_true_eq]; omega
      go_wp2_with fail
      go_loopw [8, 10, 11] (fun o y _ w' => ∃ j : Nat, j ≤ H ∧ Ow w.heap.size w' o (passL (selP 0) W H k ++ rowsL (selP 0 k) W j) ∧ y = .int .i64 j ∧ Below w.heap.size w w') (fun _ y _ _ => H - (intOf y).toNat)
      case atStart => exact ⟨0, Nat.zero_le _, by simpa [rowsL] using HO.out, rfl, HB.out⟩
      case round =>
        obtain ⟨j, hj, how, rfl, hbl⟩ := hrel
        have HO2 := Lib.hid how
        have HB2 := Lib.hid hbl
        clear how hbl
        have hjb : j ≤ 262144 := by have := HH.out; omega
        by_cases hjH : j < H
        · have f2 : decide (j < H) = true := by rw [decide_eq_true_eq]; exact hjH
          have f2' : decide ((j : Int) < (H : Int)) = true := by rw [decide_eq_true_eq]; omega
          go_wp2_with fail
          go_loopw [8, 11] (fun o x w' => ∃ n : Nat, n ≤ W ∧ Ow w.heap.size w' o (passL (selP 0) W H k ++ rowsL (selP 0 k) W j ++ cellsL (selP 0 k) W j n) ∧ x = .int .i64 n ∧ Below w.heap.size w w') (fun _ x _ => W - (intOf x).toNat)
          case atStart => exact ⟨0, Nat.zero_le _, by simpa [cellsL] using HO2.out, rfl, HB2.out⟩
          case round =>
            obtain ⟨n, hn, how, rfl, hbl⟩ := hrel
            have HO3 := Lib.hid how
            have HB3 := Lib.hid hbl
            clear how hbl
            have hnb : n ≤ 262144 := by have := HW.out; omega
            by_cases hnW : n < W
            · have f3 : decide (n < W) = true := by rw [decide_eq_true_eq]; exact hnW
              have f3' : decide ((n : Int) < (W : Int)) = true := by rw [decide_eq_true_eq]; omega
              have LS := Lib.hid (cellsL_succ (selP 0 k) W j n)
              have LL : Hid ((passL (selP 0) W H k ++ rowsL (selP 0 k) W j ++ cellsL (selP 0 k) W j n).length ≤ 3000000) := Lib.hid (by
                have h1 := passL_len (selP 0) W H k
                have h2 := rowsL_len (selP 0 k) W j
                have h3 := cellsL_len (selP 0 k) W j n
                have h4 := Nat.mul_le_mul_left k (show H * W ≤ 262144 by rw [Nat.mul_comm]; exact HWH.out)
                have h5 := Nat.mul_le_mul_right W (Nat.le_of_lt hjH)
                have h6 : H * W ≤ 262144 := by rw [Nat.mul_comm]; exact HWH.out
                rw [List.length_append, List.length_append]
                omega)
              obtain ⟨L, hL⟩ : ∃ L, passL (selP 0) W H k ++ rowsL (selP 0 k) W j ++ cellsL (selP 0 k) W j n = L := ⟨_, rfl⟩
              rw [hL] at HO3 LL
              have HL := Lib.hid hL
              clear hL
              obtain ⟨jw, hjw⟩ : ∃ q, j * W = q := ⟨_, rfl⟩
              obtain ⟨t, ht⟩ : ∃ t, jw + n = t := ⟨_, rfl⟩
              obtain ⟨m1, m2, m3, m4⟩ := sr_facts j n W H jw t hjH hnW HWH.out hjw ht
              rw [hjw, ht] at LS
              clear hjw ht
              by_cases h0 : k = 0
              · have e1 : ((k : Int) == 0) = true := by rw [beq_iff_eq]; omega
                have e2 : (k == 0) = true := by rw [beq_iff_eq]; exact h0
                have HS : Hid (selP 0 k n j = true) := Lib.hid e2
                clear h0
                go_wp2_with (at_builtin; refine stop ?_)
                refine unstop (wpList_app tyN rfl _ _ rfl w.heap.size _ L.length (vIs L) rfl (World.ownsRow.alloc HO3.out _) _ 1 [.int .i64 (t : Int)] rfl (sl_lit _ _ _ 1 rfl (by omega)) (by intro u hu; simp at hu; subst hu; rfl) (by have := LL.out; omega) (by have := LL.out; omega) (Nat.le_trans HB3.out.size (by simp)) ?_)
                intro v1 w1 hown1 hg1 _
                have HB5 := Lib.hid (run_app_below (World.ownsRow.alloc HO3.out _) hg1 (HB3.out.alloc HB3.out.size _) (Nat.le_refl _))
                have HO5 : Hid (Ow w.heap.size w1 v1 (L ++ [(t : Int)])) := Lib.hid (Ow.snoc hown1 rfl)
                clear hown1 hg1
                go_wp2_with fail
                go_roundw
                case rel => exact ⟨n + 1, by omega, by rw [LS.out, if_pos HS.out, ← List.append_assoc, HL.out]; exact HO5.out, by go_num, HB5.out⟩
                case measure => simp [intOf]; omega
              · have e1 : ((k : Int) == 0) = false := by rw [beq_eq_false_iff_ne]; omega
                have e2 : (k == 0) = false := by rw [beq_eq_false_iff_ne]; exact h0
                have HS : Hid (selP 0 k n j = false) := Lib.hid e2
                clear h0
                go_wp2_with fail
                go_roundw
                case rel => exact ⟨n + 1, by omega, by rw [LS.out, if_neg (by rw [HS.out]; exact Bool.false_ne_true), ← List.append_assoc, HL.out, List.append_nil]; exact HO3.out, by go_num, HB3.out⟩
                case measure => simp [intOf]; omega
            · obtain rfl : n = W := by omega
              have f3 : decide ((n : Int) < (n : Int)) = false := by rw [decide_eq_false_iff_not]; omega
              go_wp2_with fail
              go_roundw
              case rel => exact ⟨j + 1, by omega, by rw [rowsL_succ, ← List.append_assoc]; exact HO3.out, by go_num, HB3.out⟩
              case measure => simp [intOf]; omega
        · obtain rfl : j = H := by omega
          have f2 : decide ((j : Int) < (j : Int)) = false := by rw [decide_eq_false_iff_not]; omega
          go_wp2_with fail
          go_roundw
          case rel => exact ⟨k + 1, by omega, by rw [passL_succ]; exact HO2.out, by go_num, HB2.out⟩
          case measure => simp [intOf]; omega
    · obtain rfl : k = 7 := by omega
      go_wp2_with fail
      go_ret2
      exact ⟨_, rfl, HO.out.ns, HB.out⟩

set_option maxHeartbeats 3200000 in
theorem refSpread_1 (W H : Nat) (w : World) (hW : 1 ≤ W ∧ W ≤ 262144) (hH : 1 ≤ H ∧ H ≤ 262144) (hWH : W * H ≤ 262144) :
    Calls Try.prog 16 #[.int .i64 (W : Int), .int .i64 (H : Int), .int .i64 1] w fun e w' => ∃ v, e = .returned (.tuple #[v, .bool true]) ∧ Ns w' v (passL (selP 1) W H 7) ∧ Below w.heap.size w w' := by
  have d1 : decide ((W : Int) < 1) = false := by rw [decide_eq_false_iff_not]; omega
  have d2 : decide ((H : Int) < 1) = false := by rw [decide_eq_false_iff_not]; omega
  have d3 : decide ((262144 : Int) < W) = false := by rw [decide_eq_false_iff_not]; omega
  have d4 : decide ((262144 : Int) < H) = false := by rw [decide_eq_false_iff_not]; omega
  obtain ⟨wh, hwh⟩ : ∃ q, W * H = q := ⟨_, rfl⟩
  have a0 : (W : Int) * (H : Int) = (wh : Int) := by rw [← hwh]; simp
  have d5 : IntKind.i64.wrap ((W : Int) * (H : Int)) = (wh : Int) := by rw [a0]; exact IntWalk.i64_in _ (by omega)
  have d5' : wrap64 ((W : Int) * (H : Int)) = (wh : Int) := by rw [a0]; exact IntWalk.wrap64_in _ (by omega)
  have d6 : decide ((262144 : Int) < (wh : Int)) = false := by rw [decide_eq_false_iff_not]; omega
  have d6' : decide (262144 < wh) = false := by rw [decide_eq_false_iff_not]; omega
  have HW := Lib.hid hW
  have HH := Lib.hid hH
  have HWH := Lib.hid hWH
  clear hW hH hWH hwh a0
  go_enter Try.func16, Try.ntmps16
  go_wp2_with fail
  clear d1 d2 d3 d4 d5 d5' d6 d6'
  go_loopw [8, 9, 10, 11] (fun o p _ _ w' => ∃ k : Nat, k ≤ 7 ∧ Ow w.heap.size w' o (passL (selP 1) W H k) ∧ p = .int .i64 k ∧ Below w.heap.size w w') (fun _ p _ _ _ => 7 - (intOf p).toNat)
  case atStart => exact ⟨0, Nat.zero_le _, Ow.nil _ _, rfl, Below.refl _ _⟩
  case round =>
    obtain ⟨k, hk, how, rfl, hbl⟩ := hrel
    have HO := Lib.hid how
    have HB := Lib.hid hbl
    clear how hbl
    by_cases hk7 : k < 7
    · have f1 : decide ((k : Int) < 7) = true := by rw [decide_eq_true_eq]; omega
      go_wp2_with fail
      go_loopw [8, 10, 11] (fun o y _ w' => ∃ j : Nat, j ≤ H ∧ Ow w.heap.size w' o (passL (selP 1) W H k ++ rowsL (selP 1 k) W j) ∧ y = .int .i64 j ∧ Below w.heap.size w w') (fun _ y _ _ => H - (intOf y).toNat)
      case atStart => exact ⟨0, Nat.zero_le _, by simpa [rowsL] using HO.out, rfl, HB.out⟩
      case round =>
        obtain ⟨j, hj, how, rfl, hbl⟩ := hrel
        have HO2 := Lib.hid how
        have HB2 := Lib.hid hbl
        clear how hbl
        have hjb : j ≤ 262144 := by have := HH.out; omega
        by_cases hjH : j < H
        · have f2 : decide (j < H) = true := by rw [decide_eq_true_eq]; exact hjH
          have f2' : decide ((j : Int) < (H : Int)) = true := by rw [decide_eq_true_eq]; omega
          go_wp2_with fail
          go_loopw [8, 11] (fun o x w' => ∃ n : Nat, n ≤ W ∧ Ow w.heap.size w' o (passL (selP 1) W H k ++ rowsL (selP 1 k) W j ++ cellsL (selP 1 k) W j n) ∧ x = .int .i64 n ∧ Below w.heap.size w w') (fun _ x _ => W - (intOf x).toNat)
          case atStart => exact ⟨0, Nat.zero_le _, by simpa [cellsL] using HO2.out, rfl, HB2.out⟩
          case round =>
            obtain ⟨n, hn, how, rfl, hbl⟩ := hrel
            have HO3 := Lib.hid how
            have HB3 := Lib.hid hbl
            clear how hbl
            have hnb : n ≤ 262144 := by have := HW.out; omega
            by_cases hnW : n < W
            · have f3 : decide (n < W) = true := by rw [decide_eq_true_eq]; exact hnW
              have f3' : decide ((n : Int) < (W : Int)) = true := by rw [decide_eq_true_eq]; omega
              have LS := Lib.hid (cellsL_succ (selP 1 k) W j n)
              have LL : Hid ((passL (selP 1) W H k ++ rowsL (selP 1 k) W j ++ cellsL (selP 1 k) W j n).length ≤ 3000000) := Lib.hid (by
                have h1 := passL_len (selP 1) W H k
                have h2 := rowsL_len (selP 1 k) W j
                have h3 := cellsL_len (selP 1 k) W j n
                have h4 := Nat.mul_le_mul_left k (show H * W ≤ 262144 by rw [Nat.mul_comm]; exact HWH.out)
                have h5 := Nat.mul_le_mul_right W (Nat.le_of_lt hjH)
                have h6 : H * W ≤ 262144 := by rw [Nat.mul_comm]; exact HWH.out
                rw [List.length_append, List.length_append]
                omega)
              obtain ⟨L, hL⟩ : ∃ L, passL (selP 1) W H k ++ rowsL (selP 1 k) W j ++ cellsL (selP 1 k) W j n = L := ⟨_, rfl⟩
              rw [hL] at HO3 LL
              have HL := Lib.hid hL
              clear hL
              obtain ⟨jw, hjw⟩ : ∃ q, j * W = q := ⟨_, rfl⟩
              obtain ⟨t, ht⟩ : ∃ t, jw + n = t := ⟨_, rfl⟩
              obtain ⟨m1, m2, m3, m4⟩ := sr_facts j n W H jw t hjH hnW HWH.out hjw ht
              rw [hjw, ht] at LS
              clear hjw ht
              obtain ⟨q, hq⟩ : ∃ q, passOf n j = q := ⟨_, rfl⟩
              have HQ := Lib.hid hq
              have HSQ : Hid (selP 1 k n j = (q == k)) := Lib.hid (by rw [← hq]; rfl)
              clear hq
              by_cases hqk : q = k
              · have e1 : ((q : Int) == (k : Int)) = true := by rw [beq_iff_eq]; omega
                have e2 : (q == k) = true := by rw [beq_iff_eq]; exact hqk
                have HS : Hid (selP 1 k n j = true) := Lib.hid (by rw [HSQ.out]; exact e2)
                clear hqk
                go_wp2_with fail
                refine (pass_any n j _).mono ?_; rintro e w4 ⟨rfl, hb4⟩
                rw [HQ.out]
                have HO4 : Hid (Ow w.heap.size w4 _ L) := Lib.hid (HO3.out.old hb4)
                have HB4 := Lib.hid (HB3.out.trans (hb4.mono HB3.out.size))
                clear hb4
                go_wp2_with (at_builtin; refine stop ?_)
                refine unstop (wpList_app tyN rfl _ _ rfl w.heap.size _ L.length (vIs L) rfl (World.ownsRow.alloc HO4.out _) _ 1 [.int .i64 (t : Int)] rfl (sl_lit _ _ _ 1 rfl (by omega)) (by intro u hu; simp at hu; subst hu; rfl) (by have := LL.out; omega) (by have := LL.out; omega) (Nat.le_trans HB4.out.size (by simp)) ?_)
                intro v1 w1 hown1 hg1 _
                have HB5 := Lib.hid (run_app_below (World.ownsRow.alloc HO4.out _) hg1 (HB4.out.alloc HB4.out.size _) (Nat.le_refl _))
                have HO5 : Hid (Ow w.heap.size w1 v1 (L ++ [(t : Int)])) := Lib.hid (Ow.snoc hown1 rfl)
                clear hown1 hg1
                go_wp2_with fail
                go_roundw
                case rel => exact ⟨n + 1, by omega, by rw [LS.out, if_pos HS.out, ← List.append_assoc, HL.out]; exact HO5.out, by go_num, HB5.out⟩
                case measure => simp [intOf]; omega
              · have e1 : ((q : Int) == (k : Int)) = false := by rw [beq_eq_false_iff_ne]; omega
                have e2 : (q == k) = false := by rw [beq_eq_false_iff_ne]; exact hqk
                have HS : Hid (selP 1 k n j = false) := Lib.hid (by rw [HSQ.out]; exact e2)
                clear hqk
                go_wp2_with fail
                refine (pass_any n j _).mono ?_; rintro e w4 ⟨rfl, hb4⟩
                rw [HQ.out]
                have HO4 : Hid (Ow w.heap.size w4 _ L) := Lib.hid (HO3.out.old hb4)
                have HB4 := Lib.hid (HB3.out.trans (hb4.mono HB3.out.size))
                clear hb4
                go_wp2_with fail
                go_roundw
                case rel => exact ⟨n + 1, by omega, by rw [LS.out, if_neg (by rw [HS.out]; exact Bool.false_ne_true), ← List.append_assoc, HL.out, List.append_nil]; exact HO4.out, by go_num, HB4.out⟩
                case measure => simp [intOf]; omega
            · obtain rfl : n = W := by omega
              have f3 : decide ((n : Int) < (n : Int)) = false := by rw [decide_eq_false_iff_not]; omega
              go_wp2_with fail
              go_roundw
              case rel => exact ⟨j + 1, by omega, by rw [rowsL_succ, ← List.append_assoc]; exact HO3.out, by go_num, HB3.out⟩
              case measure => simp [intOf]; omega
        · obtain rfl : j = H := by omega
          have f2 : decide ((j : Int) < (j : Int)) = false := by rw [decide_eq_false_iff_not]; omega
          go_wp2_with fail
          go_roundw
          case rel => exact ⟨k + 1, by omega, by rw [passL_succ]; exact HO2.out, by go_num, HB2.out⟩
          case measure => simp [intOf]; omega
    · obtain rfl : k = 7 := by omega
      go_wp2_with fail
      go_ret2
      exact ⟨_, rfl, HO.out.ns, HB.out⟩

end Go.Proofs.Ytfmkcpilljfidaa
