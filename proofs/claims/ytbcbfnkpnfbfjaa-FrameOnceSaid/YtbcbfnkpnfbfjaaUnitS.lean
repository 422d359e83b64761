/- frame.single: the units of one part, handed over. By an AI agent. -/
import Derived.Test.YtbcbfnkpnfbfjaaUnitP
import Derived.Deep.DeepCutAuto
import Derived.OwnWalkIn
import Derived.TacticsInMore
import Derived.LoopNIn
import Derived.LoopIn
namespace Go.Proofs.Ytbcbfnkpnfbfjaa
open Go.RowKit Go.BigFrame
set_option linter.unusedVariables false
set_option linter.unusedSimpArgs false
attribute [local go_sem] Oper.semAt_some

set_option maxRecDepth 20000 in
set_option maxHeartbeats 8000000 in
theorem single_any (n ll : Nat) (bs : List Nat) (U : Nat) (J Jx : List Value → World → Prop) (P : PicL) (q0 q1 q2 q3 pv kv : Value) (k : Int) (w : World) (hc : Pts w pv P.parts) (hl : P.parts.length ≤ 140737488351232)
    (hU : U ≤ w.heap.size) (hJ : SinceB U J) (hF : Feed n ll bs U (singleN P k) (singleF P k) J Jx) (h0 : J [] w) :
    Calls Try.prog 25 #[.agg (vPic P q0 q1 q2 q3 pv kv), .int .i64 k, .func (.yield ll) #[] #[]] w fun e w' => (∃ v, e = .returned v) ∧ ((∃ pre, pre.length = singleN P k ∧ J pre w') ∨ ∃ pre, Jx pre w') := by
  obtain ⟨pa, pc, rfl, _⟩ := Els.len hc
  have HC := Lib.hid hc
  have FF := Lib.hid hF
  have HJ := Lib.hid hJ
  clear hc hF
  obtain ⟨w1, hw1⟩ : ∃ w1, w.alloc (.cells (vPic P q0 q1 q2 q3 (.slice pa P.parts.length pc) kv) 27) = w1 := ⟨_, rfl⟩
  have hb1 : Below w.heap.size w w1 := by rw [← hw1]; exact (Below.refl _ _).alloc (Nat.le_refl _) _
  have hbox : PBox w1 w.heap.size P q0 q1 q2 q3 (.slice pa P.parts.length pc) kv := by rw [← hw1]; exact heap_alloc_new _ _
  have B1 := Lib.hid hb1
  have J1 : Hid (J [] w1) := Lib.hid (hJ _ _ _ h0 (hb1.mono hU))
  have BX1 := Lib.hid hbox
  obtain ⟨a0, a1, a2, a3, a4, a5, a6, a7, a8⟩ := hbox.cells
  have U1 : Hid (U ≤ w1.heap.size) := Lib.hid (Nat.le_trans hU hb1.size)
  unfold vPic at hw1
  clear hb1 hbox hJ h0 hU
  have SI := sizeL_in P k
  have OI := ownL_in P k
  obtain ⟨sw, hsw⟩ : ∃ z, (sizeL P k).1 = z := ⟨_, rfl⟩
  obtain ⟨sh, hsh⟩ : ∃ z, (sizeL P k).2 = z := ⟨_, rfl⟩
  obtain ⟨ow, how⟩ : ∃ z : Nat, (ownL P k).1 = (z : Int) := ⟨(ownL P k).1.toNat, by omega⟩
  obtain ⟨oh, hoh⟩ : ∃ z : Nat, (ownL P k).2 = (z : Int) := ⟨(ownL P k).2.toNat, by omega⟩
  rw [hsw, hsh] at SI
  rw [how, hoh] at OI
  have HSI := Lib.hid SI
  have HOI := Lib.hid OI
  clear SI OI
  have OW : Hid (ownW P k = ow ∧ singleN P k = oh * ow) := Lib.hid (by unfold singleN ownW ownH; rw [how, hoh]; simp)
  have FA : Hid (∀ y x : Nat, x < ow → singleF P k (y * ow + x) = [(k, (y : Int) * sw + (x : Int))]) := Lib.hid (fun y x hx => by
    have := singleF_at P k y x (by rw [OW.out.1]; exact hx)
    rw [OW.out.1, hsw] at this
    exact this)
  unfold vPic
  go_enter Try.func25, Try.ntmps25
  go_wp2_with fail
  refine (size_any P q0 q1 q2 q3 _ kv k w1 (HC.out.old B1.out) hl).mono ?_
  rintro e w2 ⟨rfl, hb2⟩
  rw [hsw, hsh]
  have J2 : Hid (J [] w2) := Lib.hid (HJ.out _ _ _ J1.out (hb2.mono U1.out))
  have U2 : Hid (U ≤ w2.heap.size) := Lib.hid (Nat.le_trans U1.out hb2.size)
  have BX2 := Lib.hid (BX1.out.old hb2)
  have B2 := Lib.hid (B1.out.trans (hb2.mono B1.out.size))
  clear hb2 hw1 a0 a1 a2 a3 a4 a5 a6 a7 a8
  obtain ⟨a0, a1, a2, a3, a4, a5, a6, a7, a8⟩ := BX2.out.cells
  go_wp2_with fail
  refine (own_any P q0 q1 q2 q3 _ kv k w2 (HC.out.old B2.out) hl).mono ?_
  rintro e w3 ⟨rfl, hb3⟩
  rw [how, hoh]
  have J3 : Hid (J [] w3) := Lib.hid (HJ.out _ _ _ J2.out (hb3.mono U2.out))
  have U3 : Hid (U ≤ w3.heap.size) := Lib.hid (Nat.le_trans U2.out hb3.size)
  clear hb3 a0 a1 a2 a3 a4 a5 a6 a7 a8 hsw hsh how hoh
  go_wp2_with fail
  go_loopw [25] (fun i W => ∃ (y : Nat) (pre : List Value), i = .int .i64 (y : Nat) ∧ y ≤ oh ∧ pre.length = y * ow ∧ J pre W ∧ U ≤ W.heap.size) (fun i _ => oh - (intOf i).toNat)
  case atStart => exact ⟨0, [], rfl, Nat.zero_le _, by simp, J3.out, U3.out⟩
  case round =>
    obtain ⟨y, pre, rfl, hy, hpre, hjj, hus⟩ := hrel
    have JJ := Lib.hid hjj
    have PRE := Lib.hid hpre
    have US := Lib.hid hus
    clear hjj hpre hus
    by_cases hyl : y < oh
    · have e1 : decide ((y : Int) < (oh : Int)) = true := by rw [decide_eq_true_eq]; omega
      have e1' : decide (y < oh) = true := by rw [decide_eq_true_eq]; omega
      have HYS := Lib.hid (show ((y + 1) * ow = y * ow + ow) from Nat.succ_mul _ _)
      have YO := Lib.hid (at_lt (w := ow) (x := 0) hyl)
      go_wp2_with fail
      go_loopw [29] (fun i W => ∃ (x : Nat) (pre : List Value), i = .int .i64 (x : Nat) ∧ x ≤ ow ∧ pre.length = y * ow + x ∧ J pre W ∧ U ≤ W.heap.size) (fun i _ => ow - (intOf i).toNat)
      case atStart => exact ⟨0, pre, rfl, Nat.zero_le _, PRE.out, JJ.out, US.out⟩
      case round =>
        clear JJ PRE US
        obtain ⟨x, pre, rfl, hx, hpre, hjj, hus⟩ := hrel
        have JJ := Lib.hid hjj
        have PRE := Lib.hid hpre
        have US := Lib.hid hus
        clear hjj hpre hus
        by_cases hxl : x < ow
        · have e2 : decide ((x : Int) < (ow : Int)) = true := by rw [decide_eq_true_eq]; omega
          have e2' : decide (x < ow) = true := by rw [decide_eq_true_eq]; omega
          have SI := HSI.out
          have OI := HOI.out
          have mm := mul_in (a := (y : Int)) (b := sw) (m := 262140) (n := 262140) (by omega) (by omega)
          have g1 : IntKind.i64.wrap ((y : Int) * sw) = (y : Int) * sw := IntWalk.i64_in _ (by omega)
          obtain ⟨pp, hpp⟩ : ∃ z, (y : Int) * sw = z := ⟨_, rfl⟩
          rw [hpp] at mm g1
          have FX := FA.out y x hxl
          rw [hpp] at FX
          have FXH := Lib.hid FX
          have g2 : IntKind.i64.wrap (pp + (x : Int)) = pp + (x : Int) := IntWalk.i64_in _ (by omega)
          obtain ⟨at_, hat⟩ : ∃ z, pp + (x : Int) = z := ⟨_, rfl⟩
          rw [hat] at g2 FXH
          obtain ⟨W9, hW9⟩ : ∃ W9, wr.alloc (.cells #[.int .i64 k, .int .i64 at_] 38) = W9 := ⟨_, rfl⟩
          have NN : y * ow + x < singleN P k := by rw [OW.out.2]; exact at_lt hyl hxl
          have b9 : Below wr.heap.size wr W9 := by rw [← hW9]; exact (Below.refl _ _).alloc (Nat.le_refl _) _
          have UV : UnitV W9 (.slice (some ⟨wr.heap.size, 0, none⟩) 1 1) (singleF P k (y * ow + x)) := by
            rw [FXH.out]
            refine ⟨rfl, .inr ⟨wr.heap.size, 0, 1, rfl, by simp, by simp, fun i u hu => ?_⟩⟩
            rw [← hW9]
            have hb : (wr.alloc (.cells #[.int .i64 k, .int .i64 at_] 38)).heap[wr.heap.size]? = some (.cells #[.int .i64 k, .int .i64 at_] 38 (0, 0)) := heap_alloc_new _ _
            rw [cell_of_row _ _ (0 + i) _ _ _ hb, Nat.zero_add]
            simpa [vUnit] using hu
          obtain ⟨f1, t1, as1, y1, hy1, hR1⟩ := FF.out pre (.slice (some ⟨wr.heap.size, 0, none⟩) 1 1) W9 (Nat.le_trans US.out b9.size) (HJ.out _ _ _ JJ.out (b9.mono US.out)) ⟨by rw [PRE.out]; exact NN, by rw [PRE.out]; exact UV⟩
          have RR := Lib.hid hR1
          have US9 := Lib.hid (Nat.le_trans US.out b9.size)
          clear hR1 UV FX mm NN SI OI
          go_upto_region 9 with (fail)
          refine (wpIn_wide (n := n + 1)).1 ?_
          have XX := Lib.hid hxl
          clear b9
          gi_wp2_with fail
          refine RR.out.mono ?_
          rintro e W5 (⟨rfl, hj5, hk5⟩ | ⟨rfl, hj5, hk5⟩)
          · have J5 := Lib.hid hj5
            have K5 : Hid (U ≤ W5.heap.size) := Lib.hid (Nat.le_trans US9.out hk5.1)
            clear hj5 hk5 hy1 hxl e2 e2' g1 g2 hW9 hat hpp
            have gx : IntKind.i64.wrap ((x : Int) + 1) = (x : Int) + 1 := IntWalk.i64_in _ (by have := XX.out; have := HOI.out; omega)
            gi_wp2_with fail
            go_wp2_with fail
            go_roundw
            case rel => exact ⟨x + 1, pre ++ [_], by go_num, XX.out, by rw [List.length_append, PRE.out]; simp; omega, J5.out, K5.out⟩
            case measure => simp [intOf]; have := XX.out; omega
          · have J5 := Lib.hid hj5
            clear hj5 hk5 hy1
            gi_wp2_with fail
            go_wp2_with fail
            refine bodyPost_ret (results_none rfl _ _ _) rfl ?_
            exact ⟨⟨_, rfl⟩, .inr ⟨_, J5.out⟩⟩
        · obtain rfl : x = ow := by omega
          have e2 : decide ((x : Int) < (x : Int)) = false := by rw [decide_eq_false_iff_not]; omega
          have gy : IntKind.i64.wrap ((y : Int) + 1) = (y : Int) + 1 := IntWalk.i64_in _ (by have := HOI.out; omega)
          go_wp2_with fail
          go_roundw
          case rel => exact ⟨y + 1, pre, by go_num, hyl, by rw [PRE.out, HYS.out], JJ.out, US.out⟩
          case measure => simp [intOf]; omega
    · obtain rfl : y = oh := by omega
      have e1 : decide ((y : Int) < (y : Int)) = false := by rw [decide_eq_false_iff_not]; omega
      go_wp2_with fail
      go_end0
      exact ⟨⟨_, rfl⟩, .inl ⟨pre, by rw [PRE.out, OW.out.2], JJ.out⟩⟩
end Go.Proofs.Ytbcbfnkpnfbfjaa
