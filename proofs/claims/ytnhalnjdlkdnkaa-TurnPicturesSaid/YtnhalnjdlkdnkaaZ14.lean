/- turn.unit, the document's Unit. By an AI agent. -/
import Derived.Test.YtnhalnjdlkdnkaaZ04
import Derived.Deep.DeepCutAuto
import Derived.BigFrame
import Derived.Handy
namespace Go.Proofs.Ytnhalnjdlkdnkaa
open Go.RowKit Go.BigFrame
set_option linter.unusedVariables false
set_option linter.unusedSimpArgs false
set_option maxRecDepth 20000

theorem unit_in {P : PicL} (h : P.parts.all facOk = true) : (0 ≤ maxH P.parts ∧ maxH P.parts ≤ 4) ∧ 0 ≤ maxV P.parts ∧ maxV P.parts ≤ 4 := by
  obtain ⟨h1, h2, h3, h4, _⟩ := max_in _ P.parts rfl h
  exact ⟨⟨h1, h2⟩, h3, h4⟩
set_option maxHeartbeats 4000000 in
theorem unit_any (P : PicL) (q0 q1 q2 q3 pv kv : Value) (w : World) (hc : Pts w pv P.parts) (hl : P.parts.length ≤ 140737488351232) (hf : P.parts.all facOk = true) :
    Calls Try.prog 34 #[.agg (vPic P q0 q1 q2 q3 pv kv)] w fun e w' => e = .returned (.tuple #[.int .i64 (8 * maxH P.parts), .int .i64 (8 * maxV P.parts)]) ∧ Below w.heap.size w w' := by
  obtain ⟨pa, pc, rfl, _, hx⟩ := pts_at hc
  have HX := Lib.hid hx
  have UI := Lib.hid (unit_in hf)
  clear hx hc hf
  unfold vPic
  obtain ⟨B, hB⟩ : ∃ B, w.heap.size = B := ⟨_, rfl⟩
  have HB := Lib.hid hB
  have BA : Hid (Below B w (w.alloc (.cells #[.int .i64 P.w, .int .i64 P.h, q0, q1, q2, q3, .slice pa P.parts.length pc, .int .i64 P.restart, kv] 36))) := Lib.hid (by rw [← hB]; exact (Below.refl _ _).alloc (Nat.le_refl _) _)
  clear hB
  go_enter Try.func34, Try.ntmps34
  go_wp2_with fail
  go_loopw [4, 5, 11] (fun h v j w' => ∃ n : Nat, n ≤ P.parts.length ∧ j = .int .i64 (n : Int) ∧ h = .int .i64 (maxH (P.parts.take n)) ∧ v = .int .i64 (maxV (P.parts.take n)) ∧ Below B w w') (fun _ _ j _ => P.parts.length - (intOf j).toNat)
  case atStart => exact ⟨0, Nat.zero_le _, rfl, rfl, rfl, BA.out⟩
  case round =>
    obtain ⟨n, hn, rfl, rfl, rfl, hbl⟩ := hrel
    have HBL := Lib.hid hbl
    clear hbl
    by_cases hnl : n < P.parts.length
    · have f1 : decide ((n : Int) < (P.parts.length : Int)) = true := by rw [decide_eq_true_eq]; omega
      have f2 : decide (n < P.parts.length) = true := by rw [decide_eq_true_eq]; omega
      obtain ⟨b, off, x, rfl, hPB, hBK, c0, c1, c2, c3, c4, c5, c6⟩ := HX.out n hnl
      obtain ⟨xa, xc, rfl, _⟩ := Els.len hBK
      obtain ⟨xn, hxn⟩ : ∃ xn, P.parts[n].bs.length = xn := ⟨_, rfl⟩
      rw [hxn] at c6
      clear hBK hxn
      have hbw : Below w.heap.size w wr := by rw [HB.out]; exact HBL.out
      have d0 := cell_old hbw c0
      have d1 := cell_old hbw c1
      have d2 := cell_old hbw c2
      have d3 := cell_old hbw c3
      have d4 := cell_old hbw c4
      have d5 := cell_old hbw c5
      have d6 := cell_old hbw c6
      have TK := Lib.hid (show P.parts.take (n + 1) = P.parts.take n ++ [P.parts[n]] from List.take_succ_eq_append_getElem hnl)
      obtain ⟨p, hp⟩ : ∃ p, P.parts[n] = p := ⟨_, rfl⟩
      rw [hp] at d0 d1 d2 d3 d4 d5 TK
      have hBw : B ≤ wr.heap.size := by have := HBL.out.size; have := HB.out; omega
      have HBW := Lib.hid hBw
      clear c0 c1 c2 c3 c4 c5 c6 hbw hp hPB hBw
      have MH : Hid (maxH (P.parts.take (n + 1)) = if maxH (P.parts.take n) < p.h then p.h else maxH (P.parts.take n)) := Lib.hid (by rw [TK.out, maxH_app])
      have MV : Hid (maxV (P.parts.take (n + 1)) = if maxV (P.parts.take n) < p.v then p.v else maxV (P.parts.take n)) := Lib.hid (by rw [TK.out, maxV_app])
      obtain ⟨mh, hmh⟩ : ∃ m, maxH (P.parts.take n) = m := ⟨_, rfl⟩
      obtain ⟨mv, hmv⟩ : ∃ m, maxV (P.parts.take n) = m := ⟨_, rfl⟩
      rw [hmh] at MH ⊢
      rw [hmv] at MV ⊢
      clear hmh hmv
      go_upto_region 5 with (fail)
      obtain ⟨nh, hnh⟩ : ∃ nh, (if mh < p.h then p.h else mh) = nh := ⟨_, rfl⟩
      obtain ⟨nv, hnv⟩ : ∃ nv, (if mv < p.v then p.v else mv) = nv := ⟨_, rfl⟩
      rw [hnh] at MH
      rw [hnv] at MV
      go_region
      go_wp2_with fail
      go_roundw
      case rel => exact ⟨n + 1, hnl, by go_num, by rw [MH.out], by rw [MV.out], (HBL.out.alloc HBW.out _).drew⟩
      case measure => simp [intOf]; omega
    · obtain rfl : n = P.parts.length := by omega
      have f1 : decide ((P.parts.length : Int) < (P.parts.length : Int)) = false := by rw [decide_eq_false_iff_not]; omega
      rw [List.take_length]
      obtain ⟨mh, hmh⟩ : ∃ m, maxH P.parts = m := ⟨_, rfl⟩
      obtain ⟨mv, hmv⟩ : ∃ m, maxV P.parts = m := ⟨_, rfl⟩
      have HMH := Lib.hid hmh
      have HMV := Lib.hid hmv
      rw [hmh, hmv] at UI
      rw [hmh, hmv]
      have g1 : IntKind.i64.wrap (8 * mh) = 8 * mh := IntWalk.i64_in _ (by have := UI.out; omega)
      have g2 : IntKind.i64.wrap (8 * mv) = 8 * mv := IntWalk.i64_in _ (by have := UI.out; omega)
      have g3 : wrap64 (8 * mh) = 8 * mh := IntWalk.wrap64_in _ (by have := UI.out; omega)
      have g4 : wrap64 (8 * mv) = 8 * mv := IntWalk.wrap64_in _ (by have := UI.out; omega)
      go_wp2_with fail
      go_ret2
      exact ⟨by rw [HMH.out, HMV.out]; rfl, by rw [HB.out]; exact HBL.out⟩
set_option maxHeartbeats 1600000 in
theorem refUnit_any (P : PicL) (q0 q1 q2 q3 pv kv : Value) (w : World) (hc : Pts w pv P.parts) (hl : P.parts.length ≤ 140737488351232) (hm : mostL P 0 = some (maxH P.parts, maxV P.parts)) :
    Calls Try.prog 22 #[.agg (vPic P q0 q1 q2 q3 pv kv)] w fun e w' => e = .returned (.tuple #[.int .i64 (8 * maxH P.parts), .int .i64 (8 * maxV P.parts)]) ∧ Below w.heap.size w w' := by
  obtain ⟨pa, pc, rfl, _, hx⟩ := pts_at hc
  obtain ⟨_, _, _, _, mhi, mvi⟩ := mostL_some hm
  have hb1 : Below w.heap.size w (w.alloc (.cells (vPic P q0 q1 q2 q3 (.slice pa P.parts.length pc) kv) 36)) := (Below.refl _ _).alloc (Nat.le_refl _) _
  have FA := Lib.hid (factors_any P q0 q1 q2 q3 _ kv 0 _ (hc.old hb1) hl)
  rw [hm] at FA
  have UI := Lib.hid (And.intro mhi mvi)
  have B1 := Lib.hid hb1
  obtain ⟨mh, hmh⟩ : ∃ m, maxH P.parts = m := ⟨_, rfl⟩
  obtain ⟨mv, hmv⟩ : ∃ m, maxV P.parts = m := ⟨_, rfl⟩
  rw [hmh, hmv] at UI FA
  rw [hmh, hmv]
  have g1 : IntKind.i64.wrap (8 * mh) = 8 * mh := IntWalk.i64_in _ (by have := UI.out; omega)
  have g2 : IntKind.i64.wrap (8 * mv) = 8 * mv := IntWalk.i64_in _ (by have := UI.out; omega)
  have g3 : wrap64 (8 * mh) = 8 * mh := IntWalk.wrap64_in _ (by have := UI.out; omega)
  have g4 : wrap64 (8 * mv) = 8 * mv := IntWalk.wrap64_in _ (by have := UI.out; omega)
  clear hx hc hb1 mhi mvi hm hmh hmv
  unfold vPic at *
  go_enter Try.func22, Try.ntmps22
  go_wp2_with fail
  refine FA.out.mono ?_
  rintro e w2 ⟨rfl, hb2⟩
  unfold mostV
  go_wp2_with fail
  go_ret2
  exact ⟨by rfl, B1.out.trans (hb2.mono B1.out.size)⟩
end Go.Proofs.Ytnhalnjdlkdnkaa
