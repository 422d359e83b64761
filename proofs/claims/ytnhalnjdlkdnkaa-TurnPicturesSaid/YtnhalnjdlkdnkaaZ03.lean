/- The greatest sampling factors, the document's: burnishref23.Factors. By an AI agent. -/
import Derived.Test.YtnhalnjdlkdnkaaZ02
namespace Go.Proofs.Ytnhalnjdlkdnkaa
open Go.RowKit Go.BigFrame
set_option linter.unusedVariables false
set_option linter.unusedSimpArgs false

theorem sidedB_two (n : Int) : sidedB n = (!decide (n < 1) && !decide (65535 < n)) := by
  rw [Bool.eq_iff_iff]
  simp only [sidedB, Bool.and_eq_true, Bool.not_eq_true', decide_eq_false_iff_not, decide_eq_true_eq]
  omega
theorem factorB_two (n : Int) : factorB n = (!decide (n < 1) && !decide (4 < n)) := by
  rw [Bool.eq_iff_iff]
  simp only [factorB, Bool.and_eq_true, Bool.not_eq_true', decide_eq_false_iff_not, decide_eq_true_eq]
  omega
theorem headOk_six (P : PicL) (k : Int) : headOk P k = (!decide (k < 0) && !decide ((P.parts.length : Int) ≤ k) && !decide (P.w < 1) && !decide (P.h < 1) && !decide (65535 < P.w) && !decide (65535 < P.h)) := by
  unfold headOk
  rw [sidedB_two, sidedB_two]
  cases decide (k < 0) <;> cases decide ((P.parts.length : Int) ≤ k) <;> cases decide (P.w < 1) <;> cases decide (65535 < P.w) <;> cases decide (P.h < 1) <;> cases decide (65535 < P.h) <;> rfl
theorem mostL_no {P : PicL} {k : Int} (h : headOk P k = false) : mostL P k = none := by unfold mostL; rw [h]; rfl
set_option maxHeartbeats 8000000 in
theorem factors_any (P : PicL) (q0 q1 q2 q3 pv kv : Value) (k : Int) (w : World) (hc : Pts w pv P.parts) (hl : P.parts.length ≤ 140737488351232) :
    Calls Try.prog 44 #[.agg (vPic P q0 q1 q2 q3 pv kv), .int .i64 k] w fun e w' => e = .returned (mostV (mostL P k)) ∧ Below w.heap.size w w' := by
  obtain ⟨pa, pc, rfl, _, hx⟩ := pts_at hc
  have HX := Lib.hid hx
  clear hx hc
  unfold vPic
  obtain ⟨B, hB⟩ : ∃ B, w.heap.size = B := ⟨_, rfl⟩
  have HB := Lib.hid hB
  have BA : Hid (Below B w (w.alloc (.cells #[.int .i64 P.w, .int .i64 P.h, q0, q1, q2, q3, .slice pa P.parts.length pc, .int .i64 P.restart, kv] 36))) := Lib.hid (by rw [← hB]; exact (Below.refl _ _).alloc (Nat.le_refl _) _)
  clear hB
  have SIX := Lib.hid (headOk_six P k)
  rcases h1 : decide (k < (0 : Int)) with _ | _
  rcases h2 : decide ((P.parts.length : Int) ≤ k) with _ | _
  rcases h3 : decide (P.w < (1 : Int)) with _ | _
  rcases h4 : decide (P.h < (1 : Int)) with _ | _
  rcases h5 : decide ((65535 : Int) < P.w) with _ | _
  rcases h6 : decide ((65535 : Int) < P.h) with _ | _
  case false.false.false.false.false.false =>
    have MM : Hid (mostL P k = if P.parts.all facOk then some (maxH P.parts, maxV P.parts) else none) := Lib.hid (by unfold mostL; rw [SIX.out, h1, h2, h3, h4, h5, h6]; rfl)
    go_enter Try.func44, Try.ntmps44
    go_wp2_with fail
    go_loopw [7, 8, 9, 10] (fun h v j _ w' => ∃ n : Nat, n ≤ P.parts.length ∧ j = .int .i64 (n : Int) ∧ h = .int .i64 (maxH (P.parts.take n)) ∧ v = .int .i64 (maxV (P.parts.take n)) ∧ (P.parts.take n).all facOk = true ∧ w'.heap[B]? = some (.cells #[.int .i64 P.w, .int .i64 P.h, q0, q1, q2, q3, .slice pa P.parts.length pc, .int .i64 P.restart, kv] 36 (0, 0)) ∧ Below B w w') (fun _ _ j _ _ => P.parts.length - (intOf j).toNat)
    case atStart => exact ⟨0, Nat.zero_le _, rfl, rfl, rfl, rfl, by rw [← HB.out]; exact heap_alloc_new _ _, BA.out⟩
    case round =>
      obtain ⟨n, hn, rfl, rfl, rfl, hall, hbox, hbl⟩ := hrel
      have HA := Lib.hid hall
      have HBL := Lib.hid hbl
      have HBX := Lib.hid hbox
      have e6 : wr.cell? ⟨w.heap.size, 6, none⟩ = some (.slice pa P.parts.length pc) := by rw [HB.out, cell_of_row _ _ 6 _ _ _ hbox]; rfl
      clear hall hbl hbox
      by_cases hnl : n < P.parts.length
      · have f1 : decide ((n : Int) < (P.parts.length : Int)) = true := by rw [decide_eq_true_eq]; omega
        have f2 : decide (n < P.parts.length) = true := by rw [decide_eq_true_eq]; omega
        obtain ⟨b, off, x, rfl, hPB, hBK, c0, c1, c2, c3, c4, c5, c6⟩ := HX.out n hnl
        obtain ⟨xa, xc, rfl, _⟩ := Els.len hBK
        obtain ⟨xn, hxn⟩ : ∃ xn, P.parts[n].bs.length = xn := ⟨_, rfl⟩
        rw [hxn] at c6
        clear hBK hxn
        have hbw : Below w.heap.size w wr := by rw [HB.out]; exact HBL.out
        have d0 := cell_old hbw c0
        have d1 := cell_old hbw c1
        have d2 := cell_old hbw c2
        have d3 := cell_old hbw c3
        have d4 := cell_old hbw c4
        have d5 := cell_old hbw c5
        have d6 := cell_old hbw c6
        have TK := Lib.hid (show P.parts.take (n + 1) = P.parts.take n ++ [P.parts[n]] from List.take_succ_eq_append_getElem hnl)
        have ALL : Hid (facOk P.parts[n] = false → mostL P k = none) := Lib.hid (fun h => by
          have : P.parts.all facOk = false := by rw [List.all_eq_false]; exact ⟨_, List.getElem_mem hnl, by simp [h]⟩
          rw [MM.out, this]; rfl)
        obtain ⟨p, hp⟩ : ∃ p, P.parts[n] = p := ⟨_, rfl⟩
        rw [hp] at d0 d1 d2 d3 d4 d5 TK ALL
        have hBw : B ≤ wr.heap.size := by have := HBL.out.size; have := HB.out; omega
        have HBW := Lib.hid hBw
        have FA : Hid (facOk p = (!decide (p.h < 1) && !decide (4 < p.h) && (!decide (p.v < 1) && !decide (4 < p.v)))) := Lib.hid (by unfold facOk; rw [factorB_two, factorB_two])
        clear c0 c1 c2 c3 c4 c5 c6 hbw hp hPB hBw
        rcases g1 : decide (p.h < (1 : Int)) with _ | _
        rcases g2 : decide ((4 : Int) < p.h) with _ | _
        rcases g3 : decide (p.v < (1 : Int)) with _ | _
        rcases g4 : decide ((4 : Int) < p.v) with _ | _
        case false.false.false.false =>
          have AL2 : Hid ((P.parts.take (n + 1)).all facOk = true) := Lib.hid (by rw [TK.out, List.all_append, HA.out]; simp only [List.all_cons, List.all_nil, FA.out, g1, g2, g3, g4]; rfl)
          have MH : Hid (maxH (P.parts.take (n + 1)) = if maxH (P.parts.take n) < p.h then p.h else maxH (P.parts.take n)) := Lib.hid (by rw [TK.out, maxH_app])
          have MV : Hid (maxV (P.parts.take (n + 1)) = if maxV (P.parts.take n) < p.v then p.v else maxV (P.parts.take n)) := Lib.hid (by rw [TK.out, maxV_app])
          have HB2 : Hid (∀ O, (wr.alloc O).heap[B]? = some (.cells #[.int .i64 P.w, .int .i64 P.h, q0, q1, q2, q3, .slice (some ⟨b, off, none⟩) P.parts.length pc, .int .i64 P.restart, kv] 36 (0, 0)) ∧ Below B w (wr.alloc O)) := Lib.hid (fun O =>
            ⟨by rw [((Below.refl _ wr).alloc (Nat.le_refl _) O).block B (Array.getElem?_eq_some_iff.1 HBX.out).1]; exact HBX.out, HBL.out.alloc HBW.out _⟩)
          obtain ⟨mh, hmh⟩ : ∃ m, maxH (P.parts.take n) = m := ⟨_, rfl⟩
          obtain ⟨mv, hmv⟩ : ∃ m, maxV (P.parts.take n) = m := ⟨_, rfl⟩
          rw [hmh] at MH ⊢
          rw [hmv] at MV ⊢
          clear hmh hmv
          by_cases gh : mh < p.h <;> by_cases gv : mv < p.v
          all_goals
            first | rw [if_pos gh] at MH | rw [if_neg gh] at MH
            first | rw [if_pos gv] at MV | rw [if_neg gv] at MV
            first | have t1 : decide (mh < p.h) = true := decide_eq_true gh | have t1 : decide (mh < p.h) = false := decide_eq_false gh
            first | have t2 : decide (mv < p.v) = true := decide_eq_true gv | have t2 : decide (mv < p.v) = false := decide_eq_false gv
            clear gh gv
            go_wp2_with fail
            go_roundw
            case rel => exact ⟨n + 1, by omega, by go_num, by rw [MH.out], by rw [MV.out], AL2.out, (HB2.out _).1, (HB2.out _).2⟩
            case measure => simp [intOf]; omega
        all_goals
          have MN : Hid (mostL P k = none) := Lib.hid (ALL.out (by simp_all [FA.out]))
          go_wp2_with fail
          go_returns
          exact ⟨by rw [MN.out]; rfl, by rw [HB.out]; exact HBL.out.alloc HBW.out _⟩
      · obtain rfl : n = P.parts.length := by omega
        have f1 : decide ((P.parts.length : Int) < (P.parts.length : Int)) = false := by rw [decide_eq_false_iff_not]; omega
        have ME : Hid (mostL P k = some (maxH P.parts, maxV P.parts)) := Lib.hid (by
          have := HA.out
          rw [List.take_length] at this
          rw [MM.out, this]; rfl)
        rw [List.take_length]
        go_wp2_with fail
        go_returns
        exact ⟨by rw [ME.out]; rfl, by rw [HB.out]; exact HBL.out⟩
  all_goals
    have MN : Hid (mostL P k = none) := Lib.hid (mostL_no (by rw [SIX.out]; simp_all))
    go_enter Try.func44, Try.ntmps44
    go_wp2_with fail
    go_returns
    exact ⟨by rw [MN.out]; rfl, by rw [HB.out]; exact BA.out⟩
end Go.Proofs.Ytnhalnjdlkdnkaa
