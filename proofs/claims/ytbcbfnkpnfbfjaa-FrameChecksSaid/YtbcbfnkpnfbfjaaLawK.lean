/- The law FrameChecks walked. By an AI agent. -/
import Derived.Test.YtbcbfnkpnfbfjaaRefG
import Derived.Test.YtbcbfnkpnfbfjaaRSame
import Derived.Test.YtbcbfnkpnfbfjaaLargeP
import Derived.Test.YtbcbfnkpnfbfjaaAliveU
namespace Go.Proofs.Ytbcbfnkpnfbfjaa
open Go.RowKit Go.BigFrame
set_option linter.unusedVariables false
set_option linter.unusedSimpArgs false

set_option maxRecDepth 100000 in
set_option maxHeartbeats 16000000 in
theorem lawFChecks_any (P Q : PicL) (q0 q1 q2 q3 pv kv r0 r1 r2 r3 rv sv : Value) (w : World) (hp : PicC w P q0 q1 q2 q3 pv kv) (hq : PicC w Q r0 r1 r2 r3 rv sv) (hB : PicB P) (hD : PicB Q) :
    Calls Try.prog 6 #[.agg (vPic P q0 q1 q2 q3 pv kv), .agg (vPic Q r0 r1 r2 r3 rv sv)] w fun e w' => e = .returned (.bool true) ∧ Below w.heap.size w w' := by
  have HP : Hid (∀ X, Below w.heap.size w X → PicC X P q0 q1 q2 q3 pv kv) := Lib.hid (fun X h => ⟨hp.q0.old h, hp.q1.old h, hp.q2.old h, hp.q3.old h, hp.parts.old h, hp.kept.old h⟩)
  have HQ : Hid (∀ X, Below w.heap.size w X → PicC X Q r0 r1 r2 r3 rv sv) := Lib.hid (fun X h => ⟨hq.q0.old h, hq.q1.old h, hq.q2.old h, hq.q3.old h, hq.parts.old h, hq.kept.old h⟩)
  have HB := Lib.hid hB
  have HD := Lib.hid hD
  obtain ⟨w1, hw1⟩ : ∃ w1, w.alloc (.cells (vPic P q0 q1 q2 q3 pv kv) 27) = w1 := ⟨_, rfl⟩
  have hb1 : Below w.heap.size w w1 := by rw [← hw1]; exact (Below.refl _ _).alloc (Nat.le_refl _) _
  obtain ⟨B, hBB⟩ : ∃ B, w.heap.size = B := ⟨_, rfl⟩
  have hbox : PBox w1 B P q0 q1 q2 q3 pv kv := by rw [← hw1, ← hBB]; exact heap_alloc_new _ _
  obtain ⟨w2, hw2⟩ : ∃ w2, w1.alloc (.cells (vPic Q r0 r1 r2 r3 rv sv) 27) = w2 := ⟨_, rfl⟩
  have hb2 : Below w1.heap.size w1 w2 := by rw [← hw2]; exact (Below.refl _ _).alloc (Nat.le_refl _) _
  obtain ⟨B', hBB'⟩ : ∃ B, w1.heap.size = B := ⟨_, rfl⟩
  have hbox' : PBox w2 B' Q r0 r1 r2 r3 rv sv := by rw [← hw2, ← hBB']; exact heap_alloc_new _ _
  obtain ⟨TB, tb1, tb2, tb3⟩ := two_boxes B B' P Q q0 q1 q2 q3 pv kv r0 r1 r2 r3 rv sv
  have TO := Lib.hid tb2
  have TC := Lib.hid tb3
  have B2 := Lib.hid (hb1.trans (hb2.mono hb1.size))
  have T2 := Lib.hid (tb1 _ (hbox.old hb2) hbox')
  unfold vPic at hw1 hw2
  clear hp hq hB hD hb1 hbox hb2 hbox' tb1 tb2 tb3
  unfold vPic
  go_enter Try.func6, Try.ntmps6
  go_wp2_with fail
  clear hw1 hw2 hBB hBB'
  refine (alive_any w2).mono ?_
  rintro e w3 ⟨rfl, hb3⟩
  have B3 := Lib.hid (B2.out.trans (hb3.mono B2.out.size))
  have T3 := Lib.hid (TO.out _ _ T2.out hb3)
  clear hb3
  obtain ⟨⟨a0, a1, a2, a3, a4, a5, a6, a7, a8⟩, b0, b1, b2, b3, b4, b5, b6, b7, b8⟩ := (⟨(TC.out _ T3.out).1.cells, (TC.out _ T3.out).2.cells⟩ : _ ∧ _)
  go_wp2_with fail
  refine (largeP_any P q0 q1 q2 q3 pv kv w3 (HP.out _ B3.out) HB.out).mono ?_
  rintro e w4 ⟨⟨lp, rfl⟩, hb4⟩
  have B4 := Lib.hid (B3.out.trans (hb4.mono B3.out.size))
  have T4 := Lib.hid (TO.out _ _ T3.out hb4)
  clear hb4 a0 a1 a2 a3 a4 a5 a6 a7 a8 b0 b1 b2 b3 b4 b5 b6 b7 b8
  cases lp with
  | true =>
    go_wp2_with fail
    go_ret
    exact ⟨rfl, B4.out⟩
  | false =>
  obtain ⟨⟨a0, a1, a2, a3, a4, a5, a6, a7, a8⟩, b0, b1, b2, b3, b4, b5, b6, b7, b8⟩ := (⟨(TC.out _ T4.out).1.cells, (TC.out _ T4.out).2.cells⟩ : _ ∧ _)
  go_wp2_with fail
  refine (largeP_any Q r0 r1 r2 r3 rv sv w4 (HQ.out _ B4.out) HD.out).mono ?_
  rintro e w5 ⟨⟨lp, rfl⟩, hb5⟩
  have B5 := Lib.hid (B4.out.trans (hb5.mono B4.out.size))
  have T5 := Lib.hid (TO.out _ _ T4.out hb5)
  clear hb5 a0 a1 a2 a3 a4 a5 a6 a7 a8 b0 b1 b2 b3 b4 b5 b6 b7 b8
  cases lp with
  | true =>
    go_wp2_with fail
    go_ret
    exact ⟨rfl, B5.out⟩
  | false =>
  obtain ⟨⟨a0, a1, a2, a3, a4, a5, a6, a7, a8⟩, b0, b1, b2, b3, b4, b5, b6, b7, b8⟩ := (⟨(TC.out _ T5.out).1.cells, (TC.out _ T5.out).2.cells⟩ : _ ∧ _)
  go_wp2_with fail
  refine (check_any P q0 q1 q2 q3 pv kv w5 (HP.out _ B5.out) HB.out).mono ?_
  rintro e w6 ⟨rfl, hb6⟩
  have B6 := Lib.hid (B5.out.trans (hb6.mono B5.out.size))
  have T6 := Lib.hid (TO.out _ _ T5.out hb6)
  clear hb6 a0 a1 a2 a3 a4 a5 a6 a7 a8 b0 b1 b2 b3 b4 b5 b6 b7 b8
  obtain ⟨⟨a0, a1, a2, a3, a4, a5, a6, a7, a8⟩, b0, b1, b2, b3, b4, b5, b6, b7, b8⟩ := (⟨(TC.out _ T6.out).1.cells, (TC.out _ T6.out).2.cells⟩ : _ ∧ _)
  obtain ⟨g, hg⟩ : ∃ g, goodB P = g := ⟨_, rfl⟩
  have HG := Lib.hid hg
  rw [hg]
  obtain ⟨ev, hev⟩ : ∃ ev, errV (chkN g) = ev := ⟨_, rfl⟩
  have HEV := Lib.hid hev
  rw [hev]
  clear hg hev
  go_wp2_with fail
  refine (refGood_any P q0 q1 q2 q3 pv kv w6 (HP.out _ B6.out) HB.out).mono ?_
  rintro e w7 ⟨rfl, hb7⟩
  have B7 := Lib.hid (B6.out.trans (hb7.mono B6.out.size))
  have T7 := Lib.hid (TO.out _ _ T6.out hb7)
  clear hb7 a0 a1 a2 a3 a4 a5 a6 a7 a8 b0 b1 b2 b3 b4 b5 b6 b7 b8
  rw [HG.out]
  obtain ⟨sm, hsm⟩ : ∃ sm, sameB P Q = sm := ⟨_, rfl⟩
  have CIs : Hid (∀ X, (TB X ∧ Below w.heap.size w X) → Calls Try.prog 18 #[.iface 56 (.int .i64 6), .int .i64 6] X fun e w' => e = .returned (.bool true) ∧ (TB w' ∧ Below w.heap.size w w')) := Lib.hid (fun X hX => by
    refine (is_any 6 6 X).mono ?_
    rintro e W' ⟨h1, rfl⟩
    exact ⟨h1, hX⟩)
  have CFS : Hid (∀ X, (TB X ∧ Below w.heap.size w X) → Calls Try.prog 19 #[.agg (vPic P q0 q1 q2 q3 pv kv), .agg (vPic Q r0 r1 r2 r3 rv sv)] X fun e w' => e = .returned (.bool sm) ∧ (TB w' ∧ Below w.heap.size w w')) := Lib.hid (fun X hX => by
    refine (fsame_any P Q q0 q1 q2 q3 pv kv r0 r1 r2 r3 rv sv X (HP.out _ hX.2) (HQ.out _ hX.2) HB.out HD.out).mono ?_
    rintro e W' ⟨h1, h2⟩
    exact ⟨by rw [h1, hsm], TO.out _ _ hX.1 h2, hX.2.trans (h2.mono hX.2.size)⟩)
  have CRS : Hid (∀ X, (TB X ∧ Below w.heap.size w X) → Calls Try.prog 20 #[.agg (vPic P q0 q1 q2 q3 pv kv), .agg (vPic Q r0 r1 r2 r3 rv sv)] X fun e w' => e = .returned (.bool sm) ∧ (TB w' ∧ Below w.heap.size w w')) := Lib.hid (fun X hX => by
    refine (rsame_any P Q q0 q1 q2 q3 pv kv r0 r1 r2 r3 rv sv X (HP.out _ hX.2) (HQ.out _ hX.2) HB.out HD.out).mono ?_
    rintro e W' ⟨h1, h2⟩
    exact ⟨by rw [h1, hsm], TO.out _ _ hX.1 h2, hX.2.trans (h2.mono hX.2.size)⟩)
  have CFP : Hid (∀ X, (TB X ∧ Below w.heap.size w X) → Calls Try.prog 19 #[.agg (vPic P q0 q1 q2 q3 pv kv), .agg (vPic P q0 q1 q2 q3 pv kv)] X fun e w' => e = .returned (.bool true) ∧ (TB w' ∧ Below w.heap.size w w')) := Lib.hid (fun X hX => by
    refine (fsame_any P P q0 q1 q2 q3 pv kv q0 q1 q2 q3 pv kv X (HP.out _ hX.2) (HP.out _ hX.2) HB.out HB.out).mono ?_
    rintro e W' ⟨h1, h2⟩
    exact ⟨by rw [h1, sameB_self], TO.out _ _ hX.1 h2, hX.2.trans (h2.mono hX.2.size)⟩)
  unfold vPic at CFS CRS CFP
  have SS : (sm == sm) = true := by cases sm <;> rfl
  clear hsm
  have CC := Lib.hid (show TB w7.drew ∧ Below w.heap.size w w7.drew from ⟨TO.out _ _ T7.out (Below.refl _ _).drew, B7.out.drew⟩)
  go_upto_region 7 with (fail)
  cases g
  all_goals
    obtain rfl := HEV.out
    simp only [show errV (chkN false) = .iface 56 (.int .i64 6) from rfl, show errV (chkN true) = .nilIface from rfl]
    refine wp_region_q (fun X => TB X ∧ Below w.heap.size w X) (by kernel_rfl) (by kernel_rfl) CC.out ?_
    iterate 20
      first
      | go_big_quiet_skip
      | (go_big_quiet_want
         first
         | (go_big_quiet_op; go_big_quiet_on)
         | (apply Exists.intro
            refine ⟨fun X hX => ?_, ?_⟩
            · have hXX := Lib.hid hX
              obtain ⟨⟨a0, a1, a2, a3, a4, a5, a6, a7, a8⟩, b0, b1, b2, b3, b4, b5, b6, b7, b8⟩ := (⟨(TC.out _ hX.1).1.cells, (TC.out _ hX.1).2.cells⟩ : _ ∧ _)
              clear hX
              unfold Oper.quietAt
              go_simp
              first
              | (go_at_call 18; exact CIs.out _ hXX.out)
              | (go_at_call 20; exact CRS.out _ hXX.out)
              | (go_at_call 19; exact CFS.out _ hXX.out)
              | exact ⟨rfl, hXX.out⟩
              | exact ⟨rfl, rfl⟩
              | exact rfl
            go_big_quiet_on
            try simp only [Act.put, List.setIfInBounds_toArray, List.set_cons_zero, List.set_cons_succ]))
    repeat
      first
      | go_big_quiet_skip
      | (go_big_quiet_want
         first
         | (go_big_quiet_op; go_big_quiet_on)
         | (apply Exists.intro
            refine ⟨fun X hX => ?_, ?_⟩
            · have hXX := Lib.hid hX
              obtain ⟨⟨a0, a1, a2, a3, a4, a5, a6, a7, a8⟩, b0, b1, b2, b3, b4, b5, b6, b7, b8⟩ := (⟨(TC.out _ hX.1).1.cells, (TC.out _ hX.1).2.cells⟩ : _ ∧ _)
              clear hX
              unfold Oper.quietAt
              go_simp
              first
              | (go_at_call 18; exact CIs.out _ hXX.out)
              | (go_at_call 20; exact CRS.out _ hXX.out)
              | (go_at_call 19; exact CFP.out _ hXX.out)
              | exact ⟨rfl, hXX.out⟩
              | exact ⟨rfl, rfl⟩
              | exact rfl
            go_big_quiet_on
            try simp only [Act.put, List.setIfInBounds_toArray, List.set_cons_zero, List.set_cons_succ]))
    refine wpQuiet_nil ?_
    rintro Y ⟨-, hbY⟩
    have BY := Lib.hid hbY
    clear hbY
    go_wp2_with fail
    go_ret
    exact ⟨rfl, BY.out⟩
end Go.Proofs.Ytbcbfnkpnfbfjaa
