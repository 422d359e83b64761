/- Are two pictures the same, by the document? burnishref23.Same. By an AI agent. -/
import Derived.Test.YtnhalnjdlkdnkaaZ28
namespace Go.Proofs.Ytnhalnjdlkdnkaa
open Go.RowKit Go.BigFrame
set_option linter.unusedVariables false
set_option linter.unusedSimpArgs false
set_option maxRecDepth 20000

theorem ptS_len (p q : PartL) : ptS p q = (decide (p.id = q.id) && decide (p.h = q.h) && decide (p.v = q.v) && decide (p.tq = q.tq) && decide (p.wide = q.wide) && decide (p.high = q.high) && decide (p.bs.length = q.bs.length) && decide (p.bs = q.bs)) := by
  unfold ptS
  by_cases h : p.bs = q.bs
  · rw [h]; simp
  · simp [h]
theorem str_ne (a b : List UInt8) : ((strOf a).toList != (strOf b).toList) = !decide (a = b) := by
  rw [strOf_toList, strOf_toList]
  by_cases h : a = b
  · subst h; simp
  · rw [decide_eq_false h]; simpa [bne_iff_ne] using h
set_option maxRecDepth 20000 in
set_option maxHeartbeats 16000000 in
theorem rsame_any (P Q : PicL) (q0 q1 q2 q3 pv kv r0 r1 r2 r3 rv sv : Value) (w : World) (hp : PicC w P q0 q1 q2 q3 pv kv) (hq : PicC w Q r0 r1 r2 r3 rv sv) (hB : PicB P) (hD : PicB Q) :
    Calls Try.prog 16 #[.agg (vPic P q0 q1 q2 q3 pv kv), .agg (vPic Q r0 r1 r2 r3 rv sv)] w fun e w' => e = .returned (.bool (sameB P Q)) ∧ Below w.heap.size w w' := by
  have hl := hB.parts
  have hkl := hB.kept
  obtain ⟨pa, pc, rfl, _, hxp⟩ := pts_at hp.parts
  obtain ⟨sa, sc, rfl, _, hsx⟩ := sgs_at hp.kept
  obtain ⟨pa', pc', rfl, _, hxp'⟩ := pts_at hq.parts
  obtain ⟨sa', sc', rfl, _, hsx'⟩ := sgs_at hq.kept
  have HXP := Lib.hid hxp
  have HSX := Lib.hid hsx
  have HXP' := Lib.hid hxp'
  have HSX' := Lib.hid hsx'
  have HQ := Lib.hid (fun k => qV_ns hp k)
  have HQL := Lib.hid (fun k => qL_len hB k)
  have HQ' := Lib.hid (fun k => qV_ns hq k)
  obtain ⟨n, hn⟩ : ∃ n, P.parts.length = n := ⟨_, rfl⟩
  obtain ⟨sn, hsn⟩ : ∃ n, P.kept.length = n := ⟨_, rfl⟩
  obtain ⟨n', hn'⟩ : ∃ n, Q.parts.length = n := ⟨_, rfl⟩
  obtain ⟨sn', hsn'⟩ : ∃ n, Q.kept.length = n := ⟨_, rfl⟩
  rw [hn] at hl ⊢
  rw [hsn] at hkl ⊢
  rw [hn', hsn']
  have HN := Lib.hid hn
  have HSN := Lib.hid hsn
  have HN' := Lib.hid hn'
  have HSN' := Lib.hid hsn'
  obtain ⟨w1, hw1⟩ : ∃ w1, w.alloc (.cells (vPic P q0 q1 q2 q3 (.slice pa n pc) (.slice sa sn sc)) 36) = w1 := ⟨_, rfl⟩
  have hb1 : Below w.heap.size w w1 := by rw [← hw1]; exact (Below.refl _ _).alloc (Nat.le_refl _) _
  obtain ⟨B, hBB⟩ : ∃ B, w.heap.size = B := ⟨_, rfl⟩
  have hbox : PBox w1 B P q0 q1 q2 q3 (.slice pa n pc) (.slice sa sn sc) := by rw [← hw1, ← hBB]; exact heap_alloc_new _ _
  obtain ⟨w2, hw2⟩ : ∃ w2, w1.alloc (.cells (vPic Q r0 r1 r2 r3 (.slice pa' n' pc') (.slice sa' sn' sc')) 36) = w2 := ⟨_, rfl⟩
  have hb2 : Below w1.heap.size w1 w2 := by rw [← hw2]; exact (Below.refl _ _).alloc (Nat.le_refl _) _
  obtain ⟨B', hBB'⟩ : ∃ B, w1.heap.size = B := ⟨_, rfl⟩
  have hbox' : PBox w2 B' Q r0 r1 r2 r3 (.slice pa' n' pc') (.slice sa' sn' sc') := by rw [← hw2, ← hBB']; exact heap_alloc_new _ _
  obtain ⟨TB, tb1, tb2, tb3⟩ := two_boxes B B' P Q q0 q1 q2 q3 (.slice pa n pc) (.slice sa sn sc) r0 r1 r2 r3 (.slice pa' n' pc') (.slice sa' sn' sc')
  have TO := Lib.hid tb2
  have TC := Lib.hid tb3
  have B2 := Lib.hid (hb1.trans (hb2.mono hb1.size))
  have T2 := Lib.hid (tb1 _ (hbox.old hb2) hbox')
  obtain ⟨hs, hhs⟩ : ∃ hs, headS P Q = hs := ⟨_, rfl⟩
  have HE : Hid (hs = (decide (P.w = Q.w) && decide (P.h = Q.h) && decide (P.restart = Q.restart) && decide (n = n') && decide (sn = sn'))) := Lib.hid (by rw [← hhs, ← hn, ← hn', ← hsn, ← hsn']; rfl)
  have GB : Hid (sameB P Q = (hs && qsS P Q 4 && psS P Q n && ksS P Q sn)) := Lib.hid (by unfold sameB; rw [hhs, hn, hsn])
  unfold vPic at hw1 hw2
  clear hp hq hB hD hb1 hbox hb2 hbox' hsx hn hsn hxp hsx' hn' hsn' hxp' tb1 tb2 tb3 hhs
  unfold vPic
  go_enter Try.func16, Try.ntmps16
  go_upto_region 1 with (fail)
  clear hw1 hw2 hBB hBB'
  go_cut [48] from 12 to 48 (fun c wx => c = .bool (!hs) ∧ w2 = wx)
  case first =>
    obtain ⟨⟨a0, a1, a2, a3, a4, a5, a6, a7, a8⟩, b0, b1, b2, b3, b4, b5, b6, b7, b8⟩ := (⟨(TC.out _ T2.out).1.cells, (TC.out _ T2.out).2.cells⟩ : _ ∧ _)
    rcases hs_cases P.w Q.w P.h Q.h P.restart Q.restart n n' sn sn' hs HE.out with ⟨v1, o⟩ | ⟨v1, v2, o⟩ | ⟨v1, v2, v3, o⟩ | ⟨v1, v2, v3, ⟨v4, v4'⟩, o⟩ | ⟨v1, v2, v3, ⟨v4, v4'⟩, ⟨v5, v5'⟩, o⟩ | ⟨v1, v2, v3, ⟨v4, v4'⟩, ⟨v5, v5'⟩, o⟩
    all_goals
      have HO := Lib.hid o
      clear o
      go_wp2_with fail
      go_meet
      exact ⟨by rw [HO.out]; rfl, rfl⟩
  case rest =>
  obtain ⟨rfl, rfl⟩ := hcut
  cases hs with
  | false =>
    have RE : Hid (sameB P Q = false) := Lib.hid (by rw [GB.out]; rfl)
    go_wp2_with fail
    go_ret
    exact ⟨by rw [RE.out]; rfl, B2.out⟩
  | true =>
  rw [Bool.not_true]
  have EN : n = n' ∧ sn = sn' := by
    have h := HE.out
    rw [eq_comm] at h
    simp only [Bool.and_eq_true, decide_eq_true_eq] at h
    exact ⟨h.1.2, h.2⟩
  obtain ⟨rfl, rfl⟩ := EN
  clear HE
  go_wp2_with fail
  go_loopw [5] (fun i W => ∃ k : Nat, k ≤ 4 ∧ i = .int .i64 (k : Nat) ∧ qsS P Q k = true ∧ Below w.heap.size w W ∧ TB W) (fun i _ => 4 - (intOf i).toNat)
  case atStart => exact ⟨0, Nat.zero_le _, rfl, rfl, B2.out, T2.out⟩
  case round =>
    obtain ⟨k, hk, rfl, hqk, hb, ht⟩ := hrel
    have QK := Lib.hid hqk
    have BB := Lib.hid hb
    have TT := Lib.hid ht
    clear hqk hb ht
    by_cases hkn : k < 4
    · have f1 : decide ((k : Int) < 4) = true := by rw [decide_eq_true_eq]; omega
      have f1' : decide (k < 4) = true := by rw [decide_eq_true_eq]; omega
      have f2 : (k : Int) < 4 := by omega
      have f3 : (0 : Int) ≤ (k : Int) := by omega
      have gk : IntKind.i64.wrap ((k : Int) + 1) = (k : Int) + 1 := IntWalk.i64_in _ (by omega)
      have HKN := Lib.hid hkn
      have SC : Hid (qsS P Q (k + 1) = (qsS P Q k && quantS P Q k)) := Lib.hid (range_all_succ _ _)
      have FA : Hid (quantS P Q k = false → sameB P Q = false) := Lib.hid (fun h => by rw [GB.out, show qsS P Q 4 = false from range_all_false (f := quantS P Q) hkn h]; rfl)
      have c1 := pbox_q2 (TC.out _ TT.out).1 k hkn
      have c2 := pbox_q2 (TC.out _ TT.out).2 k hkn
      have N1 := (HQ.out k).old BB.out
      have N2 := (HQ'.out k).old BB.out
      have LQ := HQL.out k
      obtain ⟨ql, hql⟩ : ∃ ql, qL P k = ql := ⟨_, rfl⟩
      obtain ⟨ql', hql'⟩ : ∃ ql, qL Q k = ql := ⟨_, rfl⟩
      obtain ⟨x, hx⟩ : ∃ x, qV q0 q1 q2 q3 k = x := ⟨_, rfl⟩
      obtain ⟨y, hy⟩ : ∃ x, qV r0 r1 r2 r3 k = x := ⟨_, rfl⟩
      rw [hql] at N1 LQ
      rw [hql'] at N2
      rw [hx] at c1 N1
      rw [hy] at c2 N2
      have QE : Hid (quantS P Q k = decide (ql = ql')) := Lib.hid (by unfold quantS; rw [hql, hql'])
      obtain ⟨xa, xc, rfl, hxx⟩ := N1.read
      obtain ⟨ya, yc, rfl, hyy⟩ := N2.read
      have HXX := Lib.hid hxx
      have HYY := Lib.hid hyy
      obtain ⟨l1, hl1⟩ : ∃ z, ql.length = z := ⟨_, rfl⟩
      obtain ⟨l2, hl2⟩ : ∃ z, ql'.length = z := ⟨_, rfl⟩
      rw [hl1] at c1 LQ hx
      rw [hl2] at c2 hy
      have HX := Lib.hid hx
      have HY := Lib.hid hy
      have HL1 := Lib.hid hl1
      have HL2 := Lib.hid hl2
      clear hql hql' hx hy N1 N2 hkn hxx hyy hl1 hl2
      go_wp2_with fail
      refine wp_region_q (fun X => X.cell? ⟨B, 2 + k, none⟩ = some (.slice xa l1 xc) ∧ X.cell? ⟨B', 2 + k, none⟩ = some (.slice ya l2 yc) ∧ Below wr.heap.size wr X) (by kernel_rfl) (by kernel_rfl) ⟨cell_old (Below.refl _ _).drew c1, cell_old (Below.refl _ _).drew c2, (Below.refl _ _).drew⟩ ?_
      clear f1 f1' c1 c2
      repeat
        first
        | go_big_quiet_skip
        | (go_big_quiet_want
           first
           | (go_big_quiet_op; go_big_quiet_on)
           | (apply Exists.intro
              refine ⟨fun X hX => ?_, ?_⟩
              · obtain ⟨e1, e2, eZ⟩ := hX
                clear eZ
                unfold Oper.quietAt
                go_simp
                first
                | exact ⟨rfl, rfl⟩
                | exact rfl
              go_big_quiet_on
              try simp only [Act.put, List.setIfInBounds_toArray, List.set_cons_zero, List.set_cons_succ]))
      refine wpQuiet_nil ?_
      rintro Y ⟨-, -, hbY⟩
      have BY := Lib.hid (BB.out.trans (hbY.mono BB.out.size))
      have TY := Lib.hid (TO.out _ _ TT.out hbY)
      have HXY := Lib.hid hbY
      clear hbY
      by_cases hll : l1 = l2
      case neg =>
        have d1 : ((l1 : Int) != (l2 : Int)) = true := by rw [bne_iff_ne]; omega
        have d1' : (l1 != l2) = true := by rw [bne_iff_ne]; exact hll
        have RE : Hid (sameB P Q = false) := Lib.hid (FA.out (by rw [QE.out, decide_eq_false (fun e => hll (by rw [← HL1.out, ← HL2.out, e]))]))
        clear hll
        go_wp2_with fail
        go_ret
        exact ⟨by rw [RE.out]; rfl, BY.out⟩
      case pos =>
      subst hll
      have d1 : ((l1 : Int) != (l1 : Int)) = false := by rw [bne_eq_false_iff_eq]
      have d1' : (l1 != l1) = false := by rw [bne_eq_false_iff_eq]
      have EL : Hid (ql.length = ql'.length) := Lib.hid (by rw [HL1.out, HL2.out])
      go_wp2_with fail
      clear d1 d1'
      revert Y; intro Z BZ TZ HZ
      go_loopw [6] (fun i W => ∃ z : Nat, z ≤ l1 ∧ i = .int .i64 (z : Nat) ∧ ql.take z = ql'.take z ∧ Below Z.heap.size Z W) (fun i _ => l1 - (intOf i).toNat)
      case atStart => exact ⟨0, Nat.zero_le _, rfl, by simp, Below.refl _ _⟩
      case round =>
        obtain ⟨z, hz, rfl, haz, hb⟩ := hrel
        have HAZ := Lib.hid haz
        have BR := Lib.hid (BZ.out.trans (hb.mono BZ.out.size))
        have TR := Lib.hid (TO.out _ _ TZ.out hb)
        have HR := Lib.hid (HZ.out.trans (hb.mono HZ.out.size))
        have HBZ := Lib.hid hb
        clear haz hb
        have c1 : wr.cell? ⟨B, 2 + k, none⟩ = some (.slice xa l1 xc) := by rw [pbox_q2 (TC.out _ TR.out).1 k HKN.out, HX.out]
        have c2 : wr.cell? ⟨B', 2 + k, none⟩ = some (.slice ya l1 yc) := by rw [pbox_q2 (TC.out _ TR.out).2 k HKN.out, HY.out]
        by_cases hzn : z < l1
        · have f4 : decide ((z : Int) < (l1 : Int)) = true := by rw [decide_eq_true_eq]; omega
          have f4' : decide (z < l1) = true := by rw [decide_eq_true_eq]; omega
          have f5 : (z : Int) < (l1 : Int) := by omega
          have hz1 : z < ql.length := by rw [HL1.out]; exact hzn
          have hz2 : z < ql'.length := by rw [HL2.out]; exact hzn
          obtain ⟨b, off, rfl, g1⟩ := HXX.out z hz1
          obtain ⟨b', off', rfl, g2⟩ := HYY.out z hz2
          have g1' := cell_old HR.out g1
          have g2' := cell_old HR.out g2
          have SU := Lib.hid (take_eq_succ EL.out z hz1 HAZ.out)
          have NE := Lib.hid (ne_at EL.out z hz1)
          obtain ⟨x, hx⟩ : ∃ x, ql[z]'hz1 = x := ⟨_, rfl⟩
          obtain ⟨y, hy⟩ : ∃ y, ql'[z]'hz2 = y := ⟨_, rfl⟩
          rw [hx] at g1' SU NE
          rw [hy] at g2' SU NE
          have gz : IntKind.i64.wrap ((z : Int) + 1) = (z : Int) + 1 := IntWalk.i64_in _ (by omega)
          have HZN := Lib.hid hzn
          clear g1 g2 hx hy hz1 hz2 hzn
          go_wp2_with fail
          refine wp_region_q (fun X => X.cell? ⟨B, 2 + k, none⟩ = some (.slice (some ⟨b, off, none⟩) l1 xc) ∧ X.cell? ⟨B', 2 + k, none⟩ = some (.slice (some ⟨b', off', none⟩) l1 yc) ∧ X.cell? ⟨b, off + z, none⟩ = some (.int .i64 x) ∧ X.cell? ⟨b', off' + z, none⟩ = some (.int .i64 y) ∧ Below wr.heap.size wr X) (by kernel_rfl) (by kernel_rfl) ⟨cell_old (Below.refl _ _).drew c1, cell_old (Below.refl _ _).drew c2, cell_old (Below.refl _ _).drew g1', cell_old (Below.refl _ _).drew g2', (Below.refl _ _).drew⟩ ?_
          clear f4 f4' c1 c2 g1' g2'
          repeat
            first
            | go_big_quiet_skip
            | (go_big_quiet_want
               first
               | (go_big_quiet_op; go_big_quiet_on)
               | (apply Exists.intro
                  refine ⟨fun X hX => ?_, ?_⟩
                  · obtain ⟨e1, e2, e3, e4, eZ⟩ := hX
                    clear eZ
                    unfold Oper.quietAt
                    go_simp
                    first
                    | exact ⟨rfl, rfl⟩
                    | exact rfl
                  go_big_quiet_on
                  try simp only [Act.put, List.setIfInBounds_toArray, List.set_cons_zero, List.set_cons_succ]))
          refine wpQuiet_nil ?_
          rintro Y ⟨-, -, -, -, hbY⟩
          have BY := Lib.hid (BR.out.trans (hbY.mono BR.out.size))
          have BYZ : Hid (Below Z.heap.size Z Y) := Lib.hid (by
            have h1 := HBZ.out
            exact h1.trans (hbY.mono h1.size))
          clear hbY
          by_cases hxy : x = y
          · have d1 : (x != y) = false := by rw [bne_eq_false_iff_eq]; exact hxy
            have TTK := Lib.hid (SU.out.2 hxy)
            clear hxy
            go_wp2_with fail
            go_roundw
            case rel => exact ⟨z + 1, HZN.out, by go_num, TTK.out, BYZ.out⟩
            case measure => simp [intOf]; have := HZN.out; omega
          · have d1 : (x != y) = true := by rw [bne_iff_ne]; exact hxy
            have RE : Hid (sameB P Q = false) := Lib.hid (FA.out (by rw [QE.out, decide_eq_false (NE.out hxy)]))
            clear hxy
            go_wp2_with fail
            go_ret
            exact ⟨by rw [RE.out]; rfl, BY.out⟩
        · obtain rfl : z = l1 := by omega
          have f4 : decide ((z : Int) < (z : Int)) = false := by rw [decide_eq_false_iff_not]; omega
          have QT : Hid (quantS P Q k = true) := Lib.hid (by
            have := HAZ.out
            rw [List.take_of_length_le (by rw [HL1.out]; omega), List.take_of_length_le (by rw [HL2.out]; omega)] at this
            rw [QE.out, this]; simp)
          clear hzn
          go_wp2_with fail
          go_roundw
          case rel => exact ⟨k + 1, HKN.out, by go_num, by rw [SC.out, QK.out, QT.out]; rfl, BR.out, TR.out⟩
          case measure => simp [intOf]; have := HKN.out; omega
    · obtain rfl : k = 4 := by omega
      have GB2 : Hid (sameB P Q = (psS P Q n && ksS P Q sn)) := Lib.hid (by rw [GB.out, QK.out]; rfl)
      clear GB hkn
      rw [show ((4 : Nat) : Int) = 4 from rfl]
      go_wp2_with fail
      revert wr; intro Z BZ TZ
      -- the parts
      go_loopw [7] (fun i W => ∃ k : Nat, k ≤ n ∧ i = .int .i64 (k : Nat) ∧ psS P Q k = true ∧ Below w.heap.size w W ∧ TB W) (fun i _ => n - (intOf i).toNat)
      case atStart => exact ⟨0, Nat.zero_le _, rfl, rfl, BZ.out, TZ.out⟩
      case round =>
        clear BZ TZ
        obtain ⟨k, hk, rfl, hqk, hb, ht⟩ := hrel
        have PK := Lib.hid hqk
        have BB := Lib.hid hb
        have TT := Lib.hid ht
        clear hqk hb ht
        obtain ⟨⟨a0, a1, a2, a3, a4, a5, a6, a7, a8⟩, b0, b1, b2, b3, b4, b5, b6, b7, b8⟩ := (⟨(TC.out _ TT.out).1.cells, (TC.out _ TT.out).2.cells⟩ : _ ∧ _)
        by_cases hkn : k < n
        · have f1 : decide ((k : Int) < (n : Int)) = true := by rw [decide_eq_true_eq]; omega
          have f1' : decide (k < n) = true := by rw [decide_eq_true_eq]; omega
          have f2 : (k : Int) < (n : Int) := by omega
          have gk : IntKind.i64.wrap ((k : Int) + 1) = (k : Int) + 1 := IntWalk.i64_in _ (by omega)
          have HKN := Lib.hid hkn
          have hkp : k < P.parts.length := by rw [HN.out]; exact hkn
          have hkq : k < Q.parts.length := by rw [HN'.out]; exact hkn
          have SC : Hid (psS P Q (k + 1) = (psS P Q k && ptS (P.parts[k]'hkp) (Q.parts[k]'hkq))) := Lib.hid (by
            unfold psS
            rw [range_all_succ, List.getD_eq_getElem?_getD, List.getElem?_eq_getElem hkp, List.getD_eq_getElem?_getD, List.getElem?_eq_getElem hkq]; rfl)
          have FA : Hid (ptS (P.parts[k]'hkp) (Q.parts[k]'hkq) = false → sameB P Q = false) := Lib.hid (fun h => by
            have h2 : psS P Q n = false := range_all_false (f := fun k => ptS (P.parts.getD k default) (Q.parts.getD k default)) hkn (by
              rw [List.getD_eq_getElem?_getD, List.getElem?_eq_getElem hkp, List.getD_eq_getElem?_getD, List.getElem?_eq_getElem hkq]; exact h)
            rw [GB2.out, h2]; rfl)
          obtain ⟨b, off, x, rfl, hpb, hBK, c0, c1, c2, c3, c4, c5, c6⟩ := HXP.out k hkp
          obtain ⟨b', off', x', rfl, -, hBK', g0, g1, g2, g3, g4, g5, g6⟩ := HXP'.out k hkq
          obtain ⟨p, hp⟩ : ∃ p, P.parts[k]'hkp = p := ⟨_, rfl⟩
          obtain ⟨q, hq⟩ : ∃ p, Q.parts[k]'hkq = p := ⟨_, rfl⟩
          rw [hp] at hBK hpb c0 c1 c2 c3 c4 c5 SC FA
          rw [hq] at hBK' g0 g1 g2 g3 g4 g5 SC FA
          have LB := Lib.hid hpb.bs
          obtain ⟨xa, xc, rfl, -⟩ := Els.len hBK
          obtain ⟨xa', xc', rfl, -⟩ := Els.len hBK'
          have HK := Lib.hid (hBK.old BB.out)
          have HK' := Lib.hid (hBK'.old BB.out)
          obtain ⟨ln, hln⟩ : ∃ z, p.bs.length = z := ⟨_, rfl⟩
          obtain ⟨ln', hln'⟩ : ∃ z, q.bs.length = z := ⟨_, rfl⟩
          rw [hln] at c6 HK
          rw [hln'] at g6 HK'
          have d0 := cell_old BB.out c0
          have d1 := cell_old BB.out c1
          have d2 := cell_old BB.out c2
          have d3 := cell_old BB.out c3
          have d4 := cell_old BB.out c4
          have d5 := cell_old BB.out c5
          have d6 := cell_old BB.out c6
          have G : Hid (w.cell? ⟨b', off' + k * 7, none⟩ = some (.int .i64 q.id) ∧ w.cell? ⟨b', off' + k * 7 + 1, none⟩ = some (.int .i64 q.h) ∧ w.cell? ⟨b', off' + k * 7 + 2, none⟩ = some (.int .i64 q.v) ∧ w.cell? ⟨b', off' + k * 7 + 3, none⟩ = some (.int .i64 q.tq) ∧ w.cell? ⟨b', off' + k * 7 + 4, none⟩ = some (.int .i64 q.wide) ∧ w.cell? ⟨b', off' + k * 7 + 5, none⟩ = some (.int .i64 q.high) ∧ w.cell? ⟨b', off' + k * 7 + 6, none⟩ = some (.slice xa' ln' xc')) := Lib.hid ⟨g0, g1, g2, g3, g4, g5, g6⟩
          clear c0 c1 c2 c3 c4 c5 c6 g0 g1 g2 g3 g4 g5 g6 hpb hBK hBK' hp hq hkn hkp hkq
          obtain ⟨w4, hw4⟩ : ∃ w4, wr.alloc (.cells #[.int .i64 p.id, .int .i64 p.h, .int .i64 p.v, .int .i64 p.tq, .int .i64 p.wide, .int .i64 p.high, .slice xa ln xc] 70) = w4 := ⟨_, rfl⟩
          have hb4 : Below wr.heap.size wr w4 := by rw [← hw4]; exact (Below.refl _ _).alloc (Nat.le_refl _) _
          obtain ⟨A, hA⟩ : ∃ A, wr.heap.size = A := ⟨_, rfl⟩
          have P4 : PtB w4 A p (.slice xa ln xc) := by rw [← hw4, ← hA]; exact heap_alloc_new _ _
          obtain ⟨w5, hw5⟩ : ∃ w5, w4.alloc (.cells #[.int .i64 q.id, .int .i64 q.h, .int .i64 q.v, .int .i64 q.tq, .int .i64 q.wide, .int .i64 q.high, .slice xa' ln' xc'] 70) = w5 := ⟨_, rfl⟩
          have hb5 : Below w4.heap.size w4 w5 := by rw [← hw5]; exact (Below.refl _ _).alloc (Nat.le_refl _) _
          obtain ⟨A', hA'⟩ : ∃ A, w4.heap.size = A := ⟨_, rfl⟩
          have P5' : Hid (PtB w5 A' q (.slice xa' ln' xc')) := Lib.hid (by rw [← hw5, ← hA']; exact heap_alloc_new _ _)
          have P5 := Lib.hid (P4.old hb5)
          have b45 : Below wr.heap.size wr w5 := hb4.trans (hb5.mono hb4.size)
          have B5 := Lib.hid (BB.out.trans (b45.mono BB.out.size))
          have T5 := Lib.hid (TO.out _ _ TT.out b45)
          have K5 := Lib.hid (HK.out.old b45)
          have K5' := Lib.hid (HK'.out.old b45)
          have B4 := BB.out.trans (hb4.mono BB.out.size)
          obtain ⟨g0, g1, g2, g3, g4, g5, g6⟩ := G.out
          have j0 := cell_old B4 g0
          have j1 := cell_old B4 g1
          have j2 := cell_old B4 g2
          have j3 := cell_old B4 g3
          have j4 := cell_old B4 g4
          have j5 := cell_old B4 g5
          have j6 := cell_old B4 g6
          obtain ⟨-, y0, y1, y2, y3, y4, y5, y6, y7, y8⟩ := (⟨trivial, (TC.out _ (TO.out _ _ TT.out hb4)).2.cells⟩ : True ∧ _)
          clear hb4 hb5 b45 B4 P4 g0 g1 g2 g3 g4 g5 g6 G
          go_upto_region 18 with (fail)
          clear d0 d1 d2 d3 d4 d5 d6 j0 j1 j2 j3 j4 j5 j6 a0 a1 a2 a3 a4 a5 a6 a7 a8 b0 b1 b2 b3 b4 b5 b6 b7 b8 y0 y1 y2 y3 y4 y5 y6 y7 y8 hw4 hw5 hA hA' BB TT HK HK'
          have LEQ : ptS p q = _ := ptS_len p q
          rw [hln, hln'] at LEQ
          have HLN := Lib.hid hln
          have HLN' := Lib.hid hln'
          obtain ⟨ph, hph⟩ : ∃ ph, (decide (p.id = q.id) && decide (p.h = q.h) && decide (p.v = q.v) && decide (p.tq = q.tq) && decide (p.wide = q.wide) && decide (p.high = q.high) && decide (ln = ln')) = ph := ⟨_, rfl⟩
          rw [hph] at LEQ
          obtain ⟨eb, heb⟩ : ∃ eb, decide (ln = ln') = eb := ⟨_, rfl⟩
          rw [heb] at hph
          have HE := Lib.hid hph.symm
          have HEB := Lib.hid heb
          have PE := Lib.hid LEQ
          clear hph LEQ heb hln hln'
          go_cut [153] from 105 to 153 (fun c wx => c = .bool (!ph) ∧ w5 = wx)
          case first =>
            obtain ⟨⟨e0, e1, e2, e3, e4, e5, e6⟩, g0, g1, g2, g3, g4, g5, g6⟩ := (⟨P5.out.cells, P5'.out.cells⟩ : _ ∧ _)
            have q1 : ((ln : Int) != (ln' : Int)) = !eb := by
              rw [← HEB.out, Bool.eq_iff_iff, bne_iff_ne, Bool.not_eq_true', decide_eq_false_iff_not]; omega
            have q1' : (ln != ln') = !eb := by
              rw [← HEB.out, Bool.eq_iff_iff, bne_iff_ne, Bool.not_eq_true', decide_eq_false_iff_not]
            rcases pt_cases p.id q.id p.h q.h p.v q.v p.tq q.tq p.wide q.wide p.high q.high eb ph HE.out with ⟨v1, o⟩ | ⟨v1, v2, o⟩ | ⟨v1, v2, v3, o⟩ | ⟨v1, v2, v3, v4, o⟩ | ⟨v1, v2, v3, v4, v5, o⟩ | ⟨v1, v2, v3, v4, v5, v6, o⟩ | ⟨v1, v2, v3, v4, v5, v6, o⟩
            case inr.inr.inr.inr.inr.inr =>
              have HO := Lib.hid o
              clear o
              go_wp2_with fail
              go_meet
              exact ⟨by rw [HO.out], rfl⟩
            all_goals
              have HO := Lib.hid o
              clear o
              go_wp2_with fail
              go_meet
              exact ⟨by rw [HO.out]; rfl, rfl⟩
          case rest =>
          obtain ⟨rfl, rfl⟩ := hcut
          cases ph with
          | false =>
            have RE : Hid (sameB P Q = false) := Lib.hid (FA.out (by rw [PE.out]; rfl))
            go_wp2_with fail
            go_ret
            exact ⟨by rw [RE.out]; rfl, B5.out⟩
          | true =>
          rw [Bool.not_true]
          have LL : ln = ln' := by
            have h := HE.out
            rw [eq_comm, Bool.and_eq_true] at h
            exact of_decide_eq_true (by rw [HEB.out]; exact h.2)
          subst LL
          have PE2 : Hid (ptS p q = decide (p.bs = q.bs)) := Lib.hid (by rw [PE.out, Bool.true_and])
          have EL : Hid (p.bs.length = q.bs.length) := Lib.hid (by rw [HLN.out, HLN'.out])
          clear HE HEB PE
          go_wp2_with fail
          obtain ⟨hall, ua, uc, hxe, _, hux⟩ := K5.out.range
          obtain ⟨hall', ua', uc', hxe', _, hvx⟩ := K5'.out.range
          simp only [Value.slice.injEq] at hxe hxe'
          obtain ⟨rfl, -, rfl⟩ := hxe
          obtain ⟨rfl, -, rfl⟩ := hxe'
          have AU := Lib.hid hall
          have AV := Lib.hid hall'
          have HU := Lib.hid hux
          have HV := Lib.hid hvx
          clear hall hall' hux hvx K5 K5'
          go_loopw [10] (fun i W => ∃ z : Nat, z ≤ ln ∧ i = .int .i64 (z : Nat) ∧ p.bs.take z = q.bs.take z ∧ Below w5.heap.size w5 W) (fun i _ => ln - (intOf i).toNat)
          case atStart => exact ⟨0, Nat.zero_le _, rfl, by simp, Below.refl _ _⟩
          case round =>
            obtain ⟨z, hz, rfl, haz, hb⟩ := hrel
            have HAZ := Lib.hid haz
            have BR := Lib.hid (B5.out.trans (hb.mono B5.out.size))
            have TR := Lib.hid (TO.out _ _ T5.out hb)
            have HBZ := Lib.hid hb
            have PR := Lib.hid (P5.out.old hb)
            have PR' := Lib.hid (P5'.out.old hb)
            clear haz hb
            obtain ⟨⟨e0, e1, e2, e3, e4, e5, e6⟩, g0, g1, g2, g3, g4, g5, g6⟩ := (⟨PR.out.cells, PR'.out.cells⟩ : _ ∧ _)
            clear e0 e1 e2 e3 e4 e5 g0 g1 g2 g3 g4 g5
            by_cases hzn : z < ln
            · have f4 : decide ((z : Int) < (ln : Int)) = true := by rw [decide_eq_true_eq]; omega
              have f4' : decide (z < ln) = true := by rw [decide_eq_true_eq]; omega
              have f5 : (z : Int) < (ln : Int) := by omega
              have hz1 : z < p.bs.length := by rw [HLN.out]; exact hzn
              have hz2 : z < q.bs.length := by rw [HLN'.out]; exact hzn
              obtain ⟨b, off, rfl, c1⟩ := HU.out z hz1
              obtain ⟨b', off', rfl, c2⟩ := HV.out z hz2
              have c1' := range_old HBZ.out c1
              have c2' := range_old HBZ.out c2
              have SU := Lib.hid (take_eq_succ EL.out z hz1 HAZ.out)
              have NE := Lib.hid (ne_at EL.out z hz1)
              have BXk := AU.out.at z hz1
              have BYk := AV.out.at z hz2
              obtain ⟨x, hx⟩ : ∃ x, p.bs[z]'hz1 = x := ⟨_, rfl⟩
              obtain ⟨y, hy⟩ : ∃ y, q.bs[z]'hz2 = y := ⟨_, rfl⟩
              rw [hx] at c1' SU NE BXk
              rw [hy] at c2' SU NE BYk
              have HIX := Lib.hid (blk_info BXk.1)
              have HIY := Lib.hid (blk_info BYk.1)
              have EQ := fun W => eq_in BXk BYk W
              unfold arr at EQ
              obtain ⟨qz, hqz⟩ : ∃ qz, decide (x = y) = qz := ⟨_, rfl⟩
              simp only [hqz] at EQ
              have HQZ := Lib.hid hqz
              have gz : IntKind.i64.wrap ((z : Int) + 1) = (z : Int) + 1 := IntWalk.i64_in _ (by have := LB.out; have := HLN.out; omega)
              have HZN := Lib.hid hzn
              clear c1 c2 hx hy BXk BYk hqz hz1 hz2 hzn
              go_wp2_with fail
              refine wp_region_q (fun X => X.cell? ⟨A, 6, none⟩ = some (.slice (some ⟨b, off, none⟩) ln xc) ∧ X.cell? ⟨A', 6, none⟩ = some (.slice (some ⟨b', off', none⟩) ln xc') ∧ X.rangeAt b (off + z * 64) (vIs x) ∧ X.rangeAt b' (off' + z * 64) (vIs y) ∧ Below wr.heap.size wr X) (by kernel_rfl) (by kernel_rfl) ⟨cell_old (Below.refl _ _).drew e6, cell_old (Below.refl _ _).drew g6, range_old (Below.refl _ _).drew c1', range_old (Below.refl _ _).drew c2', (Below.refl _ _).drew⟩ ?_
              clear c1' c2' e6 g6 f4 f4'
              repeat
                first
                | go_big_quiet_skip
                | (go_big_quiet_want
                   first
                   | (refine quiet_load_mid rfl b (off + z * 64) rfl (vIs x) _ (fun w hw => hw.2.2.1) Try.underlying23 rfl HIX.out ?_; go_big_quiet_on; try simp only [Act.put, List.setIfInBounds_toArray, List.set_cons_zero, List.set_cons_succ])
                   | (refine quiet_load_mid rfl b' (off' + z * 64) rfl (vIs y) _ (fun w hw => hw.2.2.2.1) Try.underlying23 rfl HIY.out ?_; go_big_quiet_on; try simp only [Act.put, List.setIfInBounds_toArray, List.set_cons_zero, List.set_cons_succ])
                   | (go_big_quiet_op; go_big_quiet_on)
                   | (apply Exists.intro
                      refine ⟨fun X hX => ?_, ?_⟩
                      · obtain ⟨h1, h2, -, -, -⟩ := hX
                        unfold Oper.quietAt
                        go_simp
                        first
                        | exact ⟨rfl, rfl⟩
                        | exact rfl
                      go_big_quiet_on
                      try simp only [Act.put, List.setIfInBounds_toArray, List.set_cons_zero, List.set_cons_succ]))
              clear EQ
              refine wpQuiet_nil ?_
              rintro Y ⟨-, -, -, -, hbY⟩
              have BY := Lib.hid (BR.out.trans (hbY.mono BR.out.size))
              have BYZ : Hid (Below w5.heap.size w5 Y) := Lib.hid (by
                have h1 := HBZ.out
                exact h1.trans (hbY.mono h1.size))
              clear hbY
              cases qz with
              | true =>
                have TTK := Lib.hid (SU.out.2 (of_decide_eq_true HQZ.out))
                go_wp2_with fail
                go_roundw
                case rel => exact ⟨z + 1, HZN.out, by go_num, TTK.out, BYZ.out⟩
                case measure => simp [intOf]; have := HZN.out; omega
              | false =>
                have RE : Hid (sameB P Q = false) := Lib.hid (FA.out (by rw [PE2.out, decide_eq_false (NE.out (of_decide_eq_false HQZ.out))]))
                go_wp2_with fail
                go_ret
                exact ⟨by rw [RE.out]; rfl, BY.out⟩
            · obtain rfl : z = ln := by omega
              have f4 : decide ((z : Int) < (z : Int)) = false := by rw [decide_eq_false_iff_not]; omega
              have QT : Hid (ptS p q = true) := Lib.hid (by
                have := HAZ.out
                rw [List.take_of_length_le (by rw [HLN.out]; omega), List.take_of_length_le (by rw [HLN'.out]; omega)] at this
                rw [PE2.out, this]; simp)
              clear hzn
              go_wp2_with fail
              go_roundw
              case rel => exact ⟨k + 1, HKN.out, by go_num, by rw [SC.out, PK.out, QT.out]; rfl, BR.out, TR.out⟩
              case measure => simp [intOf]; have := HKN.out; omega
        · obtain rfl : k = n := by omega
          have f1 : decide ((k : Int) < (k : Int)) = false := by rw [decide_eq_false_iff_not]; omega
          have GB3 : Hid (sameB P Q = ksS P Q sn) := Lib.hid (by rw [GB2.out, PK.out]; rfl)
          clear GB2 hkn
          go_wp2_with fail
          clear a0 a1 a2 a3 a4 a5 a6 a7 a8 b0 b1 b2 b3 b4 b5 b6 b7 b8 f1
          revert wr; intro Z BZ TZ
          -- the segments
          go_loopw [11] (fun i W => ∃ m : Nat, m ≤ sn ∧ i = .int .i64 (m : Nat) ∧ ksS P Q m = true ∧ Below w.heap.size w W ∧ TB W) (fun i _ => sn - (intOf i).toNat)
          case atStart => exact ⟨0, Nat.zero_le _, rfl, rfl, BZ.out, TZ.out⟩
          case round =>
            clear BZ TZ
            obtain ⟨m, hm, rfl, hqm, hb, ht⟩ := hrel
            have MK := Lib.hid hqm
            have BB := Lib.hid hb
            have TT := Lib.hid ht
            clear hqm hb ht
            obtain ⟨⟨a0, a1, a2, a3, a4, a5, a6, a7, a8⟩, b0, b1, b2, b3, b4, b5, b6, b7, b8⟩ := (⟨(TC.out _ TT.out).1.cells, (TC.out _ TT.out).2.cells⟩ : _ ∧ _)
            clear a0 a1 a2 a3 a4 a5 a6 a7 b0 b1 b2 b3 b4 b5 b6 b7
            by_cases hmn : m < sn
            · have f1 : decide ((m : Int) < (sn : Int)) = true := by rw [decide_eq_true_eq]; omega
              have f1' : decide (m < sn) = true := by rw [decide_eq_true_eq]; omega
              have f2 : (m : Int) < (sn : Int) := by omega
              have gm : IntKind.i64.wrap ((m : Int) + 1) = (m : Int) + 1 := IntWalk.i64_in _ (by omega)
              have HMN := Lib.hid hmn
              have hmp : m < P.kept.length := by rw [HSN.out]; exact hmn
              have hmq : m < Q.kept.length := by rw [HSN'.out]; exact hmn
              have SC : Hid (ksS P Q (m + 1) = (ksS P Q m && sgS (P.kept[m]'hmp) (Q.kept[m]'hmq))) := Lib.hid (by
                unfold ksS
                rw [range_all_succ, List.getD_eq_getElem?_getD, List.getElem?_eq_getElem hmp, List.getD_eq_getElem?_getD, List.getElem?_eq_getElem hmq]; rfl)
              have FA : Hid (sgS (P.kept[m]'hmp) (Q.kept[m]'hmq) = false → sameB P Q = false) := Lib.hid (fun h => by
                have h2 : ksS P Q sn = false := range_all_false (f := fun k => sgS (P.kept.getD k (0, [])) (Q.kept.getD k (0, []))) hmn (by
                  rw [List.getD_eq_getElem?_getD, List.getElem?_eq_getElem hmp, List.getD_eq_getElem?_getD, List.getElem?_eq_getElem hmq]; exact h)
                rw [GB3.out, h2])
              obtain ⟨sb, so, xa, xc, rfl, hxl, hBs, c0, c1⟩ := HSX.out m hmp
              obtain ⟨sb', so', xa', xc', rfl, -, hBs', g0, g1⟩ := HSX'.out m hmq
              obtain ⟨s, hs⟩ : ∃ p, P.kept[m]'hmp = p := ⟨_, rfl⟩
              obtain ⟨t, ht⟩ : ∃ p, Q.kept[m]'hmq = p := ⟨_, rfl⟩
              rw [hs] at hxl hBs c0 c1 SC FA
              rw [ht] at hBs' g0 g1 SC FA
              obtain ⟨mk, hmk⟩ : ∃ q, s.1 = q := ⟨_, rfl⟩
              obtain ⟨mk', hmk'⟩ : ∃ q, t.1 = q := ⟨_, rfl⟩
              obtain ⟨l1, hl1⟩ : ∃ q, s.2.length = q := ⟨_, rfl⟩
              obtain ⟨l2, hl2⟩ : ∃ q, t.2.length = q := ⟨_, rfl⟩
              obtain ⟨eb, heb⟩ : ∃ eb, decide (s.2 = t.2) = eb := ⟨_, rfl⟩
              have SE : Hid (sgS s t = (decide (mk = mk') && eb)) := Lib.hid (by unfold sgS; rw [hmk, hmk', heb])
              rw [hmk] at c0
              rw [hmk'] at g0
              rw [hl1] at c1 hBs
              rw [hl2] at g1 hBs'
              have d0 := cell_old BB.out c0
              have d1 := cell_old BB.out c1
              have G : Hid (w.cell? ⟨sb', so' + m * 2, none⟩ = some (.int .i64 mk') ∧ w.cell? ⟨sb', so' + m * 2 + 1, none⟩ = some (.slice xa' l2 xc')) := Lib.hid ⟨g0, g1⟩
              have HBS := Lib.hid hBs
              have HBS' := Lib.hid hBs'
              have HXL := Lib.hid hxl
              have HEB := Lib.hid heb
              have j0 := cell_old BB.out g0
              have j1 := cell_old BB.out g1
              obtain ⟨S1, hS1⟩ : ∃ S, strOf s.2 = S := ⟨_, rfl⟩
              obtain ⟨S2, hS2⟩ : ∃ S, strOf t.2 = S := ⟨_, rfl⟩
              have CV1 : Hid (∀ X, Below wr.heap.size wr X → (convert 71 9 (.slice xa l1 xc)).run Try.prog X = .ok (.string S1) X) := Lib.hid (fun X hX => by
                rw [← hS1]
                exact run_str (P := Try.prog) X 71 5 9 Try.underlying71 Try.underlying5 Try.underlying9 ((HBS.out.old BB.out).old hX))
              have CV2 : Hid (∀ X, Below wr.heap.size wr X → (convert 71 9 (.slice xa' l2 xc')).run Try.prog X = .ok (.string S2) X) := Lib.hid (fun X hX => by
                rw [← hS2]
                exact run_str (P := Try.prog) X 71 5 9 Try.underlying71 Try.underlying5 Try.underlying9 ((HBS'.out.old BB.out).old hX))
              have SN : Hid ((S1.toList != S2.toList) = !eb) := Lib.hid (by rw [← hS1, ← hS2, str_ne, heb])
              have SN2 : Hid ((S1.toList == S2.toList) = eb) := Lib.hid (by
                have h := SN.out
                rw [bne] at h
                revert h
                generalize (S1.toList == S2.toList) = z
                cases z <;> cases eb <;> simp)
              have CC := Lib.hid (show wr.drew.cell? ⟨B, 8, none⟩ = some (.slice (some ⟨sb, so, none⟩) sn sc) ∧ wr.drew.cell? ⟨B', 8, none⟩ = some (.slice (some ⟨sb', so', none⟩) sn sc') ∧ wr.drew.cell? ⟨sb, so + m * 2, none⟩ = some (.int .i64 mk) ∧ wr.drew.cell? ⟨sb, so + m * 2 + 1, none⟩ = some (.slice xa l1 xc) ∧ wr.drew.cell? ⟨sb', so' + m * 2, none⟩ = some (.int .i64 mk') ∧ wr.drew.cell? ⟨sb', so' + m * 2 + 1, none⟩ = some (.slice xa' l2 xc') ∧ Below wr.heap.size wr wr.drew from ⟨cell_old (Below.refl _ _).drew a8, cell_old (Below.refl _ _).drew b8, cell_old (Below.refl _ _).drew d0, cell_old (Below.refl _ _).drew d1, cell_old (Below.refl _ _).drew j0, cell_old (Below.refl _ _).drew j1, (Below.refl _ _).drew⟩)
              clear c0 c1 g0 g1 hxl hBs hBs' hs ht hmk hmk' hl1 hl2 heb hmn hmp hmq hS1 hS2 d0 d1 j0 j1 G HBS HBS' HXL HEB
              go_wp2_with fail
              clear a8 b8
              have vv : ((mk != mk') = true ∧ sgS s t = false) ∨ ((mk != mk') = false ∧ sgS s t = eb) := by
                rw [SE.out]
                by_cases h : mk = mk'
                · right; simp [h]
                · left; simp [h]
              rcases vv with ⟨v1, o⟩ | ⟨v1, o⟩
              all_goals
                have HO := Lib.hid o
                clear o
                refine wp_region_q (fun X => X.cell? ⟨B, 8, none⟩ = some (.slice (some ⟨sb, so, none⟩) sn sc) ∧ X.cell? ⟨B', 8, none⟩ = some (.slice (some ⟨sb', so', none⟩) sn sc') ∧ X.cell? ⟨sb, so + m * 2, none⟩ = some (.int .i64 mk) ∧ X.cell? ⟨sb, so + m * 2 + 1, none⟩ = some (.slice xa l1 xc) ∧ X.cell? ⟨sb', so' + m * 2, none⟩ = some (.int .i64 mk') ∧ X.cell? ⟨sb', so' + m * 2 + 1, none⟩ = some (.slice xa' l2 xc') ∧ Below wr.heap.size wr X) (by kernel_rfl) (by kernel_rfl) CC.out ?_
                repeat
                  first
                  | go_big_quiet_skip
                  | (go_big_quiet_want
                     first
                     | (go_big_quiet_op; go_big_quiet_on)
                     | (apply Exists.intro
                        refine ⟨fun X hX => ?_, ?_⟩
                        · obtain ⟨e0, e1, e2, e3, e4, e5, eZ⟩ := hX
                          have s1 := CV1.out X eZ
                          have s2 := CV2.out X eZ
                          clear eZ
                          unfold Oper.quietAt
                          go_simp
                          first
                          | exact ⟨rfl, rfl⟩
                          | exact rfl
                        go_big_quiet_on
                        try simp only [Act.put, List.setIfInBounds_toArray, List.set_cons_zero, List.set_cons_succ]))
                refine wpQuiet_nil ?_
                rintro Y ⟨-, -, -, -, -, -, hbY⟩
                have BY := Lib.hid (BB.out.trans (hbY.mono BB.out.size))
                have TY := Lib.hid (TO.out _ _ TT.out hbY)
                clear hbY
              · have RE : Hid (sameB P Q = false) := Lib.hid (FA.out HO.out)
                go_wp2_with fail
                go_ret
                exact ⟨by rw [RE.out]; rfl, BY.out⟩
              · have n1 := SN.out
                have n2 := SN2.out
                cases eb with
                | false =>
                  rw [Bool.not_false] at n1
                  have RE : Hid (sameB P Q = false) := Lib.hid (FA.out HO.out)
                  go_wp2_with fail
                  · go_ret
                    exact ⟨by rw [RE.out]; rfl, BY.out⟩
                  · exfalso
                    rename_i hx
                    have hy : (!(S1.toList == S2.toList)) = false := hx
                    rw [n2] at hy
                    cases hy
                | true =>
                  rw [Bool.not_true] at n1
                  go_wp2_with fail
                  · exfalso
                    rename_i hx
                    have hy : (!(S1.toList == S2.toList)) = true := hx
                    rw [n2] at hy
                    cases hy
                  go_roundw
                  case rel => exact ⟨m + 1, HMN.out, by go_num, by rw [SC.out, MK.out, HO.out]; rfl, BY.out, TY.out⟩
                  case measure => simp [intOf]; have := HMN.out; omega
            · obtain rfl : m = sn := by omega
              have f1 : decide ((m : Int) < (m : Int)) = false := by rw [decide_eq_false_iff_not]; omega
              have RE : Hid (sameB P Q = true) := Lib.hid (by rw [GB3.out, MK.out])
              go_wp2_with fail
              go_ret
              exact ⟨by rw [RE.out]; rfl, BB.out⟩
end Go.Proofs.Ytnhalnjdlkdnkaa
