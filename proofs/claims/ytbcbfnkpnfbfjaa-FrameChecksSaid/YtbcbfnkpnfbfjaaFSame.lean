/- Are two pictures the same? frame.Same. By an AI agent. -/
import Derived.Test.YtbcbfnkpnfbfjaaChk
import Derived.Test.YtbcbfnkpnfbfjaaEql
namespace Go.Proofs.Ytbcbfnkpnfbfjaa
open Go.RowKit Go.BigFrame
set_option linter.unusedVariables false
set_option linter.unusedSimpArgs false

/-! ## plain -/
def headS (P Q : PicL) : Bool := decide (P.w = Q.w) && decide (P.h = Q.h) && decide (P.restart = Q.restart) && decide (P.parts.length = Q.parts.length) && decide (P.kept.length = Q.kept.length)
def quantS (P Q : PicL) (k : Nat) : Bool := decide (qL P k = qL Q k)
def ptS (x y : PartL) : Bool := decide (x.id = y.id) && decide (x.h = y.h) && decide (x.v = y.v) && decide (x.tq = y.tq) && decide (x.wide = y.wide) && decide (x.high = y.high) && decide (x.bs = y.bs)
def sgS (x y : Int × List UInt8) : Bool := decide (x.1 = y.1) && decide (x.2 = y.2)
def qsS (P Q : PicL) (n : Nat) : Bool := (List.range n).all (quantS P Q)
def psS (P Q : PicL) (n : Nat) : Bool := (List.range n).all fun k => ptS (P.parts.getD k default) (Q.parts.getD k default)
def ksS (P Q : PicL) (n : Nat) : Bool := (List.range n).all fun k => sgS (P.kept.getD k (0, [])) (Q.kept.getD k (0, []))
def sameB (P Q : PicL) : Bool := headS P Q && qsS P Q 4 && psS P Q P.parts.length && ksS P Q P.kept.length
theorem sameB_self (P : PicL) : sameB P P = true := by
  unfold sameB headS qsS psS ksS quantS ptS sgS
  simp
theorem hs_cases (w1 w2 h1 h2 r1 r2 : Int) (n1 n2 m1 m2 : Nat) (hs : Bool) (he : hs = (decide (w1 = w2) && decide (h1 = h2) && decide (r1 = r2) && decide (n1 = n2) && decide (m1 = m2))) :
    ((w1 != w2) = true ∧ hs = false) ∨ ((w1 != w2) = false ∧ (h1 != h2) = true ∧ hs = false) ∨ ((w1 != w2) = false ∧ (h1 != h2) = false ∧ (r1 != r2) = true ∧ hs = false) ∨
    ((w1 != w2) = false ∧ (h1 != h2) = false ∧ (r1 != r2) = false ∧ (((n1 : Int) != (n2 : Int)) = true ∧ (n1 != n2) = true) ∧ hs = false) ∨
    ((w1 != w2) = false ∧ (h1 != h2) = false ∧ (r1 != r2) = false ∧ (((n1 : Int) != (n2 : Int)) = false ∧ (n1 != n2) = false) ∧ (((m1 : Int) != (m2 : Int)) = true ∧ (m1 != m2) = true) ∧ hs = false) ∨
    ((w1 != w2) = false ∧ (h1 != h2) = false ∧ (r1 != r2) = false ∧ (((n1 : Int) != (n2 : Int)) = false ∧ (n1 != n2) = false) ∧ (((m1 : Int) != (m2 : Int)) = false ∧ (m1 != m2) = false) ∧ hs = true) := by
  subst he
  by_cases a : w1 = w2
  · by_cases b : h1 = h2
    · by_cases c : r1 = r2
      · by_cases d : n1 = n2
        · by_cases e : m1 = m2
          · simp [a, b, c, d, e]
          · simp [a, b, c, d, e]; omega
        · simp [a, b, c, d]; omega
      · simp [a, b, c]
    · simp [a, b]
  · simp [a]
theorem pt_cases (i1 i2 h1 h2 v1 v2 t1 t2 x1 x2 y1 y2 : Int) (eb ps : Bool) (he : ps = (decide (i1 = i2) && decide (h1 = h2) && decide (v1 = v2) && decide (t1 = t2) && decide (x1 = x2) && decide (y1 = y2) && eb)) :
    ((i1 != i2) = true ∧ ps = false) ∨ ((i1 != i2) = false ∧ (h1 != h2) = true ∧ ps = false) ∨ ((i1 != i2) = false ∧ (h1 != h2) = false ∧ (v1 != v2) = true ∧ ps = false) ∨
    ((i1 != i2) = false ∧ (h1 != h2) = false ∧ (v1 != v2) = false ∧ (t1 != t2) = true ∧ ps = false) ∨
    ((i1 != i2) = false ∧ (h1 != h2) = false ∧ (v1 != v2) = false ∧ (t1 != t2) = false ∧ (x1 != x2) = true ∧ ps = false) ∨
    ((i1 != i2) = false ∧ (h1 != h2) = false ∧ (v1 != v2) = false ∧ (t1 != t2) = false ∧ (x1 != x2) = false ∧ (y1 != y2) = true ∧ ps = false) ∨
    ((i1 != i2) = false ∧ (h1 != h2) = false ∧ (v1 != v2) = false ∧ (t1 != t2) = false ∧ (x1 != x2) = false ∧ (y1 != y2) = false ∧ ps = eb) := by
  subst he
  by_cases a : i1 = i2
  · by_cases b : h1 = h2
    · by_cases c : v1 = v2
      · by_cases d : t1 = t2
        · by_cases e : x1 = x2
          · by_cases f : y1 = y2
            · simp [a, b, c, d, e, f]
            · simp [a, b, c, d, e, f]
          · simp [a, b, c, d, e]
        · simp [a, b, c, d]
      · simp [a, b, c]
    · simp [a, b]
  · simp [a]
theorem pbox_q2 {w : World} {B : Nat} {P : PicL} {q0 q1 q2 q3 pv kv : Value} (h : PBox w B P q0 q1 q2 q3 pv kv) (j : Nat) (hj : j < 4) : w.cell? ⟨B, 2 + j, none⟩ = some (qV q0 q1 q2 q3 j) := by
  obtain ⟨a0, a1, a2, a3, a4, a5, a6, a7, a8⟩ := h.cells
  rcases (show j = 0 ∨ j = 1 ∨ j = 2 ∨ j = 3 by omega) with rfl | rfl | rfl | rfl
  · exact a2
  · exact a3
  · exact a4
  · exact a5
theorem part_info : (Try.prog.info? 48).map (·.size) = some 7 := by kernel_rfl
theorem part_one (a b c d e f : Int) (x : Option Addr) (y z : Nat) : (#[.int .i64 a, .int .i64 b, .int .i64 c, .int .i64 d, .int .i64 e, .int .i64 f, .slice x y z] : Array Value).all (·.oneCell') = true := by kernel_rfl
theorem seg_info : (Try.prog.info? 68).map (·.size) = some 2 := by kernel_rfl
theorem seg_one (a : Int) (x : Option Addr) (y z : Nat) : (#[.int .i64 a, .slice x y z] : Array Value).all (·.oneCell') = true := by kernel_rfl
/-- what the two boxes say, as one property of the world -/
theorem two_boxes (B B' : Nat) (P Q : PicL) (q0 q1 q2 q3 pv kv r0 r1 r2 r3 rv sv : Value) : ∃ TB : World → Prop,
    (∀ W, PBox W B P q0 q1 q2 q3 pv kv → PBox W B' Q r0 r1 r2 r3 rv sv → TB W) ∧ (∀ W W', TB W → Below W.heap.size W W' → TB W') ∧
    (∀ W, TB W → PBox W B P q0 q1 q2 q3 pv kv ∧ PBox W B' Q r0 r1 r2 r3 rv sv) :=
  ⟨fun W => PBox W B P q0 q1 q2 q3 pv kv ∧ PBox W B' Q r0 r1 r2 r3 rv sv, fun _ h1 h2 => ⟨h1, h2⟩, fun _ _ h hb => ⟨h.1.old hb, h.2.old hb⟩, fun _ h => h⟩
set_option maxRecDepth 20000 in
set_option maxHeartbeats 16000000 in
theorem fsame_any (P Q : PicL) (q0 q1 q2 q3 pv kv r0 r1 r2 r3 rv sv : Value) (w : World) (hp : PicC w P q0 q1 q2 q3 pv kv) (hq : PicC w Q r0 r1 r2 r3 rv sv) (hB : PicB P) (hD : PicB Q) :
    Calls Try.prog 19 #[.agg (vPic P q0 q1 q2 q3 pv kv), .agg (vPic Q r0 r1 r2 r3 rv sv)] w fun e w' => e = .returned (.bool (sameB P Q)) ∧ Below w.heap.size w w' := by
  have hl := hB.parts
  have hkl := hB.kept
  obtain ⟨pa, pc, rfl, _, hxp⟩ := pts_at hp.parts
  obtain ⟨sa, sc, rfl, _, hsx⟩ := sgs_at hp.kept
  obtain ⟨pa', pc', rfl, _, hxp'⟩ := pts_at hq.parts
  obtain ⟨sa', sc', rfl, _, hsx'⟩ := sgs_at hq.kept
  have HXP := Lib.hid hxp
  have HSX := Lib.hid hsx
  have HXP' := Lib.hid hxp'
  have HSX' := Lib.hid hsx'
  have HQ := Lib.hid (fun k => qV_ns hp k)
  have HQL := Lib.hid (fun k => qL_len hB k)
  have HQ' := Lib.hid (fun k => qV_ns hq k)
  obtain ⟨n, hn⟩ : ∃ n, P.parts.length = n := ⟨_, rfl⟩
  obtain ⟨sn, hsn⟩ : ∃ n, P.kept.length = n := ⟨_, rfl⟩
  obtain ⟨n', hn'⟩ : ∃ n, Q.parts.length = n := ⟨_, rfl⟩
  obtain ⟨sn', hsn'⟩ : ∃ n, Q.kept.length = n := ⟨_, rfl⟩
  rw [hn] at hl ⊢
  rw [hsn] at hkl ⊢
  rw [hn', hsn']
  have HN := Lib.hid hn
  have HSN := Lib.hid hsn
  have HN' := Lib.hid hn'
  have HSN' := Lib.hid hsn'
  obtain ⟨w1, hw1⟩ : ∃ w1, w.alloc (.cells (vPic P q0 q1 q2 q3 (.slice pa n pc) (.slice sa sn sc)) 27) = w1 := ⟨_, rfl⟩
  have hb1 : Below w.heap.size w w1 := by rw [← hw1]; exact (Below.refl _ _).alloc (Nat.le_refl _) _
  obtain ⟨B, hBB⟩ : ∃ B, w.heap.size = B := ⟨_, rfl⟩
  have hbox : PBox w1 B P q0 q1 q2 q3 (.slice pa n pc) (.slice sa sn sc) := by rw [← hw1, ← hBB]; exact heap_alloc_new _ _
  obtain ⟨w2, hw2⟩ : ∃ w2, w1.alloc (.cells (vPic Q r0 r1 r2 r3 (.slice pa' n' pc') (.slice sa' sn' sc')) 27) = w2 := ⟨_, rfl⟩
  have hb2 : Below w1.heap.size w1 w2 := by rw [← hw2]; exact (Below.refl _ _).alloc (Nat.le_refl _) _
  obtain ⟨B', hBB'⟩ : ∃ B, w1.heap.size = B := ⟨_, rfl⟩
  have hbox' : PBox w2 B' Q r0 r1 r2 r3 (.slice pa' n' pc') (.slice sa' sn' sc') := by rw [← hw2, ← hBB']; exact heap_alloc_new _ _
  obtain ⟨TB, tb1, tb2, tb3⟩ := two_boxes B B' P Q q0 q1 q2 q3 (.slice pa n pc) (.slice sa sn sc) r0 r1 r2 r3 (.slice pa' n' pc') (.slice sa' sn' sc')
  have TO := Lib.hid tb2
  have TC := Lib.hid tb3
  have B2 := Lib.hid (hb1.trans (hb2.mono hb1.size))
  have T2 := Lib.hid (tb1 _ (hbox.old hb2) hbox')
  obtain ⟨hs, hhs⟩ : ∃ hs, headS P Q = hs := ⟨_, rfl⟩
  have HE : Hid (hs = (decide (P.w = Q.w) && decide (P.h = Q.h) && decide (P.restart = Q.restart) && decide (n = n') && decide (sn = sn'))) := Lib.hid (by rw [← hhs, ← hn, ← hn', ← hsn, ← hsn']; rfl)
  have GB : Hid (sameB P Q = (hs && qsS P Q 4 && psS P Q n && ksS P Q sn)) := Lib.hid (by unfold sameB; rw [hhs, hn, hsn])
  unfold vPic at hw1 hw2
  clear hp hq hB hD hb1 hbox hb2 hbox' hsx hn hsn hxp hsx' hn' hsn' hxp' tb1 tb2 tb3 hhs
  unfold vPic
  go_enter Try.func19, Try.ntmps19
  go_upto_region 1 with (fail)
  clear hw1 hw2 hBB hBB'
  go_cut [48] from 12 to 48 (fun c wx => c = .bool (!hs) ∧ w2 = wx)
  case first =>
    obtain ⟨⟨a0, a1, a2, a3, a4, a5, a6, a7, a8⟩, b0, b1, b2, b3, b4, b5, b6, b7, b8⟩ := (⟨(TC.out _ T2.out).1.cells, (TC.out _ T2.out).2.cells⟩ : _ ∧ _)
    rcases hs_cases P.w Q.w P.h Q.h P.restart Q.restart n n' sn sn' hs HE.out with ⟨v1, o⟩ | ⟨v1, v2, o⟩ | ⟨v1, v2, v3, o⟩ | ⟨v1, v2, v3, ⟨v4, v4'⟩, o⟩ | ⟨v1, v2, v3, ⟨v4, v4'⟩, ⟨v5, v5'⟩, o⟩ | ⟨v1, v2, v3, ⟨v4, v4'⟩, ⟨v5, v5'⟩, o⟩
    all_goals
      have HO := Lib.hid o
      clear o
      go_wp2_with fail
      go_meet
      exact ⟨by rw [HO.out]; rfl, rfl⟩
  case rest =>
  obtain ⟨rfl, rfl⟩ := hcut
  cases hs with
  | false =>
    have RE : Hid (sameB P Q = false) := Lib.hid (by rw [GB.out]; rfl)
    go_wp2_with fail
    go_ret
    exact ⟨by rw [RE.out]; rfl, B2.out⟩
  | true =>
  rw [Bool.not_true]
  have EN : n = n' ∧ sn = sn' := by
    have h := HE.out
    rw [eq_comm] at h
    simp only [Bool.and_eq_true, decide_eq_true_eq] at h
    exact ⟨h.1.2, h.2⟩
  obtain ⟨rfl, rfl⟩ := EN
  clear HE
  go_wp2_with fail
  go_loopw [49] (fun i W => ∃ k : Nat, k ≤ 4 ∧ i = .int .i64 (k : Nat) ∧ qsS P Q k = true ∧ Below w.heap.size w W ∧ TB W) (fun i _ => 4 - (intOf i).toNat)
  case atStart => exact ⟨0, Nat.zero_le _, rfl, rfl, B2.out, T2.out⟩
  case round =>
    obtain ⟨k, hk, rfl, hqk, hb, ht⟩ := hrel
    have QK := Lib.hid hqk
    have BB := Lib.hid hb
    have TT := Lib.hid ht
    clear hqk hb ht
    by_cases hkn : k < 4
    · have f1 : decide ((k : Int) < 4) = true := by rw [decide_eq_true_eq]; omega
      have f1' : decide (k < 4) = true := by rw [decide_eq_true_eq]; omega
      have f2 : (k : Int) < 4 := by omega
      have f3 : (0 : Int) ≤ (k : Int) := by omega
      have gk : IntKind.i64.wrap ((k : Int) + 1) = (k : Int) + 1 := IntWalk.i64_in _ (by omega)
      have HKN := Lib.hid hkn
      have SC : Hid (qsS P Q (k + 1) = (qsS P Q k && quantS P Q k)) := Lib.hid (range_all_succ _ _)
      have FA : Hid (quantS P Q k = false → sameB P Q = false) := Lib.hid (fun h => by rw [GB.out, show qsS P Q 4 = false from range_all_false (f := quantS P Q) hkn h]; rfl)
      have c1 := pbox_q2 (TC.out _ TT.out).1 k hkn
      have c2 := pbox_q2 (TC.out _ TT.out).2 k hkn
      have N1 := (HQ.out k).old BB.out
      have N2 := (HQ'.out k).old BB.out
      have LQ := HQL.out k
      obtain ⟨ql, hql⟩ : ∃ ql, qL P k = ql := ⟨_, rfl⟩
      obtain ⟨ql', hql'⟩ : ∃ ql, qL Q k = ql := ⟨_, rfl⟩
      obtain ⟨x, hx⟩ : ∃ x, qV q0 q1 q2 q3 k = x := ⟨_, rfl⟩
      obtain ⟨y, hy⟩ : ∃ x, qV r0 r1 r2 r3 k = x := ⟨_, rfl⟩
      rw [hql] at N1 LQ
      rw [hql'] at N2
      rw [hx] at c1 N1
      rw [hy] at c2 N2
      obtain ⟨qs, hqs⟩ : ∃ qs, decide (ql = ql') = qs := ⟨_, rfl⟩
      have QE : Hid (quantS P Q k = qs) := Lib.hid (by unfold quantS; rw [hql, hql', hqs])
      have CB : Hid (∀ X, (X.cell? ⟨B, 2 + k, none⟩ = some x ∧ X.cell? ⟨B', 2 + k, none⟩ = some y ∧ Below wr.heap.size wr X) → Calls Try.prog 40 #[x, y] X fun e w' => e = .returned (.bool qs) ∧ (w'.cell? ⟨B, 2 + k, none⟩ = some x ∧ w'.cell? ⟨B', 2 + k, none⟩ = some y ∧ Below wr.heap.size wr w')) := Lib.hid (fun X hX => by
        refine (eqInts_any x y ql ql' X (N1.old hX.2.2) (N2.old hX.2.2) (by omega)).mono ?_
        rintro e W' ⟨h1, h2⟩
        exact ⟨by rw [h1, hqs], cell_old h2 hX.1, cell_old h2 hX.2.1, hX.2.2.trans (h2.mono hX.2.2.size)⟩)
      have CC := Lib.hid (show wr.drew.cell? ⟨B, 2 + k, none⟩ = some x ∧ wr.drew.cell? ⟨B', 2 + k, none⟩ = some y ∧ Below wr.heap.size wr wr.drew from ⟨cell_old (Below.refl _ _).drew c1, cell_old (Below.refl _ _).drew c2, (Below.refl _ _).drew⟩)
      clear hql hql' hx hy hqs N1 N2 LQ c1 c2 hkn
      go_wp2_with fail
      refine wp_region_q (fun X => X.cell? ⟨B, 2 + k, none⟩ = some x ∧ X.cell? ⟨B', 2 + k, none⟩ = some y ∧ Below wr.heap.size wr X) (by kernel_rfl) (by kernel_rfl) CC.out ?_
      clear f1 f1'
      repeat
        first
        | go_big_quiet_skip
        | (go_big_quiet_want
           first
           | (go_big_quiet_op; go_big_quiet_on)
           | (apply Exists.intro
              refine ⟨fun X hX => ?_, ?_⟩
              · have hXX := Lib.hid hX
                obtain ⟨e1, e2, eZ⟩ := hX
                clear eZ
                unfold Oper.quietAt
                go_simp
                first
                | exact ⟨rfl, hXX.out⟩
                | exact ⟨rfl, rfl⟩
                | exact rfl
                | (go_at_call 40; exact CB.out _ hXX.out)
              go_big_quiet_on
              try simp only [Act.put, List.setIfInBounds_toArray, List.set_cons_zero, List.set_cons_succ]))
      refine wpQuiet_nil ?_
      rintro Y ⟨-, -, hbY⟩
      have BY := Lib.hid (BB.out.trans (hbY.mono BB.out.size))
      have TY := Lib.hid (TO.out _ _ TT.out hbY)
      clear hbY
      cases qs with
      | false =>
        have RE : Hid (sameB P Q = false) := Lib.hid (FA.out QE.out)
        go_wp2_with fail
        go_ret
        exact ⟨by rw [RE.out]; rfl, BY.out⟩
      | true =>
        clear FA
        go_wp2_with fail
        go_roundw
        case rel => exact ⟨k + 1, HKN.out, by go_num, by rw [SC.out, QK.out, QE.out]; rfl, BY.out, TY.out⟩
        case measure => simp [intOf]; have := HKN.out; omega
    · obtain rfl : k = 4 := by omega
      have GB2 : Hid (sameB P Q = (psS P Q n && ksS P Q sn)) := Lib.hid (by rw [GB.out, QK.out]; rfl)
      clear GB hkn
      obtain ⟨⟨a0, a1, a2, a3, a4, a5, a6, a7, a8⟩, b0, b1, b2, b3, b4, b5, b6, b7, b8⟩ := (⟨(TC.out _ TT.out).1.cells, (TC.out _ TT.out).2.cells⟩ : _ ∧ _)
      rw [show ((4 : Nat) : Int) = 4 from rfl]
      go_wp2_with fail
      clear a0 a1 a2 a3 a4 a5 a6 a7 a8 b0 b1 b2 b3 b4 b5 b6 b7 b8
      revert wr; intro Z BZ TZ
      -- the parts
      go_loopw [66] (fun i W => ∃ k : Nat, k ≤ n ∧ i = .int .i64 (k : Nat) ∧ psS P Q k = true ∧ Below w.heap.size w W ∧ TB W) (fun i _ => n - (intOf i).toNat)
      case atStart => exact ⟨0, Nat.zero_le _, rfl, rfl, BZ.out, TZ.out⟩
      case round =>
        clear BZ TZ
        obtain ⟨k, hk, rfl, hqk, hb, ht⟩ := hrel
        have PK := Lib.hid hqk
        have BB := Lib.hid hb
        have TT := Lib.hid ht
        clear hqk hb ht
        obtain ⟨⟨a0, a1, a2, a3, a4, a5, a6, a7, a8⟩, b0, b1, b2, b3, b4, b5, b6, b7, b8⟩ := (⟨(TC.out _ TT.out).1.cells, (TC.out _ TT.out).2.cells⟩ : _ ∧ _)
        by_cases hkn : k < n
        · have f1 : decide ((k : Int) < (n : Int)) = true := by rw [decide_eq_true_eq]; omega
          have f1' : decide (k < n) = true := by rw [decide_eq_true_eq]; omega
          have f2 : (k : Int) < (n : Int) := by omega
          have gk : IntKind.i64.wrap ((k : Int) + 1) = (k : Int) + 1 := IntWalk.i64_in _ (by omega)
          have HKN := Lib.hid hkn
          have hkp : k < P.parts.length := by rw [HN.out]; exact hkn
          have hkq : k < Q.parts.length := by rw [HN'.out]; exact hkn
          have SC : Hid (psS P Q (k + 1) = (psS P Q k && ptS (P.parts[k]'hkp) (Q.parts[k]'hkq))) := Lib.hid (by
            unfold psS
            rw [range_all_succ, List.getD_eq_getElem?_getD, List.getElem?_eq_getElem hkp, List.getD_eq_getElem?_getD, List.getElem?_eq_getElem hkq]; rfl)
          have FA : Hid (ptS (P.parts[k]'hkp) (Q.parts[k]'hkq) = false → sameB P Q = false) := Lib.hid (fun h => by
            have h2 : psS P Q n = false := range_all_false (f := fun k => ptS (P.parts.getD k default) (Q.parts.getD k default)) hkn (by
              rw [List.getD_eq_getElem?_getD, List.getElem?_eq_getElem hkp, List.getD_eq_getElem?_getD, List.getElem?_eq_getElem hkq]; exact h)
            rw [GB2.out, h2]; rfl)
          obtain ⟨b, off, x, rfl, hpb, hBK, c0, c1, c2, c3, c4, c5, c6⟩ := HXP.out k hkp
          obtain ⟨b', off', x', rfl, -, hBK', g0, g1, g2, g3, g4, g5, g6⟩ := HXP'.out k hkq
          obtain ⟨p, hp⟩ : ∃ p, P.parts[k]'hkp = p := ⟨_, rfl⟩
          obtain ⟨q, hq⟩ : ∃ p, Q.parts[k]'hkq = p := ⟨_, rfl⟩
          rw [hp] at hBK hpb c0 c1 c2 c3 c4 c5 SC FA
          rw [hq] at hBK' g0 g1 g2 g3 g4 g5 SC FA
          have LB := Lib.hid hpb.bs
          obtain ⟨xa, xc, rfl, -⟩ := Els.len hBK
          obtain ⟨xa', xc', rfl, -⟩ := Els.len hBK'
          have HK := Lib.hid (hBK.old BB.out)
          have HK' := Lib.hid (hBK'.old BB.out)
          obtain ⟨ln, hln⟩ : ∃ z, p.bs.length = z := ⟨_, rfl⟩
          obtain ⟨ln', hln'⟩ : ∃ z, q.bs.length = z := ⟨_, rfl⟩
          rw [hln] at c6 HK
          rw [hln'] at g6 HK'
          have d0 := cell_old BB.out c0
          have d1 := cell_old BB.out c1
          have d2 := cell_old BB.out c2
          have d3 := cell_old BB.out c3
          have d4 := cell_old BB.out c4
          have d5 := cell_old BB.out c5
          have d6 := cell_old BB.out c6
          have G : Hid (w.cell? ⟨b', off' + k * 7, none⟩ = some (.int .i64 q.id) ∧ w.cell? ⟨b', off' + k * 7 + 1, none⟩ = some (.int .i64 q.h) ∧ w.cell? ⟨b', off' + k * 7 + 2, none⟩ = some (.int .i64 q.v) ∧ w.cell? ⟨b', off' + k * 7 + 3, none⟩ = some (.int .i64 q.tq) ∧ w.cell? ⟨b', off' + k * 7 + 4, none⟩ = some (.int .i64 q.wide) ∧ w.cell? ⟨b', off' + k * 7 + 5, none⟩ = some (.int .i64 q.high) ∧ w.cell? ⟨b', off' + k * 7 + 6, none⟩ = some (.slice xa' ln' xc')) := Lib.hid ⟨g0, g1, g2, g3, g4, g5, g6⟩
          clear c0 c1 c2 c3 c4 c5 c6 g0 g1 g2 g3 g4 g5 g6 hpb hBK hBK' hp hq hkn hkp hkq b0 b1 b2 b3 b4 b5 b6 b7 b8 a0 a1 a2 a3 a4 a5 a6 a7 a8
          have HI := Lib.hid part_info
          have H1 := Lib.hid part_one
          go_wp2_with (refine wpList_store_row rfl _ _ _ rfl wr.heap.size #[.int .i64 p.id, .int .i64 p.h, .int .i64 p.v, .int .i64 p.tq, .int .i64 p.wide, .int .i64 p.high, .slice xa ln xc] rfl rfl 48 _ (heap_alloc_new _ _) HI.out rfl (H1.out _ _ _ _ _ _ _ _ _) ?_; refine stop ?_)
          refine unstop ?_
          generalize hZ : World.setRow _ wr.heap.size #[.int .i64 p.id, .int .i64 p.h, .int .i64 p.v, .int .i64 p.tq, .int .i64 p.wide, .int .i64 p.high, .slice xa ln xc] = w4
          have P4 : Hid (PtB w4 wr.heap.size p (.slice xa ln xc)) := Lib.hid (by rw [← hZ]; exact setRow_heap _ _ _ _ _ _ (heap_alloc_new _ _))
          have BZ4 : Hid (Below wr.heap.size wr w4) := Lib.hid (by rw [← hZ]; exact below_setRow ((Below.refl _ _).alloc (Nat.le_refl _) _) (Nat.le_refl _) _)
          clear hZ d0 d1 d2 d3 d4 d5 d6
          have B4 := Lib.hid (BB.out.trans (BZ4.out.mono BB.out.size))
          have T4 := Lib.hid (TO.out _ _ TT.out BZ4.out)
          obtain ⟨g0, g1, g2, g3, g4, g5, g6⟩ := G.out
          have j0 := cell_old B4.out g0
          have j1 := cell_old B4.out g1
          have j2 := cell_old B4.out g2
          have j3 := cell_old B4.out g3
          have j4 := cell_old B4.out g4
          have j5 := cell_old B4.out g5
          have j6 := cell_old B4.out g6
          obtain ⟨-, y0, y1, y2, y3, y4, y5, y6, y7, y8⟩ := (⟨trivial, (TC.out _ T4.out).2.cells⟩ : True ∧ _)
          clear g0 g1 g2 g3 g4 g5 g6 G
          go_wp2_with (refine wpList_store_row rfl _ _ _ rfl w4.heap.size #[.int .i64 q.id, .int .i64 q.h, .int .i64 q.v, .int .i64 q.tq, .int .i64 q.wide, .int .i64 q.high, .slice xa' ln' xc'] rfl rfl 48 _ (heap_alloc_new _ _) HI.out rfl (H1.out _ _ _ _ _ _ _ _ _) ?_; refine stop ?_)
          refine unstop ?_
          generalize hZ : World.setRow _ w4.heap.size #[.int .i64 q.id, .int .i64 q.h, .int .i64 q.v, .int .i64 q.tq, .int .i64 q.wide, .int .i64 q.high, .slice xa' ln' xc'] = w5
          have P5' : Hid (PtB w5 w4.heap.size q (.slice xa' ln' xc')) := Lib.hid (by rw [← hZ]; exact setRow_heap _ _ _ _ _ _ (heap_alloc_new _ _))
          have BZ5 : Hid (Below w4.heap.size w4 w5) := Lib.hid (by rw [← hZ]; exact below_setRow ((Below.refl _ _).alloc (Nat.le_refl _) _) (Nat.le_refl _) _)
          have P5 := Lib.hid (P4.out.old BZ5.out)
          have b45 := BZ4.out.trans (BZ5.out.mono BZ4.out.size)
          have B5 := Lib.hid (BB.out.trans (b45.mono BB.out.size))
          have T5 := Lib.hid (TO.out _ _ TT.out b45)
          have K5 := Lib.hid (HK.out.old b45)
          have K5' := Lib.hid (HK'.out.old b45)
          obtain ⟨A, hA⟩ : ∃ A, wr.heap.size = A := ⟨_, rfl⟩
          obtain ⟨A', hA'⟩ : ∃ A, w4.heap.size = A := ⟨_, rfl⟩
          rw [hA] at P5 ⊢
          rw [hA'] at P5' ⊢
          clear hZ b45 j0 j1 j2 j3 j4 j5 j6 y0 y1 y2 y3 y4 y5 y6 y7 y8 HK HK' BZ4 BZ5 T4 B4 P4 BB TT HI H1 hA hA'
          go_upto_region 13 with (fail)
          obtain ⟨ps, hps⟩ : ∃ ps, ptS p q = ps := ⟨_, rfl⟩
          rw [hps] at SC FA
          obtain ⟨eb, heb⟩ : ∃ eb, decide (p.bs = q.bs) = eb := ⟨_, rfl⟩
          have HE : Hid (ps = (decide (p.id = q.id) && decide (p.h = q.h) && decide (p.v = q.v) && decide (p.tq = q.tq) && decide (p.wide = q.wide) && decide (p.high = q.high) && eb)) := Lib.hid (by rw [← hps, ← heb]; rfl)
          have CB := Lib.hid (eqBlocks_any _ _ p.bs q.bs w5 K5.out K5'.out (by have := LB.out; omega))
          rw [heb] at CB
          clear hps heb
          go_cut [123] from 76 to 123 (fun c wx => c = .bool (!ps) ∧ Below w.heap.size w wx ∧ TB wx)
          case first =>
            obtain ⟨⟨e0, e1, e2, e3, e4, e5, e6⟩, g0, g1, g2, g3, g4, g5, g6⟩ := (⟨P5.out.cells, P5'.out.cells⟩ : _ ∧ _)
            rcases pt_cases p.id q.id p.h q.h p.v q.v p.tq q.tq p.wide q.wide p.high q.high eb ps HE.out with ⟨v1, o⟩ | ⟨v1, v2, o⟩ | ⟨v1, v2, v3, o⟩ | ⟨v1, v2, v3, v4, o⟩ | ⟨v1, v2, v3, v4, v5, o⟩ | ⟨v1, v2, v3, v4, v5, v6, o⟩ | ⟨v1, v2, v3, v4, v5, v6, o⟩
            case inr.inr.inr.inr.inr.inr =>
              have HO := Lib.hid o
              clear o
              go_wp2_with fail
              refine CB.out.mono ?_
              rintro e x1 ⟨rfl, hc1⟩
              have B9 := Lib.hid (B5.out.trans (hc1.mono B5.out.size))
              have T9 := Lib.hid (TO.out _ _ T5.out hc1)
              clear hc1
              go_wp2_with fail
              go_meet
              exact ⟨by rw [HO.out], B9.out, T9.out⟩
            all_goals
              have HO := Lib.hid o
              clear o
              go_wp2_with fail
              go_meet
              exact ⟨by rw [HO.out]; rfl, B5.out, T5.out⟩
          case rest =>
          obtain ⟨rfl, hb9, ht9⟩ := hcut
          have B9 := Lib.hid hb9
          have T9 := Lib.hid ht9
          clear hb9 ht9 B5 T5 P5 P5' K5 K5' HE CB
          cases ps with
          | false =>
            have RE : Hid (sameB P Q = false) := Lib.hid (FA.out rfl)
            go_wp2_with fail
            go_ret
            exact ⟨by rw [RE.out]; rfl, B9.out⟩
          | true =>
            rw [Bool.not_true]
            go_wp2_with fail
            go_roundw
            case rel => exact ⟨k + 1, HKN.out, by go_num, by rw [SC.out, PK.out]; rfl, B9.out, T9.out⟩
            case measure => simp [intOf]; have := HKN.out; omega
        · obtain rfl : k = n := by omega
          have f1 : decide ((k : Int) < (k : Int)) = false := by rw [decide_eq_false_iff_not]; omega
          have GB3 : Hid (sameB P Q = ksS P Q sn) := Lib.hid (by rw [GB2.out, PK.out]; rfl)
          clear GB2 hkn
          go_wp2_with fail
          clear a0 a1 a2 a3 a4 a5 a6 a7 a8 b0 b1 b2 b3 b4 b5 b6 b7 b8 f1
          revert wr; intro Z BZ TZ
          -- the segments
          go_loopw [128] (fun i W => ∃ m : Nat, m ≤ sn ∧ i = .int .i64 (m : Nat) ∧ ksS P Q m = true ∧ Below w.heap.size w W ∧ TB W) (fun i _ => sn - (intOf i).toNat)
          case atStart => exact ⟨0, Nat.zero_le _, rfl, rfl, BZ.out, TZ.out⟩
          case round =>
            clear BZ TZ
            obtain ⟨m, hm, rfl, hqm, hb, ht⟩ := hrel
            have MK := Lib.hid hqm
            have BB := Lib.hid hb
            have TT := Lib.hid ht
            clear hqm hb ht
            obtain ⟨⟨a0, a1, a2, a3, a4, a5, a6, a7, a8⟩, b0, b1, b2, b3, b4, b5, b6, b7, b8⟩ := (⟨(TC.out _ TT.out).1.cells, (TC.out _ TT.out).2.cells⟩ : _ ∧ _)
            by_cases hmn : m < sn
            · have f1 : decide ((m : Int) < (sn : Int)) = true := by rw [decide_eq_true_eq]; omega
              have f1' : decide (m < sn) = true := by rw [decide_eq_true_eq]; omega
              have f2 : (m : Int) < (sn : Int) := by omega
              have gm : IntKind.i64.wrap ((m : Int) + 1) = (m : Int) + 1 := IntWalk.i64_in _ (by omega)
              have HMN := Lib.hid hmn
              have hmp : m < P.kept.length := by rw [HSN.out]; exact hmn
              have hmq : m < Q.kept.length := by rw [HSN'.out]; exact hmn
              have SC : Hid (ksS P Q (m + 1) = (ksS P Q m && sgS (P.kept[m]'hmp) (Q.kept[m]'hmq))) := Lib.hid (by
                unfold ksS
                rw [range_all_succ, List.getD_eq_getElem?_getD, List.getElem?_eq_getElem hmp, List.getD_eq_getElem?_getD, List.getElem?_eq_getElem hmq]; rfl)
              have FA : Hid (sgS (P.kept[m]'hmp) (Q.kept[m]'hmq) = false → sameB P Q = false) := Lib.hid (fun h => by
                have h2 : ksS P Q sn = false := range_all_false (f := fun k => sgS (P.kept.getD k (0, [])) (Q.kept.getD k (0, []))) hmn (by
                  rw [List.getD_eq_getElem?_getD, List.getElem?_eq_getElem hmp, List.getD_eq_getElem?_getD, List.getElem?_eq_getElem hmq]; exact h)
                rw [GB3.out, h2])
              obtain ⟨sb, so, xa, xc, rfl, hxl, hBs, c0, c1⟩ := HSX.out m hmp
              obtain ⟨sb', so', xa', xc', rfl, -, hBs', g0, g1⟩ := HSX'.out m hmq
              obtain ⟨s, hs⟩ : ∃ p, P.kept[m]'hmp = p := ⟨_, rfl⟩
              obtain ⟨t, ht⟩ : ∃ p, Q.kept[m]'hmq = p := ⟨_, rfl⟩
              rw [hs] at hxl hBs c0 c1 SC FA
              rw [ht] at hBs' g0 g1 SC FA
              obtain ⟨mk, hmk⟩ : ∃ q, s.1 = q := ⟨_, rfl⟩
              obtain ⟨mk', hmk'⟩ : ∃ q, t.1 = q := ⟨_, rfl⟩
              obtain ⟨l1, hl1⟩ : ∃ q, s.2.length = q := ⟨_, rfl⟩
              obtain ⟨l2, hl2⟩ : ∃ q, t.2.length = q := ⟨_, rfl⟩
              obtain ⟨eb, heb⟩ : ∃ eb, decide (s.2 = t.2) = eb := ⟨_, rfl⟩
              have SE : Hid (sgS s t = (decide (mk = mk') && eb)) := Lib.hid (by unfold sgS; rw [hmk, hmk', heb])
              rw [hmk] at c0
              rw [hmk'] at g0
              rw [hl1] at c1 hBs
              rw [hl2] at g1 hBs'
              have d0 := cell_old BB.out c0
              have d1 := cell_old BB.out c1
              have G : Hid (w.cell? ⟨sb', so' + m * 2, none⟩ = some (.int .i64 mk') ∧ w.cell? ⟨sb', so' + m * 2 + 1, none⟩ = some (.slice xa' l2 xc')) := Lib.hid ⟨g0, g1⟩
              have HBS := Lib.hid hBs
              have HBS' := Lib.hid hBs'
              have HXL := Lib.hid hxl
              have HEB := Lib.hid heb
              clear c0 c1 g0 g1 hxl hBs hBs' hs ht hmk hmk' hl2 heb hmn hmp hmq a0 a1 a2 a3 a4 a5 a6 a7 a8 b0 b1 b2 b3 b4 b5 b6 b7 b8
              have HI := Lib.hid seg_info
              have H1 := Lib.hid seg_one
              go_wp2_with (refine wpList_store_row rfl _ _ _ rfl wr.heap.size #[.int .i64 mk, .slice xa l1 xc] rfl rfl 68 _ (heap_alloc_new _ _) HI.out rfl (H1.out _ _ _ _) ?_; refine stop ?_)
              refine unstop ?_
              generalize hZ : World.setRow _ wr.heap.size #[.int .i64 mk, .slice xa l1 xc] = w4
              have P4 : Hid (w4.heap[wr.heap.size]? = some (.cells #[.int .i64 mk, .slice xa l1 xc] 68 (0, 0))) := Lib.hid (by rw [← hZ]; exact setRow_heap _ _ _ _ _ _ (heap_alloc_new _ _))
              have BZ4 : Hid (Below wr.heap.size wr w4) := Lib.hid (by rw [← hZ]; exact below_setRow ((Below.refl _ _).alloc (Nat.le_refl _) _) (Nat.le_refl _) _)
              clear hZ d0 d1
              have B4 := Lib.hid (BB.out.trans (BZ4.out.mono BB.out.size))
              have T4 := Lib.hid (TO.out _ _ TT.out BZ4.out)
              obtain ⟨g0, g1⟩ := G.out
              have j0 := cell_old B4.out g0
              have j1 := cell_old B4.out g1
              obtain ⟨-, y0, y1, y2, y3, y4, y5, y6, y7, y8⟩ := (⟨trivial, (TC.out _ T4.out).2.cells⟩ : True ∧ _)
              clear g0 g1 G
              go_wp2_with (refine wpList_store_row rfl _ _ _ rfl w4.heap.size #[.int .i64 mk', .slice xa' l2 xc'] rfl rfl 68 _ (heap_alloc_new _ _) HI.out rfl (H1.out _ _ _ _) ?_; refine stop ?_)
              refine unstop ?_
              generalize hZ : World.setRow _ w4.heap.size #[.int .i64 mk', .slice xa' l2 xc'] = w5
              have P5' : w5.heap[w4.heap.size]? = some (.cells #[.int .i64 mk', .slice xa' l2 xc'] 68 (0, 0)) := by rw [← hZ]; exact setRow_heap _ _ _ _ _ _ (heap_alloc_new _ _)
              have BZ5 : Hid (Below w4.heap.size w4 w5) := Lib.hid (by rw [← hZ]; exact below_setRow ((Below.refl _ _).alloc (Nat.le_refl _) _) (Nat.le_refl _) _)
              have P5 : w5.heap[wr.heap.size]? = some (.cells #[.int .i64 mk, .slice xa l1 xc] 68 (0, 0)) := by rw [BZ5.out.block _ (Array.getElem?_eq_some_iff.1 P4.out).1]; exact P4.out
              have b45 := BZ4.out.trans (BZ5.out.mono BZ4.out.size)
              have B5 := Lib.hid (BB.out.trans (b45.mono BB.out.size))
              have T5 := Lib.hid (TO.out _ _ TT.out b45)
              have CB := Lib.hid (eqBytes_any _ _ s.2 t.2 w5 (HBS.out.old B5.out) (HBS'.out.old B5.out) (by have := HXL.out; omega))
              rw [HEB.out] at CB
              obtain ⟨A, hA⟩ : ∃ A, wr.heap.size = A := ⟨_, rfl⟩
              obtain ⟨A', hA'⟩ : ∃ A, w4.heap.size = A := ⟨_, rfl⟩
              rw [hA] at P5 ⊢
              rw [hA'] at P5' ⊢
              have e0 : w5.cell? ⟨A, 0, none⟩ = some (.int .i64 mk) := by rw [cell_of_row _ _ 0 _ _ _ P5]; rfl
              have e1 : w5.cell? ⟨A, 1, none⟩ = some (.slice xa l1 xc) := by rw [cell_of_row _ _ 1 _ _ _ P5]; rfl
              have e2 : w5.cell? ⟨A', 0, none⟩ = some (.int .i64 mk') := by rw [cell_of_row _ _ 0 _ _ _ P5']; rfl
              have e3 : w5.cell? ⟨A', 1, none⟩ = some (.slice xa' l2 xc') := by rw [cell_of_row _ _ 1 _ _ _ P5']; rfl
              clear hZ b45 j0 j1 y0 y1 y2 y3 y4 y5 y6 y7 y8 HBS HBS' HXL HEB hl1 BZ4 BZ5 T4 B4 P4 P5 P5' BB TT HI H1 hA hA'
              go_upto_region 20 with (fail)
              by_cases hid : mk = mk'
              · have v1 : (mk != mk') = false := by rw [bne_eq_false_iff_eq]; exact hid
                have SE2 : Hid (sgS s t = eb) := Lib.hid (by rw [SE.out, decide_eq_true hid]; rfl)
                clear hid SE
                go_wp2_with fail
                refine CB.out.mono ?_
                rintro e x1 ⟨rfl, hc1⟩
                have B9 := Lib.hid (B5.out.trans (hc1.mono B5.out.size))
                have T9 := Lib.hid (TO.out _ _ T5.out hc1)
                clear hc1 e0 e1 e2 e3
                cases eb with
                | false =>
                  have RE : Hid (sameB P Q = false) := Lib.hid (FA.out SE2.out)
                  go_wp2_with fail
                  go_ret
                  exact ⟨by rw [RE.out]; rfl, B9.out⟩
                | true =>
                  go_wp2_with fail
                  go_roundw
                  case rel => exact ⟨m + 1, HMN.out, by go_num, by rw [SC.out, MK.out, SE2.out]; rfl, B9.out, T9.out⟩
                  case measure => simp [intOf]; have := HMN.out; omega
              · have v1 : (mk != mk') = true := by rw [bne_iff_ne]; exact hid
                have RE : Hid (sameB P Q = false) := Lib.hid (FA.out (by rw [SE.out, decide_eq_false hid]; rfl))
                clear hid
                go_wp2_with fail
                go_ret
                exact ⟨by rw [RE.out]; rfl, B5.out⟩
            · obtain rfl : m = sn := by omega
              have f1 : decide ((m : Int) < (m : Int)) = false := by rw [decide_eq_false_iff_not]; omega
              have RE : Hid (sameB P Q = true) := Lib.hid (by rw [GB3.out, MK.out])
              go_wp2_with fail
              go_ret
              exact ⟨by rw [RE.out]; rfl, BB.out⟩
end Go.Proofs.Ytbcbfnkpnfbfjaa
