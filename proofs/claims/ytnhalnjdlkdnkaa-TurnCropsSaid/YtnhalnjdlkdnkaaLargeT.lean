/- Has a picture more than is looked at? burnishlaw24.large. By an AI agent. -/
import Derived.Test.YtnhalnjdlkdnkaaChk
namespace Go.Proofs.Ytnhalnjdlkdnkaa
open Go.RowKit Go.BigFrame
set_option linter.unusedVariables false
set_option linter.unusedSimpArgs false

structure SmallT (P : PicL) : Prop where
  n : P.parts.length ≤ 10
  k : P.kept.length ≤ 50
  b : ∀ p ∈ P.parts, p.bs.length ≤ 200
  q : ∀ j, j < 4 → (qL P j).length ≤ 500
set_option maxRecDepth 20000 in
set_option maxHeartbeats 16000000 in
theorem largeT_any (P : PicL) (q0 q1 q2 q3 pv kv : Value) (w : World) (hp : PicC w P q0 q1 q2 q3 pv kv) (hB : PicB P) :
    Calls Try.prog 13 #[.agg (vPic P q0 q1 q2 q3 pv kv)] w fun e w' => (∃ q, e = .returned (.bool q) ∧ (q = false → SmallT P)) ∧ Below w.heap.size w w' := by
  have hl := hB.parts
  have hkl := hB.kept
  obtain ⟨pa, pc, rfl, _, hxp⟩ := pts_at hp.parts
  obtain ⟨sa, sc, rfl, _, hsx⟩ := sgs_at hp.kept
  have HXP := Lib.hid hxp
  have HSX := Lib.hid hsx
  have HQ := Lib.hid (fun k => qV_ns hp k)
  have HQL := Lib.hid (fun k => qL_len hB k)
  obtain ⟨n, hn⟩ : ∃ n, P.parts.length = n := ⟨_, rfl⟩
  obtain ⟨sn, hsn⟩ : ∃ n, P.kept.length = n := ⟨_, rfl⟩
  rw [hn] at hl ⊢
  rw [hsn] at hkl ⊢
  have HN := Lib.hid hn
  have HSN := Lib.hid hsn
  obtain ⟨w1, hw1⟩ : ∃ w1, w.alloc (.cells (vPic P q0 q1 q2 q3 (.slice pa n pc) (.slice sa sn sc)) 36) = w1 := ⟨_, rfl⟩
  have hb1 : Below w.heap.size w w1 := by rw [← hw1]; exact (Below.refl _ _).alloc (Nat.le_refl _) _
  obtain ⟨B, hBB⟩ : ∃ B, w.heap.size = B := ⟨_, rfl⟩
  have hbox : PBox w1 B P q0 q1 q2 q3 (.slice pa n pc) (.slice sa sn sc) := by rw [← hw1, ← hBB]; exact heap_alloc_new _ _
  have B1 := Lib.hid hb1
  have BX1 := Lib.hid hbox
  obtain ⟨a0, a1, a2, a3, a4, a5, a6, a7, a8⟩ := hbox.cells
  unfold vPic at hw1
  clear hp hB hb1 hbox hsx hn hsn hxp
  unfold vPic
  go_enter Try.func13, Try.ntmps13
  go_upto_region 1 with (fail)
  clear hw1 hBB
  have vv : ((decide ((10 : Int) < (n : Int)) = true ∧ decide (10 < n) = true)) ∨ ((decide ((10 : Int) < (n : Int)) = false ∧ decide (10 < n) = false) ∧ (decide ((50 : Int) < (sn : Int)) = true ∧ decide (50 < sn) = true)) ∨
      ((decide ((10 : Int) < (n : Int)) = false ∧ decide (10 < n) = false) ∧ (decide ((50 : Int) < (sn : Int)) = false ∧ decide (50 < sn) = false)) := by
    simp only [decide_eq_true_eq, decide_eq_false_iff_not]
    omega
  rcases vv with ⟨v1, v1'⟩ | ⟨⟨v1, v1'⟩, v2, v2'⟩ | ⟨⟨v1, v1'⟩, v2, v2'⟩
  · go_wp2_with fail
    go_ret
    exact ⟨⟨_, rfl, fun h => by cases h⟩, B1.out⟩
  · go_wp2_with fail
    go_ret
    exact ⟨⟨_, rfl, fun h => by cases h⟩, B1.out⟩
  have N10 : Hid (n ≤ 10 ∧ sn ≤ 50) := Lib.hid (by
    have h1 := of_decide_eq_false v1'
    have h2 := of_decide_eq_false v2'
    omega)
  go_wp2_with fail
  clear a0 a1 a2 a3 a4 a5 a6 a7 a8 v1 v1' v2 v2'
  -- the parts
  go_loopw [20] (fun i W => ∃ k : Nat, k ≤ n ∧ i = .int .i64 (k : Nat) ∧ (∀ j, j < k → (h : j < P.parts.length) → (P.parts[j]'h).bs.length ≤ 200) ∧ Below w.heap.size w W ∧ PBox W B P q0 q1 q2 q3 (.slice pa n pc) (.slice sa sn sc)) (fun i _ => n - (intOf i).toNat)
  case atStart => exact ⟨0, Nat.zero_le _, rfl, fun j h => absurd h (Nat.not_lt_zero j), B1.out, BX1.out⟩
  case round =>
    clear B1 BX1
    obtain ⟨k, hk, rfl, hall, hb, hx⟩ := hrel
    have ALL := Lib.hid hall
    clear hall
    have BB := Lib.hid hb
    have BX := Lib.hid hx
    obtain ⟨a0, a1, a2, a3, a4, a5, a6, a7, a8⟩ := hx.cells
    clear hb hx
    by_cases hkn : k < n
    · have f1 : decide ((k : Int) < (n : Int)) = true := by rw [decide_eq_true_eq]; omega
      have f1' : decide (k < n) = true := by rw [decide_eq_true_eq]; omega
      have f2 : (k : Int) < (n : Int) := by omega
      have gk : IntKind.i64.wrap ((k : Int) + 1) = (k : Int) + 1 := IntWalk.i64_in _ (by omega)
      have HKN := Lib.hid hkn
      have hkp : k < P.parts.length := by rw [HN.out]; exact hkn
      obtain ⟨b, off, x, rfl, -, hBK, c0, c1, c2, c3, c4, c5, c6⟩ := HXP.out k hkp
      obtain ⟨p, hp⟩ : ∃ p, P.parts[k]'hkp = p := ⟨_, rfl⟩
      rw [hp] at hBK c0 c1 c2 c3 c4 c5
      obtain ⟨xa, xc, rfl, -⟩ := Els.len hBK
      obtain ⟨ln, hln⟩ : ∃ z, p.bs.length = z := ⟨_, rfl⟩
      rw [hln] at c6
      obtain ⟨w4, hw4⟩ : ∃ w4, wr.alloc (.cells #[.int .i64 p.id, .int .i64 p.h, .int .i64 p.v, .int .i64 p.tq, .int .i64 p.wide, .int .i64 p.high, .slice xa ln xc] 70) = w4 := ⟨_, rfl⟩
      have hb4 : Below wr.heap.size wr w4 := by rw [← hw4]; exact (Below.refl _ _).alloc (Nat.le_refl _) _
      have P4 : w4.heap[wr.heap.size]? = some (.cells #[.int .i64 p.id, .int .i64 p.h, .int .i64 p.v, .int .i64 p.tq, .int .i64 p.wide, .int .i64 p.high, .slice xa ln xc] 70 (0, 0)) := by rw [← hw4]; exact heap_alloc_new _ _
      have e6 : w4.cell? ⟨wr.heap.size, 6, none⟩ = some (.slice xa ln xc) := by rw [cell_of_row _ _ 6 _ _ _ P4]; rfl
      have B4 := Lib.hid (BB.out.trans (hb4.mono BB.out.size))
      have BX4 := Lib.hid (BX.out.old hb4)
      have d0 := cell_old BB.out c0
      have d1 := cell_old BB.out c1
      have d2 := cell_old BB.out c2
      have d3 := cell_old BB.out c3
      have d4 := cell_old BB.out c4
      have d5 := cell_old BB.out c5
      have d6 := cell_old BB.out c6
      have vv : (decide ((200 : Int) < (ln : Int)) = true ∧ decide (200 < ln) = true) ∨ (decide ((200 : Int) < (ln : Int)) = false ∧ decide (200 < ln) = false) := by
        simp only [decide_eq_true_eq, decide_eq_false_iff_not]
        omega
      have PLN : Hid (∀ h : k < P.parts.length, (P.parts[k]'h).bs.length = ln) := Lib.hid (fun h => by rw [hp]; exact hln)
      clear hb4 P4 c0 c1 c2 c3 c4 c5 c6 hBK hp hln hkn hkp
      rcases vv with ⟨v1, v1'⟩ | ⟨v1, v1'⟩
      · go_wp2_with fail
        go_ret
        exact ⟨⟨_, rfl, fun h => by cases h⟩, B4.out⟩
      · have L2 : Hid (ln ≤ 200) := Lib.hid (Nat.not_lt.1 (of_decide_eq_false v1'))
        go_wp2_with fail
        go_roundw
        case rel =>
          refine ⟨k + 1, HKN.out, by go_num, fun j hj h => ?_, B4.out, BX4.out⟩
          by_cases e : j = k
          · subst e; rw [PLN.out h]; exact L2.out
          · exact ALL.out j (by omega) h
        case measure => simp [intOf]; have := HKN.out; omega
    · obtain rfl : k = n := by omega
      have f1 : decide ((k : Int) < (k : Int)) = false := by rw [decide_eq_false_iff_not]; omega
      clear hkn
      go_wp2_with fail
      clear a0 a1 a2 a3 a4 a5 a6 a7 a8 f1
      revert wr; intro Z BZ XZ
      -- the tables
      go_loopw [31] (fun i W => ∃ j : Nat, j ≤ 4 ∧ i = .int .i64 (j : Nat) ∧ (∀ m, m < j → (qL P m).length ≤ 500) ∧ Z = W) (fun i _ => 4 - (intOf i).toNat)
      case atStart => exact ⟨0, Nat.zero_le _, rfl, fun m h => absurd h (Nat.not_lt_zero m), rfl⟩
      case round =>
        obtain ⟨j, hj, rfl, hqs, rfl⟩ := hrel
        have QS := Lib.hid hqs
        clear hqs
        by_cases hjn : j < 4
        · have f1 : decide ((j : Int) < 4) = true := by rw [decide_eq_true_eq]; omega
          have f1' : decide (j < 4) = true := by rw [decide_eq_true_eq]; omega
          have f2 : (j : Int) < 4 := by omega
          have f3 : (0 : Int) ≤ (j : Int) := by omega
          have gj : IntKind.i64.wrap ((j : Int) + 1) = (j : Int) + 1 := IntWalk.i64_in _ (by omega)
          have HJN := Lib.hid hjn
          have IX := qV_index q0 q1 q2 q3 j hjn
          have NQ := HQ.out j
          obtain ⟨ql, hql⟩ : ∃ ql, qL P j = ql := ⟨_, rfl⟩
          obtain ⟨qv, hqv⟩ : ∃ qv, qV q0 q1 q2 q3 j = qv := ⟨_, rfl⟩
          rw [hql, hqv] at NQ
          rw [hqv] at IX
          obtain ⟨qa, qc, rfl, -⟩ := NQ.read
          obtain ⟨ln, hln⟩ : ∃ z, ql.length = z := ⟨_, rfl⟩
          rw [hln] at IX
          have vv : (decide ((500 : Int) < (ln : Int)) = true ∧ decide (500 < ln) = true) ∨ (decide ((500 : Int) < (ln : Int)) = false ∧ decide (500 < ln) = false) := by
            simp only [decide_eq_true_eq, decide_eq_false_iff_not]
            omega
          have QLN : Hid ((qL P j).length = ln) := Lib.hid (by rw [hql]; exact hln)
          clear NQ hql hqv hln hjn
          rcases vv with ⟨v1, v1'⟩ | ⟨v1, v1'⟩
          · go_wp2_with fail
            go_ret
            exact ⟨⟨_, rfl, fun h => by cases h⟩, BZ.out⟩
          · have L5 : Hid (ln ≤ 500) := Lib.hid (Nat.not_lt.1 (of_decide_eq_false v1'))
            go_wp2_with fail
            go_roundw
            case rel =>
              refine ⟨j + 1, HJN.out, by go_num, fun m hm => ?_, by first | rfl | trivial⟩
              by_cases e : m = j
              · subst e; rw [QLN.out]; exact L5.out
              · exact QS.out m (by omega)
            case measure => simp [intOf]; have := HJN.out; omega
        · obtain rfl : j = 4 := by omega
          clear hjn
          have SM : Hid (SmallT P) := Lib.hid ⟨by rw [HN.out]; exact N10.out.1, by rw [HSN.out]; exact N10.out.2, fun p hp => by
            obtain ⟨i, hi, rfl⟩ := List.getElem_of_mem hp
            exact ALL.out i (by rw [← HN.out]; exact hi) hi, QS.out⟩
          rw [show ((4 : Nat) : Int) = 4 from rfl]
          go_wp2_with fail
          go_ret
          exact ⟨⟨_, rfl, fun _ => SM.out⟩, BZ.out⟩
end Go.Proofs.Ytnhalnjdlkdnkaa
