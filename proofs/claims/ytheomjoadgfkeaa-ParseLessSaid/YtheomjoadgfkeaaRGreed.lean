/- The document's greedy parse walked; tokens compared. By an AI agent. -/
import Derived.Test.YtheomjoadgfkeaaGreed
namespace Go.Proofs.Ytheomjoadgfkeaa
open Go.RowKit Go.Shelf
set_option linter.unusedVariables false
set_option linter.unusedSimpArgs false

set_option maxRecDepth 100000 in
set_option maxHeartbeats 8000000 in
theorem refGreedy_any (tv : Value) (l : List UInt8) (w : World) (hb : Bs w tv l) (hl : l.length ≤ 1000000) :
    Calls Try.prog 25 #[tv] w fun e w' => ∃ rv, e = .returned rv ∧ Tk w' rv ((greedL l).map (fun t => ((t.1 : Int), (t.2 : Int)))) ∧ Below w.heap.size w w' := by
  obtain ⟨av, cap, rfl⟩ := hb.len
  have HB0 := Lib.hid hb
  clear hb
  go_enter Try.func25, Try.ntmps25
  go_wp2_with fail
  obtain ⟨N0, hN⟩ : ∃ N0, w.heap.size = N0 := ⟨_, rfl⟩
  have HN := Lib.hid hN
  clear hN
  go_loopw [3, 4] (fun o j w' => ∃ (n f : Nat) (T : List (Nat × Nat)), n ≤ l.length + 300 ∧ l.length ≤ n + f ∧ j = .int .i64 (n : Int) ∧ Tow N0 w' o T ∧ T ++ greedF l f n = greedL l ∧ T.length ≤ n ∧ Below N0 w w') (fun _ j _ => l.length + 300 - (intOf j).toNat)
  case atStart => exact ⟨0, l.length, [], by omega, by omega, rfl, Tow.nil _ _, rfl, by simp, Below.refl _ _⟩
  case round =>
    obtain ⟨o0, rfl⟩ : ∃ x, x = u3 := ⟨u3, rfl⟩
    obtain ⟨n, f, T, hn, hf, rfl, hT, hTf, hTl, hb0⟩ := hrel
    have HT := Lib.hid hT
    have HTF := Lib.hid hTf
    have HTL := Lib.hid hTl
    have HBB := Lib.hid hb0
    have HNW : Hid (N0 ≤ wr.heap.size) := Lib.hid (by rw [← HN.out]; exact hb0.size)
    clear hT hTf hTl hb0
    by_cases hnl : n < l.length
    · have f1 : decide ((n : Int) < (l.length : Int)) = true := by rw [decide_eq_true_eq]; omega
      have f1' : decide (n < l.length) = true := by rw [decide_eq_true_eq]; omega
      go_wp2_with fail
      have hbx : Below w.heap.size w wr := by rw [HN.out]; exact HBB.out
      refine (refNear_any _ l (n : Int) wr (HB0.out.old hbx) (by omega)).mono ?_
      rintro e w5 ⟨v5, rfl, hn5, hb5, _⟩
      have NB := near_both l (n : Int)
      have HB5 : Hid (Below N0 w w5) := Lib.hid (HBB.out.trans (hb5.mono HNW.out))
      have HT5 := Lib.hid (HT.out.old hb5)
      have HN5 : Hid (N0 ≤ w5.heap.size) := Lib.hid (Nat.le_trans HNW.out hb5.size)
      have HNS5 := Lib.hid hn5
      have HBS5 := Lib.hid (HB0.out.old (hbx.trans (hb5.mono hbx.size)))
      clear hbx hb5 hn5
      rcases NB with ⟨n1, n2⟩ | ⟨⟨ta, tb2⟩, m, n1, n2, n3, n4, n5, n6, n7⟩
      · obtain ⟨a5, c5, rfl⟩ := HNS5.out.len
        rw [n1]
        have G0 : Hid (greedT l n = litT l n) := Lib.hid (by unfold greedT; rw [n2]; rfl)
        obtain ⟨_, _, hcap, hrd⟩ := HBS5.out.read
        simp only [Value.slice.injEq] at hcap
        obtain ⟨rfl, -, rfl⟩ := hcap
        obtain ⟨tb, toff, rfl, htx⟩ := hrd n hnl
        have EX : Hid (l.getD n 0 = l[n]) := Lib.hid (by rw [List.getD_eq_getElem?_getD, List.getElem?_eq_getElem hnl]; rfl)
        have hby := l[n].toNat_lt
        generalize l[n] = y at *
        clear hrd n1 n2 HNS5
        simp only [List.length_nil]
        go_wp2_with (at_builtin; refine stop ?_)
        have OWN := World.ownsRow.alloc HT5.out (.cells #[.int .i64 (0 : Int), .int .i64 (y.toNat : Int)] 27)
        refine unstop (wpList_app tyTok rfl _ _ rfl N0 _ T.length (tokVals T) rfl OWN _ 1 [.int .i64 (0 : Int), .int .i64 (y.toNat : Int)] rfl (sl_lit2 _ _ _ _) (by intro u hu; simp at hu; rcases hu with rfl | rfl <;> rfl) (by have := HTL.out; omega) (by have := HTL.out; omega) (Nat.le_trans HN5.out (by simp)) ?_)
        intro v7 w7 hown7 hg7 _
        have hb7 : Below N0 w w7 := by
          have h0 : Below w.heap.size w (w5.alloc (.cells #[.int .i64 (0 : Int), .int .i64 (y.toNat : Int)] 27)) := by rw [HN.out]; exact HB5.out.alloc HN5.out _
          have h2 := run_app_below OWN hg7 h0 (by rw [HN.out]; exact Nat.le_refl _)
          rw [HN.out] at h2
          exact h2
        have HT7 : Hid (Tow N0 w7 v7 (T ++ [(0, y.toNat)])) := Lib.hid (by
          unfold Tow
          rw [List.length_append, tokVals_app]
          exact hown7)
        have HB7 := Lib.hid hb7
        clear hown7 hg7 hb7 OWN
        go_wp2_with fail
        go_roundw
        case rel =>
          refine ⟨n + 1, f - 1, T ++ [(0, y.toNat)], by omega, by omega, by go_num, HT7.out, ?_, ?_, HB7.out⟩
          · have h := HTF.out
            obtain ⟨f0, rfl⟩ : ∃ f0, f = f0 + 1 := ⟨f - 1, by omega⟩
            rw [greedF, if_pos hnl, G0.out] at h
            rw [← h]
            have el : litT l n = (0, y.toNat) := by unfold litT; rw [EX.out]
            have es : stepOf (litT l n) = 1 := rfl
            rw [es, el]
            simp
          · rw [List.length_append]
            have := HTL.out
            simp only [List.length_cons, List.length_nil]
            omega
        case measure => simp [intOf]; omega
      · obtain ⟨k, rfl⟩ : ∃ k, m = k + 1 := ⟨m - 1, by omega⟩
        obtain ⟨b5, o5, c5, rfl, hc5⟩ := ns_cell HNS5.out (k := k) (by omega)
        have e5 : (nearI l n).getD k 0 = (tb2 : Int) := by rw [List.getD_eq_getElem?_getD]; rw [show k + 1 - 1 = k by omega] at n6; rw [n6]; rfl
        rw [e5] at hc5
        rw [n4]
        simp only at n5
        have G0 : Hid (greedT l n = (ta, tb2)) := Lib.hid (by unfold greedT; rw [n1, if_pos (by simp only; omega)])
        have HTA := Lib.hid n5
        have d1 : decide ((0 : Int) < ((k + 1 : Nat) : Int)) = true := by rw [decide_eq_true_eq]; omega
        clear n1 n4 n6 e5 HNS5 n5
        go_wp2_with (at_builtin; refine stop ?_)
        have et : (2 + ((k : Int) + 1)) = (ta : Int) := by have := HTA.out; omega
        rw [et]
        clear et
        have OWN := World.ownsRow.alloc HT5.out (.cells #[.int .i64 (ta : Int), .int .i64 (tb2 : Int)] 27)
        refine unstop (wpList_app tyTok rfl _ _ rfl N0 _ T.length (tokVals T) rfl OWN _ 1 [.int .i64 (ta : Int), .int .i64 (tb2 : Int)] rfl (sl_lit2 _ _ _ _) (by intro u hu; simp at hu; rcases hu with rfl | rfl <;> rfl) (by have := HTL.out; omega) (by have := HTL.out; omega) (Nat.le_trans HN5.out (by simp)) ?_)
        intro v7 w7 hown7 hg7 _
        have hb7 : Below N0 w w7 := by
          have h0 : Below w.heap.size w (w5.alloc (.cells #[.int .i64 (ta : Int), .int .i64 (tb2 : Int)] 27)) := by rw [HN.out]; exact HB5.out.alloc HN5.out _
          have h2 := run_app_below OWN hg7 h0 (by rw [HN.out]; exact Nat.le_refl _)
          rw [HN.out] at h2
          exact h2
        have HT7 : Hid (Tow N0 w7 v7 (T ++ [(ta, tb2)])) := Lib.hid (by
          unfold Tow
          rw [List.length_append, tokVals_app]
          exact hown7)
        have HB7 := Lib.hid hb7
        clear hown7 hg7 hb7 OWN
        go_wp2_with fail
        go_roundw
        case rel =>
          refine ⟨n + ta, f - 1, T ++ [(ta, tb2)], by have := HTA.out; omega, by have := HTA.out; omega, by have := HTA.out; go_num, HT7.out, ?_, ?_, HB7.out⟩
          · have h := HTF.out
            obtain ⟨f0, rfl⟩ : ∃ f0, f = f0 + 1 := ⟨f - 1, by omega⟩
            rw [greedF, if_pos hnl, G0.out] at h
            rw [← h]
            have es : stepOf (ta, tb2) = ta := by have := HTA.out; unfold stepOf; simp only; omega
            rw [es]
            simp
          · rw [List.length_append]
            have := HTA.out
            have := HTL.out
            simp only [List.length_cons, List.length_nil]
            omega
        case measure => have := HTA.out; simp [intOf]; omega
    · have f1 : decide ((n : Int) < (l.length : Int)) = false := by rw [decide_eq_false_iff_not]; omega
      have f1' : decide (n < l.length) = false := by rw [decide_eq_false_iff_not]; omega
      have TE : Hid (T = greedL l) := Lib.hid (by have h := HTF.out; rw [greedF_end l f n hnl, List.append_nil] at h; exact h)
      go_wp2_with fail
      go_ret
      exact ⟨o0, rfl, by have h := HT.out.tk; rw [TE.out] at h; exact h, by rw [HN.out]; exact HBB.out⟩
end Go.Proofs.Ytheomjoadgfkeaa
