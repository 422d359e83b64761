/- parse.Greedy and the document's greedy parse. By an AI agent. -/
import Derived.Test.YtheomjoadgfkeaaCheapZ
import Derived.Test.YtheomjoadgfkeaaNear
namespace Go.Proofs.Ytheomjoadgfkeaa
open Go.RowKit Go.Shelf
set_option linter.unusedVariables false
set_option linter.unusedSimpArgs false
attribute [local go_sem] Oper.semAt_some

theorem near_both (l : List UInt8) (p : Int) : (nearI l p = [] ∧ betterL (some l) p = []) ∨ ∃ t : Nat × Nat, ∃ n : Nat, lastT (betterL (some l) p) = t ∧ 0 < n ∧ n ≤ 256 ∧ (nearI l p).length = n ∧ t.1 = 2 + n ∧ (nearI l p)[n - 1]? = some (t.2 : Int) ∧ t.2 ≤ 32768 := by
  by_cases h : 0 ≤ p ∧ p < l.length
  · have e1 : betterL (some l) p = recs l p.toNat := by
      show (if 0 ≤ p ∧ p < (l.length : Int) then recs l p.toNat else []) = _
      rw [if_pos h]
    have e2 : nearI l p = (nearL l p.toNat).map fun d : Nat => (d : Int) := if_pos h
    rw [e1, e2]
    cases hr : (recs l p.toNat).getLast? with
    | none =>
      have h0 : recs l p.toNat = [] := by simpa using hr
      exact .inl ⟨by rw [(near_nil l p.toNat).2 h0]; rfl, h0⟩
    | some t =>
      obtain ⟨h1, h2⟩ := near_last l p.toNat hr
      have ok := recs_ok l p.toNat _ t (List.mem_of_getLast? hr)
      refine .inr ⟨t, (nearL l p.toNat).length, by simp [lastT, hr], by have := ok.1; omega, near_le _ _, by simp, h1, ?_, by have := ok.2.2.2.1; omega⟩
      rw [List.getElem?_map, h2]
      rfl
  · refine .inl ⟨if_neg h, ?_⟩
    show (if 0 ≤ p ∧ p < (l.length : Int) then recs l p.toNat else []) = _
    rw [if_neg h]

def greedT (l : List UInt8) (p : Nat) : Nat × Nat := if 0 < (lastT (betterL (some l) (p : Int))).1 then lastT (betterL (some l) (p : Int)) else litT l p
def greedF (l : List UInt8) : Nat → Nat → List (Nat × Nat)
  | 0, _ => []
  | f + 1, p => if p < l.length then greedT l p :: greedF l f (p + stepOf (greedT l p)) else []
def greedL (l : List UInt8) : List (Nat × Nat) := greedF l l.length 0
theorem greedF_end (l : List UInt8) (f p : Nat) (h : ¬ p < l.length) : greedF l f p = [] := by
  cases f with
  | zero => rfl
  | succ f => rw [greedF, if_neg h]

set_option maxRecDepth 100000 in
set_option maxHeartbeats 8000000 in
theorem greedy_any (tv : Value) (l : List UInt8) (w : World) (hb : Bs w tv l) (hl : l.length ≤ 1000000) :
    Calls Try.prog 23 #[tv] w fun e w' => ∃ rv, e = .returned (.tuple #[rv, .nilIface]) ∧ Tk w' rv ((greedL l).map (fun t => ((t.1 : Int), (t.2 : Int)))) ∧ Below w.heap.size w w' := by
  obtain ⟨av, cap, rfl⟩ := hb.len
  have HB0 := Lib.hid hb
  clear hb
  go_enter Try.func23, Try.ntmps23
  go_wp2_with fail
  refine (newFinder_any _ l w HB0.out (by omega)).mono ?_
  rintro e w3 ⟨f0, rfl, hF, hb3⟩
  obtain ⟨g, bs, rfl, hFV, hbs⟩ := hF.fvC
  have HF3 := Lib.hid hFV
  have BS3 : Hid (∀ b ∈ bs, b < w3.heap.size) := Lib.hid (fun b hb => (hbs b hb).2)
  have HB3 := Lib.hid hb3
  clear hF hFV hbs hb3
  obtain ⟨N0, hN⟩ : ∃ N0, w3.heap.size = N0 := ⟨_, rfl⟩
  have HN := Lib.hid hN
  clear hN
  go_wp2_with fail
  go_loopw [6, 7] (fun o j w' => ∃ (n f : Nat) (T : List (Nat × Nat)), n ≤ l.length + 300 ∧ l.length ≤ n + f ∧ j = .int .i64 (n : Int) ∧ Tow N0 w' o T ∧ T ++ greedF l f n = greedL l ∧ T.length ≤ n ∧ Below N0 w3 w') (fun _ j _ => l.length + 300 - (intOf j).toNat)
  case atStart => exact ⟨0, l.length, [], by omega, by omega, rfl, Tow.nil _ _, rfl, by simp, Below.refl _ _⟩
  case round =>
    obtain ⟨o0, rfl⟩ : ∃ x, x = u6 := ⟨u6, rfl⟩
    obtain ⟨n, f, T, hn, hf, rfl, hT, hTf, hTl, hb0⟩ := hrel
    have HT := Lib.hid hT
    have HTF := Lib.hid hTf
    have HTL := Lib.hid hTl
    have HBB := Lib.hid hb0
    have HNW : Hid (N0 ≤ wr.heap.size) := Lib.hid (by rw [← HN.out]; exact hb0.size)
    clear hT hTf hTl hb0
    by_cases hnl : n < l.length
    · have f1 : decide ((n : Int) < (l.length : Int)) = true := by rw [decide_eq_true_eq]; omega
      have f1' : decide (n < l.length) = true := by rw [decide_eq_true_eq]; omega
      go_wp2_with fail
      have hbx : Below w3.heap.size w3 wr := by rw [HN.out]; exact HBB.out
      have FV4 := HF3.out.keep (KeepB.below hbx hbx.size BS3.out)
      refine (longest_any bs (n : Int) (some ⟨g, 0, none⟩) (some l) wr (by omega) (by show l.length ≤ _; omega) FV4 (fun b hb => Nat.lt_of_lt_of_le (BS3.out b hb) hbx.size)).mono ?_
      rintro e w5 ⟨rfl, hb5⟩
      have NB := Lib.hid (near_both l (n : Int))
      obtain ⟨t, ht⟩ : ∃ t, lastT (betterL (some l) (n : Int)) = t := ⟨_, rfl⟩
      rw [ht]
      have HTT := Lib.hid ht
      obtain ⟨ta, tb2⟩ := t
      rw [show tokC (ta, tb2) = #[.int .i64 (ta : Int), .int .i64 (tb2 : Int)] from rfl]
      have HB5 : Hid (Below N0 w3 w5) := Lib.hid (HBB.out.trans (hb5.mono HNW.out))
      have HT5 := Lib.hid (HT.out.old hb5)
      have HN5 : Hid (N0 ≤ w5.heap.size) := Lib.hid (Nat.le_trans HNW.out hb5.size)
      have HBW5 : Hid (Below w.heap.size w w5) := Lib.hid (HB3.out.trans ((hbx.trans (hb5.mono hbx.size)).mono HB3.out.size))
      clear hbx FV4 hb5 ht
      cases hd : decide (0 < ((ta, tb2) : Nat × Nat).1) with
      | true =>
        have T300 : Hid (max ta 1 ≤ 300) := Lib.hid (by
          rcases NB.out with ⟨_, h2⟩ | ⟨t, m, h1, h2, h3, _, h5, _⟩
          · rw [h2] at HTT; have h := HTT.out; simp [lastT] at h; omega
          · rw [HTT.out] at h1; subst h1; simp only at h5; omega)
        have hd' : Hid (0 < ta) := Lib.hid (by simpa using hd)
        go_wp2_with (at_builtin; refine stop ?_)
        obtain ⟨wb, hwb⟩ : ∃ wb, wb = w5.alloc (.cells #[.int .i64 (ta : Int), .int .i64 (tb2 : Int)] 27) := ⟨_, rfl⟩
        rw [← hwb]
        have bb : Below w5.heap.size w5 wb := by rw [hwb]; exact (Below.refl _ _).alloc (Nat.le_refl _) _
        have bx : wb.heap[w5.heap.size]? = some (.cells #[.int .i64 (ta : Int), .int .i64 (tb2 : Int)] 27 (0, 0)) := by rw [hwb]; exact heap_alloc_new _ _
        have szb : wb.heap.size = w5.heap.size + 1 := by rw [hwb]; simp
        have SLT := sl_lit2 wb (.int .i64 (ta : Int)) (.int .i64 (tb2 : Int)) 27
        rw [szb] at SLT
        have sb : w5.heap.size < wb.heap.size := (Array.getElem?_eq_some_iff.1 bx).1
        have OWN := World.ownsRow.alloc (HT5.out.old bb) (.cells #[.int .i64 (ta : Int), .int .i64 (tb2 : Int)] 27)
        refine unstop (wpList_app tyTok rfl _ _ rfl N0 _ T.length (tokVals T) rfl OWN _ 1 [.int .i64 (ta : Int), .int .i64 (tb2 : Int)] rfl SLT (by intro u hu; simp at hu; rcases hu with rfl | rfl <;> rfl) (by have := HTL.out; omega) (by have := HTL.out; omega) (by have := HN5.out; simp; omega) ?_)
        intro v7 w7 hown7 hg7 _
        have hb7 : Below N0 w3 w7 := by
          have h0 : Below w3.heap.size w3 (wb.alloc (.cells #[.int .i64 (ta : Int), .int .i64 (tb2 : Int)] 27)) := by rw [HN.out]; exact (HB5.out.trans (bb.mono HN5.out)).alloc (by have := HN5.out; omega) _
          have h2 := run_app_below OWN hg7 h0 (by rw [HN.out]; exact Nat.le_refl _)
          rw [HN.out] at h2
          exact h2
        have hne : ∀ k, o0.ownBlock = some k → k ≠ w5.heap.size := fun k hk => by have := (World.ownsRow.lt HT5.out k hk).2; omega
        have bx7 : w7.heap[w5.heap.size]? = some (.cells #[.int .i64 (ta : Int), .int .i64 (tb2 : Int)] 27 (0, 0)) := by
          rw [hg7.block w5.heap.size (by simp; omega) (fun e => hne _ e.symm rfl), Below.heap_alloc _ _ _ sb]
          exact bx
        have c7 : w7.cell? ⟨w5.heap.size, 0, none⟩ = some (.int .i64 (ta : Int)) := by rw [cell_of_row _ w5.heap.size 0 _ _ (0, 0) bx7]; rfl
        have HT7 : Hid (Tow N0 w7 v7 (T ++ [(ta, tb2)])) := Lib.hid (by
          unfold Tow
          rw [List.length_append, tokVals_app]
          exact hown7)
        have HB7 := Lib.hid hb7
        have GT : Hid (greedT l n = (ta, tb2)) := Lib.hid (by unfold greedT; rw [HTT.out]; rw [if_pos hd'.out])
        clear hown7 hg7 hb7 bx7 bx bb sb hwb OWN hne SLT szb
        go_wp2_with fail
        obtain ⟨st, hst⟩ : ∃ st, stepOf (ta, tb2) = st := ⟨_, rfl⟩
        have em : (if ((ta : Nat) : Int) < 1 then (1 : Int) else (ta : Int)) = (st : Int) := by rw [← hst]; unfold stepOf; simp only; split <;> omega
        have hsp := stepOf_pos (ta, tb2)
        have hs300 : st ≤ 300 := by rw [← hst]; unfold stepOf; exact T300.out
        rw [hst] at hsp
        have ew : wrap64 ((n : Int) + (st : Int)) = ((n + st : Nat) : Int) := by rw [IntWalk.wrap64_in _ (by omega)]; omega
        rw [em, ew]
        refine ⟨⟨n + st, f - 1, T ++ [(ta, tb2)], by omega, by omega, rfl, HT7.out, ?_, ?_, HB7.out⟩, by simp [intOf]; omega⟩
        · have h := HTF.out
          obtain ⟨f0, rfl⟩ : ∃ f0, f = f0 + 1 := ⟨f - 1, by omega⟩
          rw [greedF, if_pos hnl, GT.out, hst] at h
          rw [← h]
          simp
        · rw [List.length_append]
          have := HTL.out
          simp only [List.length_cons, List.length_nil]
          omega
      | false =>
        have hd' : Hid (¬ 0 < ta) := Lib.hid (by simpa using hd)
        obtain ⟨_, _, hcap, hrd⟩ := (HB0.out.old (HBW5.out.trans (((Below.refl w5.heap.size w5).alloc (Nat.le_refl _) (.cells #[.int .i64 (ta : Int), .int .i64 (tb2 : Int)] 27)).mono HBW5.out.size))).read
        simp only [Value.slice.injEq] at hcap
        obtain ⟨rfl, -, rfl⟩ := hcap
        obtain ⟨tb, toff, rfl, htx⟩ := hrd n hnl
        have EX : Hid (l.getD n 0 = l[n]) := Lib.hid (by rw [List.getD_eq_getElem?_getD, List.getElem?_eq_getElem hnl]; rfl)
        have hby := l[n].toNat_lt
        generalize l[n] = y at *
        clear hrd
        go_wp2_with (at_builtin; refine stop ?_)
        obtain ⟨wb, hwb⟩ : ∃ wb, wb = w5.alloc (.cells #[.int .i64 (0 : Int), .int .i64 (y.toNat : Int)] 27) := ⟨_, rfl⟩
        rw [← hwb]
        have bb : Below w5.heap.size w5 wb := by rw [hwb]; exact (Below.refl _ _).alloc (Nat.le_refl _) _
        have bx : wb.heap[w5.heap.size]? = some (.cells #[.int .i64 (0 : Int), .int .i64 (y.toNat : Int)] 27 (0, 0)) := by rw [hwb]; exact heap_alloc_new _ _
        have szb : wb.heap.size = w5.heap.size + 1 := by rw [hwb]; simp
        have SLT := sl_lit2 wb (.int .i64 (0 : Int)) (.int .i64 (y.toNat : Int)) 27
        rw [szb] at SLT
        have sb : w5.heap.size < wb.heap.size := (Array.getElem?_eq_some_iff.1 bx).1
        have OWN := World.ownsRow.alloc (HT5.out.old bb) (.cells #[.int .i64 (0 : Int), .int .i64 (y.toNat : Int)] 27)
        refine unstop (wpList_app tyTok rfl _ _ rfl N0 _ T.length (tokVals T) rfl OWN _ 1 [.int .i64 (0 : Int), .int .i64 (y.toNat : Int)] rfl SLT (by intro u hu; simp at hu; rcases hu with rfl | rfl <;> rfl) (by have := HTL.out; omega) (by have := HTL.out; omega) (by have := HN5.out; simp; omega) ?_)
        intro v7 w7 hown7 hg7 _
        have hb7 : Below N0 w3 w7 := by
          have h0 : Below w3.heap.size w3 (wb.alloc (.cells #[.int .i64 (0 : Int), .int .i64 (y.toNat : Int)] 27)) := by rw [HN.out]; exact (HB5.out.trans (bb.mono HN5.out)).alloc (by have := HN5.out; omega) _
          have h2 := run_app_below OWN hg7 h0 (by rw [HN.out]; exact Nat.le_refl _)
          rw [HN.out] at h2
          exact h2
        have hne : ∀ k, o0.ownBlock = some k → k ≠ w5.heap.size := fun k hk => by have := (World.ownsRow.lt HT5.out k hk).2; omega
        have bx7 : w7.heap[w5.heap.size]? = some (.cells #[.int .i64 (0 : Int), .int .i64 (y.toNat : Int)] 27 (0, 0)) := by
          rw [hg7.block w5.heap.size (by simp; omega) (fun e => hne _ e.symm rfl), Below.heap_alloc _ _ _ sb]
          exact bx
        have c7 : w7.cell? ⟨w5.heap.size, 0, none⟩ = some (.int .i64 (0 : Int)) := by rw [cell_of_row _ w5.heap.size 0 _ _ (0, 0) bx7]; rfl
        have HT7 : Hid (Tow N0 w7 v7 (T ++ [(0, y.toNat)])) := Lib.hid (by
          unfold Tow
          rw [List.length_append, tokVals_app]
          exact hown7)
        have HB7 := Lib.hid hb7
        have GT : Hid (greedT l n = (0, y.toNat)) := Lib.hid (by unfold greedT; rw [HTT.out]; rw [if_neg hd'.out]; unfold litT; rw [EX.out])
        clear hown7 hg7 hb7 bx7 bx bb sb hwb OWN hne SLT szb
        go_wp2_with fail
        obtain ⟨st, hst⟩ : ∃ st, stepOf (0, y.toNat) = st := ⟨_, rfl⟩
        have em : (1 : Int) = (st : Int) := by rw [← hst]; rfl
        have hsp := stepOf_pos (0, y.toNat)
        have hs300 : st ≤ 300 := by rw [← hst]; unfold stepOf; simp
        rw [hst] at hsp
        have ew : (n : Int) + (st : Int) = ((n + st : Nat) : Int) := by omega
        rw [em, ew]
        refine ⟨⟨n + st, f - 1, T ++ [(0, y.toNat)], by omega, by omega, rfl, HT7.out, ?_, ?_, HB7.out⟩, by simp [intOf]; omega⟩
        · have h := HTF.out
          obtain ⟨f0, rfl⟩ : ∃ f0, f = f0 + 1 := ⟨f - 1, by omega⟩
          rw [greedF, if_pos hnl, GT.out, hst] at h
          rw [← h]
          simp
        · rw [List.length_append]
          have := HTL.out
          simp only [List.length_cons, List.length_nil]
          omega
    · have f1 : decide ((n : Int) < (l.length : Int)) = false := by rw [decide_eq_false_iff_not]; omega
      have f1' : decide (n < l.length) = false := by rw [decide_eq_false_iff_not]; omega
      have TE : Hid (T = greedL l) := Lib.hid (by have h := HTF.out; rw [greedF_end l f n hnl, List.append_nil] at h; exact h)
      go_wp2_with fail
      go_ret2
      refine ⟨o0, rfl, by have h := HT.out.tk; rw [TE.out] at h; exact h, ?_⟩
      have h1 : Below w3.heap.size w3 wr := by rw [HN.out]; exact HBB.out
      exact HB3.out.trans (h1.mono HB3.out.size)
end Go.Proofs.Ytheomjoadgfkeaa
