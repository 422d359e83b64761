/- The walk of burnishnum.Apart. By an AI agent. -/
import Derived.Test.YtfkdfdcnmbaheaaApartS
import Derived.Deep.QuietTactic
import Derived.BigQuiet
namespace Go.Proofs.Ytfkdfdcnmbaheaa
open Go.RowKit
set_option linter.unusedVariables false
set_option linter.unusedSimpArgs false

theorem tyS : ElemTy Try.prog 38 22 (.slice none 0 0) 1 24 := elemTy Try.underlying38 (by kernel_rfl) rfl (by decide)
theorem ap_vals (k j : Nat) (hk : k ≤ 1000) (hj : j ≤ 140737488351300) :
    (wrap64 (29 * (k : Int)) = 29 * (k : Int) ∧ IntKind.i64.wrap (29 * (k : Int)) = 29 * (k : Int)) ∧ (wrap64 (5 * (j : Int)) = 5 * (j : Int) ∧ IntKind.i64.wrap (5 * (j : Int)) = 5 * (j : Int)) ∧
    (wrap64 (29 * (k : Int) + 5 * (j : Int)) = 29 * (k : Int) + 5 * (j : Int) ∧ IntKind.i64.wrap (29 * (k : Int) + 5 * (j : Int)) = 29 * (k : Int) + 5 * (j : Int)) ∧
    (wrap64 (29 * (k : Int) + 5 * (j : Int) + 3) = 29 * (k : Int) + 5 * (j : Int) + 3 ∧ IntKind.i64.wrap (29 * (k : Int) + 5 * (j : Int) + 3) = 29 * (k : Int) + 5 * (j : Int) + 3) ∧
    (IntKind.u8.wrap (29 * (k : Int) + 5 * (j : Int) + 3) = ((mrk k j).toNat : Int) ∧ (29 * (k : Int) + 5 * (j : Int) + 3) % 256 = ((mrk k j).toNat : Int)) := by
  have h : (29 * (k : Int) + 5 * (j : Int) + 3) % 256 = ((mrk k j).toNat : Int) := by
    unfold mrk
    rw [UInt8.toNat_ofNat']
    omega
  have h2 : IntKind.u8.wrap (29 * (k : Int) + 5 * (j : Int) + 3) = (29 * (k : Int) + 5 * (j : Int) + 3) % 256 := by simp [IntKind.wrap, IntKind.signed, IntKind.bits]
  exact ⟨⟨IntWalk.wrap64_in _ (by omega), IntWalk.i64_in _ (by omega)⟩, ⟨IntWalk.wrap64_in _ (by omega), IntWalk.i64_in _ (by omega)⟩, ⟨IntWalk.wrap64_in _ (by omega), IntWalk.i64_in _ (by omega)⟩, ⟨IntWalk.wrap64_in _ (by omega), IntWalk.i64_in _ (by omega)⟩, ⟨h2.trans h, h⟩⟩
theorem own_len {w : World} {base : Nat} {e : TypeId} {v : Value} {n : Nat} {xs : List Value} (h : w.ownsRow base e 1 v n xs) : ∃ ao c, v = .slice ao n c := by
  rcases h.2 with ⟨hv, hn⟩ | ⟨g, cap, cur, hv, _⟩
  · exact ⟨none, 0, by rw [hv, hn]⟩
  · exact ⟨_, _, hv⟩
theorem Lists.len {base gl N : Nat} {V : Nat → Value} {n : Nat → Nat} {w0 : World} (h : Lists base gl N V n w0) {k : Nat} (hk : k < N) : ∃ ao c, V k = .slice ao (n k) c := by
  rcases h.form k hk with ⟨hv, hn⟩ | ⟨g, c, hv⟩
  · exact ⟨none, 0, by rw [hv, hn]⟩
  · exact ⟨_, _, hv⟩

def sliceLen : Value → Nat
  | .slice _ q _ => q
  | _ => 0
set_option maxHeartbeats 6400000 in
theorem apart_any (base gl N cap : Nat) (V : Nat → Value) (n : Nat → Nat) (L : Nat → List UInt8) (w : World) (hL : Lists base gl N V n w) (h1 : Ap1 base gl N V n w L w) (hlen : ∀ i, i < N → (L i).length = n i ∧ n i ≤ 140737488351232) (hN : N ≤ 1000) :
    Calls Try.prog 20 #[.slice (some ⟨gl, 0, none⟩) N cap] w fun e w' => e = .returned (.bool true) ∧ Below base w w' := by
  have HL := Lib.hid hL
  have H1 := Lib.hid h1
  have HLEN := Lib.hid hlen
  clear hL h1 hlen
  go_enter Try.func20, Try.ntmps20
  go_wp2_with fail
  go_loopw [15] (fun i w' => ∃ k : Nat, k ≤ N ∧ i = .int .i64 k ∧ Ap1 base gl N V n w (fun i => if i < k then marks i (n i) else L i) w') (fun i _ => N - (intOf i).toNat)
  case atStart => exact ⟨0, Nat.zero_le _, rfl, H1.out.congr (fun i _ => if_neg (Nat.not_lt_zero i))⟩
  case round =>
    obtain ⟨k, hk, rfl, hap⟩ := hrel
    have HA := Lib.hid hap
    clear hap
    by_cases hkN : k < N
    · have f1 : decide (k < N) = true := by rw [decide_eq_true_eq]; exact hkN
      have f1' : decide ((k : Int) < (N : Int)) = true := by rw [decide_eq_true_eq]; omega
      have hc := HA.out.cell k hkN
      obtain ⟨ao, c, hV⟩ := HL.out.len hkN
      rw [hV] at hc
      have HV := Lib.hid hV
      clear hV
      go_wp2_with fail
      clear hc f1 f1'
      go_loopw [22] (fun i w' => ∃ j : Nat, j ≤ n k ∧ i = .int .i64 j ∧ Ap1 base gl N V n w (fun i => if i < k then marks i (n i) else if i = k then marks k j ++ (L k).drop j else L i) w') (fun i _ => n k - (intOf i).toNat)
      case atStart => exact ⟨0, Nat.zero_le _, rfl, HA.out.congr (fun i _ => by by_cases hi : i < k <;> by_cases hik : i = k <;> simp [hi, hik, marks])⟩
      case round =>
        obtain ⟨j, hj, rfl, hap⟩ := hrel
        have HA2 := Lib.hid hap
        clear hap
        have hnb : n k ≤ 140737488351232 := (HLEN.out k hkN).2
        by_cases hjn : j < n k
        · have f2 : decide (j < n k) = true := by rw [decide_eq_true_eq]; exact hjn
          have f2' : decide ((j : Int) < (n k : Int)) = true := by rw [decide_eq_true_eq]; omega
          obtain ⟨⟨a1, a1'⟩, ⟨a2, a2'⟩, ⟨a3, a3'⟩, ⟨a4, a4'⟩, ⟨a5, a5'⟩⟩ := ap_vals k j (by omega) (by omega)
          have hform : ∃ g, ao = some ⟨g, 0, none⟩ := by
            rcases HL.out.form k hkN with ⟨_, h0⟩ | ⟨g, c', hv⟩
            · omega
            · rw [HV.out] at hv
              simp only [Value.slice.injEq] at hv
              exact ⟨g, hv.1⟩
          obtain ⟨g, rfl⟩ := hform
          have hlj : j < (L k).length := by rw [(HLEN.out k hkN).1]; exact hjn
          have hrow := HA2.out.own k hkN
          rw [HV.out] at hrow
          have hlr : j < (vBs (if k < k then marks k (n k) else if k = k then marks k j ++ (L k).drop j else L k)).length := by
            rw [if_neg (Nat.lt_irrefl k), if_pos rfl, vBs_length, List.length_append, marks_len, List.length_drop]; omega
          obtain ⟨hcell, hfroz⟩ := own_cell hrow (List.getElem?_eq_getElem hlr)
          obtain ⟨old, hold⟩ : ∃ old, (vBs (if k < k then marks k (n k) else if k = k then marks k j ++ (L k).drop j else L k))[j] = old := ⟨_, rfl⟩
          rw [hold] at hcell
          have HNEXT : Hid (Ap1 base gl N V n w (fun i => if i < k then marks i (n i) else if i = k then marks k (j + 1) ++ (L k).drop (j + 1) else L i) (wr.setCell ⟨g, j, none⟩ (vB (mrk k j)))) := Lib.hid (HA2.out.set HL.out hkN HV.out hjn (mrk k j) (by simp only [if_neg (Nat.lt_irrefl k), if_pos]; exact (marks_set k j (L k) hlj).symm) (fun i _ hik => by simp only [if_neg hik]))
          have hjb : j ≤ 140737488351232 := by omega
          have hkb : k ≤ 1000 := by omega
          clear hrow hlr hold hlj
          unfold vB at HNEXT
          generalize (mrk k j).toNat = mv at a5 a5' HNEXT
          go_wp2_with fail
          go_roundw
          case rel => exact ⟨j + 1, by omega, by go_num, HNEXT.out⟩
          case measure => simp [intOf]; omega
        · obtain rfl : j = n k := by omega
          have f2' : decide ((n k : Int) < (n k : Int)) = false := by rw [decide_eq_false_iff_not]; omega
          have hkb : k ≤ 1000 := by omega
          have HNEXT : Hid (Ap1 base gl N V n w (fun i => if i < k + 1 then marks i (n i) else L i) wr) := Lib.hid (HA2.out.congr (fun i hi => by
            by_cases h1 : i < k
            · simp only [if_pos h1, if_pos (Nat.lt_succ_of_lt h1)]
            · by_cases h2 : i = k
              · subst h2
                have h3 : (L i).drop (n i) = [] := List.drop_eq_nil_of_le (Nat.le_of_eq (HLEN.out i hi).1)
                simp [h3]
              · simp only [if_neg h1, if_neg h2, if_neg (show ¬ i < k + 1 by omega)]))
          go_wp2_with fail
          go_roundw
          case rel => exact ⟨k + 1, by omega, by go_num, HNEXT.out⟩
          case measure => simp [intOf]; omega
    · obtain rfl : k = N := by omega
      have g0 : decide ((k : Int) < (k : Int)) = false := by rw [decide_eq_false_iff_not]; omega
      have HA1 : Hid (Ap1 base gl k V n w (fun i => marks i (n i)) wr) := Lib.hid (HA.out.congr (fun i hi => (if_pos hi).symm))
      have HA2 : Hid (Ap2 base gl k V n w 0 (fun _ => undef) (.slice (some ⟨wr.heap.size, 0, none⟩) 0 0) (wr.alloc (.cells #[] 22))) := Lib.hid (Ap2.first HA1.out HL.out ((Below.refl _ _).alloc (Nat.le_refl _) _) _ (own0 wr _))
      obtain ⟨N, rfl⟩ : ∃ N, N = k := ⟨k, rfl⟩
      clear HA HA1 H1 hk hkN
      go_wp2_with fail
      clear g0
      go_loopw [6, 40] (fun gs i w' => ∃ (k : Nat) (G : Nat → Value), k ≤ N ∧ i = .int .i64 k ∧ Ap2 base gl N V n w k G gs w') (fun _ i _ => N - (intOf i).toNat)
      case atStart => exact ⟨0, _, Nat.zero_le _, rfl, HA2.out⟩
      case round =>
        obtain ⟨gs0, rfl⟩ : ∃ x, x = u6 := ⟨u6, rfl⟩
        obtain ⟨k, G, hk, rfl, hap⟩ := hrel
        have HB := Lib.hid hap
        clear hap HA2
        by_cases hkN : k < N
        · have f1 : decide (k < N) = true := by rw [decide_eq_true_eq]; exact hkN
          have f1' : decide ((k : Int) < (N : Int)) = true := by rw [decide_eq_true_eq]; omega
          have hc := HB.out.cell k hkN
          obtain ⟨ao, c, hV⟩ := HL.out.len hkN
          have H3 : Hid (Ap3 base gl N V n w k 0 G gs0 (.slice ao (n k) c) wr) := Lib.hid (by have := HB.out.start HL.out hkN; rw [hV] at this; exact this)
          rw [hV] at hc
          have hnb : n k ≤ 140737488351232 := (HLEN.out k hkN).2
          have hkb : k ≤ 1000 := by omega
          clear hV
          obtain ⟨nk, hnk⟩ : ∃ q, n k = q := ⟨_, rfl⟩
          have HNK := Lib.hid hnk
          rw [hnk] at hnb hc H3
          clear hnk
          go_wp2_with fail
          clear hc f1 f1'
          go_loopw [8] (fun l w' => ∃ m : Nat, m ≤ 10 ∧ Ap3 base gl N V n w k m G gs0 l w') (fun l _ => nk + 10 - sliceLen l)
          case atStart => exact ⟨0, Nat.zero_le _, H3.out⟩
          case round =>
            obtain ⟨m, hm, hap⟩ := hrel
            obtain ⟨lo, lc, rfl⟩ := own_len hap.own
            have HC := Lib.hid hap
            clear hap H3
            rw [HNK.out]
            obtain ⟨q, hq⟩ : ∃ q, nk + m = q := ⟨_, rfl⟩
            have w10 : wrap64 ((nk : Int) + 10) = (nk : Int) + 10 ∧ IntKind.i64.wrap ((nk : Int) + 10) = (nk : Int) + 10 := ⟨IntWalk.wrap64_in _ (by omega), IntWalk.i64_in _ (by omega)⟩
            obtain ⟨w10a, w10b⟩ := w10
            rw [hq]
            by_cases hm10 : m < 10
            · have f3 : decide ((q : Int) < (nk : Int) + 10) = true := by rw [decide_eq_true_eq]; omega
              obtain ⟨⟨a1, a1'⟩, ⟨a2, a2'⟩, ⟨a3, a3'⟩, ⟨a4, a4'⟩, ⟨a5, a5'⟩⟩ := ap_vals k q (by omega) (by omega)
              have hqb : q ≤ 140737488351300 := by omega
              have HC2 : Hid (Ap3 base gl N V n w k m G gs0 (.slice lo q lc) wr) := Lib.hid (by have := HC.out; rw [HNK.out, hq] at this; exact this)
              have HCO : Hid (wr.ownsRow base 5 1 (.slice lo q lc) q (vBs (marks k q))) := Lib.hid (by have := HC2.out.own; rw [HNK.out, hq] at this; exact this)
              obtain ⟨bt, hbt⟩ : ∃ bt, mrk k q = bt := ⟨_, rfl⟩
              rw [hbt] at a5 a5'
              have HBT := Lib.hid hbt
              have HQ := Lib.hid hq
              have HBS : Hid (base ≤ wr.heap.size) := Lib.hid (Nat.le_trans HL.out.base0 HC2.out.bel.size)
              clear hbt HC
              go_wp2_with (at_builtin; refine stop ?_)
              refine unstop (wpList_appK tyB rfl _ _ rfl base _ q (vBs (marks k q)) rfl (World.ownsRow.alloc HCO.out _) _ 1 [vB bt] rfl (sl_lit _ _ _ 1 rfl (by omega)) (by omega) (by intro u hu; simp at hu; subst hu; rfl) (by omega) (by omega) (Nat.le_trans HBS.out (by simp)) ?_)
              intro v2 w2 hown2 hg2 hat2 hkeep2
              have HN2 : Hid (Ap3 base gl N V n w k (m + 1) G gs0 v2 w2) := Lib.hid ((HC2.out.below HL.out ((Below.refl _ _).alloc (Nat.le_refl _) _)).app HL.out hkN (by rw [HNK.out, HQ.out, HBT.out]; exact hown2) hg2 hat2 (by rw [HNK.out, HQ.out]; exact hkeep2))
              obtain ⟨lo2, lc2, rfl⟩ := own_len hown2
              clear hown2 hg2 hat2 hkeep2
              go_wp2_with fail
              go_roundw
              case rel => exact ⟨m + 1, by omega, HN2.out⟩
              case measure => simp [sliceLen]; omega
            · obtain rfl : m = 10 := by omega
              have f3 : decide ((q : Int) < (nk : Int) + 10) = false := by rw [decide_eq_false_iff_not]; omega
              have HC2 : Hid (Ap3 base gl N V n w k 10 G gs0 (.slice lo q lc) wr) := Lib.hid (by have := HC.out; rw [HNK.out, hq] at this; exact this)
              have HROW : Hid (wr.ownsRow base 22 1 gs0 k ((List.range k).map G)) := Lib.hid HC2.out.row
              have HBS : Hid (base ≤ wr.heap.size) := Lib.hid (Nat.le_trans HL.out.base0 HC2.out.bel.size)
              clear HC
              go_wp2_with (at_builtin; refine stop ?_)
              refine unstop (wpList_appK tyS rfl _ _ rfl base _ k ((List.range k).map G) rfl (World.ownsRow.alloc HROW.out _) _ 1 [.slice lo q lc] rfl (sl_lit _ _ _ 1 rfl (by omega)) (by omega) (by intro u hu; simp at hu; subst hu; rfl) (by omega) (by omega) (Nat.le_trans HBS.out (by simp)) ?_)
              intro v2 w2 hown2 hg2 hat2 hkeep2
              have HN2 : Hid (Ap2 base gl N V n w (k + 1) (fun i => if i = k then .slice lo q lc else G i) v2 w2) := Lib.hid ((HC2.out.below HL.out ((Below.refl _ _).alloc (Nat.le_refl _) _)).take HL.out hkN hown2 hg2 hat2 hkeep2)
              clear hown2 hg2 hat2 hkeep2
              go_wp2_with fail
              go_roundw
              case rel => exact ⟨k + 1, _, by omega, by go_num, HN2.out⟩
              case measure => simp [intOf]; omega
        · obtain ⟨M, rfl⟩ : ∃ M, M = k := ⟨k, rfl⟩
          obtain rfl : M = N := by omega
          have g0 : decide ((M : Int) < (M : Int)) = false := by rw [decide_eq_false_iff_not]; omega
          obtain ⟨wf, rfl⟩ : ∃ x, x = wr := ⟨wr, rfl⟩
          obtain ⟨go, gc, rfl⟩ := own_len HB.out.row
          have HGC : Hid (∀ k, k < M → ∃ gg, go = some ⟨gg, 0, none⟩ ∧ wf.cell? ⟨gg, k, none⟩ = some (G k)) := Lib.hid (fun k hk => by
            have hr := HB.out.row
            rcases hr.2 with ⟨_, h0⟩ | ⟨gg, cap, cur, hv, _⟩
            · omega
            · simp only [Value.slice.injEq] at hv
              obtain ⟨rfl, _, rfl⟩ := hv
              exact ⟨gg, rfl, (own_cell hr (by simp [hk])).1⟩)
          clear hk hkN
          go_wp2_with fail
          clear g0
          go_loopw [70] (fun i w' => ∃ k : Nat, k ≤ M ∧ i = .int .i64 k ∧ ∃ q, w' = wf.drewN q) (fun i _ => M - (intOf i).toNat)
          case atStart => exact ⟨0, Nat.zero_le _, rfl, 0, rfl⟩
          case round =>
            obtain ⟨k, hk, rfl, q, rfl⟩ := hrel
            by_cases hkN : k < M
            · have f1 : decide (k < M) = true := by rw [decide_eq_true_eq]; exact hkN
              have f1' : decide ((k : Int) < (M : Int)) = true := by rw [decide_eq_true_eq]; omega
              obtain ⟨gg, rfl, hgc⟩ := HGC.out k hkN
              obtain ⟨a, ac, hGk, hcell⟩ := (HB.out.gB k hkN).read
              obtain ⟨a', ac', hVk, hcell'⟩ := (HB.out.vR k hkN).read
              rw [marks_len] at hGk hVk
              have hlc := HB.out.cell k hkN
              rw [hGk] at hgc
              rw [hVk] at hlc
              have HC := Lib.hid hcell
              have HC' := Lib.hid hcell'
              have hnb : n k ≤ 140737488351232 := (HLEN.out k hkN).2
              have hkb : k ≤ 1000 := by omega
              obtain ⟨nk, hnk⟩ : ∃ nk, n k = nk := ⟨_, rfl⟩
              obtain ⟨N10, hN10⟩ : ∃ N10, nk + 10 = N10 := ⟨_, rfl⟩
              rw [hnk] at hnb hgc hlc HC HC'
              rw [hN10] at hgc HC
              have HN10 := Lib.hid hN10
              clear hGk hVk hcell hcell' hnk hN10
              go_wp2_with fail
              clear hgc
              go_loopw [77] (fun i w' => ∃ j : Nat, j ≤ N10 ∧ i = .int .i64 j ∧ ∃ q, w' = wf.drewN q) (fun i _ => N10 - (intOf i).toNat)
              case atStart => exact ⟨0, Nat.zero_le _, rfl, q, rfl⟩
              case round =>
                obtain ⟨j, hj, rfl, q2, rfl⟩ := hrel
                have hjb : j ≤ 140737488351300 := by have := HN10.out; omega
                by_cases hjn : j < N10
                · have f2 : decide (j < N10) = true := by rw [decide_eq_true_eq]; exact hjn
                  have f2' : decide ((j : Int) < (N10 : Int)) = true := by rw [decide_eq_true_eq]; omega
                  obtain ⟨⟨a1, a1'⟩, ⟨a2, a2'⟩, ⟨a3, a3'⟩, ⟨a4, a4'⟩, ⟨a5, a5'⟩⟩ := ap_vals k j hkb hjb
                  obtain ⟨b1, o1, rfl, hx1⟩ := HC.out j (by rw [marks_len]; exact hjn)
                  have e1 : (marks k N10)[j]'(by rw [marks_len]; exact hjn) = mrk k j := by simp [marks]
                  rw [e1] at hx1
                  have HX2 : Hid (j < nk → ∃ b2 o2, a' = some ⟨b2, o2, none⟩ ∧ wf.cell? ⟨b2, o2 + j, none⟩ = some (.int .u8 ((mrk k j).toNat : Int))) := Lib.hid (fun h => by
                    obtain ⟨b2, o2, h1, h2⟩ := HC'.out j (by rw [marks_len]; exact h)
                    have e2 : (marks k nk)[j]'(by rw [marks_len]; exact h) = mrk k j := by simp [marks]
                    rw [e2] at h2
                    exact ⟨b2, o2, h1, h2⟩)
                  clear e1
                  generalize (mrk k j).toNat = mv at a5 a5' hx1 HX2
                  have ee : ((mv : Int) != (mv : Int)) = false := by simp
                  have ee' : (mv != mv) = false := by simp
                  by_cases hjk : j < nk
                  · have f3 : decide (j < nk) = true := by rw [decide_eq_true_eq]; exact hjk
                    have f3' : decide ((j : Int) < (nk : Int)) = true := by rw [decide_eq_true_eq]; omega
                    obtain ⟨b2, o2, rfl, hx2⟩ := HX2.out hjk
                    go_wp2_with fail
                    go_quiet (fail)
                    go_wp2_with fail
                    go_roundw
                    case rel => exact ⟨j + 1, by omega, by go_num, _, rfl⟩
                    case measure => simp [intOf]; omega
                  · have f3 : decide (j < nk) = false := by rw [decide_eq_false_iff_not]; exact hjk
                    have f3' : decide ((j : Int) < (nk : Int)) = false := by rw [decide_eq_false_iff_not]; omega
                    go_wp2_with fail
                    go_quiet (fail)
                    go_wp2_with fail
                    go_roundw
                    case rel => exact ⟨j + 1, by omega, by go_num, _, rfl⟩
                    case measure => simp [intOf]; omega
                · obtain rfl : j = N10 := by omega
                  have f2' : decide ((j : Int) < (j : Int)) = false := by rw [decide_eq_false_iff_not]; omega
                  go_wp2_with fail
                  go_roundw
                  case rel => exact ⟨k + 1, by omega, by go_num, q2, rfl⟩
                  case measure => simp [intOf]; omega
            · obtain rfl : k = M := by omega
              have f1' : decide ((k : Int) < (k : Int)) = false := by rw [decide_eq_false_iff_not]; omega
              go_wp2_with fail
              go_ret
              exact ⟨rfl, below_drewN HB.out.bel q⟩
end Go.Proofs.Ytfkdfdcnmbaheaa
