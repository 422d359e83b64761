/- slices.Chunk at bytes: the iterator. By an AI agent. -/
import Derived.Test.YtlgjjoglajgbeaaDoorRangeU
import Derived.Test.YtlgjjoglajgbeaaDoorCopy
import Derived.Test.YtlgjjoglajgbeaaDoorQT
import Derived.Deep.DeepCutAuto
import Derived.OwnWalkIn
import Derived.TacticsInMore
import Derived.LoopNIn
import Derived.LoopIn
import Derived.Handy
import Derived.BigQuiet
namespace Go.Proofs.YtlgjjoglajgbeaaDoor
open Go.RowKit Go.BigFrame
set_option linter.unusedVariables false
set_option linter.unusedSimpArgs false
attribute [local go_sem] Oper.semAt_some

theorem chunkB_any (a : Option Addr) (n c N : Nat) (w : World) (hN : 1 ≤ N) : Calls Tryd.prog 50 #[.slice a n c, .int .i64 (N : Nat)] w fun e w' =>
    e = .returned (.func (.func 52) #[] #[.pointer (some ⟨w.heap.size, 0, none⟩), .pointer (some ⟨w.heap.size + 1, 0, none⟩)]) ∧
    w' = (w.alloc (.cells #[.slice a n c] 24)).alloc (.cells #[.int .i64 (N : Nat)] 3) := by
  have d : decide ((N : Int) < 1) = false := by rw [decide_eq_false_iff_not]; omega
  have d' : decide (N < 1) = false := by rw [decide_eq_false_iff_not]; omega
  clear hN
  go_enter Tryd.func50, Tryd.ntmps50
  go_wp2
  go_ret
  exact ⟨rfl, rfl⟩
/-- what is handed over: parts of the row, by their places -/
def OkCh (b o N m : Nat) (pre : List Value) (x : Value) (W : World) : Prop := pre.length < m ∧ x = .slice (some ⟨b, o + pre.length * N, none⟩) N N
def FinCh (m : Nat) (pre : List Value) : Prop := pre.length = m
set_option maxRecDepth 20000 in
set_option maxHeartbeats 8000000 in
theorem chunkB_seq (n b1 b2 : Nat) (bs : List Nat) (b o N m c : Nat) (w : World) (hN : 1 ≤ N) (hsz : m * N ≤ 140737488351232) (hNs : N ≤ 140737488351232) (h1 : Boxed w b1 24 (.slice (some ⟨b, o, none⟩) (m * N) c)) (h2 : Boxed w b2 3 (.int .i64 (N : Nat))) (hb1 : b1 ∈ bs) (hb2 : b2 ∈ bs) (hc : m * N ≤ c) :
    SeqU n Tryd.prog 52 #[.pointer (some ⟨b1, 0, none⟩), .pointer (some ⟨b2, 0, none⟩)] (fun x => #[x]) bs (OkCh b o N m) (FinCh m) w := fun ll J Jx V hV hJ hJx hY h0 => by
  have YY := Lib.hid hY
  have HJ := Lib.hid hJ
  have X1 : Hid (Boxed V b1 24 (.slice (some ⟨b, o, none⟩) (m * N) c)) := Lib.hid (boxed_below h1 hV)
  have X2 : Hid (Boxed V b2 3 (.int .i64 (N : Nat))) := Lib.hid (boxed_below h2 hV)
  have J0 := Lib.hid h0
  obtain ⟨T, hT⟩ : ∃ T, m * N = T := ⟨_, rfl⟩
  rw [hT] at X1 hsz hc
  have HT := Lib.hid hT
  have HB := Lib.hid (show b1 ∈ bs ∧ b2 ∈ bs from ⟨hb1, hb2⟩)
  have BD := Lib.hid (show T ≤ c ∧ T ≤ 140737488351232 ∧ 1 ≤ N ∧ N ≤ 140737488351232 from ⟨hc, hsz, hN, hNs⟩)
  clear hY hJ hJx h0 h1 h2 hT hV hb1 hb2 hc hsz hN hNs
  refine callsIn_wide.2 ?_
  show Calls Tryd.prog 52 #[.func (.yield ll) #[] #[], .pointer (some ⟨b1, 0, none⟩), .pointer (some ⟨b2, 0, none⟩)] V _
  go_enter Tryd.func52, Tryd.ntmps52
  go_wp2_with fail
  go_loopw [4] (fun i W => ∃ (k : Nat) (pre : List Value), i = .int .i64 ((k * N : Nat) : Int) ∧ k ≤ m ∧ pre.length = k ∧ J pre W ∧ V.heap.size ≤ W.heap.size ∧ Boxed W b1 24 (.slice (some ⟨b, o, none⟩) T c) ∧ Boxed W b2 3 (.int .i64 (N : Nat))) (fun i _ => m * N + N - (intOf i).toNat)
  case atStart => exact ⟨0, [], by simp, Nat.zero_le _, rfl, J0.out, Nat.le_refl _, X1.out, X2.out⟩
  case round =>
    clear X1 X2 J0
    obtain ⟨k, pre, rfl, hk, hpre, hjj, hus, hx1, hx2⟩ := hrel
    obtain ⟨i, hi⟩ : ∃ i, k * N = i := ⟨_, rfl⟩
    have HI := Lib.hid hi
    have JJ := Lib.hid hjj
    have PRE := Lib.hid hpre
    have US := Lib.hid hus
    have X1 := Lib.hid hx1
    have X2 := Lib.hid hx2
    have c1 := hx1.cell
    have c2 := hx2.cell
    rw [hi]
    clear hjj hpre hus hx1 hx2 hi
    by_cases hkm : k < m
    · have bd := BD.out
      have hiN : i + N ≤ T := by
        rw [← HI.out, ← HT.out, ← Nat.succ_mul]
        exact Nat.mul_le_mul_right _ hkm
      have e1 : decide ((i : Int) < (T : Int)) = true := by rw [decide_eq_true_eq]; omega
      have e1' : decide (i < T) = true := by rw [decide_eq_true_eq]; omega
      have MN : Hid (¬ (T - i < N)) := Lib.hid (by omega)
      obtain ⟨e, he⟩ : ∃ e : Nat, i + N = e := ⟨_, rfl⟩
      have HE := Lib.hid he
      have G1 : Hid (IntKind.i64.wrap ((i : Int) + (N : Int)) = (e : Int)) := Lib.hid (by rw [IntWalk.i64_in _ (by omega)]; omega)
      have i1 : (i : Int) ≤ (T : Int) := by omega
      have i2 : (T : Int) ≤ (c : Int) := by omega
      have i3 : ¬ c = i := by omega
      have HIN := Lib.hid hiN
      clear hiN he bd
      have US3 := US.out
      go_upto_region 3 with (fail)
      refine wp_region_q (fun Y => Y.cell? ⟨b1, 0, none⟩ = some (.slice (some ⟨b, o, none⟩) T c) ∧ Y.cell? ⟨b2, 0, none⟩ = some (.int .i64 (N : Nat)) ∧ Below wr.heap.size wr Y) (by kernel_rfl) (by kernel_rfl) ⟨cell_old (Below.refl _ _).drew c1, cell_old (Below.refl _ _).drew c2, (Below.refl _ _).drew⟩ ?_
      clear c1 c2
      repeat
        first
        | go_big_quiet_skip
        | (go_big_quiet_want
           first
           | (go_big_quiet_op; go_big_quiet_on; try rw [if_neg MN.out])
           | (apply Exists.intro
              refine ⟨fun X hX => ?_, ?_⟩
              · obtain ⟨q1, q2, eZ⟩ := hX
                clear eZ
                unfold Oper.quietAt
                go_simp
                first
                | exact ⟨rfl, rfl⟩
                | exact rfl
              go_big_quiet_on
              try simp only [Act.put, List.setIfInBounds_toArray, List.set_cons_zero, List.set_cons_succ]; try rw [if_neg MN.out]))
      refine wpQuiet_nil ?_
      rintro Y ⟨c1, c2, hbY⟩
      have EN : Hid (e - i = N) := Lib.hid (by have := HE.out; omega)
      obtain ⟨f1, t1, as1, y1, hy1, hR1⟩ := YY.out pre (.slice (some ⟨b, o + i, none⟩) (e - i) (e - i)) Y (Nat.le_trans US.out hbY.size) (HJ.out _ _ _ JJ.out (hbY.mono US.out)) ⟨by rw [PRE.out]; exact hkm, by rw [PRE.out, HI.out, EN.out]⟩
      have RR := Lib.hid hR1
      have BY := Lib.hid hbY
      have HKM := Lib.hid hkm
      have g1 := G1.out
      have i4 : (i : Int) ≤ (e : Int) := by have := HE.out; omega
      have i5 : (e : Int) ≤ (c : Int) := by have := HE.out; have := BD.out; have := MN.out; omega
      have i6 : ¬ e = i := by have := HE.out; have := BD.out; omega
      clear hR1 hbY hkm US3 i1 i2 i3 e1 e1'
      go_upto_region 4 with (fail)
      refine (wpIn_wide (n := n - 1 + 1)).1 ?_
      gi_wp2_with fail
      refine RR.out.mono ?_
      rintro z W5 (⟨rfl, hj5, hk5⟩ | ⟨rfl, hj5, hk5⟩)
      · have J5 := Lib.hid hj5
        have K5 := Lib.hid hk5
        have Z1 : Hid (Boxed W5 b1 24 (.slice (some ⟨b, o, none⟩) T c)) := Lib.hid (by
          have h := boxed_below X1.out BY.out
          exact (hk5.2 b1 (.inl HB.out.1) h.lt).trans h)
        have Z2 : Hid (Boxed W5 b2 3 (.int .i64 (N : Nat))) := Lib.hid (by
          have h := boxed_below X2.out BY.out
          exact (hk5.2 b2 (.inl HB.out.2) h.lt).trans h)
        have z2 := Z2.out.cell
        have SZ : Hid (V.heap.size ≤ W5.heap.size) := Lib.hid (Nat.le_trans US.out (Nat.le_trans BY.out.size hk5.1))
        clear hj5 hk5 hy1 c1 c2 i4 i5 i6
        gi_wp2_with fail
        go_wp2_with fail
        go_roundw
        case rel => exact ⟨k + 1, pre ++ [_], by rw [← HE.out, ← HI.out, Nat.succ_mul], HKM.out, by rw [List.length_append, PRE.out]; rfl, J5.out, SZ.out, Z1.out, Z2.out⟩
        case measure =>
          have := HE.out
          have := HI.out
          have := HT.out
          have := BD.out
          have h2 : (k + 1) * N ≤ m * N := Nat.mul_le_mul_right _ HKM.out
          rw [Nat.succ_mul] at h2
          simp [intOf]
          omega
      · have J5 := Lib.hid hj5
        clear hj5 hk5 hy1 c1 c2 i4 i5 i6
        gi_wp2_with fail
        go_wp2_with fail
        refine bodyPost_ret (results_none rfl _ _ _) rfl ?_
        exact ⟨⟨_, rfl⟩, .inr ⟨_, J5.out⟩⟩
    · obtain rfl : k = m := by omega
      have hiT : i = T := by rw [← HI.out, HT.out]
      subst hiT
      have e1 : decide ((i : Int) < (i : Int)) = false := by rw [decide_eq_false_iff_not]; omega
      clear hkm
      go_wp2_with fail
      go_end0
      exact ⟨⟨_, rfl⟩, .inl ⟨pre, PRE.out, JJ.out⟩⟩
end Go.Proofs.YtlgjjoglajgbeaaDoor
