/- burnishref12: Small, Letter, Named, Sign, Same. By an AI agent. -/
import Derived.Test.YtmdbnnnaiidheaaChunkV
import Derived.Test.YtmdbnnnaiidheaaChunkG
import Derived.Test.YtmdbnnnaiidheaaQO
namespace Go.Proofs.Ytmdbnnnaiidheaa
open Go.RowKit Go.BigFrame
set_option linter.unusedVariables false
set_option linter.unusedSimpArgs false

theorem refSmall_any (c : UInt8) (w : World) : Calls Try.prog 49 #[.int .u8 ((c.toNat : Nat) : Int)] w fun e w' => e = .returned (.bool (smallU c)) ∧ w = w' := by
  obtain ⟨n, hn⟩ : ∃ n, c.toNat = n := ⟨_, rfl⟩
  have S : Hid (smallU c = (decide ((97 : Int) ≤ (n : Int)) && decide ((n : Int) ≤ 122))) := Lib.hid (by
    unfold smallU; rw [hn, Bool.eq_iff_iff]; simp only [Bool.and_eq_true, decide_eq_true_eq]; omega)
  rw [hn, S.out]
  clear hn S
  rcases h1 : decide ((97 : Int) ≤ (n : Int)) with _ | _ <;> rcases h2 : decide ((n : Int) ≤ (122 : Int)) with _ | _
  all_goals
    go_enter Try.func49, Try.ntmps49
    go_wp2
    go_ret
    exact ⟨rfl, rfl⟩
theorem refLetter_any (c : UInt8) (w : World) : Calls Try.prog 38 #[.int .u8 ((c.toNat : Nat) : Int)] w fun e w' => e = .returned (.bool (letterU c)) ∧ w = w' := by
  have SM := Lib.hid (refSmall_any c w)
  obtain ⟨n, hn⟩ : ∃ n, c.toNat = n := ⟨_, rfl⟩
  obtain ⟨s, hs⟩ : ∃ s, smallU c = s := ⟨_, rfl⟩
  have S : Hid (letterU c = (s || (decide ((65 : Int) ≤ (n : Int)) && decide ((n : Int) ≤ 90)))) := Lib.hid (by
    unfold letterU
    rw [hn, hs]
    have e1 : decide (65 ≤ n) = decide ((65 : Int) ≤ (n : Int)) := by rw [decide_eq_decide]; omega
    have e2 : decide (n ≤ 90) = decide ((n : Int) ≤ 90) := by rw [decide_eq_decide]; omega
    rw [e1, e2])
  rw [hn, S.out]
  rw [hn, hs] at SM
  clear hn S hs
  rcases h1 : decide ((65 : Int) ≤ (n : Int)) with _ | _ <;> rcases h2 : decide ((n : Int) ≤ (90 : Int)) with _ | _ <;> cases s
  all_goals
    go_enter Try.func38, Try.ntmps38
    go_wp2_with fail
    refine SM.out.mono ?_; rintro e w' ⟨rfl, rfl⟩
    go_wp2_with fail
    go_ret
    exact ⟨rfl, rfl⟩
theorem named_len {nm : List UInt8} (h : nm.length ≠ 4) : namedB nm = false := by
  unfold namedB; rw [Bool.and_eq_false_iff]; left; rw [decide_eq_false_iff_not]; exact h
theorem str_index (nm : List UInt8) (k : Nat) (h : k < nm.length) (w : World) : (Instr.index 9 (.string (strOf nm)) (.int .i64 (k : Int))).run Try.prog w = .ok (.int .u8 ((nm[k].toNat : Nat) : Int)) w := by
  rw [run_index_string w 9 (strOf nm) .i64 (k : Int) Try.underlying9, dif_pos ⟨Int.natCast_nonneg _, by rw [strOf_size]; omega⟩]
  simp only [Int.toNat_natCast]
  rw [strOf_get nm k h]
set_option maxHeartbeats 800000 in
theorem refNamed_any (nm : List UInt8) (w : World) (hl : nm.length ≤ 9223372036854775807) : Calls Try.prog 28 #[.string (strOf nm)] w fun e w' => e = .returned (.bool (namedB nm)) ∧ w = w' := by
  have hs : (strOf nm).size = nm.length := strOf_size nm
  by_cases h4 : nm.length = 4
  · have SI := Lib.hid (fun k hk => str_index nm k hk w)
    have H4 := Lib.hid h4
    rw [h4] at hs
    clear h4 hl
    go_enter Try.func28, Try.ntmps28
    go_wp2_with fail
    go_loop [3] (fun i => ∃ k : Nat, k ≤ 4 ∧ i = .int .i64 k ∧ (nm.take k).all letterU = true) (fun i => 4 - (intOf i).toNat)
    case atStart => exact ⟨0, Nat.zero_le _, rfl, rfl⟩
    case round =>
      obtain ⟨k, hk, rfl, hall⟩ := hrel
      have HA := Lib.hid hall
      clear hall
      by_cases hkl : k < 4
      · have hkn : k < nm.length := by have := H4.out; omega
        have si := SI.out k hkn
        have NO := Lib.hid (named_no nm k hkn)
        have SN := Lib.hid (all_snoc nm k hkn HA.out)
        have LE := Lib.hid (refLetter_any nm[k] w)
        rcases hb : letterU nm[k] with _ | _
        · rw [hb] at LE
          have NB := Lib.hid (NO.out hb)
          obtain ⟨n, hn⟩ : ∃ n, nm[k].toNat = n := ⟨_, rfl⟩
          rw [hn] at si LE
          clear hb hn
          go_wp2_with fail
          refine LE.out.mono ?_; rintro e w' ⟨rfl, rfl⟩
          go_wp2_with fail
          go_ret
          exact ⟨rb NB.out.symm, rfl⟩
        · rw [hb] at LE
          have NB := Lib.hid (SN.out hb)
          obtain ⟨n, hn⟩ : ∃ n, nm[k].toNat = n := ⟨_, rfl⟩
          rw [hn] at si LE
          clear hb hn
          go_wp2_with fail
          refine LE.out.mono ?_; rintro e w' ⟨rfl, rfl⟩
          go_wp2_with fail
          go_round
          case rel => exact ⟨k + 1, by omega, by go_num, NB.out⟩
          case measure => simp [intOf]; omega
      · obtain rfl : k = 4 := by omega
        have NB : Hid (namedB nm = true) := Lib.hid (by
          unfold namedB
          have := HA.out
          rw [List.take_of_length_le (by have := H4.out; omega)] at this
          rw [this, H4.out]; rfl)
        go_wp2_with fail
        go_ret
        exact ⟨rb NB.out.symm, rfl⟩
  · have NB := Lib.hid (named_len h4)
    have e1 : ((nm.length : Int) == 4) = false := by rw [beq_eq_false_iff_ne]; omega
    have e2 : ((nm.length : Int) != 4) = true := by rw [bne_iff_ne]; omega
    clear h4
    go_enter Try.func28, Try.ntmps28
    go_wp2_with fail
    go_ret
    exact ⟨rb NB.out.symm, rfl⟩
theorem refSign_any (w : World) : Calls Try.prog 26 #[] w fun e w' => e = .returned (.slice (some ⟨w.heap.size, 0, none⟩) 8 8) ∧ w' = w.alloc (.cells (vBs signL).toArray 5) := by
  go_enter Try.func26, Try.ntmps26
  go_wp2_with fail
  go_ret
  exact ⟨rfl, rfl⟩
abbrev SameC (w : World) (b1 p1 b2 p2 : Nat) (m1 m2 d1 d2 : List UInt8) (y1 y2 : Value) (W : World) : Prop :=
  W.cell? ⟨b1, p1, none⟩ = some (.string (strOf m1)) ∧ W.cell? ⟨b1, p1 + 1, none⟩ = some y1 ∧ W.cell? ⟨b2, p2, none⟩ = some (.string (strOf m2)) ∧ W.cell? ⟨b2, p2 + 1, none⟩ = some y2 ∧ (convert 22 9 y1).run Try.prog W = .ok (.string (strOf d1)) W ∧ (convert 22 9 y2).run Try.prog W = .ok (.string (strOf d2)) W ∧ Below w.heap.size w W
theorem conv_str {v : Value} {l : List UInt8} {w : World} (hb : Bs w v l) : (convert 22 9 v).run Try.prog w = .ok (.string (strOf l)) w :=
  run_str (P := Try.prog) w 22 5 9 Try.underlying22 Try.underlying5 Try.underlying9 hb
set_option maxHeartbeats 1600000 in
theorem csame_any (v1 v2 : Value) (cs ds : List Chk) (w : World) (h1 : Cks w v1 cs) (h2 : Cks w v2 ds) (hl : cs.length ≤ 140737488351232) :
    Calls Try.prog 13 #[v1, v2] w fun e w' => e = .returned (.bool (decide (cs = ds))) ∧ Below w.heap.size w w' := by
  obtain ⟨a1, c1, rfl, x1⟩ := h1
  obtain ⟨a2, c2, rfl, x2⟩ := h2
  have X1 := Lib.hid x1
  have X2 := Lib.hid x2
  clear x1 x2
  by_cases hlen : cs.length = ds.length
  rotate_left
  · have e1 : ((cs.length : Int) != (ds.length : Int)) = true := by rw [bne_iff_ne]; omega
    have e2 : (cs.length != ds.length) = true := by rw [bne_iff_ne]; exact hlen
    have e3 : (cs.length == ds.length) = false := by rw [beq_eq_false_iff_ne]; exact hlen
    have NE : Hid (decide (cs = ds) = false) := Lib.hid (by rw [decide_eq_false_iff_not]; intro e; exact hlen (by rw [e]))
    have BR := Lib.hid (Below.refl w.heap.size w)
    clear hlen
    go_enter Try.func13, Try.ntmps13
    go_wp2_with fail
    go_ret
    exact ⟨rb NE.out.symm, BR.out⟩
  obtain ⟨n, hn⟩ : ∃ n, cs.length = n := ⟨_, rfl⟩
  have hm : ds.length = n := by omega
  rw [hn, hm]
  have HN := Lib.hid hn
  have HM := Lib.hid hm
  have hn2 : n ≤ 140737488351232 := by omega
  clear hlen hn hm hl
  go_enter Try.func13, Try.ntmps13
  go_wp2_with fail
  go_loopw [5] (fun i W => ∃ k : Nat, k ≤ n ∧ i = .int .i64 k ∧ cs.take k = ds.take k ∧ Below w.heap.size w W) (fun i _ => n - (intOf i).toNat)
  case atStart => exact ⟨0, Nat.zero_le _, rfl, rfl, Below.refl _ _⟩
  case round =>
    obtain ⟨k, hk, rfl, heq, hbel⟩ := hrel
    have BE := Lib.hid hbel
    have EQ := Lib.hid heq
    by_cases hkl : k < n
    · have k1 : k < cs.length := by have := HN.out; omega
      have k2 : k < ds.length := by have := HM.out; omega
      obtain ⟨b1, o1, y1, rfl, p1, p2, p3⟩ := X1.out k k1
      obtain ⟨b2, o2, y2, rfl, p4, p5, p6⟩ := X2.out k k2
      have T1 := Lib.hid (show cs.take (k + 1) = cs.take k ++ [cs[k]] from List.take_succ_eq_append_getElem k1)
      have T2 := Lib.hid (show ds.take (k + 1) = ds.take k ++ [ds[k]] from List.take_succ_eq_append_getElem k2)
      have NE : Hid (cs[k] ≠ ds[k] → decide (cs = ds) = false) := Lib.hid (fun h => by
        rw [decide_eq_false_iff_not]
        intro e
        exact h (by simp [e]))
      obtain ⟨⟨m1, d1⟩, hc1⟩ : ∃ c, cs[k] = c := ⟨_, rfl⟩
      obtain ⟨⟨m2, d2⟩, hc2⟩ : ∃ c, ds[k] = c := ⟨_, rfl⟩
      rw [hc1] at p1 p3 T1 NE
      rw [hc2] at p4 p6 T2 NE
      simp only at p1 p3 p4 p6
      have CD : SameC w b1 (o1 + k * 2) b2 (o2 + k * 2) m1 m2 d1 d2 y1 y2 wr.drew := by
        have hbd : Below w.heap.size w wr.drew := hbel.drew
        exact ⟨cell_old hbd p1, cell_old hbd p2, cell_old hbd p4, cell_old hbd p5, conv_str (p3.old hbd), conv_str (p6.old hbd), hbd⟩
      have f1 : ((k : Int) < (n : Int)) := by omega
      have f2 : decide ((k : Int) < (n : Int)) = true := by rw [decide_eq_true_eq]; omega
      have f3 : (k : Int) + 1 ≤ (n : Int) := by omega
      clear p1 p2 p3 p4 p5 p6 hc1 hc2 heq hbel
      by_cases hm : m1 = m2
      · subst hm
        have s1 : ((strOf m1).toList == (strOf m1).toList) = true := by simp
        by_cases hd : d1 = d2
        · subst hd
          have TK : Hid (cs.take (k + 1) = ds.take (k + 1)) := Lib.hid (by rw [T1.out, T2.out, EQ.out])
          go_wp2_with fail
          refine wp_region_q (SameC w b1 (o1 + k * 2) b2 (o2 + k * 2) m1 m1 d1 d1 y1 y2) (by kernel_rfl) (by kernel_rfl) CD ?_
          clear CD
          repeat
            first
            | go_big_quiet_skip
            | (go_big_quiet_want
               first
               | (go_big_quiet_op; go_big_quiet_on)
               | (apply Exists.intro
                  refine ⟨fun X hX => ?_, ?_⟩
                  · obtain ⟨e1, e2, e3, e4, e5, e6, eZ⟩ := hX
                    clear eZ
                    unfold Oper.quietAt
                    go_simp
                    first
                    | exact ⟨rfl, rfl⟩
                    | exact rfl
                  go_big_quiet_on
                  try simp only [Act.put, List.setIfInBounds_toArray, List.set_cons_zero, List.set_cons_succ]))
          refine wpQuiet_nil ?_
          rintro X ⟨-, -, -, -, -, -, hbX⟩
          have BX := Lib.hid hbX
          clear hbX
          go_wp2_with fail
          go_roundw
          case rel => exact ⟨k + 1, by omega, by go_num, TK.out, BX.out⟩
          case measure => simp [intOf]; omega
        · have s2 : ((strOf d1).toList == (strOf d2).toList) = false := by rw [strOf_toList, strOf_toList, beq_eq_false_iff_ne]; exact hd
          have NEQ := Lib.hid (NE.out (by intro e; exact hd (congrArg Prod.snd e)))
          clear hd
          go_wp2_with fail
          refine wp_region_q (SameC w b1 (o1 + k * 2) b2 (o2 + k * 2) m1 m1 d1 d2 y1 y2) (by kernel_rfl) (by kernel_rfl) CD ?_
          clear CD
          repeat
            first
            | go_big_quiet_skip
            | (go_big_quiet_want
               first
               | (go_big_quiet_op; go_big_quiet_on)
               | (apply Exists.intro
                  refine ⟨fun X hX => ?_, ?_⟩
                  · obtain ⟨e1, e2, e3, e4, e5, e6, eZ⟩ := hX
                    clear eZ
                    unfold Oper.quietAt
                    go_simp
                    first
                    | exact ⟨rfl, rfl⟩
                    | exact rfl
                  go_big_quiet_on
                  try simp only [Act.put, List.setIfInBounds_toArray, List.set_cons_zero, List.set_cons_succ]))
          refine wpQuiet_nil ?_
          rintro X ⟨-, -, -, -, -, -, hbX⟩
          have BX := Lib.hid hbX
          clear hbX
          go_wp2_with fail
          go_ret
          exact ⟨rb NEQ.out.symm, BX.out⟩
      · have s1 : ((strOf m1).toList == (strOf m2).toList) = false := by rw [strOf_toList, strOf_toList, beq_eq_false_iff_ne]; exact hm
        have NEQ := Lib.hid (NE.out (by intro e; exact hm (congrArg Prod.fst e)))
        clear hm
        go_wp2_with fail
        refine wp_region_q (SameC w b1 (o1 + k * 2) b2 (o2 + k * 2) m1 m2 d1 d2 y1 y2) (by kernel_rfl) (by kernel_rfl) CD ?_
        clear CD
        repeat
          first
          | go_big_quiet_skip
          | (go_big_quiet_want
             first
             | (go_big_quiet_op; go_big_quiet_on)
             | (apply Exists.intro
                refine ⟨fun X hX => ?_, ?_⟩
                · obtain ⟨e1, e2, e3, e4, e5, e6, eZ⟩ := hX
                  clear eZ
                  unfold Oper.quietAt
                  go_simp
                  first
                  | exact ⟨rfl, rfl⟩
                  | exact rfl
                go_big_quiet_on
                try simp only [Act.put, List.setIfInBounds_toArray, List.set_cons_zero, List.set_cons_succ]))
        refine wpQuiet_nil ?_
        rintro X ⟨-, -, -, -, -, -, hbX⟩
        have BX := Lib.hid hbX
        clear hbX
        go_wp2_with fail
        go_ret
        exact ⟨rb NEQ.out.symm, BX.out⟩
    · obtain rfl : k = n := by omega
      have DE : Hid (decide (cs = ds) = true) := Lib.hid (by
        rw [decide_eq_true_eq]
        rw [List.take_of_length_le (by have := HN.out; omega), List.take_of_length_le (by have := HM.out; omega)] at heq
        exact heq)
      have f2 : decide ((k : Int) < (k : Int)) = false := by rw [decide_eq_false_iff_not]; omega
      clear heq hbel
      go_wp2_with fail
      go_ret
      exact ⟨rb DE.out.symm, BE.out⟩
end Go.Proofs.Ytmdbnnnaiidheaa
