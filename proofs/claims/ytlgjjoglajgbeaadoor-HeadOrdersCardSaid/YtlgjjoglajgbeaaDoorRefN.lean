/- burnishref12: Small, Letter, Named. By an AI agent. -/
import Derived.Test.YtlgjjoglajgbeaaDoorNamed
import Derived.BigFrame
namespace Go.Proofs.YtlgjjoglajgbeaaDoor
open Go.RowKit Go.BigFrame
set_option linter.unusedVariables false
set_option linter.unusedSimpArgs false
set_option maxRecDepth 20000

theorem refSmall_any (c : UInt8) (w : World) : Calls Tryd.prog 18 #[.int .u8 ((c.toNat : Nat) : Int)] w fun e w' => e = .returned (.bool (smallU c)) ∧ w = w' := by
  obtain ⟨n, hn⟩ : ∃ n, c.toNat = n := ⟨_, rfl⟩
  have S : Hid (smallU c = (decide ((97 : Int) ≤ (n : Int)) && decide ((n : Int) ≤ 122))) := Lib.hid (by
    unfold smallU; rw [hn, Bool.eq_iff_iff]; simp only [Bool.and_eq_true, decide_eq_true_eq]; omega)
  rw [hn, S.out]
  clear hn S
  rcases h1 : decide ((97 : Int) ≤ (n : Int)) with _ | _ <;> rcases h2 : decide ((n : Int) ≤ (122 : Int)) with _ | _
  all_goals
    go_enter Tryd.func18, Tryd.ntmps18
    go_wp2
    go_ret
    exact ⟨rfl, rfl⟩
theorem refLetter_any (c : UInt8) (w : World) : Calls Tryd.prog 46 #[.int .u8 ((c.toNat : Nat) : Int)] w fun e w' => e = .returned (.bool (letterU c)) ∧ w = w' := by
  have SM := Lib.hid (refSmall_any c w)
  obtain ⟨n, hn⟩ : ∃ n, c.toNat = n := ⟨_, rfl⟩
  obtain ⟨s, hs⟩ : ∃ s, smallU c = s := ⟨_, rfl⟩
  have S : Hid (letterU c = (s || (decide ((65 : Int) ≤ (n : Int)) && decide ((n : Int) ≤ 90)))) := Lib.hid (by
    unfold letterU
    rw [hn, hs]
    have e1 : decide (65 ≤ n) = decide ((65 : Int) ≤ (n : Int)) := by rw [decide_eq_decide]; omega
    have e2 : decide (n ≤ 90) = decide ((n : Int) ≤ 90) := by rw [decide_eq_decide]; omega
    rw [e1, e2])
  rw [hn, S.out]
  rw [hn, hs] at SM
  clear hn S hs
  rcases h1 : decide ((65 : Int) ≤ (n : Int)) with _ | _ <;> rcases h2 : decide ((n : Int) ≤ (90 : Int)) with _ | _ <;> cases s
  all_goals
    go_enter Tryd.func46, Tryd.ntmps46
    go_wp2_with fail
    refine SM.out.mono ?_; rintro e w' ⟨rfl, rfl⟩
    go_wp2_with fail
    go_ret
    exact ⟨rfl, rfl⟩
theorem named_len {nm : List UInt8} (h : nm.length ≠ 4) : namedB nm = false := by
  unfold namedB; rw [Bool.and_eq_false_iff]; left; rw [decide_eq_false_iff_not]; exact h
theorem str_index (nm : List UInt8) (k : Nat) (h : k < nm.length) (w : World) : (Instr.index 9 (.string (strOf nm)) (.int .i64 (k : Int))).run Tryd.prog w = .ok (.int .u8 ((nm[k].toNat : Nat) : Int)) w := by
  rw [run_index_string w 9 (strOf nm) .i64 (k : Int) Tryd.underlying9, dif_pos ⟨Int.natCast_nonneg _, by rw [strOf_size]; omega⟩]
  simp only [Int.toNat_natCast]
  rw [strOf_get nm k h]
set_option maxHeartbeats 800000 in
theorem refNamed_any (nm : List UInt8) (w : World) (hl : nm.length ≤ 9223372036854775807) : Calls Tryd.prog 33 #[.string (strOf nm)] w fun e w' => e = .returned (.bool (namedB nm)) ∧ w = w' := by
  have hs : (strOf nm).size = nm.length := strOf_size nm
  by_cases h4 : nm.length = 4
  · have SI := Lib.hid (fun k hk => str_index nm k hk w)
    have H4 := Lib.hid h4
    rw [h4] at hs
    clear h4 hl
    go_enter Tryd.func33, Tryd.ntmps33
    go_wp2_with fail
    go_loop [3] (fun i => ∃ k : Nat, k ≤ 4 ∧ i = .int .i64 k ∧ (nm.take k).all letterU = true) (fun i => 4 - (intOf i).toNat)
    case atStart => exact ⟨0, Nat.zero_le _, rfl, rfl⟩
    case round =>
      obtain ⟨k, hk, rfl, hall⟩ := hrel
      have HA := Lib.hid hall
      clear hall
      by_cases hkl : k < 4
      · have hkn : k < nm.length := by have := H4.out; omega
        have si := SI.out k hkn
        have NO := Lib.hid (named_no nm k hkn)
        have SN := Lib.hid (all_snoc nm k hkn HA.out)
        have LE := Lib.hid (refLetter_any nm[k] w)
        rcases hb : letterU nm[k] with _ | _
        · rw [hb] at LE
          have NB := Lib.hid (NO.out hb)
          obtain ⟨n, hn⟩ : ∃ n, nm[k].toNat = n := ⟨_, rfl⟩
          rw [hn] at si LE
          clear hb hn
          go_wp2_with fail
          refine LE.out.mono ?_; rintro e w' ⟨rfl, rfl⟩
          go_wp2_with fail
          go_ret
          exact ⟨rb NB.out.symm, rfl⟩
        · rw [hb] at LE
          have NB := Lib.hid (SN.out hb)
          obtain ⟨n, hn⟩ : ∃ n, nm[k].toNat = n := ⟨_, rfl⟩
          rw [hn] at si LE
          clear hb hn
          go_wp2_with fail
          refine LE.out.mono ?_; rintro e w' ⟨rfl, rfl⟩
          go_wp2_with fail
          go_round
          case rel => exact ⟨k + 1, by omega, by go_num, NB.out⟩
          case measure => simp [intOf]; omega
      · obtain rfl : k = 4 := by omega
        have NB : Hid (namedB nm = true) := Lib.hid (by
          unfold namedB
          have := HA.out
          rw [List.take_of_length_le (by have := H4.out; omega)] at this
          rw [this, H4.out]; rfl)
        go_wp2_with fail
        go_ret
        exact ⟨rb NB.out.symm, rfl⟩
  · have NB := Lib.hid (named_len h4)
    have e1 : ((nm.length : Int) == 4) = false := by rw [beq_eq_false_iff_ne]; omega
    have e2 : ((nm.length : Int) != 4) = true := by rw [bne_iff_ne]; omega
    clear h4
    go_enter Tryd.func33, Tryd.ntmps33
    go_wp2_with fail
    go_ret
    exact ⟨rb NB.out.symm, rfl⟩
end Go.Proofs.YtlgjjoglajgbeaaDoor
