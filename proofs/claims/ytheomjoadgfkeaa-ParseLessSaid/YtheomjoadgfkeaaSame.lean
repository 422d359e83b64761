/- The walk of burnishnum.Ints. By an AI agent. -/
import Derived.Test.YtheomjoadgfkeaaProg
import Derived.Test.YtheomjoadgfkeaaInts
import Derived.Deep.QuietTactic
import Derived.BigQuiet
namespace Go.Proofs.Ytheomjoadgfkeaa
open Go.RowKit
set_option linter.unusedVariables false
set_option linter.unusedSimpArgs false

set_option maxHeartbeats 1600000 in
theorem ints_any (v v2 : Value) (l l2 : List Int) (w : World) (hb : Ns w v l) (hb2 : Ns w v2 l2) (hl : l.length ≤ 140737488355328) (hl2 : l2.length ≤ 140737488355328) :
    Calls Try.prog 12 #[v, v2] w fun e w' => e = .returned (.bool (decide (l = l2))) ∧ ∃ q, w' = w.drewN q := by
  obtain ⟨av, cap, rfl, hcell⟩ := hb.read
  obtain ⟨av2, cap2, rfl, hcell2⟩ := hb2.read
  by_cases hlen : l.length = l2.length
  case neg =>
    have e1 : ((l.length : Int) != (l2.length : Int)) = true := by rw [bne_iff_ne]; omega
    have e2 : (l.length != l2.length) = true := by rw [bne_iff_ne]; exact hlen
    have hd : Hid (decide (l = l2) = false) := Lib.hid (by rw [decide_eq_false_iff_not]; intro h; exact hlen (by rw [h]))
    clear hb hb2 hcell hcell2 hl hl2 hlen
    go_enter Try.func12, Try.ntmps12
    go_wp2_with fail
    go_ret
    exact ⟨rb hd.out.symm, 0, rfl⟩
  have e1 : ((l.length : Int) != (l2.length : Int)) = false := by rw [bne_eq_false_iff_eq]; omega
  have e2 : (l.length != l2.length) = false := by rw [bne_eq_false_iff_eq]; exact hlen
  have HC := Lib.hid hcell
  have HC2 := Lib.hid hcell2
  have HLEN := Lib.hid hlen
  have HL := Lib.hid hl
  clear hb hb2 hcell hcell2 hl hl2 hlen
  go_enter Try.func12, Try.ntmps12
  go_wp2_with fail
  clear e1 e2
  go_loopw [5, 13] (fun _ i w' => ∃ k : Nat, k ≤ l.length ∧ i = .int .i64 k ∧ l.take k = l2.take k ∧ ∃ q, w' = w.drewN q) (fun _ i _ => l.length - (intOf i).toNat)
  case atStart => exact ⟨0, Nat.zero_le _, rfl, by simp, 0, rfl⟩
  case round =>
    obtain ⟨k, hk, rfl, heq, q, rfl⟩ := hrel
    have HEQ := Lib.hid heq
    clear heq
    by_cases hkl : k < l.length
    · have hkb : k < 140737488355328 := by have := HL.out; omega
      have hkl2 : k < l2.length := by have := HLEN.out; omega
      obtain ⟨b, off, rfl, hc⟩ := HC.out k hkl
      obtain ⟨b2, off2, rfl, hc2⟩ := HC2.out k hkl2
      have hs : Hid (l.take (k + 1) = l.take k ++ [l[k]]) := Lib.hid (List.take_succ_eq_append_getElem hkl)
      have hs2 : Hid (l2.take (k + 1) = l2.take k ++ [l2[k]]) := Lib.hid (List.take_succ_eq_append_getElem hkl2)
      have hne : Hid (l[k] ≠ l2[k] → l ≠ l2) := Lib.hid (fun h h' => h (by subst h'; rfl))
      generalize l[k] = x at *
      generalize l2[k] = y at *
      have f1 : decide ((k : Int) < (l.length : Int)) = true := by rw [decide_eq_true_eq]; omega
      have f1' : decide (k < l.length) = true := by rw [decide_eq_true_eq]; omega
      have f2 : decide ((k : Int) < (l2.length : Int)) = true := by rw [decide_eq_true_eq]; omega
      have f2' : decide (k < l2.length) = true := by rw [decide_eq_true_eq]; omega
      by_cases hxy : x = y
      · have g1 : (x != y) = false := by rw [bne_eq_false_iff_eq]; exact hxy
        have HXY := Lib.hid hxy
        clear hxy
        go_wp2_with fail
        go_quiet (fail)
        go_wp2_with fail
        go_roundw
        case rel => exact ⟨k + 1, by omega, by go_num, by rw [hs.out, hs2.out, HEQ.out, HXY.out], q + nq, rfl⟩
        case measure => simp [intOf]; omega
      · have g1 : (x != y) = true := by rw [bne_iff_ne]; exact hxy
        have HD : Hid (decide (l = l2) = false) := Lib.hid (by rw [decide_eq_false_iff_not]; exact hne.out hxy)
        clear hxy hne
        go_wp2_with fail
        go_quiet (fail)
        go_wp2_with fail
        go_ret
        exact ⟨rb HD.out.symm, q + nq, World.drewN_drewN _ _ _⟩
    · obtain rfl : k = l.length := by omega
      have HD : Hid (decide (l = l2) = true) := Lib.hid (by
        have h := HEQ.out
        rw [List.take_length, HLEN.out, List.take_length] at h
        rw [decide_eq_true_eq]; exact h)
      have f1 : decide ((l.length : Int) < (l.length : Int)) = false := by rw [decide_eq_false_iff_not]; omega
      go_wp2_with fail
      go_ret
      exact ⟨rb HD.out.symm, q, rfl⟩
end Go.Proofs.Ytheomjoadgfkeaa
