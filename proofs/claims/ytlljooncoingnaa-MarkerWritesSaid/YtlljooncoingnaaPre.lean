/- bytes.Equal, bytes.HasPrefix; a beginning of a slice. By an AI agent. -/
import Derived.Test.YtlljooncoingnaaNum
namespace Go.Proofs.Ytlljooncoingnaa
open Go.RowKit
set_option linter.unusedVariables false
set_option linter.unusedSimpArgs false

set_option maxHeartbeats 800000 in
theorem bytesEqual_any (v v2 : Value) (l l2 : List UInt8) (w : World) (hb : Bs w v l) (hb2 : Bs w v2 l2) :
    Calls Try.prog 42 #[v, v2] w fun e w' => e = .returned (.bool (decide (l = l2))) ∧ w = w' := by
  have s1 := run_str (P := Try.prog) w 22 5 9 Try.underlying22 Try.underlying5 Try.underlying9 hb
  have s2 := run_str (P := Try.prog) w 22 5 9 Try.underlying22 Try.underlying5 Try.underlying9 hb2
  go_enter Try.func42, Try.ntmps42
  go_wp2
  go_ret
  refine ⟨rb ?_, rfl⟩
  show ((strOf l).toList == (strOf l2).toList) = _
  rw [strOf_toList, strOf_toList]
  exact beq_dec l l2

/-- a beginning of a slice -/
theorem Bs.take {w : World} {a : Option Addr} {n cap : Nat} {l : List UInt8} (h : Bs w (.slice a n cap) l) (k : Nat) (hk : k ≤ l.length) : Bs w (.slice a k cap) (l.take k) := by
  refine ⟨by simp [vBs], ?_⟩
  rw [List.length_take, Nat.min_eq_left hk]
  rcases h.2 with ⟨a', cap', hv, hn⟩ | ⟨b, off, cap', hv, hc, hn, hx⟩
  · exact .inl ⟨a, cap, rfl, by omega⟩
  · simp only [Value.slice.injEq] at hv
    obtain ⟨rfl, rfl, rfl⟩ := hv
    by_cases h0 : k = 0
    · exact .inl ⟨_, _, rfl, h0⟩
    · refine .inr ⟨b, off, cap, rfl, by omega, by omega, fun i u hu => hx i u ?_⟩
      rw [vBs, List.map_take, List.getElem?_take] at hu
      split at hu
      · exact hu
      · cases hu

set_option maxHeartbeats 800000 in
theorem hasPrefix_any (a a2 : Option Addr) (c c2 : Nat) (l l2 : List UInt8) (w : World) (hb : Bs w (.slice a l.length c) l) (hb2 : Bs w (.slice a2 l2.length c2) l2) (hl : l.length ≤ 140737488355328) (hl2 : l2.length ≤ 140737488355328) :
    Calls Try.prog 29 #[.slice a l.length c, .slice a2 l2.length c2] w fun e w' => e = .returned (.bool (decide (l.take l2.length = l2))) ∧ w = w' := by
  by_cases h : l2.length ≤ l.length
  · have hd : decide (l2.length ≤ l.length) = true := by rw [decide_eq_true_eq]; exact h
    have hc : l.length ≤ c := by
      rcases hb.2 with ⟨a', cap', hv, hn⟩ | ⟨b, off, cap', hv, hc, hn, hx⟩
      · omega
      · simp only [Value.slice.injEq] at hv; omega
    have H := Lib.hid (hb.take l2.length h)
    have HB2 := Lib.hid hb2
    have hcc : l2.length ≤ c := by omega
    clear hb hb2 hl hl2 hc h
    go_enter Try.func29, Try.ntmps29
    go_wp2_with fail
    have e : (l.take l2.length).length = l2.length ∨ True := .inr trivial
    clear e
    refine (bytesEqual_any _ _ (l.take l2.length) l2 _ H.out HB2.out).mono ?_; rintro e w' ⟨rfl, rfl⟩
    go_wp2_with fail
    go_ret
    exact ⟨rfl, rfl⟩
  · have hd : decide (l2.length ≤ l.length) = false := by rw [decide_eq_false_iff_not]; exact h
    have e : decide (l.take l2.length = l2) = false := by
      rw [decide_eq_false_iff_not]
      intro e
      have := congrArg List.length e
      rw [List.length_take] at this
      omega
    have E := Lib.hid e
    clear hb hb2 hl hl2 h e
    go_enter Try.func29, Try.ntmps29
    go_wp2_with fail
    go_ret
    exact ⟨rb E.out.symm, rfl⟩

end Go.Proofs.Ytlljooncoingnaa
