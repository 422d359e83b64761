/- The walks of burnishref09.within and of burnishnum.KeptInts. By an AI agent. -/
import Derived.Test.YtheomjoadgfkeaaSame
namespace Go.Proofs.Ytheomjoadgfkeaa
open Go.RowKit
set_option linter.unusedVariables false
set_option linter.unusedSimpArgs false

def okP (x : Int) : Bool := decide (0 ≤ x ∧ x ≤ 1048576)
def withinL (l : List Int) : Bool := l.all okP
theorem withinL_get {l : List Int} (h : withinL l = true) (k : Nat) (hk : k < l.length) : 0 ≤ l[k] ∧ l[k] ≤ 1048576 := by
  have := List.all_eq_true.1 h _ (List.getElem_mem hk)
  simpa [okP] using this

set_option maxHeartbeats 1600000 in
theorem within_any (v : Value) (l : List Int) (w : World) (hb : Ns w v l) (hl : l.length ≤ 140737488355328) :
    Calls Try.prog 38 #[v] w fun e w' => e = .returned (.bool (withinL l)) ∧ w = w' := by
  obtain ⟨av, cap, rfl, hcell⟩ := hb.read
  have HC := Lib.hid hcell
  have HL := Lib.hid hl
  clear hb hcell hl
  go_enter Try.func38, Try.ntmps38
  go_wp2_with fail
  go_loopw [3] (fun i w' => ∃ k : Nat, k ≤ l.length ∧ i = .int .i64 k ∧ withinL (l.take k) = true ∧ w = w') (fun i _ => l.length - (intOf i).toNat)
  case atStart => exact ⟨0, Nat.zero_le _, rfl, by simp [withinL], rfl⟩
  case round =>
    obtain ⟨k, hk, rfl, heq, rfl⟩ := hrel
    have HEQ := Lib.hid heq
    clear heq
    by_cases hkl : k < l.length
    · have hkb : k < 140737488355328 := by have := HL.out; omega
      obtain ⟨b, off, rfl, hc⟩ := HC.out k hkl
      have hs : Hid (withinL (l.take (k + 1)) = (withinL (l.take k) && okP l[k])) := Lib.hid (by
        unfold withinL; rw [List.take_succ_eq_append_getElem hkl, List.all_append]; simp only [List.all_cons, List.all_nil, Bool.and_true])
      have hne : Hid (okP l[k] = false → withinL l = false) := Lib.hid (fun h => by
        rw [withinL, List.all_eq_false]
        exact ⟨l[k], List.getElem_mem hkl, by simp [h]⟩)
      generalize l[k] = x at *
      have f1 : decide ((k : Int) < (l.length : Int)) = true := by rw [decide_eq_true_eq]; omega
      have f1' : decide (k < l.length) = true := by rw [decide_eq_true_eq]; omega
      have c : (decide (x < 0) = true ∧ okP x = false) ∨ (decide (x < 0) = false ∧ decide (1048576 < x) = true ∧ okP x = false) ∨ (decide (x < 0) = false ∧ decide (1048576 < x) = false ∧ okP x = true) := by
        unfold okP
        simp only [decide_eq_true_eq, decide_eq_false_iff_not]
        omega
      rcases c with ⟨g1, g⟩ | ⟨g1, g2, g⟩ | ⟨g1, g2, g⟩
      · have HD : Hid (withinL l = false) := Lib.hid (hne.out g)
        clear hne g
        go_wp2_with fail
        go_ret
        exact ⟨rb HD.out.symm, by first | rfl | trivial⟩
      · have HD : Hid (withinL l = false) := Lib.hid (hne.out g)
        clear hne g
        go_wp2_with fail
        go_ret
        exact ⟨rb HD.out.symm, by first | rfl | trivial⟩
      · have G := Lib.hid g
        clear hne g
        go_wp2_with fail
        go_roundw
        case rel => exact ⟨k + 1, by omega, by go_num, by rw [hs.out, HEQ.out, G.out]; rfl, by first | rfl | trivial⟩
        case measure => simp [intOf]; omega
    · obtain rfl : k = l.length := by omega
      have HD : Hid (withinL l = true) := Lib.hid (by
        have h := HEQ.out
        rw [List.take_length] at h
        exact h)
      have f1 : decide ((l.length : Int) < (l.length : Int)) = false := by rw [decide_eq_false_iff_not]; omega
      go_wp2_with fail
      go_ret
      exact ⟨rb HD.out.symm, by first | rfl | trivial⟩

set_option maxHeartbeats 800000 in
/-- KeptInts where the copy is no longer its list's own: a copy with its mark. -/
theorem keptInts_any (v v2 : Value) (l l2 : List Int) (w : World) (a : Option Addr) (n cap : Nat) (hv : v = .slice a n cap) (hb : Ns w v l) (hb2 : Ns w v2 l2) (hl : l.length ≤ 140737488355328) (hl2 : l2.length ≤ 140737488355328)
    (hm : l = l2 → l.length < cap ∧ cap ≤ 140737488355328 ∧ ∃ b off, a = some ⟨b, off, none⟩ ∧ w.cell? ⟨b, off + l.length, none⟩ = some (.int .i64 (-77))) :
    Calls Try.prog 39 #[v, v2] w fun e w' => e = .returned (.bool (decide (l = l2))) ∧ ∃ q, w' = w.drewN q := by
  have hi := ints_any v v2 l l2 w hb hb2 hl hl2
  obtain ⟨a2, cap2, rfl, hcell2⟩ := hb2.read
  subst hv
  obtain rfl : n = l.length := by
    obtain ⟨_, _, e, _⟩ := hb.read
    injection e
  by_cases h : l = l2
  case neg =>
    rw [decide_eq_false h] at hi ⊢
    clear h hm hcell2 hb hb2
    go_enter Try.func39, Try.ntmps39
    go_wp2_with fail
    refine hi.mono ?_
    rintro e w1 ⟨rfl, q, rfl⟩
    go_wp2_with fail
    go_ret
    exact ⟨rfl, q, rfl⟩
  subst h
  rw [decide_eq_true rfl] at hi ⊢
  obtain ⟨h1, h2, b, off, rfl, hc⟩ := hm rfl
  clear hm hcell2 hb hb2
  have f1 : decide ((l.length : Int) < (cap : Int)) = true := by rw [decide_eq_true_eq]; omega
  have f2 : decide (l.length + 1 ≤ cap) = true := by rw [decide_eq_true_eq]; omega
  go_enter Try.func39, Try.ntmps39
  go_wp2_with fail
  refine hi.mono ?_
  rintro e w1 ⟨rfl, q, rfl⟩
  have hc' : (w.drewN q).cell? ⟨b, off + l.length, none⟩ = some (.int .i64 (-77)) := hc
  go_wp2_with fail
  go_ret
  exact ⟨rfl, q, rfl⟩
end Go.Proofs.Ytheomjoadgfkeaa
