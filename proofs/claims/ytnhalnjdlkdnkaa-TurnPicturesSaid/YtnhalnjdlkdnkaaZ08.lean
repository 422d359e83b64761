/- frame.table: is a list a table? By an AI agent. -/
import Derived.Test.YtnhalnjdlkdnkaaZ02
import Derived.Deep.DeepCutAuto
import Derived.Handy
namespace Go.Proofs.Ytnhalnjdlkdnkaa
open Go.RowKit
set_option linter.unusedVariables false
set_option linter.unusedSimpArgs false

def okQ (x : Int) : Bool := decide (1 ≤ x) && decide (x ≤ 65535)
def allQ (l : List Int) : Bool := l.all okQ
def tableB (l : List Int) : Bool := decide (l.length = 64) && allQ l
theorem badQ_any (x : Int) (w : World) : Calls Try.prog 78 #[.int .i64 x] w fun e w' => e = .returned (.bool (!okQ x)) ∧ w = w' := by
  have c : (decide (x < 1) = true ∧ okQ x = false) ∨ (decide (x < 1) = false ∧ decide (65535 < x) = true ∧ okQ x = false) ∨ (decide (x < 1) = false ∧ decide (65535 < x) = false ∧ okQ x = true) := by
    unfold okQ
    simp only [decide_eq_true_eq, decide_eq_false_iff_not, Bool.and_eq_true, Bool.and_eq_false_iff]
    omega
  rcases c with ⟨g1, g⟩ | ⟨g1, g2, g⟩ | ⟨g1, g2, g⟩
  all_goals
    rw [g]
    clear g
    go_enter Try.func78, Try.ntmps78
    go_wp2_with fail
    go_ret
    exact ⟨rfl, rfl⟩

set_option maxHeartbeats 1600000 in
theorem indexQ (v : Value) (l : List Int) (w : World) (hb : Ns w v l) (hl : l.length ≤ 140737488355328) :
    Calls Try.prog 88 #[v, .func (.func 78) #[] #[]] w fun e w' => (∃ r : Int, e = .returned (.int .i64 r) ∧ decide (0 ≤ r) = !allQ l) ∧ w = w' := by
  obtain ⟨av, cap, rfl, hcell⟩ := hb.read
  have HC := Lib.hid hcell
  have HL := Lib.hid hl
  clear hb hcell hl
  go_enter Try.func88, Try.ntmps88
  go_wp2_with fail
  go_loopw [5, 8] (fun _ i w' => ∃ k : Nat, k ≤ l.length ∧ i = .int .i64 k ∧ allQ (l.take k) = true ∧ w = w') (fun _ i _ => l.length - (intOf i).toNat)
  case atStart => exact ⟨0, Nat.zero_le _, rfl, by simp [allQ], rfl⟩
  case round =>
    obtain ⟨k, hk, rfl, heq, rfl⟩ := hrel
    have HEQ := Lib.hid heq
    clear heq
    by_cases hkl : k < l.length
    · have hkb : k < 140737488355328 := by have := HL.out; omega
      obtain ⟨b, off, rfl, hc⟩ := HC.out k hkl
      have hs : Hid (allQ (l.take (k + 1)) = (allQ (l.take k) && okQ l[k])) := Lib.hid (by
        unfold allQ; rw [List.take_succ_eq_append_getElem hkl, List.all_append]; simp only [List.all_cons, List.all_nil, Bool.and_true])
      have hne : Hid (okQ l[k] = false → allQ l = false) := Lib.hid (fun h => by
        rw [allQ, List.all_eq_false]
        exact ⟨l[k], List.getElem_mem hkl, by simp [h]⟩)
      generalize l[k] = x at *
      have hbad := badQ_any x w
      have f1 : decide ((k : Int) < (l.length : Int)) = true := by rw [decide_eq_true_eq]; omega
      have f1' : decide (k < l.length) = true := by rw [decide_eq_true_eq]; omega
      cases hx : okQ x
      · rw [hx] at hbad
        have HD : Hid (allQ l = false) := Lib.hid (hne.out hx)
        clear hne hx
        go_wp2_with fail
        refine hbad.mono ?_
        rintro e w1 ⟨rfl, rfl⟩
        go_wp2_with fail
        go_ret
        exact ⟨⟨_, rfl, by rw [HD.out]; simp⟩, rfl⟩
      · rw [hx] at hbad
        have G := Lib.hid hx
        clear hne hx
        go_wp2_with fail
        refine hbad.mono ?_
        rintro e w1 ⟨rfl, rfl⟩
        go_wp2_with fail
        go_roundw
        case rel => exact ⟨k + 1, by omega, by go_num, by rw [hs.out, HEQ.out, G.out]; rfl, by first | rfl | trivial⟩
        case measure => simp [intOf]; omega
    · obtain rfl : k = l.length := by omega
      have HD : Hid (allQ l = true) := Lib.hid (by
        have h := HEQ.out
        rw [List.take_length] at h
        exact h)
      have f1 : decide ((l.length : Int) < (l.length : Int)) = false := by rw [decide_eq_false_iff_not]; omega
      go_wp2_with fail
      go_ret
      exact ⟨⟨_, rfl, by rw [HD.out]; rfl⟩, by first | rfl | trivial⟩

set_option maxHeartbeats 1600000 in
theorem containsQ (v : Value) (l : List Int) (w : World) (hb : Ns w v l) (hl : l.length ≤ 140737488355328) :
    Calls Try.prog 77 #[v, .func (.func 78) #[] #[]] w fun e w' => e = .returned (.bool (!allQ l)) ∧ w = w' := by
  have hi := indexQ v l w hb hl
  clear hb hl
  generalize allQ l = x at *
  go_enter Try.func77, Try.ntmps77
  go_wp2_with fail
  refine hi.mono ?_
  rintro e w1 ⟨⟨r, rfl, hr⟩, rfl⟩
  cases x
  all_goals
    simp only [Bool.not_true, Bool.not_false] at hr
    go_wp2_with fail
    go_ret
    exact ⟨rfl, rfl⟩

set_option maxHeartbeats 1600000 in
theorem table_any (v : Value) (l : List Int) (w : World) (hb : Ns w v l) (hl : l.length ≤ 140737488355328) :
    Calls Try.prog 54 #[v] w fun e w' => e = .returned (.bool (tableB l)) ∧ w = w' := by
  have hi := containsQ v l w hb hl
  obtain ⟨av, cap, rfl, _⟩ := hb.read
  unfold tableB
  generalize allQ l = x at *
  clear hb hl
  obtain ⟨n, hn⟩ : ∃ n, l.length = n := ⟨_, rfl⟩
  rw [hn] at hi ⊢
  by_cases h64 : n = 64
  · have d1 : ((n : Int) == 64) = true := by rw [beq_iff_eq]; omega
    have d2 : (n == 64) = true := by rw [beq_iff_eq]; omega
    have dd := Lib.hid (decide_eq_true h64)
    clear hn h64
    go_enter Try.func54, Try.ntmps54
    go_wp2_with fail
    refine hi.mono ?_
    rintro e w1 ⟨rfl, rfl⟩
    cases x
    all_goals
      go_wp2_with fail
      go_ret
      exact ⟨by rw [dd.out]; rfl, rfl⟩
  · have d1 : ((n : Int) == 64) = false := by rw [beq_eq_false_iff_ne]; omega
    have d2 : (n == 64) = false := by rw [beq_eq_false_iff_ne]; omega
    have dd := Lib.hid (decide_eq_false h64)
    clear hn h64 hi
    go_enter Try.func54, Try.ntmps54
    go_wp2_with fail
    go_ret
    exact ⟨by rw [dd.out]; rfl, rfl⟩
end Go.Proofs.Ytnhalnjdlkdnkaa
