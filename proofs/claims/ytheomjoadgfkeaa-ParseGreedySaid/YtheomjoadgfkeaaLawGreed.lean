/- ParseGreedy: the law's walk. By an AI agent. -/
import Derived.Test.YtheomjoadgfkeaaAlive9
import Derived.Test.YtheomjoadgfkeaaCopy
namespace Go.Proofs.Ytheomjoadgfkeaa
open Go.RowKit Go.Shelf
set_option linter.unusedVariables false
set_option linter.unusedSimpArgs false

theorem greedF_len (l : List UInt8) : ∀ (f p : Nat), (greedF l f p).length ≤ f
  | 0, p => by simp [greedF]
  | f + 1, p => by
    rw [greedF]; split
    · have := greedF_len l f (p + stepOf (greedT l p)); simp only [List.length_cons]; omega
    · simp
set_option maxRecDepth 20000 in
set_option maxHeartbeats 3200000 in
theorem lawGreedy_any (v : Value) (l : List UInt8) (w : World) (hb : Bs w v l) (hl : l.length ≤ 140737488351232) :
    Calls Try.prog 5 #[v] w fun e w' => e = .returned (.bool true) ∧ Below w.heap.size w w' := by
  obtain ⟨av, cap, rfl⟩ := hb.len
  have HB := Lib.hid hb
  clear hb
  go_enter Try.func5, Try.ntmps5
  go_wp2_with fail
  refine (alive_any _).mono ?_; rintro e w1 ⟨rfl, hb1⟩
  have B1 := Lib.hid hb1
  clear hb1
  by_cases hbig : 300 < l.length
  · have d1 : decide ((300 : Int) < (l.length : Int)) = true := by rw [decide_eq_true_eq]; omega
    go_wp2_with fail
    go_ret
    exact ⟨rfl, B1.out⟩
  have d1 : decide ((300 : Int) < (l.length : Int)) = false := by rw [decide_eq_false_iff_not]; omega
  go_wp2_with fail
  refine (copy_any _ l w1 (HB.out.old B1.out) hl).mono ?_
  rintro e w2 ⟨cv, rfl, hC, hb2, _⟩
  have B2 := Lib.hid (B1.out.trans (hb2.mono B1.out.size))
  have C2 := Lib.hid hC
  clear hC hb2
  go_wp2_with fail
  refine (greedy_any cv l w2 C2.out.bs (by omega)).mono ?_
  rintro e w3 ⟨rv, rfl, hT, hb3⟩
  have B3 := Lib.hid (B2.out.trans (hb3.mono B2.out.size))
  have C3 := Lib.hid (C2.out.old hb3)
  have T3 := Lib.hid hT
  clear hT hb3
  go_wp2_with fail
  refine (refGreedy_any _ l w3 (HB.out.old B3.out) (by omega)).mono ?_
  rintro e w4 ⟨rv2, rfl, hT, hb4⟩
  have B4 := Lib.hid (B3.out.trans (hb4.mono B3.out.size))
  have C4 := Lib.hid (C3.out.old hb4)
  have T4 := Lib.hid (T3.out.old hb4)
  have U4 := Lib.hid hT
  clear hT hb4
  go_wp2_with fail
  refine (tokens_same rv rv2 _ w4 T4.out U4.out (by rw [List.length_map]; have := greedF_len l l.length 0; unfold greedL; omega)).mono ?_
  rintro e w5 ⟨rfl, hb5⟩
  have B5 := Lib.hid (B4.out.trans (hb5.mono B4.out.size))
  have C5 := Lib.hid (C4.out.old hb5)
  clear hb5
  go_wp2_with fail
  refine (kept_any _ _ _ l w5 C5.out (HB.out.old B5.out) hl).mono ?_
  rintro e w6 ⟨rfl, rfl⟩
  go_wp2_with fail
  go_ret
  exact ⟨rfl, B5.out⟩
end Go.Proofs.Ytheomjoadgfkeaa
