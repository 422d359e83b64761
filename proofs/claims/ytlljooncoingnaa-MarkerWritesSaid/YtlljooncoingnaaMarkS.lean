/- Which markers there are, which bytes are signed. By an AI agent. -/
import Derived.Test.YtlljooncoingnaaOwn
namespace Go.Proofs.Ytlljooncoingnaa
open Go.RowKit
set_option linter.unusedVariables false
set_option linter.unusedSimpArgs false

def markedB (m : Int) : Bool := decide (1 < m) && decide (m < 255) && (decide (m < 208) || decide (216 < m))
def keptB (m : Int) : Bool := (m == 254) || (decide (224 ≤ m) && decide (m < 240))

set_option maxHeartbeats 800000 in
theorem marked_any (m : Int) (w : World) : Calls Try.prog 8 #[.int .i64 m] w fun e w' => e = .returned (.bool (markedB m)) ∧ w = w' := by
  rcases h1 : decide ((1 : Int) < m) with _ | _ <;> rcases h2 : decide (m < (255 : Int)) with _ | _ <;> rcases h3 : decide (m < (208 : Int)) with _ | _ <;> rcases h4 : decide ((216 : Int) < m) with _ | _
  all_goals
    go_enter Try.func8, Try.ntmps8
    go_wp2
    go_ret
    exact ⟨rb (by simp only [markedB, h1, h2, h3, h4]; rfl), rfl⟩
set_option maxHeartbeats 800000 in
theorem mkept_any (m : Int) (w : World) : Calls Try.prog 9 #[.int .i64 m] w fun e w' => e = .returned (.bool (keptB m)) ∧ w = w' := by
  rcases h1 : (m == (254 : Int)) with _ | _ <;> rcases h2 : decide ((224 : Int) ≤ m) with _ | _ <;> rcases h3 : decide (m < (240 : Int)) with _ | _
  all_goals
    go_enter Try.func9, Try.ntmps9
    go_wp2
    go_ret
    exact ⟨rb (by simp only [keptB, h1, h2, h3]; rfl), rfl⟩
set_option maxHeartbeats 800000 in
theorem refKept_any (m : Int) (w : World) : Calls Try.prog 11 #[.int .i64 m] w fun e w' => e = .returned (.bool (keptB m)) ∧ w = w' := by
  have e : decide (m < (240 : Int)) = decide (m ≤ (239 : Int)) := by rw [decide_eq_decide]; omega
  have E := Lib.hid e
  clear e
  rcases h1 : (m == (254 : Int)) with _ | _ <;> rcases h2 : decide ((224 : Int) ≤ m) with _ | _ <;> rcases h3 : decide (m ≤ (239 : Int)) with _ | _
  all_goals
    go_enter Try.func11, Try.ntmps11
    go_wp2
    go_ret
    exact ⟨rb (by simp only [keptB, E.out, h1, h2, h3]; rfl), rfl⟩
set_option maxHeartbeats 1600000 in
theorem refMarked_any (m : Int) (w : World) : Calls Try.prog 10 #[.int .i64 m] w fun e w' => e = .returned (.bool (markedB m)) ∧ w = w' := by
  by_cases hb : 1 < m ∧ m < 255
  · have e1 : decide ((0 : Int) ≤ m) = true := by rw [decide_eq_true_eq]; omega
    have e2 : decide (m ≤ (255 : Int)) = true := by rw [decide_eq_true_eq]; omega
    have e3 : (m != (0 : Int)) = true := by rw [bne_iff_ne]; omega
    have e4 : (m != (1 : Int)) = true := by rw [bne_iff_ne]; omega
    have e5 : (m != (255 : Int)) = true := by rw [bne_iff_ne]; omega
    have e6 : Hid (markedB m = !(decide ((208 : Int) ≤ m) && decide (m ≤ (216 : Int)))) := Lib.hid (by
      unfold markedB
      rw [Bool.eq_iff_iff]
      simp only [Bool.and_eq_true, Bool.or_eq_true, decide_eq_true_eq, Bool.not_eq_true', Bool.and_eq_false_iff, decide_eq_false_iff_not]
      omega)
    clear hb
    rcases h1 : decide ((208 : Int) ≤ m) with _ | _ <;> rcases h2 : decide (m ≤ (216 : Int)) with _ | _
    all_goals
      go_enter Try.func10, Try.ntmps10
      go_wp2
      go_ret
      exact ⟨rb (by rw [e6.out, h1, h2]; rfl), rfl⟩
  · have e6 : Hid (markedB m = false) := Lib.hid (by
      unfold markedB
      rw [Bool.eq_false_iff]
      simp only [ne_eq, Bool.and_eq_true, Bool.or_eq_true, decide_eq_true_eq]
      omega)
    rcases h1 : decide ((0 : Int) ≤ m) with _ | _ <;> rcases h2 : decide (m ≤ (255 : Int)) with _ | _
    rotate_left 3
    · have h3 : m = 0 ∨ m = 1 ∨ m = 255 := by
        rw [decide_eq_true_eq] at h1 h2
        omega
      clear hb h1 h2
      rcases h3 with rfl | rfl | rfl
      all_goals
        go_enter Try.func10, Try.ntmps10
        go_wp2
        go_ret
        exact ⟨rb (by rw [e6.out]), rfl⟩
    all_goals
      clear hb
      go_enter Try.func10, Try.ntmps10
      go_wp2
      go_ret
      exact ⟨rb (by rw [e6.out]), rfl⟩

def signedB (l : List UInt8) : Bool := decide (l.take 2 = [255, 216])
theorem signed_any (v : Value) (l : List UInt8) (w : World) (hb : Bs w v l) (hl : l.length ≤ 140737488355328) :
    Calls Try.prog 12 #[v] w fun e w' => e = .returned (.bool (signedB l)) ∧ Below w.heap.size w w' := by
  obtain ⟨a0, c0, rfl⟩ := hb.len
  have HB := Lib.hid hb
  have HL := Lib.hid hl
  clear hb hl
  go_enter Try.func12, Try.ntmps12
  go_wp2_with fail
  refine (hasPrefix_any a0 _ c0 2 l [255, 216] _ ?h1 ?h2 HL.out (by decide)).mono ?_
  case h1 => exact HB.out.old ((Below.refl _ _).alloc (Nat.le_refl _) _)
  case h2 => exact bs_heap (n := 2) (cap := 2) _ (heap_alloc_new _ _) rfl rfl (by decide)
  rintro e w1 ⟨rfl, hw1⟩
  have hb1 : Below w.heap.size w w1 := by rw [← hw1]; exact (Below.refl _ _).alloc (Nat.le_refl _) _
  clear hw1
  have HB1 := Lib.hid hb1
  clear hb1
  go_wp2_with fail
  go_ret
  exact ⟨rfl, HB1.out⟩

end Go.Proofs.Ytlljooncoingnaa
