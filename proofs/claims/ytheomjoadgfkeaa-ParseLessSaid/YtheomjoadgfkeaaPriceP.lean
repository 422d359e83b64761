/- Prices by value: burnishref09.Prices.Good and Price, parse.Prices.of walked. By an AI agent. -/
import Derived.Test.YtheomjoadgfkeaaCopyI
import Derived.Test.YtheomjoadgfkeaaCntS
namespace Go.Proofs.Ytheomjoadgfkeaa
open Go.RowKit
set_option linter.unusedVariables false
set_option linter.unusedSimpArgs false

def goodP (a b c : List Int) : Bool := decide (a.length = 256) && decide (b.length = 259) && decide (c.length = 30) && withinL a && withinL b && withinL c

set_option maxHeartbeats 1600000 in
theorem goodP_any (u v x : Value) (a b c : List Int) (w : World) (hu : Ns w u a) (hv : Ns w v b) (hx : Ns w x c) (ha : a.length ≤ 1000) (hb : b.length ≤ 1000) (hc : c.length ≤ 1000) :
    Calls Try.prog 17 #[.agg #[u, v, x]] w fun e w' => e = .returned (.bool (goodP a b c)) ∧ Below w.heap.size w w' := by
  have hw : Below w.heap.size w (w.alloc (.cells #[u, v, x] 33)) := (Below.refl _ _).alloc (Nat.le_refl _) _
  have A := within_any u a _ (hu.old hw) (by omega)
  have B := within_any v b _ (hv.old hw) (by omega)
  have C := within_any x c _ (hx.old hw) (by omega)
  obtain ⟨a1, k1, rfl⟩ := hu.len
  obtain ⟨a2, k2, rfl⟩ := hv.len
  obtain ⟨a3, k3, rfl⟩ := hx.len
  have HW := Lib.hid hw
  have cs : (((a.length : Int) == 256) = false ∧ (a.length == 256) = false ∧ goodP a b c = false) ∨
      (((a.length : Int) == 256) = true ∧ (a.length == 256) = true ∧ ((b.length : Int) == 259) = false ∧ (b.length == 259) = false ∧ goodP a b c = false) ∨
      (((a.length : Int) == 256) = true ∧ (a.length == 256) = true ∧ ((b.length : Int) == 259) = true ∧ (b.length == 259) = true ∧ ((c.length : Int) == 30) = false ∧ (c.length == 30) = false ∧ goodP a b c = false) ∨
      (((a.length : Int) == 256) = true ∧ (a.length == 256) = true ∧ ((b.length : Int) == 259) = true ∧ (b.length == 259) = true ∧ ((c.length : Int) == 30) = true ∧ (c.length == 30) = true ∧ goodP a b c = (withinL a && withinL b && withinL c)) := by
    have e1 : ((a.length : Int) == 256) = (a.length == 256) := by rw [Bool.eq_iff_iff, beq_iff_eq, beq_iff_eq]; omega
    have e2 : ((b.length : Int) == 259) = (b.length == 259) := by rw [Bool.eq_iff_iff, beq_iff_eq, beq_iff_eq]; omega
    have e3 : ((c.length : Int) == 30) = (c.length == 30) := by rw [Bool.eq_iff_iff, beq_iff_eq, beq_iff_eq]; omega
    rw [e1, e2, e3]
    by_cases h1 : a.length = 256
    · by_cases h2 : b.length = 259
      · by_cases h3 : c.length = 30
        · simp [goodP, h1, h2, h3]
        · simp [goodP, h1, h2, h3]
      · simp [goodP, h1, h2]
    · simp [goodP, h1]
  clear hw hu hv hx ha hb hc
  rcases cs with ⟨d1, d1', h⟩ | ⟨d1, d1', d2, d2', h⟩ | ⟨d1, d1', d2, d2', d3, d3', h⟩ | ⟨d1, d1', d2, d2', d3, d3', h⟩
  · clear A B C
    rw [h]
    clear h
    go_enter Try.func17, Try.ntmps17
    go_wp2_with fail
    go_ret
    exact ⟨rfl, HW.out⟩
  · clear A B C
    rw [h]
    clear h
    go_enter Try.func17, Try.ntmps17
    go_wp2_with fail
    go_ret
    exact ⟨rfl, HW.out⟩
  · clear A B C
    rw [h]
    clear h
    go_enter Try.func17, Try.ntmps17
    go_wp2_with fail
    go_ret
    exact ⟨rfl, HW.out⟩
  · rw [h]
    clear h
    generalize withinL a = x1 at *
    generalize withinL b = x2 at *
    generalize withinL c = x3 at *
    go_enter Try.func17, Try.ntmps17
    go_wp2_with fail
    refine A.mono ?_
    rintro e w1 ⟨rfl, rfl⟩
    cases x1
    · go_wp2_with fail
      go_ret
      exact ⟨rfl, HW.out⟩
    go_wp2_with fail
    refine B.mono ?_
    rintro e w1 ⟨rfl, rfl⟩
    cases x2
    · go_wp2_with fail
      go_ret
      exact ⟨rfl, HW.out⟩
    go_wp2_with fail
    refine C.mono ?_
    rintro e w1 ⟨rfl, rfl⟩
    go_wp2_with fail
    go_ret
    exact ⟨rfl, HW.out⟩
end Go.Proofs.Ytheomjoadgfkeaa
