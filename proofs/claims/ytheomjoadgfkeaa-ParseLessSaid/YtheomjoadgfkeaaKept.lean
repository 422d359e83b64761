/- burnishlaw09.kept and large walked. By an AI agent. -/
import Derived.Test.YtheomjoadgfkeaaCopyI
namespace Go.Proofs.Ytheomjoadgfkeaa
open Go.RowKit
set_option linter.unusedVariables false
set_option linter.unusedSimpArgs false

set_option maxHeartbeats 3200000 in
theorem keptP_any (u' v' x' u v x : Value) (a b c : List Int) (g1 g2 g3 : Nat) (w : World) (hu : CpI w u' g1 a) (hv : CpI w v' g2 b) (hx : CpI w x' g3 c) (ku : Ns w u a) (kv : Ns w v b) (kx : Ns w x c) (ha : a.length ≤ 1000) (hb : b.length ≤ 1000) (hc : c.length ≤ 1000) :
    Calls Try.prog 18 #[.agg #[u', v', x'], .agg #[u, v, x]] w fun e w' => e = .returned (.bool true) ∧ Below w.heap.size w w' := by
  obtain ⟨w1, hw1⟩ : ∃ w1, w1 = (w.alloc (.cells #[u', v', x'] 38)).alloc (.cells #[u, v, x] 33) := ⟨_, rfl⟩
  have hw : Below w.heap.size w w1 := by rw [hw1]; exact ((Below.refl _ _).alloc (Nat.le_refl _) _).alloc (by simp) _
  have k0 : w1.cell? ⟨w.heap.size, 0, none⟩ = some u' := by rw [hw1, cell_of_row _ w.heap.size 0 _ _ (0, 0) (heap_new0 _ _ _)]; rfl
  have k1 : w1.cell? ⟨w.heap.size, 1, none⟩ = some v' := by rw [hw1, cell_of_row _ w.heap.size 1 _ _ (0, 0) (heap_new0 _ _ _)]; rfl
  have k2 : w1.cell? ⟨w.heap.size, 2, none⟩ = some x' := by rw [hw1, cell_of_row _ w.heap.size 2 _ _ (0, 0) (heap_new0 _ _ _)]; rfl
  have k3 : w1.cell? ⟨w.heap.size + 1, 0, none⟩ = some u := by rw [hw1, cell_of_row _ (w.heap.size + 1) 0 _ _ (0, 0) (heap_new1 _ _ _)]; rfl
  have k4 : w1.cell? ⟨w.heap.size + 1, 1, none⟩ = some v := by rw [hw1, cell_of_row _ (w.heap.size + 1) 1 _ _ (0, 0) (heap_new1 _ _ _)]; rfl
  have k5 : w1.cell? ⟨w.heap.size + 1, 2, none⟩ = some x := by rw [hw1, cell_of_row _ (w.heap.size + 1) 2 _ _ (0, 0) (heap_new1 _ _ _)]; rfl
  have A := keptInts_copy u' u g1 a w1 (hu.old hw) (ku.old hw) ha
  have B := fun q => keptInts_copy v' v g2 b (w1.drewN q) ((hv.old hw).old (below_drewN (Below.refl _ _) q)) ((kv.old hw).drewN q) hb
  have C := fun q => keptInts_copy x' x g3 c (w1.drewN q) ((hx.old hw).old (below_drewN (Below.refl _ _) q)) ((kx.old hw).drewN q) hc
  have HW := Lib.hid hw
  clear hu hv hx ku kv kx ha hb hc hw
  go_enter Try.func18, Try.ntmps18
  go_wp2_with fail
  rw [← hw1]
  clear hw1
  refine A.mono ?_
  rintro e w2 ⟨rfl, q, rfl⟩
  go_wp2_with fail
  refine (B q).mono ?_
  rintro e w2 ⟨rfl, q2, rfl⟩
  rw [World.drewN_drewN]
  go_wp2_with fail
  refine (C _).mono ?_
  rintro e w2 ⟨rfl, q3, rfl⟩
  rw [World.drewN_drewN]
  go_wp2_with fail
  go_ret
  exact ⟨rfl, below_drewN HW.out _⟩

def largeP (a b c : List Int) : Bool := decide (1000 < a.length) || decide (1000 < b.length) || decide (1000 < c.length)
set_option maxHeartbeats 1600000 in
theorem large_any (u v x : Value) (a b c : List Int) (w : World) (hu : Ns w u a) (hv : Ns w v b) (hx : Ns w x c) (ha : a.length ≤ 140737488355328) (hb : b.length ≤ 140737488355328) (hc : c.length ≤ 140737488355328) :
    Calls Try.prog 16 #[.agg #[u, v, x]] w fun e w' => e = .returned (.bool (largeP a b c)) ∧ Below w.heap.size w w' := by
  have hw : Below w.heap.size w (w.alloc (.cells #[u, v, x] 33)) := (Below.refl _ _).alloc (Nat.le_refl _) _
  obtain ⟨a1, k1, rfl⟩ := hu.len
  obtain ⟨a2, k2, rfl⟩ := hv.len
  obtain ⟨a3, k3, rfl⟩ := hx.len
  have HW := Lib.hid hw
  obtain ⟨r, hr⟩ : ∃ r, largeP a b c = r := ⟨_, rfl⟩
  rw [hr]
  have cs : (decide ((1000 : Int) < (a.length : Int)) = true ∧ decide (1000 < a.length) = true ∧ r = true) ∨
      (decide ((1000 : Int) < (a.length : Int)) = false ∧ decide (1000 < a.length) = false ∧ decide ((1000 : Int) < (b.length : Int)) = true ∧ decide (1000 < b.length) = true ∧ r = true) ∨
      (decide ((1000 : Int) < (a.length : Int)) = false ∧ decide (1000 < a.length) = false ∧ decide ((1000 : Int) < (b.length : Int)) = false ∧ decide (1000 < b.length) = false ∧ decide ((1000 : Int) < (c.length : Int)) = r ∧ decide (1000 < c.length) = r) := by
    have e1 : decide ((1000 : Int) < (a.length : Int)) = decide (1000 < a.length) := by rw [decide_eq_decide]; omega
    have e2 : decide ((1000 : Int) < (b.length : Int)) = decide (1000 < b.length) := by rw [decide_eq_decide]; omega
    have e3 : decide ((1000 : Int) < (c.length : Int)) = decide (1000 < c.length) := by rw [decide_eq_decide]; omega
    rw [e1, e2, e3, ← hr]
    unfold largeP
    cases decide (1000 < a.length) <;> cases decide (1000 < b.length) <;> cases decide (1000 < c.length) <;> decide
  clear hw hu hv hx ha hb hc hr
  rcases cs with ⟨d1, d1', rfl⟩ | ⟨d1, d1', d2, d2', rfl⟩ | ⟨d1, d1', d2, d2', d3, d3'⟩
  all_goals
    go_enter Try.func16, Try.ntmps16
    go_wp2_with fail
    go_ret
    exact ⟨rfl, HW.out⟩
end Go.Proofs.Ytheomjoadgfkeaa
