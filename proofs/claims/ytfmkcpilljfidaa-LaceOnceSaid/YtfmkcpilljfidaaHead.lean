/- The walks of head.Channels, head.depths, head.Check and the document's answers. By an AI agent. -/
import Derived.Test.YtfmkcpilljfidaaErr
import Derived.Test.YtfmkcpilljfidaaIndex
import Derived.Deep.QuietTactic
import Derived.BigQuiet
import Derived.Deep.RegionHeld3
import Derived.Deep.RegionWith
namespace Go.Proofs.Ytfmkcpilljfidaa
open Go.RowKit
set_option linter.unusedVariables false
set_option linter.unusedSimpArgs false

def chanN (c : Int) : Int := if c = 0 ∨ c = 3 then 1 else if c = 4 then 2 else if c = 2 then 3 else if c = 6 then 4 else 0
def depthsL (c : Int) : List Int := if c = 0 then [1, 2, 4, 8, 16] else if c = 3 then [1, 2, 4, 8] else if c = 2 ∨ c = 4 ∨ c = 6 then [8, 16] else []
/-- a head's error by its number; 0: a good head -/
def headC (W H D C L : Int) : Int := if W < 1 ∨ H < 1 ∨ D ∉ depthsL C ∨ L < 0 ∨ 1 < L then 2 else if 65535 < W ∨ 65535 < H ∨ 262144 < W * H then 4 else 0
def headV (W H D C L : Int) : Value := .agg #[.int .i64 W, .int .i64 H, .int .i64 D, .int .i64 C, .int .i64 L]

set_option maxHeartbeats 800000 in
theorem channels_any (c : Int) (w : World) : Calls Try.prog 34 #[.int .i64 c] w fun e w' => e = .returned (.int .i64 (chanN c)) ∧ w' = w := by
  by_cases h : c = 0 ∨ c = 3 ∨ c = 4 ∨ c = 2 ∨ c = 6
  · rcases h with rfl | rfl | rfl | rfl | rfl
    all_goals
      go_enter Try.func34, Try.ntmps34
      go_wp2
      go_ret
      exact ⟨rfl, rfl⟩
  · have e0 : (c == 0) = false := by rw [beq_eq_false_iff_ne]; omega
    have e3 : (c == 3) = false := by rw [beq_eq_false_iff_ne]; omega
    have e4 : (c == 4) = false := by rw [beq_eq_false_iff_ne]; omega
    have e2 : (c == 2) = false := by rw [beq_eq_false_iff_ne]; omega
    have e6 : (c == 6) = false := by rw [beq_eq_false_iff_ne]; omega
    have F : Hid (chanN c = 0) := Lib.hid (by unfold chanN; rw [if_neg (by omega), if_neg (by omega), if_neg (by omega), if_neg (by omega)])
    clear h
    go_enter Try.func34, Try.ntmps34
    go_wp2
    go_ret
    exact ⟨ri F.out.symm, rfl⟩
def Depths (c : Int) (w : World) (e : Ending) (w' : World) : Prop := ∃ v, e = .returned v ∧ Ns w' v (depthsL c) ∧ Below w.heap.size w w'
set_option maxHeartbeats 800000 in
theorem depths_any (c : Int) (w : World) : Calls Try.prog 33 #[.int .i64 c] w (Depths c w) := by
  by_cases h : c = 0 ∨ c = 3 ∨ c = 2 ∨ c = 4 ∨ c = 6
  · rcases h with rfl | rfl | rfl | rfl | rfl
    all_goals
      go_enter Try.func33, Try.ntmps33
      go_wp2
      go_ret
      refine ⟨_, rfl, ?_, (Below.refl _ _).alloc (Nat.le_refl _) _⟩
      exact ns_heap _ (heap_alloc_new _ _) rfl rfl (by decide)
  · have e0 : (c == 0) = false := by rw [beq_eq_false_iff_ne]; omega
    have e3 : (c == 3) = false := by rw [beq_eq_false_iff_ne]; omega
    have e4 : (c == 4) = false := by rw [beq_eq_false_iff_ne]; omega
    have e2 : (c == 2) = false := by rw [beq_eq_false_iff_ne]; omega
    have e6 : (c == 6) = false := by rw [beq_eq_false_iff_ne]; omega
    have F : Hid (depthsL c = []) := Lib.hid (by unfold depthsL; rw [if_neg (by omega), if_neg (by omega), if_neg (by omega)])
    clear h
    go_enter Try.func33, Try.ntmps33
    go_wp2
    go_ret
    exact ⟨_, rfl, F.out ▸ Ns.nil _ _ _, Below.refl _ _⟩
theorem depthsL_len (c : Int) : (depthsL c).length ≤ 5 := by
  unfold depthsL
  repeat' split
  all_goals decide

theorem contains_at (v : Value) (l : List Int) (x : Int) (r : Bool) (w : World) (hb : Ns w v l) (hl : l.length ≤ 5) (hr : decide (x ∈ l) = r) : Calls Try.prog 32 #[v, .int .i64 x] w fun e w' => e = .returned (.bool r) ∧ w = w' := by
  subst hr; exact contains_any v l x w hb (by omega)
theorem wrap_mul {a b : Int} (ha : 0 ≤ a) (ha2 : a ≤ 65535) (hb : 0 ≤ b) (hb2 : b ≤ 65535) : IntKind.i64.wrap (a * b) = a * b := by
  obtain ⟨x, rfl⟩ : ∃ x : Nat, a = (x : Int) := ⟨a.toNat, by omega⟩
  obtain ⟨y, rfl⟩ : ∃ y : Nat, b = (y : Int) := ⟨b.toNat, by omega⟩
  have h : x * y ≤ 65535 * 65535 := Nat.mul_le_mul (by omega) (by omega)
  rw [← Int.natCast_mul]
  generalize x * y = z at h
  exact IntWalk.i64_in _ (by omega)
/-- the cells of a boxed head -/
def Box (g : Nat) (W H D C L : Int) (V : World) : Prop := V.cell? ⟨g, 0, none⟩ = some (.int .i64 W) ∧ V.cell? ⟨g, 1, none⟩ = some (.int .i64 H) ∧ V.cell? ⟨g, 2, none⟩ = some (.int .i64 D) ∧ V.cell? ⟨g, 3, none⟩ = some (.int .i64 C) ∧ V.cell? ⟨g, 4, none⟩ = some (.int .i64 L)
theorem box_of {g : Nat} {W H D C L : Int} {V : World} {t : TypeId} {fr : Nat × Nat} (h : V.heap[g]? = some (.cells #[.int .i64 W, .int .i64 H, .int .i64 D, .int .i64 C, .int .i64 L] t fr)) : Box g W H D C L V := by
  refine ⟨?_, ?_, ?_, ?_, ?_⟩
  all_goals
    rw [cell_of_row V g _ _ _ _ h]
    rfl
theorem Box.old {g : Nat} {W H D C L : Int} {V V' : World} (h : Box g W H D C L V) (hb : Below V.heap.size V V') : Box g W H D C L V' := ⟨cell_old hb h.1, cell_old hb h.2.1, cell_old hb h.2.2.1, cell_old hb h.2.2.2.1, cell_old hb h.2.2.2.2⟩
end Go.Proofs.Ytfmkcpilljfidaa
