/- The law's picture: wide. By an AI agent. -/
import Derived.Test.YtbcbfnkpnfbfjaaUnitI
namespace Go.Proofs.Ytbcbfnkpnfbfjaa
open Go.RowKit Go.BigFrame
set_option linter.unusedVariables false
set_option linter.unusedSimpArgs false
attribute [local go_sem] Oper.semAt_some

def wideP : PicL := ⟨17, 8, [], [], [], [], [⟨1, 2, 1, 0, 0, 0, []⟩, ⟨2, 1, 1, 0, 0, 0, []⟩], 0, []⟩
def wideC : Array Value := #[.int .i64 1, .int .i64 2, .int .i64 1, .int .i64 0, .int .i64 0, .int .i64 0, .slice none 0 0, .int .i64 2, .int .i64 1, .int .i64 1, .int .i64 0, .int .i64 0, .int .i64 0, .slice none 0 0]
def wideA (b : Nat) : Array Value := #[.int .i64 17, .int .i64 8, .slice none 0 0, .slice none 0 0, .slice none 0 0, .slice none 0 0, .slice (some ⟨b, 0, none⟩) 2 2, .int .i64 0, .slice none 0 0]
theorem wideA_eq (b : Nat) : wideA b = vPic wideP (.slice none 0 0) (.slice none 0 0) (.slice none 0 0) (.slice none 0 0) (.slice (some ⟨b, 0, none⟩) 2 2) (.slice none 0 0) := rfl
theorem wide_pts {w : World} {b : Nat} (h : w.heap[b]? = some (.cells wideC 48 (0, 0))) : Pts w (.slice (some ⟨b, 0, none⟩) 2 2) wideP.parts := by
  refine ⟨some ⟨b, 0, none⟩, 2, rfl, Nat.le_refl _, fun i hi => ?_⟩
  have hi2 : i < 2 := hi
  have cl : ∀ j, w.cell? ⟨b, j, none⟩ = wideC[j]? := fun j => by rw [cell_of_row _ _ j _ _ _ h]
  match i, hi2 with
  | 0, _ =>
    refine ⟨b, 0, vPart ⟨1, 2, 1, 0, 0, 0, []⟩ (.slice none 0 0), rfl, rfl, fun j u hj => ?_, _, rfl, ?_, Els.nil _ _ _ _ _⟩
    · rw [show 0 + 0 * 7 + j = j by omega, cl]
      match j, hj with
      | 0, hj => exact hj
      | 1, hj => exact hj
      | 2, hj => exact hj
      | 3, hj => exact hj
      | 4, hj => exact hj
      | 5, hj => exact hj
      | 6, hj => exact hj
      | j + 7, hj => simp [vPart] at hj
    · exact show PartB ⟨1, 2, 1, 0, 0, 0, []⟩ from ⟨by unfold R64; decide, by unfold R64; decide, by unfold R64; decide, by unfold R64; decide, by unfold R64; decide, by unfold R64; decide, by decide⟩
  | 1, _ =>
    refine ⟨b, 0, vPart ⟨2, 1, 1, 0, 0, 0, []⟩ (.slice none 0 0), rfl, rfl, fun j u hj => ?_, _, rfl, ?_, Els.nil _ _ _ _ _⟩
    · rw [show 0 + 1 * 7 + j = 7 + j by omega, cl]
      match j, hj with
      | 0, hj => exact hj
      | 1, hj => exact hj
      | 2, hj => exact hj
      | 3, hj => exact hj
      | 4, hj => exact hj
      | 5, hj => exact hj
      | 6, hj => exact hj
      | j + 7, hj => simp [vPart] at hj
    · exact show PartB ⟨2, 1, 1, 0, 0, 0, []⟩ from ⟨by unfold R64; decide, by unfold R64; decide, by unfold R64; decide, by unfold R64; decide, by unfold R64; decide, by unfold R64; decide, by decide⟩
set_option maxRecDepth 20000 in
set_option maxHeartbeats 4000000 in
theorem wide_any (w : World) : Calls Try.prog 21 #[] w fun e w' => ∃ b, e = .returned (.agg (wideA b)) ∧ w'.heap[b]? = some (.cells wideC 48 (0, 0)) ∧ w.heap.size ≤ b ∧ Below w.heap.size w w' := by
  go_enter Try.func21, Try.ntmps21
  go_wp2_with fail
  go_returns
  exact ⟨w.heap.size + 1, rfl, heap_new1 _ _ _, by omega, ((Below.refl _ _).alloc (Nat.le_refl _) _).alloc (by simp) _⟩
theorem wide_size : sizeL wideP 0 = (4, 1) := by decide +kernel
theorem wide_own : ownL wideP 0 = (3, 1) := by decide +kernel
theorem wide_n : unitsN wideP [0, 1] = 2 := by decide +kernel
theorem wide_len (q : Nat) : (unitsF wideP [0, 1] q).length = 3 := by
  have h0 : partN wideP 0 = 2 := by decide +kernel
  have h1 : partN wideP 1 = 1 := by decide +kernel
  simp [unitsF, severalF, unitAt, h0, h1]
end Go.Proofs.Ytbcbfnkpnfbfjaa
