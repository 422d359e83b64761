/- The struct of a crop in its box; what is cropped stays within bounds. By an AI agent. -/
import Derived.Test.YtnhalnjdlkdnkaaCropW
import Derived.Test.YtnhalnjdlkdnkaaCroO
namespace Go.Proofs.Ytnhalnjdlkdnkaa
open Go.RowKit Go.BigFrame
set_option linter.unusedVariables false
set_option linter.unusedSimpArgs false
set_option maxRecDepth 20000

def CBox (w : World) (B : Nat) (P : PicL) (q0 q1 q2 q3 pv kv : Value) (x y cw ch : Int) (pf : Bool) : Prop := w.heap[B]? = some (.cells (vCro P q0 q1 q2 q3 pv kv x y cw ch pf) 38 (0, 0))
theorem CBox.old {w w' : World} {B : Nat} {P : PicL} {q0 q1 q2 q3 pv kv : Value} {x y cw ch : Int} {pf : Bool} (h : CBox w B P q0 q1 q2 q3 pv kv x y cw ch pf) (hb : Below w.heap.size w w') : CBox w' B P q0 q1 q2 q3 pv kv x y cw ch pf := by
  unfold CBox; rw [hb.block B (Array.getElem?_eq_some_iff.1 h).1]; exact h
/-- the crop is moved to another corner -/
theorem CBox.put {w : World} {B : Nat} {P : PicL} {q0 q1 q2 q3 pv kv : Value} {x y cw ch : Int} {pf : Bool} (h : CBox w B P q0 q1 q2 q3 pv kv x y cw ch pf) (X Y : Int) : CBox ((w.setCell ⟨B, 9, none⟩ (.int .i64 X)).setCell ⟨B, 10, none⟩ (.int .i64 Y)) B P q0 q1 q2 q3 pv kv X Y cw ch pf := by
  unfold CBox at h ⊢
  simp [World.setCell, Array.getElem?_modify, h, vCro]
theorem CBox.cells {w : World} {B : Nat} {P : PicL} {q0 q1 q2 q3 pv kv : Value} {x y cw ch : Int} {pf : Bool} (h : CBox w B P q0 q1 q2 q3 pv kv x y cw ch pf) :
    (w.cell? ⟨B, 0, none⟩ = some (.int .i64 P.w) ∧ w.cell? ⟨B, 1, none⟩ = some (.int .i64 P.h) ∧ w.cell? ⟨B, 2, none⟩ = some q0 ∧ w.cell? ⟨B, 3, none⟩ = some q1 ∧ w.cell? ⟨B, 4, none⟩ = some q2 ∧ w.cell? ⟨B, 5, none⟩ = some q3 ∧ w.cell? ⟨B, 6, none⟩ = some pv ∧ w.cell? ⟨B, 7, none⟩ = some (.int .i64 P.restart) ∧ w.cell? ⟨B, 8, none⟩ = some kv) ∧
    w.cell? ⟨B, 9, none⟩ = some (.int .i64 x) ∧ w.cell? ⟨B, 10, none⟩ = some (.int .i64 y) ∧ w.cell? ⟨B, 11, none⟩ = some (.int .i64 cw) ∧ w.cell? ⟨B, 12, none⟩ = some (.int .i64 ch) ∧ w.cell? ⟨B, 13, none⟩ = some (.bool pf) :=
  ⟨⟨by rw [cell_of_row _ _ 0 _ _ _ h]; rfl, by rw [cell_of_row _ _ 1 _ _ _ h]; rfl, by rw [cell_of_row _ _ 2 _ _ _ h]; rfl, by rw [cell_of_row _ _ 3 _ _ _ h]; rfl, by rw [cell_of_row _ _ 4 _ _ _ h]; rfl, by rw [cell_of_row _ _ 5 _ _ _ h]; rfl, by rw [cell_of_row _ _ 6 _ _ _ h]; rfl, by rw [cell_of_row _ _ 7 _ _ _ h]; rfl, by rw [cell_of_row _ _ 8 _ _ _ h]; rfl⟩, by rw [cell_of_row _ _ 9 _ _ _ h]; rfl, by rw [cell_of_row _ _ 10 _ _ _ h]; rfl, by rw [cell_of_row _ _ 11 _ _ _ h]; rfl, by rw [cell_of_row _ _ 12 _ _ _ h]; rfl, by rw [cell_of_row _ _ 13 _ _ _ h]; rfl⟩
/-- a picture of one's own may be stored as a row -/
theorem PicO.one {base : Nat} {w : World} {Q : PicL} {s0 s1 s2 s3 rv tv : Value} (h : PicO base w Q s0 s1 s2 s3 rv tv) : (vPic Q s0 s1 s2 s3 rv tv).all (·.oneCell') = true := by
  obtain ⟨e0, g0, hs0⟩ := owns_any h.q0
  obtain ⟨e1, g1, hs1⟩ := owns_any h.q1
  obtain ⟨e2, g2, hs2⟩ := owns_any h.q2
  obtain ⟨e3, g3, hs3⟩ := owns_any h.q3
  obtain ⟨_, _, hpp⟩ := h.parts
  obtain ⟨_, _, hkk⟩ := h.kept
  obtain ⟨e4, g4, hs4⟩ := owns_any hpp.row
  obtain ⟨e5, g5, hs5⟩ := owns_any hkk.row
  rw [hs0, hs1, hs2, hs3, hs4, hs5]; kernel_rfl
theorem crop_keeps (P : PicL) (x y w h : Int) (pf : Bool) : (cropL P x y w h pf).q0.length ≤ P.q0.length ∧ (cropL P x y w h pf).q1.length ≤ P.q1.length ∧ (cropL P x y w h pf).q2.length ≤ P.q2.length ∧ (cropL P x y w h pf).q3.length ≤ P.q3.length ∧ (cropL P x y w h pf).kept.length ≤ P.kept.length := by
  unfold cropL
  split
  · exact ⟨Nat.le_refl _, Nat.le_refl _, Nat.le_refl _, Nat.le_refl _, Nat.le_refl _⟩
  · exact ⟨Nat.zero_le _, Nat.zero_le _, Nat.zero_le _, Nat.zero_le _, Nat.zero_le _⟩
theorem crop_bounds {P : PicL} {x y w h : Int} {pf : Bool} (hB : PicB P) (g : GoodS (cropL P x y w h pf)) : PicB (cropL P x y w h pf) := by
  obtain ⟨k0, k1, k2, k3, k4⟩ := crop_keeps P x y w h pf
  have e1 := g.w; have e2 := g.h; have e3 := g.r; have e4 := g.n
  exact ⟨by unfold R64; omega, by unfold R64; omega, by unfold R64; omega, Nat.le_trans k0 hB.q0, Nat.le_trans k1 hB.q1, Nat.le_trans k2 hB.q2, Nat.le_trans k3 hB.q3, by omega, Nat.le_trans k4 hB.kept⟩
end Go.Proofs.Ytnhalnjdlkdnkaa
