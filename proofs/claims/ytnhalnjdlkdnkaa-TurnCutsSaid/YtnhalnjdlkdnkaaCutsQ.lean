/- TurnCuts: what its three crops come to, plain. By an AI agent. -/
import Derived.Test.YtnhalnjdlkdnkaaCutsP
namespace Go.Proofs.Ytnhalnjdlkdnkaa
set_option linter.unusedVariables false
set_option linter.unusedSimpArgs false
set_option maxRecDepth 20000

theorem side_at {x a W : Int} (ha : 0 < a) (hx : 0 ≤ x) (hW : x < W) (hWl : W ≤ 65535) : (x / a * a) % a = 0 ∧ (x / a * a) / a = x / a ∧ (0 ≤ x / a * a ∧ x / a * a < W) ∧ cropW (x / a * a) 1048576 W a = W - x / a * a ∧ ∀ w, cropW (x / a * a) w W a = minI w (W - x / a * a) := by
  have h1 : x / a * a ≤ x := Int.ediv_mul_le x (by omega)
  have h2 : 0 ≤ x / a * a := Int.mul_nonneg (Int.ediv_nonneg hx (by omega)) (by omega)
  have h3 : (x / a * a) / a = x / a := Int.mul_ediv_cancel _ (by omega)
  refine ⟨Int.mul_emod_left _ _, h3, ⟨h2, by omega⟩, ?_, fun w => ?_⟩
  · unfold cropW minI
    rw [h3, if_pos (by omega)]
    omega
  · unfold cropW
    rw [h3]
    omega
theorem range_ok {P : PicL} {x y w h : Int} (hx : 0 ≤ x ∧ x < P.w) (hy : 0 ≤ y ∧ y < P.h) (hw : 1 ≤ w) (hh : 1 ≤ h) : rangeB P x y w h = false := by
  unfold rangeB
  simp only [Bool.or_eq_false_iff, decide_eq_false_iff_not]
  omega
theorem crop_ok {P : PicL} {x y w h : Int} (hg : goodB P = true) (hr : rangeB P x y w h = false) (h1 : x % (8 * maxH P.parts) = 0) (h2 : y % (8 * maxV P.parts) = 0) : cropE P x y w h true = 0 ∧ cropL P x y w h true = cropIn P x y w h := by
  have e : cropE P x y w h true = 0 := by
    unfold cropE
    rw [if_neg (by rw [hg]; decide), if_neg (by rw [hr]; decide), if_neg]
    unfold offB
    rw [decide_eq_false (fun h => h h1), decide_eq_false (fun h => h h2)]
    decide
  exact ⟨e, by unfold cropL; rw [if_pos e]⟩
theorem cuts_plain {P : PicL} {x y w h : Int} (hg : goodB P = true) (hx : 0 ≤ x ∧ x < P.w) (hy : 0 ≤ y ∧ y < P.h) (hw : 1 ≤ w) (hh : 1 ≤ h) (X Y : Int) (hX : x / (8 * maxH P.parts) * (8 * maxH P.parts) = X) (hY : y / (8 * maxV P.parts) * (8 * maxV P.parts) = Y) :
    cropE P X 0 1048576 1048576 true = 0 ∧ goodB (cropL P X 0 1048576 1048576 true) = true ∧ cropE (cropL P X 0 1048576 1048576 true) 0 Y w h true = 0 ∧ cropE P X Y w h true = 0 ∧
      cropL (cropL P X 0 1048576 1048576 true) 0 Y w h true = cropL P X Y w h true ∧ (cropL P X Y w h true).w ≤ w ∧ (cropL P X Y w h true).h ≤ h ∧ GoodS (cropL P X Y w h true) := by
  have G := (good_iff P).1 hg
  have F := G.fit
  obtain ⟨m1, m2⟩ := max_of F.fac F.n.1
  obtain ⟨x1, x2, x3, x4, x5⟩ := side_at (x := x) (a := 8 * maxH P.parts) (W := P.w) (by omega) hx.1 hx.2 F.w.2
  obtain ⟨y1, y2, y3, y4, y5⟩ := side_at (x := y) (a := 8 * maxV P.parts) (W := P.h) (by omega) hy.1 hy.2 F.h.2
  obtain ⟨z1, z2, z3, z4, z5⟩ := side_at (x := 0) (a := 8 * maxV P.parts) (W := P.h) (by omega) (Int.le_refl _) (by have := F.h; omega) F.h.2
  rw [hX] at x1 x2 x3 x4 x5
  rw [hY] at y1 y2 y3 y4 y5
  rw [Int.zero_ediv, Int.zero_mul] at z1 z2 z3 z4 z5
  have hH := F.h
  have r1 := range_ok (P := P) (w := 1048576) (h := 1048576) x3 (⟨Int.le_refl _, by omega⟩ : (0 : Int) ≤ 0 ∧ 0 < P.h) (by decide) (by decide)
  obtain ⟨e1, l1⟩ := crop_ok hg r1 x1 z1
  have I1 := crop_in F r1
  rw [x2, x4, Int.zero_ediv, z4, Int.sub_zero] at I1
  have c1 : cropL P X 0 1048576 1048576 true = cutL P (x / (8 * maxH P.parts)) 0 (P.w - X) P.h := by
    rw [l1]
    unfold cropIn
    rw [x2, x4, Int.zero_ediv, z4, Int.sub_zero]
  have G1 := good_cut G I1
  have hg1 := (good_iff _).2 G1
  have F1 := G1.fit
  have kc := kin_cut P (x / (8 * maxH P.parts)) 0 (P.w - X) P.h
  have mh := kin_maxH kc
  have mv := kin_maxV kc
  have r2 : rangeB (cutL P (x / (8 * maxH P.parts)) 0 (P.w - X) P.h) 0 Y w h = false := range_ok (⟨Int.le_refl _, by show 0 < P.w - X; omega⟩) (show 0 ≤ Y ∧ Y < P.h from y3) hw hh
  obtain ⟨e2, l2⟩ := crop_ok (w := w) (h := h) hg1 r2 (by rw [Int.zero_emod]) (by rw [mv]; exact y1)
  have I2 := crop_in F1 r2
  have q1 : cropW 0 w (cutL P (x / (8 * maxH P.parts)) 0 (P.w - X) P.h).w (8 * maxH (cutL P (x / (8 * maxH P.parts)) 0 (P.w - X) P.h).parts) = minI w (P.w - X) := by
    unfold cropW
    rw [Int.zero_ediv, Int.zero_mul]
    show 0 + minI w (P.w - X - 0) - 0 = _
    simp only [Int.sub_zero, Int.zero_add]
  have q2 : cropW Y h (cutL P (x / (8 * maxH P.parts)) 0 (P.w - X) P.h).h (8 * maxV (cutL P (x / (8 * maxH P.parts)) 0 (P.w - X) P.h).parts) = minI h (P.h - Y) := by
    rw [mv]
    exact y5 h
  rw [q1, q2, Int.zero_ediv, mv, y2] at I2
  obtain ⟨I3, ec⟩ := cut_cut G I1 I2
  have r3 := range_ok (P := P) x3 y3 hw hh
  obtain ⟨e3, l3⟩ := crop_ok hg r3 x1 y1
  have c3 : cropL P X Y w h true = cutL P (x / (8 * maxH P.parts)) (y / (8 * maxV P.parts)) (minI w (P.w - X)) (minI h (P.h - Y)) := by
    rw [l3]
    unfold cropIn
    rw [x2, x5, y2, y5]
  have c2 : cropL (cutL P (x / (8 * maxH P.parts)) 0 (P.w - X) P.h) 0 Y w h true = cutL (cutL P (x / (8 * maxH P.parts)) 0 (P.w - X) P.h) 0 (y / (8 * maxV P.parts)) (minI w (P.w - X)) (minI h (P.h - Y)) := by
    rw [l2]
    unfold cropIn
    rw [q1, q2, Int.zero_ediv, mv, y2]
  rw [c1]
  refine ⟨e1, hg1, e2, e3, by rw [c2, c3, ec], ?_, ?_, ?_⟩
  · rw [c3]
    show minI w (P.w - X) ≤ w
    unfold minI
    split <;> omega
  · rw [c3]
    show minI h (P.h - Y) ≤ h
    unfold minI
    split <;> omega
  · rw [c3]
    exact good_cut G I3
end Go.Proofs.Ytnhalnjdlkdnkaa
