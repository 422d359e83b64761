/- Pictures cropped: plain. By an AI agent. -/
import Derived.Test.YtnhalnjdlkdnkaaGoodC
namespace Go.Proofs.Ytnhalnjdlkdnkaa
set_option linter.unusedVariables false
set_option linter.unusedSimpArgs false
set_option maxRecDepth 20000

def minI (a b : Int) : Int := if b < a then b else a
def cropW (x w W a : Int) : Int := x + minI w (W - x) - x / a * a
def rangeB (P : PicL) (x y w h : Int) : Bool := decide (x < 0) || decide (y < 0) || decide (w < 1) || decide (h < 1) || decide (P.w ≤ x) || decide (P.h ≤ y)
def offB (P : PicL) (x y : Int) (pf : Bool) : Bool := pf && (decide (x % (8 * maxH P.parts) ≠ 0) || decide (y % (8 * maxV P.parts) ≠ 0))
def zeroP : PicL := ⟨0, 0, [], [], [], [], [], 0, []⟩
def cropE (P : PicL) (x y w h : Int) (pf : Bool) : Int := if goodB P = false then 6 else if rangeB P x y w h = true then 7 else if offB P x y pf = true then 5 else 0
def cropIn (P : PicL) (x y w h : Int) : PicL := cutL P (x / (8 * maxH P.parts)) (y / (8 * maxV P.parts)) (cropW x w P.w (8 * maxH P.parts)) (cropW y h P.h (8 * maxV P.parts))
def cropL (P : PicL) (x y w h : Int) (pf : Bool) : PicL := if cropE P x y w h pf = 0 then cropIn P x y w h else zeroP
/-- the numbers of one side -/
theorem crop_side {x w W a : Int} (hx : 0 ≤ x) (hW : x < W) (hw : 1 ≤ w) (ha : 0 < a) (hWl : W ≤ 65535) :
    (0 ≤ x / a) ∧ 1 ≤ cropW x w W a ∧ x / a * a + cropW x w W a ≤ W ∧ (0 ≤ x / a * a ∧ x / a * a ≤ x) ∧ (1 ≤ minI w (W - x) ∧ minI w (W - x) ≤ W - x) := by
  have h1 : 0 ≤ x / a := Int.ediv_nonneg hx (by omega)
  have h2 : x / a * a ≤ x := Int.ediv_mul_le x (by omega)
  have h3 : 0 ≤ x / a * a := Int.mul_nonneg h1 (by omega)
  have h4 : 1 ≤ minI w (W - x) ∧ minI w (W - x) ≤ W - x := by unfold minI; split <;> omega
  unfold cropW
  omega
theorem crop_in {P : PicL} {x y w h : Int} (F : Fit P) (hr : rangeB P x y w h = false) : In P (x / (8 * maxH P.parts)) (y / (8 * maxV P.parts)) (cropW x w P.w (8 * maxH P.parts)) (cropW y h P.h (8 * maxV P.parts)) := by
  unfold rangeB at hr
  simp only [Bool.or_eq_false_iff, decide_eq_false_iff_not] at hr
  obtain ⟨⟨⟨⟨⟨h1, h2⟩, h3⟩, h4⟩, h5⟩, h6⟩ := hr
  obtain ⟨m1, m2⟩ := max_of F.fac F.n.1
  have a := crop_side (x := x) (w := w) (W := P.w) (a := 8 * maxH P.parts) (by omega) (by omega) (by omega) (by omega) F.w.2
  have b := crop_side (x := y) (w := h) (W := P.h) (a := 8 * maxV P.parts) (by omega) (by omega) (by omega) (by omega) F.h.2
  exact ⟨a.1, b.1, a.2.1, b.2.1, a.2.2.1, b.2.2.1⟩
theorem crop_good {P : PicL} {x y w h : Int} {pf : Bool} (he : cropE P x y w h pf = 0) : goodB P = true ∧ rangeB P x y w h = false ∧ offB P x y pf = false := by
  unfold cropE at he
  split at he
  · cases he
  · split at he
    · cases he
    · split at he
      · cases he
      · rename_i h1 h2 h3
        exact ⟨by simpa using h1, by simpa using h2, by simpa using h3⟩
theorem crop_zero {P : PicL} {x y w h : Int} {pf : Bool} (he : cropE P x y w h pf ≠ 0) : cropL P x y w h pf = zeroP := by unfold cropL; rw [if_neg he]
end Go.Proofs.Ytnhalnjdlkdnkaa
