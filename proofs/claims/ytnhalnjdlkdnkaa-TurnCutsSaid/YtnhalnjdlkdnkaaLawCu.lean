/- TurnCuts: the law's walk (under way). By an AI agent. -/
import Derived.Test.YtnhalnjdlkdnkaaCutsQ
import Derived.Test.YtnhalnjdlkdnkaaCropW
import Derived.Test.YtnhalnjdlkdnkaaLargeT
import Derived.Test.YtnhalnjdlkdnkaaCroO
import Derived.Test.YtnhalnjdlkdnkaaLawTB
import Derived.Test.YtnhalnjdlkdnkaaRefG
import Derived.Test.YtnhalnjdlkdnkaaRSame
namespace Go.Proofs.Ytnhalnjdlkdnkaa
open Go.RowKit Go.BigFrame
set_option linter.unusedVariables false
set_option linter.unusedSimpArgs false
set_option maxRecDepth 20000

def CBox (w : World) (B : Nat) (P : PicL) (q0 q1 q2 q3 pv kv : Value) (x y cw ch : Int) (pf : Bool) : Prop := w.heap[B]? = some (.cells (vCro P q0 q1 q2 q3 pv kv x y cw ch pf) 38 (0, 0))
theorem CBox.old {w w' : World} {B : Nat} {P : PicL} {q0 q1 q2 q3 pv kv : Value} {x y cw ch : Int} {pf : Bool} (h : CBox w B P q0 q1 q2 q3 pv kv x y cw ch pf) (hb : Below w.heap.size w w') : CBox w' B P q0 q1 q2 q3 pv kv x y cw ch pf := by
  unfold CBox; rw [hb.block B (Array.getElem?_eq_some_iff.1 h).1]; exact h
/-- the crop is moved to another corner -/
theorem CBox.put {w : World} {B : Nat} {P : PicL} {q0 q1 q2 q3 pv kv : Value} {x y cw ch : Int} {pf : Bool} (h : CBox w B P q0 q1 q2 q3 pv kv x y cw ch pf) (X Y : Int) : CBox ((w.setCell ⟨B, 9, none⟩ (.int .i64 X)).setCell ⟨B, 10, none⟩ (.int .i64 Y)) B P q0 q1 q2 q3 pv kv X Y cw ch pf := by
  unfold CBox at h ⊢
  simp [World.setCell, Array.getElem?_modify, h, vCro]
theorem CBox.cells {w : World} {B : Nat} {P : PicL} {q0 q1 q2 q3 pv kv : Value} {x y cw ch : Int} {pf : Bool} (h : CBox w B P q0 q1 q2 q3 pv kv x y cw ch pf) :
    (w.cell? ⟨B, 0, none⟩ = some (.int .i64 P.w) ∧ w.cell? ⟨B, 1, none⟩ = some (.int .i64 P.h) ∧ w.cell? ⟨B, 2, none⟩ = some q0 ∧ w.cell? ⟨B, 3, none⟩ = some q1 ∧ w.cell? ⟨B, 4, none⟩ = some q2 ∧ w.cell? ⟨B, 5, none⟩ = some q3 ∧ w.cell? ⟨B, 6, none⟩ = some pv ∧ w.cell? ⟨B, 7, none⟩ = some (.int .i64 P.restart) ∧ w.cell? ⟨B, 8, none⟩ = some kv) ∧
    w.cell? ⟨B, 9, none⟩ = some (.int .i64 x) ∧ w.cell? ⟨B, 10, none⟩ = some (.int .i64 y) ∧ w.cell? ⟨B, 11, none⟩ = some (.int .i64 cw) ∧ w.cell? ⟨B, 12, none⟩ = some (.int .i64 ch) ∧ w.cell? ⟨B, 13, none⟩ = some (.bool pf) :=
  ⟨⟨by rw [cell_of_row _ _ 0 _ _ _ h]; rfl, by rw [cell_of_row _ _ 1 _ _ _ h]; rfl, by rw [cell_of_row _ _ 2 _ _ _ h]; rfl, by rw [cell_of_row _ _ 3 _ _ _ h]; rfl, by rw [cell_of_row _ _ 4 _ _ _ h]; rfl, by rw [cell_of_row _ _ 5 _ _ _ h]; rfl, by rw [cell_of_row _ _ 6 _ _ _ h]; rfl, by rw [cell_of_row _ _ 7 _ _ _ h]; rfl, by rw [cell_of_row _ _ 8 _ _ _ h]; rfl⟩, by rw [cell_of_row _ _ 9 _ _ _ h]; rfl, by rw [cell_of_row _ _ 10 _ _ _ h]; rfl, by rw [cell_of_row _ _ 11 _ _ _ h]; rfl, by rw [cell_of_row _ _ 12 _ _ _ h]; rfl, by rw [cell_of_row _ _ 13 _ _ _ h]; rfl⟩
theorem cuts_cases (x y W H w h : Int) : (decide (x < 0) = true) ∨ (decide (x < 0) = false ∧ decide (y < 0) = true) ∨ (decide (x < 0) = false ∧ decide (y < 0) = false ∧ decide (W ≤ x) = true) ∨
    (decide (x < 0) = false ∧ decide (y < 0) = false ∧ decide (W ≤ x) = false ∧ decide (H ≤ y) = true) ∨ (decide (x < 0) = false ∧ decide (y < 0) = false ∧ decide (W ≤ x) = false ∧ decide (H ≤ y) = false ∧ decide (w < 1) = true) ∨
    (decide (x < 0) = false ∧ decide (y < 0) = false ∧ decide (W ≤ x) = false ∧ decide (H ≤ y) = false ∧ decide (w < 1) = false ∧ decide (h < 1) = true) ∨
    (decide (x < 0) = false ∧ decide (y < 0) = false ∧ decide (W ≤ x) = false ∧ decide (H ≤ y) = false ∧ decide (w < 1) = false ∧ decide (h < 1) = false) := by
  cases decide (x < 0) <;> cases decide (y < 0) <;> cases decide (w < 1) <;> cases decide (h < 1) <;> cases decide (W ≤ x) <;> cases decide (H ≤ y) <;> simp
/-- a picture of one's own may be stored as a row -/
theorem PicO.one {base : Nat} {w : World} {Q : PicL} {s0 s1 s2 s3 rv tv : Value} (h : PicO base w Q s0 s1 s2 s3 rv tv) : (vPic Q s0 s1 s2 s3 rv tv).all (·.oneCell') = true := by
  obtain ⟨e0, g0, hs0⟩ := owns_any h.q0
  obtain ⟨e1, g1, hs1⟩ := owns_any h.q1
  obtain ⟨e2, g2, hs2⟩ := owns_any h.q2
  obtain ⟨e3, g3, hs3⟩ := owns_any h.q3
  obtain ⟨_, _, hpp⟩ := h.parts
  obtain ⟨_, _, hkk⟩ := h.kept
  obtain ⟨e4, g4, hs4⟩ := owns_any hpp.row
  obtain ⟨e5, g5, hs5⟩ := owns_any hkk.row
  rw [hs0, hs1, hs2, hs3, hs4, hs5]; kernel_rfl
theorem crop_keeps (P : PicL) (x y w h : Int) (pf : Bool) : (cropL P x y w h pf).q0.length ≤ P.q0.length ∧ (cropL P x y w h pf).q1.length ≤ P.q1.length ∧ (cropL P x y w h pf).q2.length ≤ P.q2.length ∧ (cropL P x y w h pf).q3.length ≤ P.q3.length ∧ (cropL P x y w h pf).kept.length ≤ P.kept.length := by
  unfold cropL
  split
  · exact ⟨Nat.le_refl _, Nat.le_refl _, Nat.le_refl _, Nat.le_refl _, Nat.le_refl _⟩
  · exact ⟨Nat.zero_le _, Nat.zero_le _, Nat.zero_le _, Nat.zero_le _, Nat.zero_le _⟩
theorem crop_bounds {P : PicL} {x y w h : Int} {pf : Bool} (hB : PicB P) (g : GoodS (cropL P x y w h pf)) : PicB (cropL P x y w h pf) := by
  obtain ⟨k0, k1, k2, k3, k4⟩ := crop_keeps P x y w h pf
  have e1 := g.w; have e2 := g.h; have e3 := g.r; have e4 := g.n
  exact ⟨by unfold R64; omega, by unfold R64; omega, by unfold R64; omega, Nat.le_trans k0 hB.q0, Nat.le_trans k1 hB.q1, Nat.le_trans k2 hB.q2, Nat.le_trans k3 hB.q3, by omega, Nat.le_trans k4 hB.kept⟩
/-- where a picture is cut: the start of its unit, as the walk finds it -/
theorem quo_facts (x W a : Int) (hx : 0 ≤ x ∧ x < W) (hW : W ≤ 65535) (ha : 1 ≤ a ∧ a ≤ 32) : ∃ q X : Int, (x.tdiv a = q ∧ wrap64 q = q ∧ IntKind.i64.wrap q = q) ∧ (wrap64 (q * a) = X ∧ IntKind.i64.wrap (q * a) = X) ∧ x / a * a = X ∧ (¬ a = 0) ∧ (a == 0) = false := by
  have h6 : x / a ≤ x := Int.ediv_le_self _ hx.1
  have h7 : x / a * a ≤ x := Int.ediv_mul_le _ (by omega)
  have h8 : 0 ≤ x / a := Int.ediv_nonneg hx.1 (by omega)
  have h9 : 0 ≤ x / a * a := Int.mul_nonneg h8 (by omega)
  refine ⟨x / a, x / a * a, ⟨Int.tdiv_eq_ediv_of_nonneg hx.1, wrapZ _ (by omega)⟩, wrapZ _ (by omega), rfl, by omega, ?_⟩
  rw [beq_eq_false_iff_ne]; omega
set_option maxHeartbeats 16000000 in
theorem lawCuts_any (P : PicL) (q0 q1 q2 q3 pv kv : Value) (x y cw ch : Int) (pf : Bool) (wi he : Int) (w : World) (hp : PicC w P q0 q1 q2 q3 pv kv) (hB : PicB P) (hx : R64 x) (hy : R64 y) (hcw : R64 cw) (hch : R64 ch)
    (hwi : -9223372036854775808 ≤ wi ∧ wi ≤ 9223372036854775807) (hhe : -9223372036854775808 ≤ he ∧ he ≤ 9223372036854775807) :
    Calls Try.prog 6 #[.agg (vCro P q0 q1 q2 q3 pv kv x y cw ch pf), .int .i64 wi, .int .i64 he] w fun e w' => e = .returned (.bool true) ∧ Below w.heap.size w w' := by
  have HP := Lib.hid hp
  have HBB := Lib.hid hB
  obtain ⟨w1, hw1⟩ : ∃ w1, w.alloc (.cells (vCro P q0 q1 q2 q3 pv kv x y cw ch pf) 38) = w1 := ⟨_, rfl⟩
  have hb1 : Below w.heap.size w w1 := by rw [← hw1]; exact (Below.refl _ _).alloc (Nat.le_refl _) _
  obtain ⟨B, hBe⟩ : ∃ B, w.heap.size = B := ⟨_, rfl⟩
  have X1 : Hid (CBox w1 B P q0 q1 q2 q3 pv kv x y cw ch pf) := Lib.hid (by rw [← hw1, ← hBe]; exact heap_alloc_new _ _)
  have B1 := Lib.hid hb1
  have HB := Lib.hid hBe
  clear hp hB hx hy hcw hch hwi hhe hb1
  unfold vCro at hw1
  unfold vCro
  go_enter Try.func6, Try.ntmps6
  go_wp2_with fail
  refine (alive_any _).mono ?_; rintro e w2 ⟨rfl, hb2⟩
  have X2 := Lib.hid (X1.out.old hb2)
  have B2 : Hid (Below w.heap.size w w2) := Lib.hid (B1.out.trans (hb2.mono B1.out.size))
  clear hb2 hw1 hBe X1 B1
  obtain ⟨⟨a0, a1, a2, a3, a4, a5, a6, a7, a8⟩, c0, c1, c2, c3, c4⟩ := X2.out.cells
  go_wp2_with fail
  refine (largeT_any P q0 q1 q2 q3 pv kv w2 (HP.out.old B2.out) HBB.out).mono ?_
  rintro e w3 ⟨⟨q, rfl, hq⟩, hb3⟩
  have X3 := Lib.hid (X2.out.old hb3)
  have B3 : Hid (Below w.heap.size w w3) := Lib.hid (B2.out.trans (hb3.mono B2.out.size))
  have HQ := Lib.hid hq
  clear hb3 hq a0 a1 a2 a3 a4 a5 a6 a7 a8 c0 c1 c2 c3 c4 X2 B2
  obtain ⟨⟨a0, a1, a2, a3, a4, a5, a6, a7, a8⟩, c0, c1, c2, c3, c4⟩ := X3.out.cells
  cases q with
  | true =>
    go_wp2_with fail
    go_ret
    exact ⟨rfl, B3.out⟩
  | false =>
  have SM := Lib.hid (HQ.out rfl)
  go_wp2_with fail
  refine (refGood_any P q0 q1 q2 q3 pv kv w3 (HP.out.old B3.out) HBB.out).mono ?_
  rintro e w4 ⟨rfl, hb4⟩
  have X4 := Lib.hid (X3.out.old hb4)
  have B4 : Hid (Below w.heap.size w w4) := Lib.hid (B3.out.trans (hb4.mono B3.out.size))
  clear hb4 a0 a1 a2 a3 a4 a5 a6 a7 a8 c0 c1 c2 c3 c4 X3 B3
  obtain ⟨⟨a0, a1, a2, a3, a4, a5, a6, a7, a8⟩, c0, c1, c2, c3, c4⟩ := X4.out.cells
  rcases hg : goodB P with _ | _
  · clear hg
    go_wp2_with fail
    go_ret
    exact ⟨rfl, B4.out⟩
  have HG := Lib.hid hg
  have CC := Lib.hid (cuts_cases x y P.w P.h wi he)
  clear hg
  rcases CC.out with d1 | ⟨d1, d2⟩ | ⟨d1, d2, d3⟩ | ⟨d1, d2, d3, d4⟩ | ⟨d1, d2, d3, d4, d5⟩ | ⟨d1, d2, d3, d4, d5, d6⟩ | ⟨d1, d2, d3, d4, d5, d6⟩
  iterate 6
    · go_wp2_with fail
      go_ret
      exact ⟨rfl, B4.out⟩
  have GS := Lib.hid ((good_iff P).1 HG.out)
  have XY : Hid ((0 ≤ x ∧ x < P.w) ∧ (0 ≤ y ∧ y < P.h) ∧ 1 ≤ wi ∧ 1 ≤ he) := Lib.hid (by
    have e1 := of_decide_eq_false d1; have e2 := of_decide_eq_false d2; have e3 := of_decide_eq_false d3; have e4 := of_decide_eq_false d4; have e5 := of_decide_eq_false d5; have e6 := of_decide_eq_false d6
    omega)
  have MO := Lib.hid (most_of GS.out.w GS.out.h GS.out.fit.fac 0 (by have := GS.out.n; omega))
  have PL : Hid (P.parts.length ≤ 140737488351232) := Lib.hid (by have := GS.out.n; omega)
  clear CC
  go_wp2_with (go_at_call 22; refine (refUnit_any P q0 q1 q2 q3 pv kv w4 (HP.out.old B4.out).parts PL.out MO.out).mono ?_; rintro e w5 ⟨rfl, hb5⟩)
  have X5 := Lib.hid (X4.out.old hb5)
  have B5 : Hid (Below w.heap.size w w5) := Lib.hid (B4.out.trans (hb5.mono B4.out.size))
  clear hb5 a0 a1 a2 a3 a4 a5 a6 a7 a8 c0 c1 c2 c3 c4 X4 B4
  have MX := Lib.hid (max_of GS.out.fit.fac GS.out.n.1)
  obtain ⟨ua, hua⟩ : ∃ u, 8 * maxH P.parts = u := ⟨_, rfl⟩
  obtain ⟨ub, hub⟩ : ∃ u, 8 * maxV P.parts = u := ⟨_, rfl⟩
  have HUA := Lib.hid hua
  have HUB := Lib.hid hub
  have QX := Lib.hid (quo_facts x P.w ua XY.out.1 GS.out.w.2 (by have := MX.out; have := HUA.out; omega))
  have QY := Lib.hid (quo_facts y P.h ub XY.out.2.1 GS.out.h.2 (by have := MX.out; have := HUB.out; omega))
  rw [hua, hub]
  clear hua hub
  obtain ⟨qx, X, ⟨f1, f2, f3⟩, ⟨f4, f5⟩, f6, f7, f8⟩ := QX.out
  obtain ⟨qy, Y, ⟨k1, k2, k3⟩, ⟨k4, k5⟩, k6, k7, k8⟩ := QY.out
  have KX := Lib.hid f6
  have KY := Lib.hid k6
  clear f6 k6 d1 d2 d3 d4 d5 d6
  obtain ⟨⟨a0, a1, a2, a3, a4, a5, a6, a7, a8⟩, c0, c1, c2, c3, c4⟩ := X5.out.cells
  have z9 : w5.frozen? ⟨B, 9, none⟩ = false := frozen_of_row w5 B 9 _ _ X5.out
  have z10 : w5.frozen? ⟨B, 10, none⟩ = false := frozen_of_row w5 B 10 _ _ X5.out
  go_upto_region 6 with (fail)
  go_region
  clear f1 f2 f3 f4 f5 f7 f8 k1 k2 k3 k4 k5 k7 k8 a0 a1 a2 a3 a4 a5 a6 a7 a8 c0 c1 c2 c3 c4 z9 z10
  go_upto_region 7 with (fail)
  obtain ⟨w6, hw6⟩ : ∃ w6, ((w5.setCell ⟨B, 9, none⟩ (.int .i64 X)).setCell ⟨B, 10, none⟩ (.int .i64 Y)).drew = w6 := ⟨_, rfl⟩
  rw [hw6]
  have X6 : Hid (CBox w6 B P q0 q1 q2 q3 pv kv X Y cw ch pf) := Lib.hid (by rw [← hw6]; exact (X5.out.put X Y).old (Below.refl _ _).drew)
  have B6 : Hid (Below w.heap.size w w6) := Lib.hid (by rw [← hw6]; exact ((B5.out.setCell (p := ⟨B, 9, none⟩) (by rw [HB.out]; exact Nat.le_refl _) _).setCell (p := ⟨B, 10, none⟩) (by rw [HB.out]; exact Nat.le_refl _) _).drew)
  clear hw6 X5 B5
  obtain ⟨⟨a0, a1, a2, a3, a4, a5, a6, a7, a8⟩, c0, c1, c2, c3, c4⟩ := X6.out.cells
  have KL : Hid (P.kept.length ≤ 1000) := Lib.hid (by have := SM.out.k; omega)
  go_wp2_with (go_at_call 15; refine (crop_any P q0 q1 q2 q3 pv kv X 0 1048576 1048576 true w6 (HP.out.old B6.out) HBB.out KL.out).mono ?_; rintro e w7 ⟨r0, r1, r2, r3, rv, sv, rfl, ho, hb7⟩; refine stop ?_)
  refine unstop ?_
  have O7 := Lib.hid ho
  have X7 := Lib.hid (X6.out.old hb7)
  have B7 : Hid (Below w.heap.size w w7) := Lib.hid (B6.out.trans (hb7.mono B6.out.size))
  have H1 := Lib.hid ho.one
  have HI : Hid ((Try.prog.info? 36).map (·.size) = some 9) := Lib.hid (by kernel_rfl)
  have Z7 : Hid ((w7.alloc (.cells zPic 36)).heap[w7.heap.size]? = some (.cells zPic 36 (0, 0))) := Lib.hid (heap_alloc_new _ _)
  clear ho hb7 a0 a1 a2 a3 a4 a5 a6 a7 a8 c0 c1 c2 c3 c4 X6
  unfold zPic at Z7
  unfold vPic at H1
  unfold vPic
  go_wp2_with (refine wpList_store_row rfl _ _ _ rfl w7.heap.size _ rfl rfl 36 _ Z7.out HI.out rfl H1.out ?_; refine stop ?_)
  refine unstop ?_
  obtain ⟨T, hT⟩ : ∃ T, w7.heap.size = T := ⟨_, rfl⟩
  obtain ⟨w8, hw8⟩ : ∃ w8, (w7.alloc (.cells #[.int .i64 0, .int .i64 0, .slice none 0 0, .slice none 0 0, .slice none 0 0, .slice none 0 0, .slice none 0 0, .int .i64 0, .slice none 0 0] 36)).setRow w7.heap.size (vPic (cropL P X 0 1048576 1048576 true) r0 r1 r2 r3 rv sv) = w8 := ⟨_, rfl⟩
  have hb8 : Below w7.heap.size w7 w8 := by rw [← hw8]; exact below_setRow ((Below.refl _ _).alloc (Nat.le_refl _) _) (Nat.le_refl _) _
  have Y8 : Hid (w8.heap[T]? = some (.cells (vPic (cropL P X 0 1048576 1048576 true) r0 r1 r2 r3 rv sv) 36 (0, 0))) := Lib.hid (by rw [← hT, ← hw8]; exact setRow_heap _ _ _ _ _ _ (heap_alloc_new _ _))
  unfold vPic at hw8
  rw [hw8]
  rw [hT]
  have X8 := Lib.hid (X7.out.old hb8)
  have B8 : Hid (Below w.heap.size w w8) := Lib.hid (B7.out.trans (hb8.mono B7.out.size))
  have O8 := Lib.hid (O7.out.pic.old hb8)
  have CP := Lib.hid (cuts_plain HG.out XY.out.1 XY.out.2.1 XY.out.2.2.1 XY.out.2.2.2 X Y (by rw [HUA.out]; exact KX.out) (by rw [HUB.out]; exact KY.out))
  rw [CP.out.1, errV_zero]
  clear hT hw8 hb8 H1 Z7 X7 B7 O7
  have BB1 : Hid (PicB (cropL P X 0 1048576 1048576 true)) := Lib.hid (crop_bounds HBB.out ((good_iff _).1 CP.out.2.1))
  have KL1 : Hid ((cropL P X 0 1048576 1048576 true).kept.length ≤ 1000) := Lib.hid (Nat.le_trans (crop_keeps P X 0 1048576 1048576 true).2.2.2.2 KL.out)
  obtain ⟨⟨a0, a1, a2, a3, a4, a5, a6, a7, a8⟩, c0, c1, c2, c3, c4⟩ := X8.out.cells
  obtain ⟨o0, o1, o2, o3, o4, o5, o6, o7, o8⟩ := PBox.cells (P := cropL P X 0 1048576 1048576 true) Y8.out
  go_upto_region 10 with (fail)
  go_wp2_with (go_at_call 15; refine (crop_any (cropL P X 0 1048576 1048576 true) r0 r1 r2 r3 rv sv 0 Y wi he true w8 O8.out BB1.out KL1.out).mono ?_; rintro e w9 ⟨s0, s1, s2, s3, tv, uv, rfl, ho, hb9⟩; refine stop ?_)
  refine unstop ?_
  have QP := Lib.hid CP.out
  rw [CP.out.2.2.1, CP.out.2.2.2.2.1, errV_zero]
  rw [CP.out.2.2.2.2.1] at ho
  obtain ⟨R, hR⟩ : ∃ R, cropL P X Y wi he true = R := ⟨_, rfl⟩
  have HR := Lib.hid hR
  rw [hR] at ho
  rw [hR]
  have O9 := Lib.hid ho
  have X9 := Lib.hid (X8.out.old hb9)
  have Y9 : Hid (w9.heap[T]? = some (.cells (vPic (cropL P X 0 1048576 1048576 true) r0 r1 r2 r3 rv sv) 36 (0, 0))) := Lib.hid (by rw [hb9.block _ (Array.getElem?_eq_some_iff.1 Y8.out).1]; exact Y8.out)
  have B9 : Hid (Below w.heap.size w w9) := Lib.hid (B8.out.trans (hb9.mono B8.out.size))
  have H1 := Lib.hid ho.one
  have Z9 : Hid ((w9.alloc (.cells zPic 36)).heap[w9.heap.size]? = some (.cells zPic 36 (0, 0))) := Lib.hid (heap_alloc_new _ _)
  clear ho hb9 hR a0 a1 a2 a3 a4 a5 a6 a7 a8 c0 c1 c2 c3 c4 o0 o1 o2 o3 o4 o5 o6 o7 o8 X8 B8 Y8
  unfold zPic at Z9
  unfold vPic at H1
  unfold vPic
  go_wp2_with (refine wpList_store_row rfl _ _ _ rfl w9.heap.size _ rfl rfl 36 _ Z9.out HI.out rfl H1.out ?_; refine stop ?_)
  refine unstop ?_
  obtain ⟨T1, hT⟩ : ∃ T, w9.heap.size = T := ⟨_, rfl⟩
  obtain ⟨w10, hw10⟩ : ∃ w10, (w9.alloc (.cells #[.int .i64 0, .int .i64 0, .slice none 0 0, .slice none 0 0, .slice none 0 0, .slice none 0 0, .slice none 0 0, .int .i64 0, .slice none 0 0] 36)).setRow w9.heap.size (vPic R s0 s1 s2 s3 tv uv) = w10 := ⟨_, rfl⟩
  have hb10 : Below w9.heap.size w9 w10 := by rw [← hw10]; exact below_setRow ((Below.refl _ _).alloc (Nat.le_refl _) _) (Nat.le_refl _) _
  have Y10 : Hid (w10.heap[T1]? = some (.cells (vPic R s0 s1 s2 s3 tv uv) 36 (0, 0))) := Lib.hid (by rw [← hT, ← hw10]; exact setRow_heap _ _ _ _ _ _ (heap_alloc_new _ _))
  unfold vPic at hw10
  rw [hw10]
  rw [hT]
  have X10 := Lib.hid (X9.out.old hb10)
  have B10 : Hid (Below w.heap.size w w10) := Lib.hid (B9.out.trans (hb10.mono B9.out.size))
  have O10 := Lib.hid (O9.out.pic.old hb10)
  clear hT hw10 hb10 H1 Z9 X9 B9 O9
  obtain ⟨⟨a0, a1, a2, a3, a4, a5, a6, a7, a8⟩, c0, c1, c2, c3, c4⟩ := X10.out.cells
  go_upto_region 11 with (fail)
  go_wp2_with (go_at_call 15; refine (crop_any P q0 q1 q2 q3 pv kv X Y wi he true w10 (HP.out.old B10.out) HBB.out KL.out).mono ?_; rintro e w11 ⟨t0, t1, t2, t3, gv, hv, rfl, ho, hb11⟩; refine stop ?_)
  refine unstop ?_
  rw [QP.out.2.2.2.1, errV_zero]
  rw [HR.out] at ho
  rw [HR.out]
  have O11 := Lib.hid ho
  have X11 := Lib.hid (X10.out.old hb11)
  have Y11 : Hid (w11.heap[T1]? = some (.cells (vPic R s0 s1 s2 s3 tv uv) 36 (0, 0))) := Lib.hid (by rw [hb11.block _ (Array.getElem?_eq_some_iff.1 Y10.out).1]; exact Y10.out)
  have P11 := Lib.hid (O10.out.old hb11)
  have B11 : Hid (Below w.heap.size w w11) := Lib.hid (B10.out.trans (hb11.mono B10.out.size))
  have H1 := Lib.hid ho.one
  have Z11 : Hid ((w11.alloc (.cells zPic 36)).heap[w11.heap.size]? = some (.cells zPic 36 (0, 0))) := Lib.hid (heap_alloc_new _ _)
  clear ho hb11 a0 a1 a2 a3 a4 a5 a6 a7 a8 c0 c1 c2 c3 c4 X10 B10 Y10 O10
  unfold zPic at Z11
  unfold vPic at H1
  unfold vPic
  go_wp2_with (refine wpList_store_row rfl _ _ _ rfl w11.heap.size _ rfl rfl 36 _ Z11.out HI.out rfl H1.out ?_; refine stop ?_)
  refine unstop ?_
  obtain ⟨T2, hT⟩ : ∃ T, w11.heap.size = T := ⟨_, rfl⟩
  obtain ⟨w12, hw12⟩ : ∃ w12, (w11.alloc (.cells #[.int .i64 0, .int .i64 0, .slice none 0 0, .slice none 0 0, .slice none 0 0, .slice none 0 0, .slice none 0 0, .int .i64 0, .slice none 0 0] 36)).setRow w11.heap.size (vPic R t0 t1 t2 t3 gv hv) = w12 := ⟨_, rfl⟩
  have hb12 : Below w11.heap.size w11 w12 := by rw [← hw12]; exact below_setRow ((Below.refl _ _).alloc (Nat.le_refl _) _) (Nat.le_refl _) _
  have Y12 : Hid (w12.heap[T2]? = some (.cells (vPic R t0 t1 t2 t3 gv hv) 36 (0, 0))) := Lib.hid (by rw [← hT, ← hw12]; exact setRow_heap _ _ _ _ _ _ (heap_alloc_new _ _))
  have V12 : Hid (w12.heap[T1]? = some (.cells (vPic R s0 s1 s2 s3 tv uv) 36 (0, 0))) := Lib.hid (by rw [hb12.block _ (Array.getElem?_eq_some_iff.1 Y11.out).1]; exact Y11.out)
  unfold vPic at hw12
  rw [hw12]
  rw [hT]
  have B12 : Hid (Below w.heap.size w w12) := Lib.hid (B11.out.trans (hb12.mono B11.out.size))
  have O12 := Lib.hid (O11.out.pic.old hb12)
  have P12 := Lib.hid (P11.out.old hb12)
  clear hT hw12 hb12 H1 Z11 X11 B11 O11 P11 Y11
  have BR : Hid (PicB R) := Lib.hid (by have h := crop_bounds HBB.out QP.out.2.2.2.2.2.2.2; rw [HR.out] at h; exact h)
  have LE : Hid (R.w ≤ wi ∧ R.h ≤ he) := Lib.hid (by have h1 := QP.out.2.2.2.2.2.1; have h2 := QP.out.2.2.2.2.2.2.1; rw [HR.out] at h1 h2; exact ⟨h1, h2⟩)
  obtain ⟨o0, o1, o2, o3, o4, o5, o6, o7, o8⟩ := PBox.cells (P := R) Y12.out
  obtain ⟨v0, v1, v2, v3, v4, v5, v6, v7, v8⟩ := PBox.cells (P := R) V12.out
  go_upto_region 12 with (fail)
  go_wp2_with (go_at_call 16; refine (rsame_any R R s0 s1 s2 s3 tv uv t0 t1 t2 t3 gv hv w12 P12.out O12.out BR.out BR.out).mono ?_; rintro e w13 ⟨rfl, hb13⟩; refine stop ?_)
  refine unstop ?_
  rw [sameB_self]
  have V13 : w13.heap[T1]? = some (.cells (vPic R s0 s1 s2 s3 tv uv) 36 (0, 0)) := by rw [hb13.block _ (Array.getElem?_eq_some_iff.1 V12.out).1]; exact V12.out
  have B13 : Hid (Below w.heap.size w w13) := Lib.hid (B12.out.trans (hb13.mono B12.out.size))
  clear hb13 o0 o1 o2 o3 o4 o5 o6 o7 o8 v0 v1 v2 v3 v4 v5 v6 v7 v8
  obtain ⟨v0, v1, v2, v3, v4, v5, v6, v7, v8⟩ := PBox.cells (P := R) V13
  clear V13
  have l1 := decide_eq_true LE.out.1
  have l2 := decide_eq_true LE.out.2
  go_wp2_with fail
  go_ret
  exact ⟨rfl, B13.out⟩
end Go.Proofs.Ytnhalnjdlkdnkaa
