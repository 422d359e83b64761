/- TurnPictures: the law's walk. By an AI agent. -/
import Derived.Test.YtnhalnjdlkdnkaaZ30
import Derived.Test.YtnhalnjdlkdnkaaTurnPicturesY01
import Derived.Test.YtnhalnjdlkdnkaaZ20
import Derived.Test.YtnhalnjdlkdnkaaZ27
import Derived.Test.YtnhalnjdlkdnkaaZ29
import Derived.Test.YtnhalnjdlkdnkaaTurnPicturesY03
import Derived.Test.YtnhalnjdlkdnkaaTurnPicturesY05
import Derived.Test.YtnhalnjdlkdnkaaZ05
namespace Go.Proofs.Ytnhalnjdlkdnkaa
open Go.RowKit Go.BigFrame
set_option linter.unusedVariables false
set_option linter.unusedSimpArgs false
set_option maxRecDepth 20000

theorem pts_all64 {w : World} {v : Value} {ps : List PartL} (h : Pts w v ps) : ∀ p ∈ ps, All64 p.bs := fun p hp => by
  obtain ⟨_, _, _, _, hx⟩ := pts_at h
  obtain ⟨k, hk, rfl⟩ := List.getElem_of_mem hp
  obtain ⟨_, _, _, _, _, hb, _⟩ := hx k hk
  exact hb.range.1
theorem turn_cases (g : Bool) (t : Int) : (g = false ∧ (!(g && decide (0 ≤ t ∧ t ≤ 7))) = true) ∨ (g = true ∧ decide (t < 0) = true ∧ (!(g && decide (0 ≤ t ∧ t ≤ 7))) = true) ∨ (g = true ∧ decide (t < 0) = false ∧ decide (7 < t) = true ∧ (!(g && decide (0 ≤ t ∧ t ≤ 7))) = true) ∨
    (g = true ∧ decide (t < 0) = false ∧ decide (7 < t) = false ∧ (!(g && decide (0 ≤ t ∧ t ≤ 7))) = false) := by
  cases g
  · exact .inl ⟨rfl, rfl⟩
  · by_cases h1 : t < 0
    · exact .inr (.inl ⟨rfl, decide_eq_true h1, by rw [decide_eq_false (show ¬ (0 ≤ t ∧ t ≤ 7) by omega)]; rfl⟩)
    · by_cases h2 : 7 < t
      · exact .inr (.inr (.inl ⟨rfl, decide_eq_false h1, decide_eq_true h2, by rw [decide_eq_false (show ¬ (0 ≤ t ∧ t ≤ 7) by omega)]; rfl⟩))
      · exact .inr (.inr (.inr ⟨rfl, decide_eq_false h1, decide_eq_false h2, by rw [decide_eq_true (show 0 ≤ t ∧ t ≤ 7 by omega)]; rfl⟩))
set_option maxHeartbeats 16000000 in
theorem lawPictures_any (P : PicL) (q0 q1 q2 q3 pv kv : Value) (t : Int) (pf : Bool) (w : World) (hp : PicC w P q0 q1 q2 q3 pv kv) (hB : PicB P) :
    Calls Try.prog 7 #[.agg (vPic P q0 q1 q2 q3 pv kv), .int .i64 t, .bool pf] w fun e w' => e = .returned (.bool true) ∧ Below w.heap.size w w' := by
  have HP := Lib.hid hp
  have HBB := Lib.hid hB
  have AB : Hid (∀ p ∈ P.parts, All64 p.bs) := Lib.hid (pts_all64 hp.parts)
  obtain ⟨w1, hw1⟩ : ∃ w1, w.alloc (.cells (vPic P q0 q1 q2 q3 pv kv) 36) = w1 := ⟨_, rfl⟩
  have hb1 : Below w.heap.size w w1 := by rw [← hw1]; exact (Below.refl _ _).alloc (Nat.le_refl _) _
  obtain ⟨B, hBe⟩ : ∃ B, w.heap.size = B := ⟨_, rfl⟩
  have X1 : Hid (PBox w1 B P q0 q1 q2 q3 pv kv) := Lib.hid (by rw [← hw1, ← hBe]; exact heap_alloc_new _ _)
  have B1 := Lib.hid hb1
  have HB := Lib.hid hBe
  clear hp hB hb1
  unfold vPic at hw1
  unfold vPic
  go_enter Try.func7, Try.ntmps7
  go_wp2_with fail
  refine (alive_any _).mono ?_; rintro e w2 ⟨rfl, hb2⟩
  have X2 := Lib.hid (X1.out.old hb2)
  have B2 : Hid (Below w.heap.size w w2) := Lib.hid (B1.out.trans (hb2.mono B1.out.size))
  clear hb2 hw1 hBe X1 B1
  obtain ⟨a0, a1, a2, a3, a4, a5, a6, a7, a8⟩ := X2.out.cells
  go_wp2_with fail
  refine (largeT_any P q0 q1 q2 q3 pv kv w2 (HP.out.old B2.out) HBB.out).mono ?_
  rintro e w3 ⟨⟨q, rfl, hq⟩, hb3⟩
  have X3 := Lib.hid (X2.out.old hb3)
  have B3 : Hid (Below w.heap.size w w3) := Lib.hid (B2.out.trans (hb3.mono B2.out.size))
  have HQ := Lib.hid hq
  clear hb3 hq a0 a1 a2 a3 a4 a5 a6 a7 a8 X2 B2
  obtain ⟨a0, a1, a2, a3, a4, a5, a6, a7, a8⟩ := X3.out.cells
  cases q with
  | true =>
    go_wp2_with fail
    go_ret
    exact ⟨rfl, B3.out⟩
  | false =>
  have SM := Lib.hid (HQ.out rfl)
  have L3 : Hid (B < w3.heap.size) := Lib.hid (Array.getElem?_eq_some_iff.1 X3.out).1
  -- a copy
  go_wp2_with (go_at_call 14; refine (copied_any P q0 q1 q2 q3 pv kv w3 (HP.out.old B3.out) SM.out).mono ?_; rintro e w4 ⟨r0, r1, r2, r3, rv, sv, rfl, ho, hb4⟩; refine stop ?_)
  refine unstop ?_
  have O4 := Lib.hid ho
  have X4 := Lib.hid (X3.out.old hb4)
  have B4 : Hid (Below w.heap.size w w4) := Lib.hid (B3.out.trans (hb4.mono B3.out.size))
  have L4 : Hid (w3.heap.size ≤ w4.heap.size) := Lib.hid hb4.size
  have H1 := Lib.hid ho.one
  have HI : Hid ((Try.prog.info? 36).map (·.size) = some 9) := Lib.hid (by kernel_rfl)
  have Z4 : Hid ((w4.alloc (.cells zPic 36)).heap[w4.heap.size]? = some (.cells zPic 36 (0, 0))) := Lib.hid (heap_alloc_new _ _)
  clear ho hb4 a0 a1 a2 a3 a4 a5 a6 a7 a8 X3
  unfold zPic at Z4
  unfold vPic at H1
  unfold vPic
  go_wp2_with (refine wpList_store_row rfl _ _ _ rfl w4.heap.size _ rfl rfl 36 _ Z4.out HI.out rfl H1.out ?_; refine stop ?_)
  refine unstop ?_
  obtain ⟨T1, hT⟩ : ∃ T, w4.heap.size = T := ⟨_, rfl⟩
  obtain ⟨w5, hw5⟩ : ∃ w5, (w4.alloc (.cells #[.int .i64 0, .int .i64 0, .slice none 0 0, .slice none 0 0, .slice none 0 0, .slice none 0 0, .slice none 0 0, .int .i64 0, .slice none 0 0] 36)).setRow w4.heap.size (vPic P r0 r1 r2 r3 rv sv) = w5 := ⟨_, rfl⟩
  have hb5 : Below w4.heap.size w4 w5 := by rw [← hw5]; exact below_setRow ((Below.refl _ _).alloc (Nat.le_refl _) _) (Nat.le_refl _) _
  have Y5 : Hid (w5.heap[T1]? = some (.cells (vPic P r0 r1 r2 r3 rv sv) 36 (0, 0))) := Lib.hid (by rw [← hT, ← hw5]; exact setRow_heap _ _ _ _ _ _ (heap_alloc_new _ _))
  unfold vPic at hw5
  rw [hw5, hT]
  have HT1 := Lib.hid hT
  have X5 := Lib.hid (X4.out.old hb5)
  have B5 : Hid (Below w.heap.size w w5) := Lib.hid (B4.out.trans (hb5.mono B4.out.size))
  have K5 : Hid (Below w4.heap.size w4 w5) := Lib.hid hb5
  clear hT hw5 hb5 H1 Z4 X4
  have KL : Hid (P.kept.length ≤ 1000) := Lib.hid (by have := SM.out.k; omega)
  obtain ⟨a0, a1, a2, a3, a4, a5, a6, a7, a8⟩ := X5.out.cells
  obtain ⟨o0, o1, o2, o3, o4, o5, o6, o7, o8⟩ := PBox.cells (P := P) Y5.out
  -- the turn
  go_wp2_with (go_at_call 23; refine (turn_any P r0 r1 r2 r3 rv sv t pf w5 (O4.out.pic.old K5.out) HBB.out KL.out).mono ?_; rintro e w6 ⟨s0, s1, s2, s3, tv, uv, rfl, ho, hb6⟩; refine stop ?_)
  refine unstop ?_
  obtain ⟨R, hR⟩ : ∃ R, turnL P t pf = R := ⟨_, rfl⟩
  obtain ⟨E, hE⟩ : ∃ E, turnE P t pf = E := ⟨_, rfl⟩
  have HR := Lib.hid hR
  have HE := Lib.hid hE
  rw [hR] at ho
  rw [hR, hE]
  have O6 := Lib.hid ho
  have X6 := Lib.hid (X5.out.old hb6)
  have Y6 : Hid (w6.heap[T1]? = some (.cells (vPic P r0 r1 r2 r3 rv sv) 36 (0, 0))) := Lib.hid (by rw [hb6.block _ (Array.getElem?_eq_some_iff.1 Y5.out).1]; exact Y5.out)
  have B6 : Hid (Below w.heap.size w w6) := Lib.hid (B5.out.trans (hb6.mono B5.out.size))
  have K6 : Hid (Below w4.heap.size w4 w6) := Lib.hid (K5.out.trans (hb6.mono K5.out.size))
  have L5 : Hid (w4.heap.size ≤ w5.heap.size) := Lib.hid K5.out.size
  have H1 := Lib.hid ho.one
  have Z6 : Hid ((w6.alloc (.cells zPic 36)).heap[w6.heap.size]? = some (.cells zPic 36 (0, 0))) := Lib.hid (heap_alloc_new _ _)
  clear ho hb6 hR hE a0 a1 a2 a3 a4 a5 a6 a7 a8 o0 o1 o2 o3 o4 o5 o6 o7 o8 X5 Y5 B5 K5
  unfold zPic at Z6
  unfold vPic at H1
  unfold vPic
  go_wp2_with (refine wpList_store_row rfl _ _ _ rfl w6.heap.size _ rfl rfl 36 _ Z6.out HI.out rfl H1.out ?_; refine stop ?_)
  refine unstop ?_
  obtain ⟨T2, hT⟩ : ∃ T, w6.heap.size = T := ⟨_, rfl⟩
  obtain ⟨w7, hw7⟩ : ∃ w7, (w6.alloc (.cells #[.int .i64 0, .int .i64 0, .slice none 0 0, .slice none 0 0, .slice none 0 0, .slice none 0 0, .slice none 0 0, .int .i64 0, .slice none 0 0] 36)).setRow w6.heap.size (vPic R s0 s1 s2 s3 tv uv) = w7 := ⟨_, rfl⟩
  have hb7 : Below w6.heap.size w6 w7 := by rw [← hw7]; exact below_setRow ((Below.refl _ _).alloc (Nat.le_refl _) _) (Nat.le_refl _) _
  have G7 : Hid (w7.heap[T2]? = some (.cells (vPic R s0 s1 s2 s3 tv uv) 36 (0, 0))) := Lib.hid (by rw [← hT, ← hw7]; exact setRow_heap _ _ _ _ _ _ (heap_alloc_new _ _))
  have HT2 : Hid (w4.heap.size ≤ T2) := Lib.hid (by rw [← hT]; exact K6.out.size)
  unfold vPic at hw7
  rw [hw7, hT]
  have X7 := Lib.hid (X6.out.old hb7)
  have Y7 : Hid (w7.heap[T1]? = some (.cells (vPic P r0 r1 r2 r3 rv sv) 36 (0, 0))) := Lib.hid (by rw [hb7.block _ (Array.getElem?_eq_some_iff.1 Y6.out).1]; exact Y6.out)
  have B7 : Hid (Below w.heap.size w w7) := Lib.hid (B6.out.trans (hb7.mono B6.out.size))
  have K7 : Hid (Below w4.heap.size w4 w7) := Lib.hid (K6.out.trans (hb7.mono K6.out.size))
  have O7 := Lib.hid (O6.out.hi (keepHi_below hb7))
  clear hT hw7 hb7 H1 Z6 X6 Y6 B6 K6 O6
  obtain ⟨a0, a1, a2, a3, a4, a5, a6, a7, a8⟩ := X7.out.cells
  obtain ⟨o0, o1, o2, o3, o4, o5, o6, o7, o8⟩ := PBox.cells (P := P) Y7.out
  -- is the picture still as it was?
  go_upto_region 7 with (fail)
  go_wp2_with (go_at_call 16; refine (rsame_any P P r0 r1 r2 r3 rv sv q0 q1 q2 q3 pv kv w7 (O4.out.pic.old K7.out) (HP.out.old B7.out) HBB.out HBB.out).mono ?_; rintro e w8 ⟨rfl, hb8⟩; refine stop ?_)
  refine unstop ?_
  rw [sameB_self]
  have X8 := Lib.hid (X7.out.old hb8)
  have Y8 : Hid (w8.heap[T1]? = some (.cells (vPic P r0 r1 r2 r3 rv sv) 36 (0, 0))) := Lib.hid (by rw [hb8.block _ (Array.getElem?_eq_some_iff.1 Y7.out).1]; exact Y7.out)
  have G8 : Hid (w8.heap[T2]? = some (.cells (vPic R s0 s1 s2 s3 tv uv) 36 (0, 0))) := Lib.hid (by rw [hb8.block _ (Array.getElem?_eq_some_iff.1 G7.out).1]; exact G7.out)
  have B8 : Hid (Below w.heap.size w w8) := Lib.hid (B7.out.trans (hb8.mono B7.out.size))
  have K8 : Hid (Below w4.heap.size w4 w8) := Lib.hid (K7.out.trans (hb8.mono K7.out.size))
  have O8 := Lib.hid (O7.out.hi (keepHi_below hb8))
  clear hb8 a0 a1 a2 a3 a4 a5 a6 a7 a8 o0 o1 o2 o3 o4 o5 o6 o7 o8 X7 Y7 G7 B7 K7 O7
  obtain ⟨a0, a1, a2, a3, a4, a5, a6, a7, a8⟩ := X8.out.cells
  obtain ⟨gd, hgd⟩ : ∃ z, goodB P = z := ⟨_, rfl⟩
  have HGD := Lib.hid hgd
  obtain ⟨bd, hbd⟩ : ∃ z, (!(goodB P && decide (0 ≤ t ∧ t ≤ 7))) = z := ⟨_, rfl⟩
  have HBD := Lib.hid hbd
  have TC := Lib.hid (turn_cases (goodB P) t)
  rw [hbd, hgd] at TC
  clear hgd hbd
  go_upto_region 9 with (fail)
  go_cut [39] from 29 to 39 (fun c wx => c = .bool bd ∧ Below w8.heap.size w8 wx)
  case first =>
    rcases TC.out with ⟨rfl, hr⟩ | ⟨rfl, d1, hr⟩ | ⟨rfl, d1, d2, hr⟩ | ⟨rfl, d1, d2, hr⟩
    all_goals
      have HR := Lib.hid hr
      clear hr
      go_wp2_with (go_at_call 17; refine (refGood_any P q0 q1 q2 q3 pv kv w8 (HP.out.old B8.out) HBB.out).mono ?_; rintro e w9 ⟨rfl, hb9⟩; refine stop ?_)
      refine unstop ?_
      rw [HGD.out]
      go_wp2_with fail
      go_meet
      exact ⟨by rw [HR.out], hb9⟩
  case rest =>
  obtain ⟨rfl, hb9⟩ := hcut
  obtain ⟨w9, hw9⟩ : ∃ z, wc = z := ⟨_, rfl⟩
  rw [hw9] at hb9
  rw [hw9]
  clear hw9 TC
  have X9 := Lib.hid (X8.out.old hb9)
  have Y9 : Hid (w9.heap[T1]? = some (.cells (vPic P r0 r1 r2 r3 rv sv) 36 (0, 0))) := Lib.hid (by rw [hb9.block _ (Array.getElem?_eq_some_iff.1 Y8.out).1]; exact Y8.out)
  have G9 : Hid (w9.heap[T2]? = some (.cells (vPic R s0 s1 s2 s3 tv uv) 36 (0, 0))) := Lib.hid (by rw [hb9.block _ (Array.getElem?_eq_some_iff.1 G8.out).1]; exact G8.out)
  have B9 : Hid (Below w.heap.size w w9) := Lib.hid (B8.out.trans (hb9.mono B8.out.size))
  have K9 : Hid (Below w4.heap.size w4 w9) := Lib.hid (K8.out.trans (hb9.mono K8.out.size))
  have O9 := Lib.hid (O8.out.hi (keepHi_below hb9))
  clear hb9 a0 a1 a2 a3 a4 a5 a6 a7 a8 X8 Y8 G8 B8 K8 O8
  cases bd with
  | true =>
    obtain ⟨e6, ez⟩ := turn_bad (P := P) (t := t) (by have h := HBD.out; rw [Bool.not_eq_true'] at h; exact h) pf
    rw [HE.out] at e6
    rw [HR.out] at ez
    subst e6
    obtain ⟨o0, o1, o2, o3, o4, o5, o6, o7, o8⟩ := PBox.cells (P := R) G9.out
    have LN : Hid (∃ a c, tv = .slice a 0 c) := Lib.hid (by
      obtain ⟨rs, h1, h2⟩ := O9.out.parts
      rw [ez] at h1
      have h3 : rs = [] := List.map_eq_nil_iff.1 h1
      rw [h3] at h2
      exact owns_any h2.row)
    obtain ⟨ta, tc, rfl⟩ := LN.out
    have IS := Lib.hid (is_any 6 6 w9)
    clear ez LN
    go_upto_region 10 with (fail)
    go_wp2_with (go_at_call 18; refine IS.out.mono ?_; rintro e w10 ⟨rfl, rfl⟩)
    go_ret
    exact ⟨rfl, B9.out⟩
  | false =>
  have HGT : Hid (goodB P = true ∧ 0 ≤ t ∧ t ≤ 7) := Lib.hid (by
    have h := HBD.out
    simp only [Bool.not_eq_false', Bool.and_eq_true, decide_eq_true_eq] at h
    exact h)
  have HG := Lib.hid HGT.out.1
  obtain ⟨a0, a1, a2, a3, a4, a5, a6, a7, a8⟩ := X9.out.cells
  -- the document's turn
  go_upto_region 11 with (fail)
  go_wp2_with (go_at_call 24; refine (refTurn_any P q0 q1 q2 q3 pv kv t pf w9 (HP.out.old B9.out) HBB.out HG.out HGT.out.2).mono ?_; rintro e w10 ⟨u0, u1, u2, u3, uv2, uv3, rfl, hwant, hb10⟩; refine stop ?_)
  refine unstop ?_
  rw [HR.out] at hwant
  rw [HR.out, HE.out]
  have WANT := Lib.hid hwant
  have W10 := Lib.hid (hwant w10 (HP.out.old (B9.out.trans (hb10.mono B9.out.size))) ⟨Nat.le_refl _, fun _ _ _ => rfl⟩)
  have X10 := Lib.hid (X9.out.old hb10)
  have Y10 : Hid (w10.heap[T1]? = some (.cells (vPic P r0 r1 r2 r3 rv sv) 36 (0, 0))) := Lib.hid (by rw [hb10.block _ (Array.getElem?_eq_some_iff.1 Y9.out).1]; exact Y9.out)
  have G10 : Hid (w10.heap[T2]? = some (.cells (vPic R s0 s1 s2 s3 tv uv) 36 (0, 0))) := Lib.hid (by rw [hb10.block _ (Array.getElem?_eq_some_iff.1 G9.out).1]; exact G9.out)
  have B10 : Hid (Below w.heap.size w w10) := Lib.hid (B9.out.trans (hb10.mono B9.out.size))
  have K10 : Hid (Below w4.heap.size w4 w10) := Lib.hid (K9.out.trans (hb10.mono K9.out.size))
  have O10 := Lib.hid (O9.out.hi (keepHi_below hb10))
  have L9 : Hid (w4.heap.size ≤ w9.heap.size) := Lib.hid K9.out.size
  obtain ⟨f0, g0, hs0⟩ := W10.out.q0.len
  obtain ⟨f1, g1, hs1⟩ := W10.out.q1.len
  obtain ⟨f2, g2, hs2⟩ := W10.out.q2.len
  obtain ⟨f3, g3, hs3⟩ := W10.out.q3.len
  obtain ⟨f4, g4, hs4, _⟩ := W10.out.parts.len
  obtain ⟨f5, g5, hs5, _⟩ := W10.out.kept.len
  have H1 : Hid ((vPic R u0 u1 u2 u3 uv2 uv3).all (·.oneCell') = true) := Lib.hid (by rw [hs0, hs1, hs2, hs3, hs4, hs5]; kernel_rfl)
  have Z10 : Hid ((w10.alloc (.cells zPic 36)).heap[w10.heap.size]? = some (.cells zPic 36 (0, 0))) := Lib.hid (heap_alloc_new _ _)
  clear hwant hb10 hs0 hs1 hs2 hs3 hs4 hs5 a0 a1 a2 a3 a4 a5 a6 a7 a8 X9 Y9 G9 B9 K9 O9
  unfold zPic at Z10
  unfold vPic at H1
  unfold vPic
  go_wp2_with (refine wpList_store_row rfl _ _ _ rfl w10.heap.size _ rfl rfl 36 _ Z10.out HI.out rfl H1.out ?_; refine stop ?_)
  refine unstop ?_
  obtain ⟨T3, hT⟩ : ∃ T, w10.heap.size = T := ⟨_, rfl⟩
  obtain ⟨w11, hw11⟩ : ∃ w11, (w10.alloc (.cells #[.int .i64 0, .int .i64 0, .slice none 0 0, .slice none 0 0, .slice none 0 0, .slice none 0 0, .slice none 0 0, .int .i64 0, .slice none 0 0] 36)).setRow w10.heap.size (vPic R u0 u1 u2 u3 uv2 uv3) = w11 := ⟨_, rfl⟩
  have hb11 : Below w10.heap.size w10 w11 := by rw [← hw11]; exact below_setRow ((Below.refl _ _).alloc (Nat.le_refl _) _) (Nat.le_refl _) _
  have D11 : Hid (w11.heap[T3]? = some (.cells (vPic R u0 u1 u2 u3 uv2 uv3) 36 (0, 0))) := Lib.hid (by rw [← hT, ← hw11]; exact setRow_heap _ _ _ _ _ _ (heap_alloc_new _ _))
  have HT3 : Hid (w4.heap.size ≤ T3) := Lib.hid (by rw [← hT]; exact K10.out.size)
  unfold vPic at hw11
  rw [hw11, hT]
  have X11 := Lib.hid (X10.out.old hb11)
  have Y11 : Hid (w11.heap[T1]? = some (.cells (vPic P r0 r1 r2 r3 rv sv) 36 (0, 0))) := Lib.hid (by rw [hb11.block _ (Array.getElem?_eq_some_iff.1 Y10.out).1]; exact Y10.out)
  have G11 : Hid (w11.heap[T2]? = some (.cells (vPic R s0 s1 s2 s3 tv uv) 36 (0, 0))) := Lib.hid (by rw [hb11.block _ (Array.getElem?_eq_some_iff.1 G10.out).1]; exact G10.out)
  have B11 : Hid (Below w.heap.size w w11) := Lib.hid (B10.out.trans (hb11.mono B10.out.size))
  have K11 : Hid (Below w4.heap.size w4 w11) := Lib.hid (K10.out.trans (hb11.mono K10.out.size))
  have O11 := Lib.hid (O10.out.hi (keepHi_below hb11))
  have KH11 : Hid (KeepHi w9.heap.size w10 w11) := Lib.hid (keepHi_below hb11)
  clear hT hw11 hb11 H1 Z10 X10 Y10 G10 B10 K10 O10 W10
  obtain ⟨o0, o1, o2, o3, o4, o5, o6, o7, o8⟩ := PBox.cells (P := P) Y11.out
  -- the copy is spoilt
  go_upto_region 12 with (fail)
  go_wp2_with (go_at_call 20; refine (spoilt_any w4 w3.heap.size P r0 r1 r2 r3 rv sv w11 O4.out SM.out L4.out K11.out).mono ?_; rintro e w12 ⟨⟨v12, rfl⟩, hbel, hhi⟩; refine stop ?_)
  refine unstop ?_
  have B12 : Hid (Below w.heap.size w w12) := Lib.hid (B11.out.trans (hbel.mono B3.out.size))
  have G12 : Hid (w12.heap[T2]? = some (.cells (vPic R s0 s1 s2 s3 tv uv) 36 (0, 0))) := Lib.hid (by rw [hhi.2 T2 HT2.out (Array.getElem?_eq_some_iff.1 G11.out).1]; exact G11.out)
  have D12 : Hid (w12.heap[T3]? = some (.cells (vPic R u0 u1 u2 u3 uv2 uv3) 36 (0, 0))) := Lib.hid (by rw [hhi.2 T3 HT3.out (Array.getElem?_eq_some_iff.1 D11.out).1]; exact D11.out)
  have O12 := Lib.hid (O11.out.hi (keepHi_mono hhi L5.out))
  have W12 := Lib.hid (WANT.out w12 (HP.out.old B12.out) (KH11.out.trans (keepHi_mono hhi L9.out)))
  have CT := Lib.hid (turn_two HBB.out HG.out AB.out t pf)
  rw [HR.out, HE.out] at CT
  clear hbel hhi o0 o1 o2 o3 o4 o5 o6 o7 o8 X11 Y11 G11 D11 B11 K11 O11
  obtain ⟨o0, o1, o2, o3, o4, o5, o6, o7, o8⟩ := PBox.cells (P := R) G12.out
  obtain ⟨v0, v1, v2, v3, v4, v5, v6, v7, v8⟩ := PBox.cells (P := R) D12.out
  go_upto_region 13 with (fail)
  go_wp2_with (go_at_call 21; refine (num_any E w12).mono ?_; rintro e w13 ⟨rfl, rfl⟩; refine stop ?_)
  refine unstop ?_
  go_wp2_with (go_at_call 16; refine (rsame_any R R s0 s1 s2 s3 tv uv u0 u1 u2 u3 uv2 uv3 w12 O12.out.pic W12.out CT.out.1 CT.out.1).mono ?_; rintro e w14 ⟨rfl, hb14⟩; refine stop ?_)
  refine unstop ?_
  rw [sameB_self]
  have B14 : Hid (Below w.heap.size w w14) := Lib.hid (B12.out.trans (hb14.mono B12.out.size))
  have G14 : w14.heap[T2]? = some (.cells (vPic R s0 s1 s2 s3 tv uv) 36 (0, 0)) := by rw [hb14.block _ (Array.getElem?_eq_some_iff.1 G12.out).1]; exact G12.out
  have O14 := Lib.hid (O12.out.hi (keepHi_below hb14))
  clear hb14 o0 o1 o2 o3 o4 o5 o6 o7 o8 v0 v1 v2 v3 v4 v5 v6 v7 v8
  obtain ⟨o0, o1, o2, o3, o4, o5, o6, o7, o8⟩ := PBox.cells (P := R) G14
  clear G14
  rcases CT.out.2 with ⟨rfl, hgr⟩ | ⟨hne, hne2⟩
  · have HGR := Lib.hid hgr
    clear hgr
    go_wp2_with (go_at_call 17; refine (refGood_any R s0 s1 s2 s3 tv uv w14 O14.out.pic CT.out.1).mono ?_; rintro e w15 ⟨rfl, hb15⟩; refine stop ?_)
    refine unstop ?_
    rw [HGR.out]
    have B15 : Hid (Below w.heap.size w w15) := Lib.hid (B14.out.trans (hb15.mono B14.out.size))
    clear hb15 o0 o1 o2 o3 o4 o5 o6 o7 o8
    go_wp2_with fail
    go_ret
    exact ⟨rfl, B15.out⟩
  · clear hne2
    go_wp2_with fail
    go_ret
    exact ⟨rfl, B14.out⟩
end Go.Proofs.Ytnhalnjdlkdnkaa
