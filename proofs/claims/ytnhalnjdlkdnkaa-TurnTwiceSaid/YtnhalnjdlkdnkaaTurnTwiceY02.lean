/- TurnTwice: the law's walk. By an AI agent. -/
import Derived.Test.YtnhalnjdlkdnkaaZ26
import Derived.Test.YtnhalnjdlkdnkaaTurnTwiceY01
import Derived.Test.YtnhalnjdlkdnkaaZ30
import Derived.Test.YtnhalnjdlkdnkaaZ20
import Derived.Test.YtnhalnjdlkdnkaaZ27
import Derived.Test.YtnhalnjdlkdnkaaZ29
import Derived.Test.YtnhalnjdlkdnkaaZ19
namespace Go.Proofs.Ytnhalnjdlkdnkaa
open Go.RowKit Go.BigFrame
set_option linter.unusedVariables false
set_option linter.unusedSimpArgs false
set_option maxRecDepth 20000

theorem mod8 (k : Int) : ∃ kk : Nat, kk < 8 ∧ wrap64 ((IntKind.u64.wrap k).tmod 8) = (kk : Int) := by
  have h0 : 0 ≤ IntKind.u64.wrap k := by simp [IntKind.wrap, IntKind.signed, IntKind.bits]; omega
  refine ⟨(IntKind.u64.wrap k % 8).toNat, by omega, ?_⟩
  rw [Int.tmod_eq_emod_of_nonneg h0, IntWalk.wrap64_in _ (by omega)]
  omega
theorem pic_blks {w : World} {P : PicL} {q0 q1 q2 q3 pv kv : Value} (h : PicC w P q0 q1 q2 q3 pv kv) : ∀ p ∈ P.parts, All64 p.bs := fun p hp => by
  obtain ⟨rs, hrs, _, hx⟩ := pts_rows h.parts
  rw [← hrs, List.mem_map] at hp
  obtain ⟨q, hq, rfl⟩ := hp
  exact (hx q hq).2.range.1
theorem good_bounds {P Q : PicL} (hB : PicB P) (G : GoodS Q) (hk : Q.kept = P.kept) : PicB Q := by
  have e1 := G.w; have e2 := G.h; have e3 := G.r; have e4 := G.n
  have t : ∀ j, j < 4 → (qL Q j).length ≤ 140737488351232 := fun j hj => by
    rcases good_tables G j hj with h | h <;> omega
  exact ⟨by unfold R64; omega, by unfold R64; omega, by unfold R64; omega, t 0 (by decide), t 1 (by decide), t 2 (by decide), t 3 (by decide), by omega, by rw [hk]; exact hB.kept⟩
theorem t3_kept (c f o : Bool) (P : PicL) : (t3 c f o P).kept = P.kept := by
  cases c <;> cases f <;> cases o <;> rfl
theorem turnW_any (Q : PicL) (q0 q1 q2 q3 pv kv : Value) (t : Int) (w : World) (W : Whole Q) (hp : PicC w Q q0 q1 q2 q3 pv kv) (hB : PicB Q) (hk : Q.kept.length ≤ 1000) (ht : 0 ≤ t ∧ t ≤ 7) :
    Calls Try.prog 23 #[.agg (vPic Q q0 q1 q2 q3 pv kv), .int .i64 t, .bool true] w fun e w' => ∃ e0 n0 c0 e1 n1 c1 e2 n2 c2 e3 n3 c3 e4 n4 c4 e5 n5 c5, e = .returned (.tuple #[.agg (vPic (turnL Q t true) (.slice e0 n0 c0) (.slice e1 n1 c1) (.slice e2 n2 c2) (.slice e3 n3 c3) (.slice e4 n4 c4) (.slice e5 n5 c5)), .nilIface]) ∧ PicO w.heap.size w' (turnL Q t true) (.slice e0 n0 c0) (.slice e1 n1 c1) (.slice e2 n2 c2) (.slice e3 n3 c3) (.slice e4 n4 c4) (.slice e5 n5 c5) ∧ Below w.heap.size w w' := by
  refine (turn_any Q q0 q1 q2 q3 pv kv t true w hp hB hk).mono ?_
  rintro e w' ⟨r0, r1, r2, r3, rv, sv, rfl, ho, hb⟩
  obtain ⟨e0, c0, e1, c1, e2, c2, e3, c3, e4, m4, c4, e5, m5, c5, rfl, rfl, rfl, rfl, rfl, rfl⟩ := ho.forms
  rw [(turn_whole W t ht).1]
  exact ⟨_, _, _, _, _, _, _, _, _, _, _, _, _, _, _, _, _, _, rfl, ho, hb⟩
theorem box_alloc {w w7 : World} {R : PicL} {q0 q1 q2 q3 pv kv : Value} (hw : w.alloc (.cells (vPic R q0 q1 q2 q3 pv kv) 36) = w7) : PBox w7 w.heap.size R q0 q1 q2 q3 pv kv ∧ Below w.heap.size w w7 := by
  rw [← hw]
  exact ⟨heap_alloc_new _ _, (Below.refl _ _).alloc (Nat.le_refl _) _⟩
set_option maxHeartbeats 16000000 in
theorem lawTwice_any (P : PicL) (q0 q1 q2 q3 pv kv : Value) (g0 h0 : Int) (w : World) (hp : PicC w P q0 q1 q2 q3 pv kv) (hB : PicB P) :
    Calls Try.prog 8 #[.agg (vPic P q0 q1 q2 q3 pv kv), .int .i64 g0, .int .i64 h0] w fun e w' => e = .returned (.bool true) ∧ Below w.heap.size w w' := by
  have HP := Lib.hid hp
  have HBB := Lib.hid hB
  obtain ⟨w1, hw1⟩ : ∃ w1, w.alloc (.cells (vPic P q0 q1 q2 q3 pv kv) 36) = w1 := ⟨_, rfl⟩
  have hb1 : Below w.heap.size w w1 := by rw [← hw1]; exact (Below.refl _ _).alloc (Nat.le_refl _) _
  obtain ⟨B, hBe⟩ : ∃ B, w.heap.size = B := ⟨_, rfl⟩
  have X1 : Hid (PBox w1 B P q0 q1 q2 q3 pv kv) := Lib.hid (by rw [← hw1, ← hBe]; exact heap_alloc_new _ _)
  have B1 := Lib.hid hb1
  have HB := Lib.hid hBe
  obtain ⟨g, hg8, hge⟩ := mod8 g0
  obtain ⟨h, hh8, hhe⟩ := mod8 h0
  have GH : Hid (g < 8 ∧ h < 8) := Lib.hid ⟨hg8, hh8⟩
  have GE := Lib.hid hge
  have HE := Lib.hid hhe
  clear hp hB hb1 hg8 hh8 hge hhe
  unfold vPic at hw1
  unfold vPic
  go_enter Try.func8, Try.ntmps8
  go_wp2_with fail
  refine (alive_any _).mono ?_; rintro e w2 ⟨rfl, hb2⟩
  have X2 := Lib.hid (X1.out.old hb2)
  have B2 : Hid (Below w.heap.size w w2) := Lib.hid (B1.out.trans (hb2.mono B1.out.size))
  clear hb2 hw1 hBe X1 B1
  obtain ⟨a0, a1, a2, a3, a4, a5, a6, a7, a8⟩ := X2.out.cells
  go_wp2_with fail
  refine (largeT_any P q0 q1 q2 q3 pv kv w2 (HP.out.old B2.out) HBB.out).mono ?_
  rintro e w3 ⟨⟨q, rfl, hq⟩, hb3⟩
  have X3 := Lib.hid (X2.out.old hb3)
  have B3 : Hid (Below w.heap.size w w3) := Lib.hid (B2.out.trans (hb3.mono B2.out.size))
  have HQ := Lib.hid hq
  clear hb3 hq a0 a1 a2 a3 a4 a5 a6 a7 a8 X2 B2
  obtain ⟨a0, a1, a2, a3, a4, a5, a6, a7, a8⟩ := X3.out.cells
  cases q with
  | true =>
    go_wp2_with fail
    go_ret
    exact ⟨rfl, B3.out⟩
  | false =>
  have SM := Lib.hid (HQ.out rfl)
  go_wp2_with fail
  refine (refGood_any P q0 q1 q2 q3 pv kv w3 (HP.out.old B3.out) HBB.out).mono ?_
  rintro e w4 ⟨rfl, hb4⟩
  have X4 := Lib.hid (X3.out.old hb4)
  have B4 : Hid (Below w.heap.size w w4) := Lib.hid (B3.out.trans (hb4.mono B3.out.size))
  clear hb4 a0 a1 a2 a3 a4 a5 a6 a7 a8 X3 B3
  obtain ⟨a0, a1, a2, a3, a4, a5, a6, a7, a8⟩ := X4.out.cells
  rcases hg : goodB P with _ | _
  · clear hg
    go_wp2_with fail
    go_ret
    exact ⟨rfl, B4.out⟩
  have GS := Lib.hid ((good_iff P).1 hg)
  have MO := Lib.hid (most_of GS.out.w GS.out.h GS.out.fit.fac 0 (by have := GS.out.n; omega))
  have PL : Hid (P.parts.length ≤ 140737488351232) := Lib.hid (by have := GS.out.n; omega)
  clear hg
  go_wp2_with (go_at_call 22; refine (refUnit_any P q0 q1 q2 q3 pv kv w4 (HP.out.old B4.out).parts PL.out MO.out).mono ?_; rintro e w5 ⟨rfl, hb5⟩; refine stop ?_)
  refine unstop ?_
  have X5 := Lib.hid (X4.out.old hb5)
  have B5 : Hid (Below w.heap.size w w5) := Lib.hid (B4.out.trans (hb5.mono B4.out.size))
  clear hb5 a0 a1 a2 a3 a4 a5 a6 a7 a8 X4 B4
  have MX := Lib.hid (max_of GS.out.fit.fac GS.out.n.1)
  obtain ⟨ua, hua⟩ : ∃ u, 8 * maxH P.parts = u := ⟨_, rfl⟩
  obtain ⟨ub, hub⟩ : ∃ u, 8 * maxV P.parts = u := ⟨_, rfl⟩
  have HUA := Lib.hid hua
  have HUB := Lib.hid hub
  have UL : Hid ((1 ≤ ua ∧ ua ≤ 32) ∧ 1 ≤ ub ∧ ub ≤ 32) := Lib.hid (by have := MX.out; omega)
  rw [hua, hub]
  have RF := Lib.hid (rem_facts P.w ua (by have := GS.out.w; omega) UL.out.1.1 UL.out.1.2)
  have SF := Lib.hid (rem_facts P.h ub (by have := GS.out.h; omega) UL.out.2.1 UL.out.2.2)
  obtain ⟨o1, ho1⟩ : ∃ z, decide (P.w % ua ≠ 0) = z := ⟨_, rfl⟩
  obtain ⟨o2, ho2⟩ : ∃ z, decide (P.h % ub ≠ 0) = z := ⟨_, rfl⟩
  rw [ho1] at RF
  rw [ho2] at SF
  have HO1 := Lib.hid ho1
  have HO2 := Lib.hid ho2
  clear hua hub ho1 ho2 MX
  obtain ⟨a0, a1, a2, a3, a4, a5, a6, a7, a8⟩ := X5.out.cells
  have n1 : (ua == 0) = false := by rw [beq_eq_false_iff_ne]; have := UL.out; omega
  have n1' : (ub == 0) = false := by rw [beq_eq_false_iff_ne]; have := UL.out; omega
  have n2 : ¬ ua = 0 := by have := UL.out; omega
  have n2' : ¬ ub = 0 := by have := UL.out; omega
  obtain ⟨xr, xq, m1, m1', m2, m3, m4, m5⟩ := RF.out
  obtain ⟨yr, yq, l1, l1', l2, l3, l4, l5⟩ := SF.out
  go_upto_region 6 with (fail)
  go_cut [41] from 30 to 41 (fun c wx => c = .bool (o1 || o2) ∧ w5 = wx)
  case first =>
    cases o1 <;> cases o2
    all_goals
      go_wp2_with fail
      go_meet
      exact ⟨rfl, rfl⟩
  case rest =>
  obtain ⟨rfl, rfl⟩ := hcut
  clear m1 m1' m2 m3 m4 m5 l1 l1' l2 l3 l4 l5 RF SF n1 n1' n2 n2'
  obtain ⟨oo, hoo⟩ : ∃ z, (o1 || o2) = z := ⟨_, rfl⟩
  rw [hoo]
  have HOO := Lib.hid hoo
  clear hoo
  cases oo with
  | true =>
    go_wp2_with fail
    go_ret
    exact ⟨rfl, B5.out⟩
  | false =>
  have WH : Hid (Whole P) := Lib.hid (by
    have h1 := HOO.out
    simp only [Bool.or_eq_false_iff] at h1
    have h2 := HO1.out; rw [h1.1] at h2
    have h3 := HO2.out; rw [h1.2] at h3
    simp only [decide_eq_false_iff_not, ne_eq, Decidable.not_not] at h2 h3
    exact ⟨GS.out, ⟨by rw [HUA.out]; exact h2, by rw [HUB.out]; exact h3⟩, pic_blks HP.out⟩)
  have ge := GE.out
  have he := HE.out
  go_upto_region 9 with (fail)
  rw [ge, he]
  have G7 : Hid ((0 ≤ (g : Int) ∧ (g : Int) ≤ 7) ∧ 0 ≤ (h : Int) ∧ (h : Int) ≤ 7) := Lib.hid (by have := GH.out; omega)
  have KL : Hid (P.kept.length ≤ 1000) := Lib.hid (by have := SM.out.k; omega)
  have T1 := Lib.hid (turnW_any P q0 q1 q2 q3 pv kv (g : Int) w5 WH.out (HP.out.old B5.out) HBB.out KL.out G7.out.1)
  have WX := Lib.hid (twice_plain WH.out (g : Int) (h : Int) G7.out.1 G7.out.2)
  have XK : Hid ((turnL P (g : Int) true).kept = P.kept) := Lib.hid (by rw [(turn_whole WH.out _ G7.out.1).2]; exact t3_kept _ _ _ _)
  obtain ⟨X, hX⟩ : ∃ X, turnL P (g : Int) true = X := ⟨_, rfl⟩
  rw [hX] at T1 WX XK
  have HX := Lib.hid hX
  have BX : Hid (PicB X) := Lib.hid (good_bounds HBB.out WX.out.1.g XK.out)
  clear hX ge he
  unfold vPic at T1
  go_wp2_with fail
  refine T1.out.mono ?_
  rintro e w6 ⟨e0, n0, c0, e1, n1, c1, e2, n2, c2, e3, n3, c3, e4, n4, c4, e5, n5, c5, rfl, hpx, hb6⟩
  have X6 := Lib.hid (X5.out.old hb6)
  have B6 : Hid (Below w.heap.size w w6) := Lib.hid (B5.out.trans (hb6.mono B5.out.size))
  have PX6 := Lib.hid hpx.pic
  clear hpx hb6 a0 a1 a2 a3 a4 a5 a6 a7 a8 X5 B5 T1
  obtain ⟨w7, hw7⟩ : ∃ w7, w6.alloc (.cells (vPic X (.slice e0 n0 c0) (.slice e1 n1 c1) (.slice e2 n2 c2) (.slice e3 n3 c3) (.slice e4 n4 c4) (.slice e5 n5 c5)) 36) = w7 := ⟨_, rfl⟩
  obtain ⟨hbx, hb7⟩ := box_alloc hw7
  obtain ⟨T, hT⟩ : ∃ T, w6.heap.size = T := ⟨_, rfl⟩
  rw [hT] at hbx
  have XB := Lib.hid hbx
  have X7 := Lib.hid (X6.out.old hb7)
  have B7 : Hid (Below w.heap.size w w7) := Lib.hid (B6.out.trans (hb7.mono B6.out.size))
  have PX := Lib.hid (PX6.out.old hb7)
  clear hbx hb7 X6 B6 PX6
  unfold vPic at hw7
  obtain ⟨a0, a1, a2, a3, a4, a5, a6, a7, a8⟩ := X7.out.cells
  obtain ⟨x0, x1, x2, x3, x4, x5, x6, x7, x8⟩ := XB.out.cells
  have T2 := Lib.hid (turnW_any X (.slice e0 n0 c0) (.slice e1 n1 c1) (.slice e2 n2 c2) (.slice e3 n3 c3) (.slice e4 n4 c4) (.slice e5 n5 c5) (h : Int) w7 WX.out.1 PX.out BX.out (by rw [XK.out]; exact KL.out) G7.out.2)
  have YE : Hid (turnL X (h : Int) true = turnL P (behindN (g : Int) (h : Int) : Nat) true) := Lib.hid (by
    have hh := WX.out.2
    exact hh)
  obtain ⟨Y, hY⟩ : ∃ Y, turnL X (h : Int) true = Y := ⟨_, rfl⟩
  rw [hY] at T2 YE
  have HY := Lib.hid hY
  clear hY
  unfold vPic at T2
  go_upto_region 12 with (fail)
  go_wp2_with fail
  refine T2.out.mono ?_
  rintro e w8 ⟨f0, m0, d0, f1, m1, d1, f2, m2, d2, f3, m3, d3, f4, m4, d4, f5, m5, d5, rfl, hpy, hb8⟩
  have X8 := Lib.hid (X7.out.old hb8)
  have XB8 := Lib.hid (XB.out.old hb8)
  have B8 : Hid (Below w.heap.size w w8) := Lib.hid (B7.out.trans (hb8.mono B7.out.size))
  have PX8 := Lib.hid (PX.out.old hb8)
  have PY8 := Lib.hid hpy.pic
  clear hpy hb8 a0 a1 a2 a3 a4 a5 a6 a7 a8 x0 x1 x2 x3 x4 x5 x6 x7 x8 X7 B7 PX XB T2
  obtain ⟨w9, hw9⟩ : ∃ w9, w8.alloc (.cells (vPic Y (.slice f0 m0 d0) (.slice f1 m1 d1) (.slice f2 m2 d2) (.slice f3 m3 d3) (.slice f4 m4 d4) (.slice f5 m5 d5)) 36) = w9 := ⟨_, rfl⟩
  obtain ⟨hby, hb9⟩ := box_alloc hw9
  obtain ⟨TY, hTY⟩ : ∃ T, w8.heap.size = T := ⟨_, rfl⟩
  rw [hTY] at hby
  have YB := Lib.hid hby
  have X9 := Lib.hid (X8.out.old hb9)
  have XB9 := Lib.hid (XB8.out.old hb9)
  have B9 : Hid (Below w.heap.size w w9) := Lib.hid (B8.out.trans (hb9.mono B8.out.size))
  have PX9 := Lib.hid (PX8.out.old hb9)
  have PY9 := Lib.hid (PY8.out.old hb9)
  clear hby hb9 X8 XB8 B8 PX8 PY8
  unfold vPic at hw9
  go_upto_region 13 with (fail)
  clear hw9 hTY hT hw7
  have BHN : Hid (0 ≤ ((behindN (g : Int) (h : Int) : Nat) : Int) ∧ ((behindN (g : Int) (h : Int) : Nat) : Int) ≤ 7) := Lib.hid (by
    refine ⟨by omega, ?_⟩
    unfold behindN
    rw [if_pos ⟨G7.out.1, G7.out.2⟩]
    have h7 : ∀ c f o, turnN c f o ≤ 7 := fun c f o => by cases c <;> cases f <;> cases o <;> decide
    have := h7 (crossB (g : Int) != crossB (h : Int)) ((if crossB (h : Int) = true then flopB (g : Int) else flipB (g : Int)) != flipB (h : Int)) ((if crossB (h : Int) = true then flipB (g : Int) else flopB (g : Int)) != flopB (h : Int))
    omega)
  obtain ⟨bh, hbh⟩ : ∃ b, behindN (g : Int) (h : Int) = b := ⟨_, rfl⟩
  rw [hbh] at BHN YE
  have BHA : Hid (∀ W, Calls Try.prog 25 #[.int .i64 (g : Int), .int .i64 (h : Int)] W fun e w' => e = .returned (.int .i64 (bh : Int)) ∧ Below W.heap.size W w') := Lib.hid (fun W => by have hh := behind_any (g : Int) (h : Int) W; rw [hbh] at hh; exact hh)
  have T3A : Hid (∀ W, Below w9.heap.size w9 W → _) := Lib.hid (fun W hW => turnW_any P q0 q1 q2 q3 pv kv (bh : Int) W WH.out (HP.out.old (B9.out.trans (hW.mono B9.out.size))) HBB.out KL.out BHN.out)
  rw [← YE.out] at T3A
  unfold vPic at T3A
  have BT : Hid (B < w9.heap.size) := Lib.hid (Array.getElem?_eq_some_iff.1 X9.out).1
  have HI : Hid ((Try.prog.info? 36).map (·.size) = some 9) := Lib.hid (by kernel_rfl)
  clear hbh
  go_cut [12, 13] from 64 to 71 (fun a b wx => ∃ TZ k0 u0' v0 k1 u1' v1 k2 u2' v2 k3 u3' v3 k4 u4' v4 k5 u5' v5, a = .pointer (some ⟨TZ, 0, none⟩) ∧ b = .nilIface ∧ PBox wx TZ Y (.slice k0 u0' v0) (.slice k1 u1' v1) (.slice k2 u2' v2) (.slice k3 u3' v3) (.slice k4 u4' v4) (.slice k5 u5' v5) ∧ PicC wx Y (.slice k0 u0' v0) (.slice k1 u1' v1) (.slice k2 u2' v2) (.slice k3 u3' v3) (.slice k4 u4' v4) (.slice k5 u5' v5) ∧ Below w9.heap.size w9 wx)
  case first =>
    have hd := (Below.refl w9.heap.size w9).drew
    have CC0 : (fun Z => PBox Z B P q0 q1 q2 q3 pv kv ∧ Below w9.heap.size w9 Z) w9.drew := ⟨X9.out.old hd, hd⟩
    refine wp_region_ord (fun Z => PBox Z B P q0 q1 q2 q3 pv kv ∧ Below w9.heap.size w9 Z) (.take 0 (.take 1 (.take 2 (.two 3 (.two 4 (.take 5 (.take 6 (.take 7 (.one 8 (.one 9 (.take 10 .done)))))) 8 (.one 4 (.take 5 (.take 6 (.take 7 (.one 9 (.take 10 .done))))))) 8 (.one 3 (.one 4 (.take 5 (.take 6 (.take 7 (.one 9 (.take 10 .done))))))))))) (by kernel_rfl) (by kernel_rfl) CC0 (fun hC0 => ?_)
    clear CC0 hd
    iterate 3
      (refine ord_take rfl ?_
       apply Exists.intro
       refine ⟨Or.inl ⟨by rfl, fun Z hZ => ?_⟩, ?_⟩
       · obtain ⟨hbx, -⟩ := hZ
         obtain ⟨a0, a1, a2, a3, a4, a5, a6, a7, a8⟩ := hbx.cells
         clear hbx
         go_simp
         exact rfl
       simp only [Act.put, List.setIfInBounds_toArray, List.set_cons_zero, List.set_cons_succ])
    obtain ⟨y0, hy0⟩ : ∃ y, w9.drew = y := ⟨_, rfl⟩
    rw [hy0] at hC0 ⊢
    have C0 := Lib.hid hC0
    clear hC0 hy0
    refine ord_two rfl rfl (fun K hK => ?_) (fun K hK => ?_)
    · rw [if_pos (by rfl)]
      go_wp2_with (go_at_call 25; refine (BHA.out _).mono ?_; rintro e y1 ⟨rfl, hb⟩)
      have C1 : Hid (PBox y1 B P q0 q1 q2 q3 pv kv ∧ Below w9.heap.size w9 y1) := Lib.hid ⟨C0.out.1.old hb, C0.out.2.trans (hb.mono C0.out.2.size)⟩
      refine hK.out _ _ C1.out (fun _ => ?_)
      clear hK K hb
      try simp only [Act.put, List.setIfInBounds_toArray, List.set_cons_zero, List.set_cons_succ]
      refine ord_two rfl rfl (fun K hK => ?_) (fun K hK => ?_)
      · rw [if_pos (by rfl)]
        go_wp2_with (go_at_call 23; refine (T3A.out _ C1.out.2).mono ?_; rintro e y2 ⟨k0, u0', v0, k1, u1', v1, k2, u2', v2, k3, u3', v3, k4, u4', v4, k5, u5', v5, rfl, hpz, hb⟩)
        have C2 : Hid (PBox y2 B P q0 q1 q2 q3 pv kv ∧ Below w9.heap.size w9 y2) := Lib.hid ⟨C1.out.1.old hb, C1.out.2.trans (hb.mono C1.out.2.size)⟩
        have PZ := Lib.hid hpz
        refine hK.out _ _ C2.out (fun _ => ?_)
        clear hK K hb hpz
        try simp only [Act.put, List.setIfInBounds_toArray, List.set_cons_zero, List.set_cons_succ]
        iterate 3
          (refine ord_take rfl ?_
           apply Exists.intro
           refine ⟨Or.inl ⟨by rfl, fun Z hZ => ?_⟩, ?_⟩
           · clear hZ
             go_simp
             exact rfl
           simp only [Act.put, List.setIfInBounds_toArray, List.set_cons_zero, List.set_cons_succ])
        refine ord_one rfl (fun K hK => ?_)
        rw [if_pos (by rfl)]
        go_wp2_with fail
        obtain ⟨TZ, hTZ⟩ : ∃ T, y2.heap.size = T := ⟨_, rfl⟩
        obtain ⟨y3, hW2⟩ : ∃ z, y2.alloc (.cells #[.int .i64 0, .int .i64 0, .slice none 0 0, .slice none 0 0, .slice none 0 0, .slice none 0 0, .slice none 0 0, .int .i64 0, .slice none 0 0] 36) = z := ⟨_, rfl⟩
        have hb : Below y2.heap.size y2 y3 := by rw [← hW2]; exact (Below.refl _ _).alloc (Nat.le_refl _) _
        have ZT : Hid (y3.heap[TZ]? = some (Obj.cells #[.int .i64 0, .int .i64 0, .slice none 0 0, .slice none 0 0, .slice none 0 0, .slice none 0 0, .slice none 0 0, .int .i64 0, .slice none 0 0] 36 (0, 0))) := Lib.hid (by rw [← hW2, ← hTZ]; exact heap_alloc_new _ _)
        have TL : Hid (w9.heap.size ≤ TZ) := Lib.hid (by rw [← hTZ]; exact C2.out.2.size)
        try rw [hW2]
        try rw [hTZ]
        have C3 : Hid (PBox y3 B P q0 q1 q2 q3 pv kv ∧ Below w9.heap.size w9 y3) := Lib.hid ⟨C2.out.1.old hb, C2.out.2.trans (hb.mono C2.out.2.size)⟩
        have PZ3 := Lib.hid (PZ.out.hi (keepHi_below hb))
        refine hK.out _ _ C3.out (fun _ => ?_)
        clear hK K hb hW2 hTZ
        try simp only [Act.put, List.setIfInBounds_toArray, List.set_cons_zero, List.set_cons_succ]
        refine ord_one rfl (fun K hK => ?_)
        rw [if_pos (by rfl)]
        refine wp_store_row _ _ _ rfl TZ #[.int .i64 Y.w, .int .i64 Y.h, .slice k0 u0' v0, .slice k1 u1' v1, .slice k2 u2' v2, .slice k3 u3' v3, .slice k4 u4' v4, .int .i64 Y.restart, .slice k5 u5' v5] rfl rfl 36 _ ZT.out HI.out rfl (by kernel_rfl) ?_
        obtain ⟨yE, hE⟩ : ∃ yE, y3.setRow TZ #[.int .i64 Y.w, .int .i64 Y.h, .slice k0 u0' v0, .slice k1 u1' v1, .slice k2 u2' v2, .slice k3 u3' v3, .slice k4 u4' v4, .int .i64 Y.restart, .slice k5 u5' v5] = yE := ⟨_, rfl⟩
        have PE : Hid (PBox yE TZ Y (.slice k0 u0' v0) (.slice k1 u1' v1) (.slice k2 u2' v2) (.slice k3 u3' v3) (.slice k4 u4' v4) (.slice k5 u5' v5)) := Lib.hid (by rw [← hE]; exact setRow_heap _ _ _ _ _ _ ZT.out)
        have QE : Hid (PicC yE Y (.slice k0 u0' v0) (.slice k1 u1' v1) (.slice k2 u2' v2) (.slice k3 u3' v3) (.slice k4 u4' v4) (.slice k5 u5' v5)) := Lib.hid (by rw [← hE]; exact (PZ3.out.ty (keepTy_row ZT.out) (by decide) (by decide) (by decide) (by decide) (by decide)).pic)
        have CE : Hid (PBox yE B P q0 q1 q2 q3 pv kv ∧ Below w9.heap.size w9 yE) := Lib.hid (by
          refine ⟨?_, by rw [← hE]; exact below_setRow C3.out.2 TL.out _⟩
          unfold PBox
          rw [← hE, setRow_other _ _ _ _ (by have := TL.out; have := BT.out; omega)]
          exact C3.out.1)
        rw [hE]
        refine hK.out _ _ CE.out (fun _ => ?_)
        clear hK K hE
        try simp only [Act.put, List.setIfInBounds_toArray, List.set_cons_zero, List.set_cons_succ]
        refine ord_take rfl ?_
        apply Exists.intro
        refine ⟨Or.inl ⟨by rfl, fun Z hZ => ?_⟩, ?_⟩
        · clear hZ
          go_simp
          exact rfl
        try simp only [Act.put, List.setIfInBounds_toArray, List.set_cons_zero, List.set_cons_succ]
        refine ord_done ?_
        go_wp2_with fail
        go_meet
        exact ⟨TZ, k0, u0', v0, k1, u1', v1, k2, u2', v2, k3, u3', v3, k4, u4', v4, k5, u5', v5, rfl, rfl, PE.out, QE.out, CE.out.2⟩
      · rw [if_pos (by rfl)]
        go_wp2_with fail
        obtain ⟨TZ, hTZ⟩ : ∃ T, y1.heap.size = T := ⟨_, rfl⟩
        obtain ⟨y2, hW2⟩ : ∃ z, y1.alloc (.cells #[.int .i64 0, .int .i64 0, .slice none 0 0, .slice none 0 0, .slice none 0 0, .slice none 0 0, .slice none 0 0, .int .i64 0, .slice none 0 0] 36) = z := ⟨_, rfl⟩
        have hb : Below y1.heap.size y1 y2 := by rw [← hW2]; exact (Below.refl _ _).alloc (Nat.le_refl _) _
        have ZT : Hid (y2.heap[TZ]? = some (Obj.cells #[.int .i64 0, .int .i64 0, .slice none 0 0, .slice none 0 0, .slice none 0 0, .slice none 0 0, .slice none 0 0, .int .i64 0, .slice none 0 0] 36 (0, 0))) := Lib.hid (by rw [← hW2, ← hTZ]; exact heap_alloc_new _ _)
        have TL : Hid (w9.heap.size ≤ TZ) := Lib.hid (by rw [← hTZ]; exact C1.out.2.size)
        try rw [hW2]
        try rw [hTZ]
        have C2 : Hid (PBox y2 B P q0 q1 q2 q3 pv kv ∧ Below w9.heap.size w9 y2) := Lib.hid ⟨C1.out.1.old hb, C1.out.2.trans (hb.mono C1.out.2.size)⟩
        refine hK.out _ _ C2.out (fun _ => ?_)
        clear hK K hb hW2 hTZ
        try simp only [Act.put, List.setIfInBounds_toArray, List.set_cons_zero, List.set_cons_succ]
        refine ord_one rfl (fun K hK => ?_)
        rw [if_pos (by rfl)]
        go_wp2_with (go_at_call 23; refine (T3A.out _ C2.out.2).mono ?_; rintro e y3 ⟨k0, u0', v0, k1, u1', v1, k2, u2', v2, k3, u3', v3, k4, u4', v4, k5, u5', v5, rfl, hpz, hb⟩)
        have C3 : Hid (PBox y3 B P q0 q1 q2 q3 pv kv ∧ Below w9.heap.size w9 y3) := Lib.hid ⟨C2.out.1.old hb, C2.out.2.trans (hb.mono C2.out.2.size)⟩
        have PZ := Lib.hid hpz
        have ZT2 : Hid (y3.heap[TZ]? = some (Obj.cells #[.int .i64 0, .int .i64 0, .slice none 0 0, .slice none 0 0, .slice none 0 0, .slice none 0 0, .slice none 0 0, .int .i64 0, .slice none 0 0] 36 (0, 0))) := Lib.hid (by rw [hb.block TZ (Array.getElem?_eq_some_iff.1 ZT.out).1]; exact ZT.out)
        refine hK.out _ _ C3.out (fun _ => ?_)
        clear hK K hb hpz
        try simp only [Act.put, List.setIfInBounds_toArray, List.set_cons_zero, List.set_cons_succ]
        iterate 3
          (refine ord_take rfl ?_
           apply Exists.intro
           refine ⟨Or.inl ⟨by rfl, fun Z hZ => ?_⟩, ?_⟩
           · clear hZ
             go_simp
             exact rfl
           simp only [Act.put, List.setIfInBounds_toArray, List.set_cons_zero, List.set_cons_succ])
        refine ord_one rfl (fun K hK => ?_)
        rw [if_pos (by rfl)]
        refine wp_store_row _ _ _ rfl TZ #[.int .i64 Y.w, .int .i64 Y.h, .slice k0 u0' v0, .slice k1 u1' v1, .slice k2 u2' v2, .slice k3 u3' v3, .slice k4 u4' v4, .int .i64 Y.restart, .slice k5 u5' v5] rfl rfl 36 _ ZT2.out HI.out rfl (by kernel_rfl) ?_
        obtain ⟨yE, hE⟩ : ∃ yE, y3.setRow TZ #[.int .i64 Y.w, .int .i64 Y.h, .slice k0 u0' v0, .slice k1 u1' v1, .slice k2 u2' v2, .slice k3 u3' v3, .slice k4 u4' v4, .int .i64 Y.restart, .slice k5 u5' v5] = yE := ⟨_, rfl⟩
        have PE : Hid (PBox yE TZ Y (.slice k0 u0' v0) (.slice k1 u1' v1) (.slice k2 u2' v2) (.slice k3 u3' v3) (.slice k4 u4' v4) (.slice k5 u5' v5)) := Lib.hid (by rw [← hE]; exact setRow_heap _ _ _ _ _ _ ZT2.out)
        have QE : Hid (PicC yE Y (.slice k0 u0' v0) (.slice k1 u1' v1) (.slice k2 u2' v2) (.slice k3 u3' v3) (.slice k4 u4' v4) (.slice k5 u5' v5)) := Lib.hid (by rw [← hE]; exact (PZ.out.ty (keepTy_row ZT2.out) (by decide) (by decide) (by decide) (by decide) (by decide)).pic)
        have CE : Hid (PBox yE B P q0 q1 q2 q3 pv kv ∧ Below w9.heap.size w9 yE) := Lib.hid (by
          refine ⟨?_, by rw [← hE]; exact below_setRow C3.out.2 TL.out _⟩
          unfold PBox
          rw [← hE, setRow_other _ _ _ _ (by have := TL.out; have := BT.out; omega)]
          exact C3.out.1)
        rw [hE]
        refine hK.out _ _ CE.out (fun _ => ?_)
        clear hK K hE
        try simp only [Act.put, List.setIfInBounds_toArray, List.set_cons_zero, List.set_cons_succ]
        refine ord_take rfl ?_
        apply Exists.intro
        refine ⟨Or.inl ⟨by rfl, fun Z hZ => ?_⟩, ?_⟩
        · clear hZ
          go_simp
          exact rfl
        try simp only [Act.put, List.setIfInBounds_toArray, List.set_cons_zero, List.set_cons_succ]
        refine ord_done ?_
        go_wp2_with fail
        go_meet
        exact ⟨TZ, k0, u0', v0, k1, u1', v1, k2, u2', v2, k3, u3', v3, k4, u4', v4, k5, u5', v5, rfl, rfl, PE.out, QE.out, CE.out.2⟩
    · rw [if_pos (by rfl)]
      go_wp2_with fail
      obtain ⟨TZ, hTZ⟩ : ∃ T, y0.heap.size = T := ⟨_, rfl⟩
      obtain ⟨y1, hW2⟩ : ∃ z, y0.alloc (.cells #[.int .i64 0, .int .i64 0, .slice none 0 0, .slice none 0 0, .slice none 0 0, .slice none 0 0, .slice none 0 0, .int .i64 0, .slice none 0 0] 36) = z := ⟨_, rfl⟩
      have hb : Below y0.heap.size y0 y1 := by rw [← hW2]; exact (Below.refl _ _).alloc (Nat.le_refl _) _
      have ZT : Hid (y1.heap[TZ]? = some (Obj.cells #[.int .i64 0, .int .i64 0, .slice none 0 0, .slice none 0 0, .slice none 0 0, .slice none 0 0, .slice none 0 0, .int .i64 0, .slice none 0 0] 36 (0, 0))) := Lib.hid (by rw [← hW2, ← hTZ]; exact heap_alloc_new _ _)
      have TL : Hid (w9.heap.size ≤ TZ) := Lib.hid (by rw [← hTZ]; exact C0.out.2.size)
      try rw [hW2]
      try rw [hTZ]
      have C1 : Hid (PBox y1 B P q0 q1 q2 q3 pv kv ∧ Below w9.heap.size w9 y1) := Lib.hid ⟨C0.out.1.old hb, C0.out.2.trans (hb.mono C0.out.2.size)⟩
      refine hK.out _ _ C1.out (fun _ => ?_)
      clear hK K hb hW2 hTZ
      try simp only [Act.put, List.setIfInBounds_toArray, List.set_cons_zero, List.set_cons_succ]
      refine ord_one rfl (fun K hK => ?_)
      rw [if_pos (by rfl)]
      go_wp2_with (go_at_call 25; refine (BHA.out _).mono ?_; rintro e y2 ⟨rfl, hb⟩)
      have C2 : Hid (PBox y2 B P q0 q1 q2 q3 pv kv ∧ Below w9.heap.size w9 y2) := Lib.hid ⟨C1.out.1.old hb, C1.out.2.trans (hb.mono C1.out.2.size)⟩
      have ZT1 : Hid (y2.heap[TZ]? = some (Obj.cells #[.int .i64 0, .int .i64 0, .slice none 0 0, .slice none 0 0, .slice none 0 0, .slice none 0 0, .slice none 0 0, .int .i64 0, .slice none 0 0] 36 (0, 0))) := Lib.hid (by rw [hb.block TZ (Array.getElem?_eq_some_iff.1 ZT.out).1]; exact ZT.out)
      refine hK.out _ _ C2.out (fun _ => ?_)
      clear hK K hb
      try simp only [Act.put, List.setIfInBounds_toArray, List.set_cons_zero, List.set_cons_succ]
      refine ord_one rfl (fun K hK => ?_)
      rw [if_pos (by rfl)]
      go_wp2_with (go_at_call 23; refine (T3A.out _ C2.out.2).mono ?_; rintro e y3 ⟨k0, u0', v0, k1, u1', v1, k2, u2', v2, k3, u3', v3, k4, u4', v4, k5, u5', v5, rfl, hpz, hb⟩)
      have C3 : Hid (PBox y3 B P q0 q1 q2 q3 pv kv ∧ Below w9.heap.size w9 y3) := Lib.hid ⟨C2.out.1.old hb, C2.out.2.trans (hb.mono C2.out.2.size)⟩
      have PZ := Lib.hid hpz
      have ZT2 : Hid (y3.heap[TZ]? = some (Obj.cells #[.int .i64 0, .int .i64 0, .slice none 0 0, .slice none 0 0, .slice none 0 0, .slice none 0 0, .slice none 0 0, .int .i64 0, .slice none 0 0] 36 (0, 0))) := Lib.hid (by rw [hb.block TZ (Array.getElem?_eq_some_iff.1 ZT1.out).1]; exact ZT1.out)
      refine hK.out _ _ C3.out (fun _ => ?_)
      clear hK K hb hpz
      try simp only [Act.put, List.setIfInBounds_toArray, List.set_cons_zero, List.set_cons_succ]
      iterate 3
        (refine ord_take rfl ?_
         apply Exists.intro
         refine ⟨Or.inl ⟨by rfl, fun Z hZ => ?_⟩, ?_⟩
         · clear hZ
           go_simp
           exact rfl
         simp only [Act.put, List.setIfInBounds_toArray, List.set_cons_zero, List.set_cons_succ])
      refine ord_one rfl (fun K hK => ?_)
      rw [if_pos (by rfl)]
      refine wp_store_row _ _ _ rfl TZ #[.int .i64 Y.w, .int .i64 Y.h, .slice k0 u0' v0, .slice k1 u1' v1, .slice k2 u2' v2, .slice k3 u3' v3, .slice k4 u4' v4, .int .i64 Y.restart, .slice k5 u5' v5] rfl rfl 36 _ ZT2.out HI.out rfl (by kernel_rfl) ?_
      obtain ⟨yE, hE⟩ : ∃ yE, y3.setRow TZ #[.int .i64 Y.w, .int .i64 Y.h, .slice k0 u0' v0, .slice k1 u1' v1, .slice k2 u2' v2, .slice k3 u3' v3, .slice k4 u4' v4, .int .i64 Y.restart, .slice k5 u5' v5] = yE := ⟨_, rfl⟩
      have PE : Hid (PBox yE TZ Y (.slice k0 u0' v0) (.slice k1 u1' v1) (.slice k2 u2' v2) (.slice k3 u3' v3) (.slice k4 u4' v4) (.slice k5 u5' v5)) := Lib.hid (by rw [← hE]; exact setRow_heap _ _ _ _ _ _ ZT2.out)
      have QE : Hid (PicC yE Y (.slice k0 u0' v0) (.slice k1 u1' v1) (.slice k2 u2' v2) (.slice k3 u3' v3) (.slice k4 u4' v4) (.slice k5 u5' v5)) := Lib.hid (by rw [← hE]; exact (PZ.out.ty (keepTy_row ZT2.out) (by decide) (by decide) (by decide) (by decide) (by decide)).pic)
      have CE : Hid (PBox yE B P q0 q1 q2 q3 pv kv ∧ Below w9.heap.size w9 yE) := Lib.hid (by
        refine ⟨?_, by rw [← hE]; exact below_setRow C3.out.2 TL.out _⟩
        unfold PBox
        rw [← hE, setRow_other _ _ _ _ (by have := TL.out; have := BT.out; omega)]
        exact C3.out.1)
      rw [hE]
      refine hK.out _ _ CE.out (fun _ => ?_)
      clear hK K hE
      try simp only [Act.put, List.setIfInBounds_toArray, List.set_cons_zero, List.set_cons_succ]
      refine ord_take rfl ?_
      apply Exists.intro
      refine ⟨Or.inl ⟨by rfl, fun Z hZ => ?_⟩, ?_⟩
      · clear hZ
        go_simp
        exact rfl
      try simp only [Act.put, List.setIfInBounds_toArray, List.set_cons_zero, List.set_cons_succ]
      refine ord_done ?_
      go_wp2_with fail
      go_meet
      exact ⟨TZ, k0, u0', v0, k1, u1', v1, k2, u2', v2, k3, u3', v3, k4, u4', v4, k5, u5', v5, rfl, rfl, PE.out, QE.out, CE.out.2⟩
  case rest =>
  obtain ⟨TZ, k0, u0', v0, k1, u1', v1, k2, u2', v2, k3, u3', v3, k4, u4', v4, k5, u5', v5, rfl, rfl, hbz, hpz, hbl⟩ := hcut
  have ZB := Lib.hid hbz
  have PZC := Lib.hid hpz
  have XBc : Hid (PBox wc T X (.slice e0 n0 c0) (.slice e1 n1 c1) (.slice e2 n2 c2) (.slice e3 n3 c3) (.slice e4 n4 c4) (.slice e5 n5 c5)) := Lib.hid (XB9.out.old hbl)
  have PXc := Lib.hid (PX9.out.old hbl)
  have PYc := Lib.hid (PY9.out.old hbl)
  have YBc := Lib.hid (YB.out.old hbl)
  have XPc := Lib.hid (X9.out.old hbl)
  have Bc : Hid (Below w.heap.size w wc) := Lib.hid (B9.out.trans (hbl.mono B9.out.size))
  clear hbz hpz hbl BHA T3A X9 XB9 B9 PX9 PY9 YB
  obtain ⟨un, hun⟩ : ∃ z, undoN (g : Int) = z := ⟨_, rfl⟩
  have UF := Lib.hid (undo_facts (g : Int) G7.out.1)
  have UNA : Hid (∀ W, Calls Try.prog 26 #[.int .i64 (g : Int)] W fun e w' => e = .returned (.int .i64 (un : Int)) ∧ Below W.heap.size W w') := Lib.hid (fun W => by have hh := undo_any (g : Int) W; rw [hun] at hh; exact hh)
  rw [hun] at UF
  have UB : Hid (0 ≤ (un : Int) ∧ (un : Int) ≤ 7) := Lib.hid (by have := UF.out.1; omega)
  have BE : Hid (turnL X (un : Int) true = P) := Lib.hid (by
    have h1 := (twice_plain WH.out (g : Int) (un : Int) G7.out.1 UB.out).2
    rw [HX.out] at h1
    rw [h1, UF.out.2.1]
    have h2 := (turn_whole WH.out (((0 : Nat) : Int)) (by decide)).2
    rw [h2]
    rfl)
  have T4A : Hid (∀ W, Below wc.heap.size wc W → _) := Lib.hid (fun W hW => turnW_any X (.slice e0 n0 c0) (.slice e1 n1 c1) (.slice e2 n2 c2) (.slice e3 n3 c3) (.slice e4 n4 c4) (.slice e5 n5 c5) (un : Int) W WX.out.1 (PXc.out.old hW) BX.out (by rw [XK.out]; exact KL.out) UB.out)
  rw [BE.out] at T4A
  unfold vPic at T4A
  have TT : Hid (T < wc.heap.size) := Lib.hid (Array.getElem?_eq_some_iff.1 XBc.out).1
  clear hun
  go_upto_region 14 with (fail)
  go_cut [14, 15] from 72 to 78 (fun a b wx => ∃ TV p0 s0' r0 p1 s1' r1 p2 s2' r2 p3 s3' r3 p4 s4' r4 p5 s5' r5, a = .pointer (some ⟨TV, 0, none⟩) ∧ b = .nilIface ∧ PBox wx TV P (.slice p0 s0' r0) (.slice p1 s1' r1) (.slice p2 s2' r2) (.slice p3 s3' r3) (.slice p4 s4' r4) (.slice p5 s5' r5) ∧ PicC wx P (.slice p0 s0' r0) (.slice p1 s1' r1) (.slice p2 s2' r2) (.slice p3 s3' r3) (.slice p4 s4' r4) (.slice p5 s5' r5) ∧ Below wc.heap.size wc wx)
  case first =>
    have hd := (Below.refl wc.heap.size wc).drew
    have CC0 : (fun Z => PBox Z T X (.slice e0 n0 c0) (.slice e1 n1 c1) (.slice e2 n2 c2) (.slice e3 n3 c3) (.slice e4 n4 c4) (.slice e5 n5 c5) ∧ Below wc.heap.size wc Z) wc.drew := ⟨XBc.out.old hd, hd⟩
    refine wp_region_ord (fun Z => PBox Z T X (.slice e0 n0 c0) (.slice e1 n1 c1) (.slice e2 n2 c2) (.slice e3 n3 c3) (.slice e4 n4 c4) (.slice e5 n5 c5) ∧ Below wc.heap.size wc Z) (.take 0 (.take 1 (.two 2 (.two 3 (.take 4 (.take 5 (.take 6 (.one 7 (.one 8 (.take 9 .done)))))) 7 (.one 3 (.take 4 (.take 5 (.take 6 (.one 8 (.take 9 .done))))))) 7 (.one 2 (.one 3 (.take 4 (.take 5 (.take 6 (.one 8 (.take 9 .done)))))))))) (by kernel_rfl) (by kernel_rfl) CC0 (fun hC0 => ?_)
    clear CC0 hd
    iterate 2
      (refine ord_take rfl ?_
       apply Exists.intro
       refine ⟨Or.inl ⟨by rfl, fun Z hZ => ?_⟩, ?_⟩
       · obtain ⟨hbx, -⟩ := hZ
         obtain ⟨a0, a1, a2, a3, a4, a5, a6, a7, a8⟩ := hbx.cells
         clear hbx
         go_simp
         exact rfl
       simp only [Act.put, List.setIfInBounds_toArray, List.set_cons_zero, List.set_cons_succ])
    obtain ⟨y0, hy0⟩ : ∃ y, wc.drew = y := ⟨_, rfl⟩
    rw [hy0] at hC0 ⊢
    have C0 := Lib.hid hC0
    clear hC0 hy0
    refine ord_two rfl rfl (fun K hK => ?_) (fun K hK => ?_)
    · rw [if_pos (by rfl)]
      go_wp2_with (go_at_call 26; refine (UNA.out _).mono ?_; rintro e y1 ⟨rfl, hb⟩)
      have C1 : Hid (PBox y1 T X (.slice e0 n0 c0) (.slice e1 n1 c1) (.slice e2 n2 c2) (.slice e3 n3 c3) (.slice e4 n4 c4) (.slice e5 n5 c5) ∧ Below wc.heap.size wc y1) := Lib.hid ⟨C0.out.1.old hb, C0.out.2.trans (hb.mono C0.out.2.size)⟩
      refine hK.out _ _ C1.out (fun _ => ?_)
      clear hK K hb
      try simp only [Act.put, List.setIfInBounds_toArray, List.set_cons_zero, List.set_cons_succ]
      refine ord_two rfl rfl (fun K hK => ?_) (fun K hK => ?_)
      · rw [if_pos (by rfl)]
        go_wp2_with (go_at_call 23; refine (T4A.out _ C1.out.2).mono ?_; rintro e y2 ⟨p0, s0', r0, p1, s1', r1, p2, s2', r2, p3, s3', r3, p4, s4', r4, p5, s5', r5, rfl, hpz, hb⟩)
        have C2 : Hid (PBox y2 T X (.slice e0 n0 c0) (.slice e1 n1 c1) (.slice e2 n2 c2) (.slice e3 n3 c3) (.slice e4 n4 c4) (.slice e5 n5 c5) ∧ Below wc.heap.size wc y2) := Lib.hid ⟨C1.out.1.old hb, C1.out.2.trans (hb.mono C1.out.2.size)⟩
        have PZ := Lib.hid hpz
        refine hK.out _ _ C2.out (fun _ => ?_)
        clear hK K hb hpz
        try simp only [Act.put, List.setIfInBounds_toArray, List.set_cons_zero, List.set_cons_succ]
        iterate 3
          (refine ord_take rfl ?_
           apply Exists.intro
           refine ⟨Or.inl ⟨by rfl, fun Z hZ => ?_⟩, ?_⟩
           · clear hZ
             go_simp
             exact rfl
           simp only [Act.put, List.setIfInBounds_toArray, List.set_cons_zero, List.set_cons_succ])
        refine ord_one rfl (fun K hK => ?_)
        rw [if_pos (by rfl)]
        go_wp2_with fail
        obtain ⟨TV, hTV⟩ : ∃ T, y2.heap.size = T := ⟨_, rfl⟩
        obtain ⟨y3, hW2⟩ : ∃ z, y2.alloc (.cells #[.int .i64 0, .int .i64 0, .slice none 0 0, .slice none 0 0, .slice none 0 0, .slice none 0 0, .slice none 0 0, .int .i64 0, .slice none 0 0] 36) = z := ⟨_, rfl⟩
        have hb : Below y2.heap.size y2 y3 := by rw [← hW2]; exact (Below.refl _ _).alloc (Nat.le_refl _) _
        have ZT : Hid (y3.heap[TV]? = some (Obj.cells #[.int .i64 0, .int .i64 0, .slice none 0 0, .slice none 0 0, .slice none 0 0, .slice none 0 0, .slice none 0 0, .int .i64 0, .slice none 0 0] 36 (0, 0))) := Lib.hid (by rw [← hW2, ← hTV]; exact heap_alloc_new _ _)
        have TL : Hid (wc.heap.size ≤ TV) := Lib.hid (by rw [← hTV]; exact C2.out.2.size)
        try rw [hW2]
        try rw [hTV]
        have C3 : Hid (PBox y3 T X (.slice e0 n0 c0) (.slice e1 n1 c1) (.slice e2 n2 c2) (.slice e3 n3 c3) (.slice e4 n4 c4) (.slice e5 n5 c5) ∧ Below wc.heap.size wc y3) := Lib.hid ⟨C2.out.1.old hb, C2.out.2.trans (hb.mono C2.out.2.size)⟩
        have PZ3 := Lib.hid (PZ.out.hi (keepHi_below hb))
        refine hK.out _ _ C3.out (fun _ => ?_)
        clear hK K hb hW2 hTV
        try simp only [Act.put, List.setIfInBounds_toArray, List.set_cons_zero, List.set_cons_succ]
        refine ord_one rfl (fun K hK => ?_)
        rw [if_pos (by rfl)]
        refine wp_store_row _ _ _ rfl TV #[.int .i64 P.w, .int .i64 P.h, .slice p0 s0' r0, .slice p1 s1' r1, .slice p2 s2' r2, .slice p3 s3' r3, .slice p4 s4' r4, .int .i64 P.restart, .slice p5 s5' r5] rfl rfl 36 _ ZT.out HI.out rfl (by kernel_rfl) ?_
        obtain ⟨yE, hE⟩ : ∃ yE, y3.setRow TV #[.int .i64 P.w, .int .i64 P.h, .slice p0 s0' r0, .slice p1 s1' r1, .slice p2 s2' r2, .slice p3 s3' r3, .slice p4 s4' r4, .int .i64 P.restart, .slice p5 s5' r5] = yE := ⟨_, rfl⟩
        have PE : Hid (PBox yE TV P (.slice p0 s0' r0) (.slice p1 s1' r1) (.slice p2 s2' r2) (.slice p3 s3' r3) (.slice p4 s4' r4) (.slice p5 s5' r5)) := Lib.hid (by rw [← hE]; exact setRow_heap _ _ _ _ _ _ ZT.out)
        have QE : Hid (PicC yE P (.slice p0 s0' r0) (.slice p1 s1' r1) (.slice p2 s2' r2) (.slice p3 s3' r3) (.slice p4 s4' r4) (.slice p5 s5' r5)) := Lib.hid (by rw [← hE]; exact (PZ3.out.ty (keepTy_row ZT.out) (by decide) (by decide) (by decide) (by decide) (by decide)).pic)
        have CE : Hid (PBox yE T X (.slice e0 n0 c0) (.slice e1 n1 c1) (.slice e2 n2 c2) (.slice e3 n3 c3) (.slice e4 n4 c4) (.slice e5 n5 c5) ∧ Below wc.heap.size wc yE) := Lib.hid (by
          refine ⟨?_, by rw [← hE]; exact below_setRow C3.out.2 TL.out _⟩
          unfold PBox
          rw [← hE, setRow_other _ _ _ _ (by have := TL.out; have := TT.out; omega)]
          exact C3.out.1)
        rw [hE]
        refine hK.out _ _ CE.out (fun _ => ?_)
        clear hK K hE
        try simp only [Act.put, List.setIfInBounds_toArray, List.set_cons_zero, List.set_cons_succ]
        refine ord_take rfl ?_
        apply Exists.intro
        refine ⟨Or.inl ⟨by rfl, fun Z hZ => ?_⟩, ?_⟩
        · clear hZ
          go_simp
          exact rfl
        try simp only [Act.put, List.setIfInBounds_toArray, List.set_cons_zero, List.set_cons_succ]
        refine ord_done ?_
        go_wp2_with fail
        go_meet
        exact ⟨TV, p0, s0', r0, p1, s1', r1, p2, s2', r2, p3, s3', r3, p4, s4', r4, p5, s5', r5, rfl, rfl, PE.out, QE.out, CE.out.2⟩
      · rw [if_pos (by rfl)]
        go_wp2_with fail
        obtain ⟨TV, hTV⟩ : ∃ T, y1.heap.size = T := ⟨_, rfl⟩
        obtain ⟨y2, hW2⟩ : ∃ z, y1.alloc (.cells #[.int .i64 0, .int .i64 0, .slice none 0 0, .slice none 0 0, .slice none 0 0, .slice none 0 0, .slice none 0 0, .int .i64 0, .slice none 0 0] 36) = z := ⟨_, rfl⟩
        have hb : Below y1.heap.size y1 y2 := by rw [← hW2]; exact (Below.refl _ _).alloc (Nat.le_refl _) _
        have ZT : Hid (y2.heap[TV]? = some (Obj.cells #[.int .i64 0, .int .i64 0, .slice none 0 0, .slice none 0 0, .slice none 0 0, .slice none 0 0, .slice none 0 0, .int .i64 0, .slice none 0 0] 36 (0, 0))) := Lib.hid (by rw [← hW2, ← hTV]; exact heap_alloc_new _ _)
        have TL : Hid (wc.heap.size ≤ TV) := Lib.hid (by rw [← hTV]; exact C1.out.2.size)
        try rw [hW2]
        try rw [hTV]
        have C2 : Hid (PBox y2 T X (.slice e0 n0 c0) (.slice e1 n1 c1) (.slice e2 n2 c2) (.slice e3 n3 c3) (.slice e4 n4 c4) (.slice e5 n5 c5) ∧ Below wc.heap.size wc y2) := Lib.hid ⟨C1.out.1.old hb, C1.out.2.trans (hb.mono C1.out.2.size)⟩
        refine hK.out _ _ C2.out (fun _ => ?_)
        clear hK K hb hW2 hTV
        try simp only [Act.put, List.setIfInBounds_toArray, List.set_cons_zero, List.set_cons_succ]
        refine ord_one rfl (fun K hK => ?_)
        rw [if_pos (by rfl)]
        go_wp2_with (go_at_call 23; refine (T4A.out _ C2.out.2).mono ?_; rintro e y3 ⟨p0, s0', r0, p1, s1', r1, p2, s2', r2, p3, s3', r3, p4, s4', r4, p5, s5', r5, rfl, hpz, hb⟩)
        have C3 : Hid (PBox y3 T X (.slice e0 n0 c0) (.slice e1 n1 c1) (.slice e2 n2 c2) (.slice e3 n3 c3) (.slice e4 n4 c4) (.slice e5 n5 c5) ∧ Below wc.heap.size wc y3) := Lib.hid ⟨C2.out.1.old hb, C2.out.2.trans (hb.mono C2.out.2.size)⟩
        have PZ := Lib.hid hpz
        have ZT2 : Hid (y3.heap[TV]? = some (Obj.cells #[.int .i64 0, .int .i64 0, .slice none 0 0, .slice none 0 0, .slice none 0 0, .slice none 0 0, .slice none 0 0, .int .i64 0, .slice none 0 0] 36 (0, 0))) := Lib.hid (by rw [hb.block TV (Array.getElem?_eq_some_iff.1 ZT.out).1]; exact ZT.out)
        refine hK.out _ _ C3.out (fun _ => ?_)
        clear hK K hb hpz
        try simp only [Act.put, List.setIfInBounds_toArray, List.set_cons_zero, List.set_cons_succ]
        iterate 3
          (refine ord_take rfl ?_
           apply Exists.intro
           refine ⟨Or.inl ⟨by rfl, fun Z hZ => ?_⟩, ?_⟩
           · clear hZ
             go_simp
             exact rfl
           simp only [Act.put, List.setIfInBounds_toArray, List.set_cons_zero, List.set_cons_succ])
        refine ord_one rfl (fun K hK => ?_)
        rw [if_pos (by rfl)]
        refine wp_store_row _ _ _ rfl TV #[.int .i64 P.w, .int .i64 P.h, .slice p0 s0' r0, .slice p1 s1' r1, .slice p2 s2' r2, .slice p3 s3' r3, .slice p4 s4' r4, .int .i64 P.restart, .slice p5 s5' r5] rfl rfl 36 _ ZT2.out HI.out rfl (by kernel_rfl) ?_
        obtain ⟨yE, hE⟩ : ∃ yE, y3.setRow TV #[.int .i64 P.w, .int .i64 P.h, .slice p0 s0' r0, .slice p1 s1' r1, .slice p2 s2' r2, .slice p3 s3' r3, .slice p4 s4' r4, .int .i64 P.restart, .slice p5 s5' r5] = yE := ⟨_, rfl⟩
        have PE : Hid (PBox yE TV P (.slice p0 s0' r0) (.slice p1 s1' r1) (.slice p2 s2' r2) (.slice p3 s3' r3) (.slice p4 s4' r4) (.slice p5 s5' r5)) := Lib.hid (by rw [← hE]; exact setRow_heap _ _ _ _ _ _ ZT2.out)
        have QE : Hid (PicC yE P (.slice p0 s0' r0) (.slice p1 s1' r1) (.slice p2 s2' r2) (.slice p3 s3' r3) (.slice p4 s4' r4) (.slice p5 s5' r5)) := Lib.hid (by rw [← hE]; exact (PZ.out.ty (keepTy_row ZT2.out) (by decide) (by decide) (by decide) (by decide) (by decide)).pic)
        have CE : Hid (PBox yE T X (.slice e0 n0 c0) (.slice e1 n1 c1) (.slice e2 n2 c2) (.slice e3 n3 c3) (.slice e4 n4 c4) (.slice e5 n5 c5) ∧ Below wc.heap.size wc yE) := Lib.hid (by
          refine ⟨?_, by rw [← hE]; exact below_setRow C3.out.2 TL.out _⟩
          unfold PBox
          rw [← hE, setRow_other _ _ _ _ (by have := TL.out; have := TT.out; omega)]
          exact C3.out.1)
        rw [hE]
        refine hK.out _ _ CE.out (fun _ => ?_)
        clear hK K hE
        try simp only [Act.put, List.setIfInBounds_toArray, List.set_cons_zero, List.set_cons_succ]
        refine ord_take rfl ?_
        apply Exists.intro
        refine ⟨Or.inl ⟨by rfl, fun Z hZ => ?_⟩, ?_⟩
        · clear hZ
          go_simp
          exact rfl
        try simp only [Act.put, List.setIfInBounds_toArray, List.set_cons_zero, List.set_cons_succ]
        refine ord_done ?_
        go_wp2_with fail
        go_meet
        exact ⟨TV, p0, s0', r0, p1, s1', r1, p2, s2', r2, p3, s3', r3, p4, s4', r4, p5, s5', r5, rfl, rfl, PE.out, QE.out, CE.out.2⟩
    · rw [if_pos (by rfl)]
      go_wp2_with fail
      obtain ⟨TV, hTV⟩ : ∃ T, y0.heap.size = T := ⟨_, rfl⟩
      obtain ⟨y1, hW2⟩ : ∃ z, y0.alloc (.cells #[.int .i64 0, .int .i64 0, .slice none 0 0, .slice none 0 0, .slice none 0 0, .slice none 0 0, .slice none 0 0, .int .i64 0, .slice none 0 0] 36) = z := ⟨_, rfl⟩
      have hb : Below y0.heap.size y0 y1 := by rw [← hW2]; exact (Below.refl _ _).alloc (Nat.le_refl _) _
      have ZT : Hid (y1.heap[TV]? = some (Obj.cells #[.int .i64 0, .int .i64 0, .slice none 0 0, .slice none 0 0, .slice none 0 0, .slice none 0 0, .slice none 0 0, .int .i64 0, .slice none 0 0] 36 (0, 0))) := Lib.hid (by rw [← hW2, ← hTV]; exact heap_alloc_new _ _)
      have TL : Hid (wc.heap.size ≤ TV) := Lib.hid (by rw [← hTV]; exact C0.out.2.size)
      try rw [hW2]
      try rw [hTV]
      have C1 : Hid (PBox y1 T X (.slice e0 n0 c0) (.slice e1 n1 c1) (.slice e2 n2 c2) (.slice e3 n3 c3) (.slice e4 n4 c4) (.slice e5 n5 c5) ∧ Below wc.heap.size wc y1) := Lib.hid ⟨C0.out.1.old hb, C0.out.2.trans (hb.mono C0.out.2.size)⟩
      refine hK.out _ _ C1.out (fun _ => ?_)
      clear hK K hb hW2 hTV
      try simp only [Act.put, List.setIfInBounds_toArray, List.set_cons_zero, List.set_cons_succ]
      refine ord_one rfl (fun K hK => ?_)
      rw [if_pos (by rfl)]
      go_wp2_with (go_at_call 26; refine (UNA.out _).mono ?_; rintro e y2 ⟨rfl, hb⟩)
      have C2 : Hid (PBox y2 T X (.slice e0 n0 c0) (.slice e1 n1 c1) (.slice e2 n2 c2) (.slice e3 n3 c3) (.slice e4 n4 c4) (.slice e5 n5 c5) ∧ Below wc.heap.size wc y2) := Lib.hid ⟨C1.out.1.old hb, C1.out.2.trans (hb.mono C1.out.2.size)⟩
      have ZT1 : Hid (y2.heap[TV]? = some (Obj.cells #[.int .i64 0, .int .i64 0, .slice none 0 0, .slice none 0 0, .slice none 0 0, .slice none 0 0, .slice none 0 0, .int .i64 0, .slice none 0 0] 36 (0, 0))) := Lib.hid (by rw [hb.block TV (Array.getElem?_eq_some_iff.1 ZT.out).1]; exact ZT.out)
      refine hK.out _ _ C2.out (fun _ => ?_)
      clear hK K hb
      try simp only [Act.put, List.setIfInBounds_toArray, List.set_cons_zero, List.set_cons_succ]
      refine ord_one rfl (fun K hK => ?_)
      rw [if_pos (by rfl)]
      go_wp2_with (go_at_call 23; refine (T4A.out _ C2.out.2).mono ?_; rintro e y3 ⟨p0, s0', r0, p1, s1', r1, p2, s2', r2, p3, s3', r3, p4, s4', r4, p5, s5', r5, rfl, hpz, hb⟩)
      have C3 : Hid (PBox y3 T X (.slice e0 n0 c0) (.slice e1 n1 c1) (.slice e2 n2 c2) (.slice e3 n3 c3) (.slice e4 n4 c4) (.slice e5 n5 c5) ∧ Below wc.heap.size wc y3) := Lib.hid ⟨C2.out.1.old hb, C2.out.2.trans (hb.mono C2.out.2.size)⟩
      have PZ := Lib.hid hpz
      have ZT2 : Hid (y3.heap[TV]? = some (Obj.cells #[.int .i64 0, .int .i64 0, .slice none 0 0, .slice none 0 0, .slice none 0 0, .slice none 0 0, .slice none 0 0, .int .i64 0, .slice none 0 0] 36 (0, 0))) := Lib.hid (by rw [hb.block TV (Array.getElem?_eq_some_iff.1 ZT1.out).1]; exact ZT1.out)
      refine hK.out _ _ C3.out (fun _ => ?_)
      clear hK K hb hpz
      try simp only [Act.put, List.setIfInBounds_toArray, List.set_cons_zero, List.set_cons_succ]
      iterate 3
        (refine ord_take rfl ?_
         apply Exists.intro
         refine ⟨Or.inl ⟨by rfl, fun Z hZ => ?_⟩, ?_⟩
         · clear hZ
           go_simp
           exact rfl
         simp only [Act.put, List.setIfInBounds_toArray, List.set_cons_zero, List.set_cons_succ])
      refine ord_one rfl (fun K hK => ?_)
      rw [if_pos (by rfl)]
      refine wp_store_row _ _ _ rfl TV #[.int .i64 P.w, .int .i64 P.h, .slice p0 s0' r0, .slice p1 s1' r1, .slice p2 s2' r2, .slice p3 s3' r3, .slice p4 s4' r4, .int .i64 P.restart, .slice p5 s5' r5] rfl rfl 36 _ ZT2.out HI.out rfl (by kernel_rfl) ?_
      obtain ⟨yE, hE⟩ : ∃ yE, y3.setRow TV #[.int .i64 P.w, .int .i64 P.h, .slice p0 s0' r0, .slice p1 s1' r1, .slice p2 s2' r2, .slice p3 s3' r3, .slice p4 s4' r4, .int .i64 P.restart, .slice p5 s5' r5] = yE := ⟨_, rfl⟩
      have PE : Hid (PBox yE TV P (.slice p0 s0' r0) (.slice p1 s1' r1) (.slice p2 s2' r2) (.slice p3 s3' r3) (.slice p4 s4' r4) (.slice p5 s5' r5)) := Lib.hid (by rw [← hE]; exact setRow_heap _ _ _ _ _ _ ZT2.out)
      have QE : Hid (PicC yE P (.slice p0 s0' r0) (.slice p1 s1' r1) (.slice p2 s2' r2) (.slice p3 s3' r3) (.slice p4 s4' r4) (.slice p5 s5' r5)) := Lib.hid (by rw [← hE]; exact (PZ.out.ty (keepTy_row ZT2.out) (by decide) (by decide) (by decide) (by decide) (by decide)).pic)
      have CE : Hid (PBox yE T X (.slice e0 n0 c0) (.slice e1 n1 c1) (.slice e2 n2 c2) (.slice e3 n3 c3) (.slice e4 n4 c4) (.slice e5 n5 c5) ∧ Below wc.heap.size wc yE) := Lib.hid (by
        refine ⟨?_, by rw [← hE]; exact below_setRow C3.out.2 TL.out _⟩
        unfold PBox
        rw [← hE, setRow_other _ _ _ _ (by have := TL.out; have := TT.out; omega)]
        exact C3.out.1)
      rw [hE]
      refine hK.out _ _ CE.out (fun _ => ?_)
      clear hK K hE
      try simp only [Act.put, List.setIfInBounds_toArray, List.set_cons_zero, List.set_cons_succ]
      refine ord_take rfl ?_
      apply Exists.intro
      refine ⟨Or.inl ⟨by rfl, fun Z hZ => ?_⟩, ?_⟩
      · clear hZ
        go_simp
        exact rfl
      try simp only [Act.put, List.setIfInBounds_toArray, List.set_cons_zero, List.set_cons_succ]
      refine ord_done ?_
      go_wp2_with fail
      go_meet
      exact ⟨TV, p0, s0', r0, p1, s1', r1, p2, s2', r2, p3, s3', r3, p4, s4', r4, p5, s5', r5, rfl, rfl, PE.out, QE.out, CE.out.2⟩
  case rest =>
  obtain ⟨TV, p0, s0', r0, p1, s1', r1, p2, s2', r2, p3, s3', r3, p4, s4', r4, p5, s5', r5, rfl, rfl, hbv, hpv, hbl⟩ := hcut
  have Yd := Lib.hid (YBc.out.old hbl)
  have Zd := Lib.hid (ZB.out.old hbl)
  have Xd := Lib.hid (XPc.out.old hbl)
  have Vd := Lib.hid hbv
  have PYd := Lib.hid (PYc.out.old hbl)
  have PZd := Lib.hid (PZC.out.old hbl)
  have PVd := Lib.hid hpv
  have Bd := Lib.hid (Bc.out.trans (hbl.mono Bc.out.size))
  have WY : Hid (Whole Y ∧ Y.kept = P.kept) := Lib.hid (by
    have h1 := (turn_whole WX.out.1 (h : Int) G7.out.2).2
    rw [HY.out] at h1
    rw [h1]
    exact ⟨whole_t3 WX.out.1 _ _ _, by rw [t3_kept]; exact XK.out⟩)
  have BY := Lib.hid (good_bounds HBB.out WY.out.1.g WY.out.2)
  clear hbv hpv hbl
  obtain ⟨y0, y1, y2, y3, y4, y5, y6, y7, y8⟩ := Yd.out.cells
  obtain ⟨z0, z1, z2, z3, z4, z5, z6, z7, z8⟩ := Zd.out.cells
  go_wp2_with fail
  refine (rsame_any Y Y (.slice f0 m0 d0) (.slice f1 m1 d1) (.slice f2 m2 d2) (.slice f3 m3 d3) (.slice f4 m4 d4) (.slice f5 m5 d5) (.slice k0 u0' v0) (.slice k1 u1' v1) (.slice k2 u2' v2) (.slice k3 u3' v3) (.slice k4 u4' v4) (.slice k5 u5' v5) _ PYd.out PZd.out BY.out BY.out).mono ?_
  rintro e w20 ⟨rfl, hb20⟩
  rw [sameB_self]
  have V20 := Lib.hid (Vd.out.old hb20)
  have X20 := Lib.hid (Xd.out.old hb20)
  have PV20 := Lib.hid (PVd.out.old hb20)
  have B20 : Hid (Below w.heap.size w w20) := Lib.hid (Bd.out.trans (hb20.mono Bd.out.size))
  clear hb20 y0 y1 y2 y3 y4 y5 y6 y7 y8 z0 z1 z2 z3 z4 z5 z6 z7 z8
  obtain ⟨y0, y1, y2, y3, y4, y5, y6, y7, y8⟩ := V20.out.cells
  obtain ⟨z0, z1, z2, z3, z4, z5, z6, z7, z8⟩ := X20.out.cells
  go_wp2_with fail
  refine (rsame_any P P (.slice p0 s0' r0) (.slice p1 s1' r1) (.slice p2 s2' r2) (.slice p3 s3' r3) (.slice p4 s4' r4) (.slice p5 s5' r5) q0 q1 q2 q3 pv kv w20 PV20.out (HP.out.old B20.out) HBB.out HBB.out).mono ?_
  rintro e w21 ⟨rfl, hb21⟩
  rw [sameB_self]
  have B21 : Hid (Below w.heap.size w w21) := Lib.hid (B20.out.trans (hb21.mono B20.out.size))
  clear hb21 y0 y1 y2 y3 y4 y5 y6 y7 y8 z0 z1 z2 z3 z4 z5 z6 z7 z8
  go_wp2_with fail
  go_ret
  exact ⟨rfl, B21.out⟩
end Go.Proofs.Ytnhalnjdlkdnkaa
