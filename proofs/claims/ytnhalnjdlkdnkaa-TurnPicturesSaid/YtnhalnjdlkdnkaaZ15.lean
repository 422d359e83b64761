/- turn.Crop. By an AI agent. -/
import Derived.Test.YtnhalnjdlkdnkaaZ12
import Derived.Test.YtnhalnjdlkdnkaaZ13
import Derived.Test.YtnhalnjdlkdnkaaZ14
namespace Go.Proofs.Ytnhalnjdlkdnkaa
open Go.RowKit Go.BigFrame
set_option linter.unusedVariables false
set_option linter.unusedSimpArgs false
set_option maxRecDepth 20000

theorem pic_zero (base : Nat) (w : World) : PicO base w zeroP (.slice none 0 0) (.slice none 0 0) (.slice none 0 0) (.slice none 0 0) (.slice none 0 0) (.slice none 0 0) :=
  ⟨World.ownsRow_nil _ _ _ _, World.ownsRow_nil _ _ _ _, World.ownsRow_nil _ _ _ _, World.ownsRow_nil _ _ _ _, ⟨[], rfl, World.ownsRow_nil _ _ _ _, by simp, by simp, List.Pairwise.nil⟩, ⟨[], rfl, World.ownsRow_nil _ _ _ _, by simp, by simp⟩⟩
theorem good_mod {P : PicL} (G : GoodS P) (hk : P.kept.length ≤ 1000) : Mod P := by
  have F := G.fit
  refine ⟨fun j => ?_, by have := G.n; omega, hk, fun p hp => ?_, fun s hs => ?_⟩
  · by_cases hj : j < 4
    · have h := List.all_eq_true.1 G.qs j (List.mem_range.2 hj)
      unfold quantB at h
      split at h
      · unfold tableB at h
        simp only [Bool.and_eq_true, decide_eq_true_eq] at h
        omega
      · simp only [decide_eq_true_eq] at h; omega
    · have h := List.all_eq_true.1 G.qs 3 (List.mem_range.2 (by decide))
      have e : qL P j = qL P 3 := by
        match j, hj with
        | 0, h => omega
        | 1, h => omega
        | 2, h => omega
        | 3, h => omega
        | _ + 4, _ => rfl
      rw [e]
      unfold quantB at h
      split at h
      · unfold tableB at h
        simp only [Bool.and_eq_true, decide_eq_true_eq] at h
        omega
      · simp only [decide_eq_true_eq] at h; omega
  · obtain ⟨k, hkl, rfl⟩ := List.getElem_of_mem hp
    obtain ⟨_, _, h3, h4⟩ := F.pt k hkl
    omega
  · have h := List.all_eq_true.1 G.ks s hs
    unfold segB at h
    simp only [Bool.and_eq_true, decide_eq_true_eq] at h
    omega
theorem range_cases (x y w h W H : Int) (c : Bool) (hc : c = (decide (x < 0) || decide (y < 0) || decide (w < 1) || decide (h < 1) || decide (W ≤ x) || decide (H ≤ y))) :
    (decide (x < 0) = true ∧ c = true) ∨ (decide (x < 0) = false ∧ decide (y < 0) = true ∧ c = true) ∨ (decide (x < 0) = false ∧ decide (y < 0) = false ∧ decide (w < 1) = true ∧ c = true) ∨
    (decide (x < 0) = false ∧ decide (y < 0) = false ∧ decide (w < 1) = false ∧ decide (h < 1) = true ∧ c = true) ∨ (decide (x < 0) = false ∧ decide (y < 0) = false ∧ decide (w < 1) = false ∧ decide (h < 1) = false ∧ decide (W ≤ x) = true ∧ c = true) ∨
    (decide (x < 0) = false ∧ decide (y < 0) = false ∧ decide (w < 1) = false ∧ decide (h < 1) = false ∧ decide (W ≤ x) = false ∧ decide (H ≤ y) = true ∧ c = true) ∨
    (decide (x < 0) = false ∧ decide (y < 0) = false ∧ decide (w < 1) = false ∧ decide (h < 1) = false ∧ decide (W ≤ x) = false ∧ decide (H ≤ y) = false ∧ c = false) := by
  subst hc
  cases decide (x < 0) <;> cases decide (y < 0) <;> cases decide (w < 1) <;> cases decide (h < 1) <;> cases decide (W ≤ x) <;> cases decide (H ≤ y) <;> simp
/-- a remainder, a quotient, as the walk finds them -/
theorem rem_facts (x a : Int) (hx : 0 ≤ x) (ha : 1 ≤ a) (ha2 : a ≤ 32) : ∃ r q : Int, x.tmod a = r ∧ wrap64 r = r ∧ IntKind.i64.wrap r = r ∧ (r != 0) = decide (x % a ≠ 0) ∧ x.tdiv a = q ∧ True := by
  have h1 := Int.emod_nonneg x (show a ≠ 0 by omega)
  have h2 := Int.emod_lt_of_pos x (show 0 < a by omega)
  refine ⟨x % a, x.tdiv a, Int.tmod_eq_emod_of_nonneg hx, (wrapZ _ (by omega)).1, (wrapZ _ (by omega)).2, ?_, rfl, trivial⟩
  by_cases h : x % a = 0
  · rw [decide_eq_false (fun h' => h' h), h]; rfl
  · rw [decide_eq_true h, bne_iff_ne]; exact h
/-- the numbers of a side, as the walk finds them -/
theorem side_facts (x w W a : Int) (hx : 0 ≤ x ∧ x < W) (hw : 1 ≤ w) (hW : W ≤ 65535) (ha : 1 ≤ a ∧ a ≤ 32) : ∃ d m r q qa n : Int,
    (wrap64 (W - x) = d ∧ IntKind.i64.wrap (W - x) = d) ∧ ((if d < w then d else w) = m) ∧ (wrap64 (x + m) = r ∧ IntKind.i64.wrap (x + m) = r) ∧ (x.tdiv a = q ∧ wrap64 q = q ∧ IntKind.i64.wrap q = q) ∧ (wrap64 (q * a) = qa ∧ IntKind.i64.wrap (q * a) = qa) ∧ (wrap64 (r - qa) = n ∧ IntKind.i64.wrap (r - qa) = n) ∧ x / a = q ∧ cropW x w W a = n := by
  obtain ⟨h1, h2, h3, h4, h5⟩ := crop_side hx.1 hx.2 hw (show 0 < a by omega) hW
  have e : (if W - x < w then W - x else w) = minI w (W - x) := rfl
  have h6 : x / a ≤ x := Int.ediv_le_self _ hx.1
  refine ⟨W - x, minI w (W - x), x + minI w (W - x), x / a, x / a * a, cropW x w W a, wrapZ _ (by omega), e, wrapZ _ (by omega), ⟨Int.tdiv_eq_ediv_of_nonneg hx.1, wrapZ _ (by omega)⟩, wrapZ _ (by omega), ?_, rfl, rfl⟩
  have h7 : x + minI w (W - x) - x / a * a = cropW x w W a := rfl
  rw [h7]
  exact wrapZ _ (by unfold cropW; omega)
set_option maxHeartbeats 16000000 in
theorem crop_any (P : PicL) (q0 q1 q2 q3 pv kv : Value) (x y W0 H0 : Int) (pf : Bool) (w : World) (hp : PicC w P q0 q1 q2 q3 pv kv) (hB : PicB P) (hk : P.kept.length ≤ 1000) :
    Calls Try.prog 15 #[.agg (vPic P q0 q1 q2 q3 pv kv), .int .i64 x, .int .i64 y, .int .i64 W0, .int .i64 H0, .bool pf] w fun e w' => ∃ r0 r1 r2 r3 rv sv, e = .returned (.tuple #[.agg (vPic (cropL P x y W0 H0 pf) r0 r1 r2 r3 rv sv), errV (cropE P x y W0 H0 pf)]) ∧ PicO w.heap.size w' (cropL P x y W0 H0 pf) r0 r1 r2 r3 rv sv ∧ Below w.heap.size w w' := by
  have HP := Lib.hid hp
  have HBB := Lib.hid hB
  have HK := Lib.hid hk
  obtain ⟨b0, d0, rfl⟩ := hp.q0.len
  obtain ⟨b1, d1, rfl⟩ := hp.q1.len
  obtain ⟨b2, d2, rfl⟩ := hp.q2.len
  obtain ⟨b3, d3, rfl⟩ := hp.q3.len
  obtain ⟨ba, da, rfl, _⟩ := hp.kept.len
  obtain ⟨bp, dp, rfl, _⟩ := hp.parts.len
  obtain ⟨n0, hn0⟩ : ∃ z, P.q0.length = z := ⟨_, rfl⟩
  obtain ⟨n1, hn1⟩ : ∃ z, P.q1.length = z := ⟨_, rfl⟩
  obtain ⟨n2, hn2⟩ : ∃ z, P.q2.length = z := ⟨_, rfl⟩
  obtain ⟨n3, hn3⟩ : ∃ z, P.q3.length = z := ⟨_, rfl⟩
  obtain ⟨na, hna⟩ : ∃ z, P.kept.length = z := ⟨_, rfl⟩
  obtain ⟨n, hn⟩ : ∃ z, P.parts.length = z := ⟨_, rfl⟩
  rw [hn0, hn1, hn2, hn3, hna, hn] at HP ⊢
  clear hn0 hn1 hn2 hn3 hna hn hp hB hk
  obtain ⟨w1, hw1⟩ : ∃ w1, (w.alloc (.cells (vPic P (.slice b0 n0 d0) (.slice b1 n1 d1) (.slice b2 n2 d2) (.slice b3 n3 d3) (.slice bp n dp) (.slice ba na da)) 36)).alloc (.cells zPic 36) = w1 := ⟨_, rfl⟩
  have B1 : Hid (Below w.heap.size w w1) := Lib.hid (by rw [← hw1]; exact ((Below.refl _ _).alloc (Nat.le_refl _) _).alloc (by simp) _)
  have X1 : Hid (PBox w1 w.heap.size P (.slice b0 n0 d0) (.slice b1 n1 d1) (.slice b2 n2 d2) (.slice b3 n3 d3) (.slice bp n dp) (.slice ba na da)) := Lib.hid (by rw [← hw1]; exact heap_old (heap_alloc_new _ _))
  have Z1 : Hid (ZBox w1 (w.heap.size + 1)) := Lib.hid (by
    rw [← hw1]
    have h := heap_alloc_new (w.alloc (.cells (vPic P (.slice b0 n0 d0) (.slice b1 n1 d1) (.slice b2 n2 d2) (.slice b3 n3 d3) (.slice bp n dp) (.slice ba na da)) 36)) (.cells zPic 36)
    rw [World.size_alloc] at h
    exact h)
  obtain ⟨B, hB⟩ : ∃ B, w.heap.size = B := ⟨_, rfl⟩
  have HB := Lib.hid hB
  rw [hB] at X1 Z1 B1
  have CK := Lib.hid (check_any P _ _ _ _ _ _ w1 (HP.out.old (by rw [HB.out]; exact B1.out)) HBB.out)
  have H1 : Hid ((zPic : Array Value).all (·.oneCell') = true) := Lib.hid (by kernel_rfl)
  have HI : Hid ((Try.prog.info? 36).map (·.size) = some 9) := Lib.hid (by kernel_rfl)
  -- a refusal: the result's box is noughts
  have NO_ : Hid (∀ (W : World) (c : Int), ZBox W (B + 1) → Below B w W → cropE P x y W0 H0 pf = c → c ≠ 0 → (W.setRow (B + 1) zPic).heap[B + 1]? = some (.cells zPic 36 (0, 0)) ∧
      ∃ r0 r1 r2 r3 rv sv, Ending.returned (.tuple #[.agg zPic, .iface 47 (.int .i64 c)]) = Ending.returned (.tuple #[.agg (vPic (cropL P x y W0 H0 pf) r0 r1 r2 r3 rv sv), errV (cropE P x y W0 H0 pf)]) ∧ PicO w.heap.size (W.setRow (B + 1) zPic) (cropL P x y W0 H0 pf) r0 r1 r2 r3 rv sv ∧ Below w.heap.size w (W.setRow (B + 1) zPic)) := Lib.hid (fun W c hz hb hc h0 => by
    refine ⟨setRow_heap _ _ _ _ _ _ hz, .slice none 0 0, .slice none 0 0, .slice none 0 0, .slice none 0 0, .slice none 0 0, .slice none 0 0, ?_, ?_, ?_⟩
    · rw [crop_zero (by rw [hc]; exact h0), hc, errV_some h0]
      rfl
    · rw [crop_zero (by rw [hc]; exact h0)]
      exact pic_zero _ _
    · rw [HB.out]
      exact below_setRow hb (Nat.le_succ _) _)
  unfold vPic zPic at hw1
  obtain ⟨a0, a1, a2, a3, a4, a5, a6, a7, a8⟩ := X1.out.cells
  go_enter Try.func15, Try.ntmps15
  unfold vPic
  go_wp2_with fail
  refine CK.out.mono ?_
  rintro e w2 ⟨rfl, hb2⟩
  have X2 := Lib.hid (X1.out.old hb2)
  have Z2 := Lib.hid (Z1.out.old hb2)
  have B2 : Hid (Below B w w2) := Lib.hid (B1.out.trans (hb2.mono (by have := (Array.getElem?_eq_some_iff.1 X1.out).1; omega)))
  clear hb2 a0 a1 a2 a3 a4 a5 a6 a7 a8 hw1 X1 Z1 B1 CK
  obtain ⟨a0, a1, a2, a3, a4, a5, a6, a7, a8⟩ := X2.out.cells
  rcases hg : goodB P with _ | _
  · have CE : Hid (cropE P x y W0 H0 pf = 6) := Lib.hid (by unfold cropE; rw [if_pos hg])
    clear hg a0 a1 a2 a3 a4 a5 a6 a7 a8
    have e6 : errV (chkN false) = .iface 47 (.int .i64 6) := by kernel_rfl
    rw [e6]
    unfold zPic at H1 NO_
    go_wp2_with (refine wpList_store_row rfl _ _ _ rfl (B + 1) #[.int .i64 0, .int .i64 0, .slice none 0 0, .slice none 0 0, .slice none 0 0, .slice none 0 0, .slice none 0 0, .int .i64 0, .slice none 0 0] rfl rfl 36 _ Z2.out HI.out rfl H1.out ?_)
    obtain ⟨hwE, hfin⟩ := NO_.out w2 6 Z2.out B2.out CE.out (by decide)
    have FIN := Lib.hid hfin
    obtain ⟨wE, hE⟩ : ∃ wE, w2.setRow (B + 1) #[.int .i64 0, .int .i64 0, .slice none 0 0, .slice none 0 0, .slice none 0 0, .slice none 0 0, .slice none 0 0, .int .i64 0, .slice none 0 0] = wE := ⟨_, rfl⟩
    rw [hE] at hwE FIN
    rw [hE]
    clear hfin hE
    obtain ⟨r0, r1, r2, r3, r4, r5, r6, r7, r8⟩ := PBox.cells (P := zeroP) hwE
    unfold zeroP at r0 r1 r7
    refine bodyPost_ret (v := .tuple #[.agg #[.int .i64 0, .int .i64 0, .slice none 0 0, .slice none 0 0, .slice none 0 0, .slice none 0 0, .slice none 0 0, .int .i64 0, .slice none 0 0], .iface 47 (.int .i64 6)]) (by simp [results, Try.results15, go_sem, r0, r1, r2, r3, r4, r5, r6, r7, r8]; try rfl) rfl FIN.out
  have GD := Lib.hid ((good_iff P).1 hg)
  have HG := Lib.hid hg
  have e0 : errV (chkN true) = .nilIface := by kernel_rfl
  rw [e0]
  unfold zPic at H1 NO_
  clear hg e0
  obtain ⟨rg, hrg⟩ : ∃ z, rangeC P x y W0 H0 = z := ⟨_, rfl⟩
  have RC := Lib.hid (range_cases x y W0 H0 P.w P.h rg hrg.symm)
  go_upto_region 3 with (fail)
  go_cut [24] from 25 to 50 (fun c wx => c = .bool rg ∧ w2 = wx)
  case first =>
    rcases RC.out with ⟨c1, rfl⟩ | ⟨c1, c2, rfl⟩ | ⟨c1, c2, c3, rfl⟩ | ⟨c1, c2, c3, c4, rfl⟩ | ⟨c1, c2, c3, c4, c5, rfl⟩ | ⟨c1, c2, c3, c4, c5, c6, rfl⟩ | ⟨c1, c2, c3, c4, c5, c6, rfl⟩
    all_goals
      go_wp2_with fail
      go_meet
      exact ⟨rfl, rfl⟩
  case rest =>
  obtain ⟨rfl, rfl⟩ := hcut
  clear RC
  cases rg with
  | true =>
    have CE : Hid (cropE P x y W0 H0 pf = 7) := Lib.hid (by unfold cropE; rw [if_neg (by rw [HG.out]; decide), if_pos hrg])
    clear hrg a0 a1 a2 a3 a4 a5 a6 a7 a8
    go_wp2_with (refine wpList_store_row rfl _ _ _ rfl (B + 1) #[.int .i64 0, .int .i64 0, .slice none 0 0, .slice none 0 0, .slice none 0 0, .slice none 0 0, .slice none 0 0, .int .i64 0, .slice none 0 0] rfl rfl 36 _ Z2.out HI.out rfl H1.out ?_)
    obtain ⟨hwE, hfin⟩ := NO_.out w2 7 Z2.out B2.out CE.out (by decide)
    have FIN := Lib.hid hfin
    obtain ⟨wE, hE⟩ : ∃ wE, w2.setRow (B + 1) #[.int .i64 0, .int .i64 0, .slice none 0 0, .slice none 0 0, .slice none 0 0, .slice none 0 0, .slice none 0 0, .int .i64 0, .slice none 0 0] = wE := ⟨_, rfl⟩
    rw [hE] at hwE FIN
    rw [hE]
    clear hfin hE
    obtain ⟨r0, r1, r2, r3, r4, r5, r6, r7, r8⟩ := PBox.cells (P := zeroP) hwE
    unfold zeroP at r0 r1 r7
    refine bodyPost_ret (v := .tuple #[.agg #[.int .i64 0, .int .i64 0, .slice none 0 0, .slice none 0 0, .slice none 0 0, .slice none 0 0, .slice none 0 0, .int .i64 0, .slice none 0 0], .iface 47 (.int .i64 7)]) (by simp [results, Try.results15, go_sem, r0, r1, r2, r3, r4, r5, r6, r7, r8]; try rfl) rfl FIN.out
  | false =>
  have HRG := Lib.hid hrg
  have FF := Lib.hid GD.out.fit
  have UN := Lib.hid (fun W hW => unit_any P (.slice b0 n0 d0) (.slice b1 n1 d1) (.slice b2 n2 d2) (.slice b3 n3 d3) (.slice bp n dp) (.slice ba na da) W (HP.out.parts.old hW) HBB.out.parts FF.out.fac)
  have MX := Lib.hid (max_of FF.out.fac FF.out.n.1)
  obtain ⟨ua, hua⟩ : ∃ z, 8 * maxH P.parts = z := ⟨_, rfl⟩
  obtain ⟨ub, hub⟩ : ∃ z, 8 * maxV P.parts = z := ⟨_, rfl⟩
  rw [hua, hub] at UN
  have HUA := Lib.hid hua
  have HUB := Lib.hid hub
  have UL : Hid ((1 ≤ ua ∧ ua ≤ 32) ∧ 1 ≤ ub ∧ ub ≤ 32) := Lib.hid (by have := MX.out; omega)
  have XY : Hid ((0 ≤ x ∧ x < P.w) ∧ (0 ≤ y ∧ y < P.h) ∧ 1 ≤ W0 ∧ 1 ≤ H0) := Lib.hid (by
    unfold rangeC at hrg
    simp only [Bool.or_eq_false_iff, decide_eq_false_iff_not] at hrg
    omega)
  clear hrg hua hub
  go_wp2_with fail
  refine (UN.out w2 (by rw [HB.out]; exact B2.out)).mono ?_
  rintro e w3 ⟨rfl, hb3⟩
  have X3 := Lib.hid (X2.out.old hb3)
  have Z3 := Lib.hid (Z2.out.old hb3)
  have B3 : Hid (Below B w w3) := Lib.hid (B2.out.trans (hb3.mono (by have := (Array.getElem?_eq_some_iff.1 X2.out).1; omega)))
  clear hb3 a0 a1 a2 a3 a4 a5 a6 a7 a8 X2 Z2 B2 UN
  obtain ⟨a0, a1, a2, a3, a4, a5, a6, a7, a8⟩ := X3.out.cells
  have RF := Lib.hid (rem_facts x ua XY.out.1.1 UL.out.1.1 UL.out.1.2)
  have SF := Lib.hid (rem_facts y ub XY.out.2.1.1 UL.out.2.1 UL.out.2.2)
  obtain ⟨o1, ho1⟩ : ∃ z, decide (x % ua ≠ 0) = z := ⟨_, rfl⟩
  obtain ⟨o2, ho2⟩ : ∃ z, decide (y % ub ≠ 0) = z := ⟨_, rfl⟩
  rw [ho1] at RF
  rw [ho2] at SF
  have OFE : Hid (offB P x y pf = (pf && (o1 || o2))) := Lib.hid (by unfold offB; rw [HUA.out, HUB.out, ho1, ho2])
  clear ho1 ho2
  have g0 : (ua == 0) = false := by rw [beq_eq_false_iff_ne]; have := UL.out; omega
  have g0' : (ub == 0) = false := by rw [beq_eq_false_iff_ne]; have := UL.out; omega
  have g1 : ¬ ua = 0 := by have := UL.out; omega
  have g1' : ¬ ub = 0 := by have := UL.out; omega
  obtain ⟨xr, xq, m1, m1', m2, m3, m4, m5⟩ := RF.out
  obtain ⟨yr, yq, l1, l1', l2, l3, l4, l5⟩ := SF.out
  go_upto_region 6 with (fail)
  go_cut [70] from 58 to 70 (fun c wx => c = .bool (pf && (o1 || o2)) ∧ w3 = wx)
  case first =>
    cases pf <;> cases o1 <;> cases o2
    all_goals
      go_wp2_with fail
      go_meet
      exact ⟨rfl, rfl⟩
  case rest =>
  obtain ⟨rfl, rfl⟩ := hcut
  obtain ⟨of, hof⟩ : ∃ z, (pf && (o1 || o2)) = z := ⟨_, rfl⟩
  rw [hof] at OFE ⊢
  clear hof m1 m1' m2 m3 m4 m5 l1 l1' l2 l3 l4 l5
  cases of with
  | true =>
    have CE : Hid (cropE P x y W0 H0 pf = 5) := Lib.hid (by unfold cropE; rw [if_neg (by rw [HG.out]; decide), if_neg (by rw [HRG.out]; decide), if_pos OFE.out])
    clear a0 a1 a2 a3 a4 a5 a6 a7 a8 g0 g0' g1 g1'
    go_wp2_with (refine wpList_store_row rfl _ _ _ rfl (B + 1) #[.int .i64 0, .int .i64 0, .slice none 0 0, .slice none 0 0, .slice none 0 0, .slice none 0 0, .slice none 0 0, .int .i64 0, .slice none 0 0] rfl rfl 36 _ Z3.out HI.out rfl H1.out ?_)
    obtain ⟨hwE, hfin⟩ := NO_.out w3 5 Z3.out B3.out CE.out (by decide)
    have FIN := Lib.hid hfin
    obtain ⟨wE, hE⟩ : ∃ wE, w3.setRow (B + 1) #[.int .i64 0, .int .i64 0, .slice none 0 0, .slice none 0 0, .slice none 0 0, .slice none 0 0, .slice none 0 0, .int .i64 0, .slice none 0 0] = wE := ⟨_, rfl⟩
    rw [hE] at hwE FIN
    rw [hE]
    clear hfin hE
    obtain ⟨r0, r1, r2, r3, r4, r5, r6, r7, r8⟩ := PBox.cells (P := zeroP) hwE
    unfold zeroP at r0 r1 r7
    refine bodyPost_ret (v := .tuple #[.agg #[.int .i64 0, .int .i64 0, .slice none 0 0, .slice none 0 0, .slice none 0 0, .slice none 0 0, .slice none 0 0, .int .i64 0, .slice none 0 0], .iface 47 (.int .i64 5)]) (by simp [results, Try.results15, go_sem, r0, r1, r2, r3, r4, r5, r6, r7, r8]; try rfl) rfl FIN.out
  | false =>
  have CE : Hid (cropE P x y W0 H0 pf = 0) := Lib.hid (by unfold cropE; rw [if_neg (by rw [HG.out]; decide), if_neg (by rw [HRG.out]; decide), if_neg (by rw [OFE.out]; decide)])
  have CL : Hid (cropL P x y W0 H0 pf = cropIn P x y W0 H0) := Lib.hid (by unfold cropL; rw [if_pos CE.out])
  have CI := Lib.hid (crop_in FF.out HRG.out)
  have NF := Lib.hid (side_facts x W0 P.w ua XY.out.1 XY.out.2.2.1 FF.out.w.2 UL.out.1)
  have MF := Lib.hid (side_facts y H0 P.h ub XY.out.2.1 XY.out.2.2.2 FF.out.h.2 UL.out.2)
  obtain ⟨dw, mn, rt, cq, cm, cw, ⟨f1, f1'⟩, f2, ⟨f3, f3'⟩, ⟨f4, f4', f4''⟩, ⟨f5, f5'⟩, ⟨f6, f6'⟩, f7, f8⟩ := NF.out
  obtain ⟨dh, mh, bt, rq, rm, rh, ⟨k1, k1'⟩, k2, ⟨k3, k3'⟩, ⟨k4, k4', k4''⟩, ⟨k5, k5'⟩, ⟨k6, k6'⟩, k7, k8⟩ := MF.out
  have F45 := Lib.hid (show (x.tdiv ua = cq ∧ wrap64 cq = cq ∧ IntKind.i64.wrap cq = cq) ∧ (wrap64 (cq * ua) = cm ∧ IntKind.i64.wrap (cq * ua) = cm) ∧ (wrap64 (rt - cm) = cw ∧ IntKind.i64.wrap (rt - cm) = cw) from ⟨⟨f4, f4', f4''⟩, ⟨f5, f5'⟩, f6, f6'⟩)
  have K45 := Lib.hid (show (y.tdiv ub = rq ∧ wrap64 rq = rq ∧ IntKind.i64.wrap rq = rq) ∧ (wrap64 (rq * ub) = rm ∧ IntKind.i64.wrap (rq * ub) = rm) ∧ (wrap64 (bt - rm) = rh ∧ IntKind.i64.wrap (bt - rm) = rh) from ⟨⟨k4, k4', k4''⟩, ⟨k5, k5'⟩, k6, k6'⟩)
  have CI2 : Hid (In P cq rq cw rh) := Lib.hid (by have h := CI.out; rw [HUA.out, HUB.out, f7, k7, f8, k8] at h; exact h)
  have CRI : Hid (cropIn P x y W0 H0 = cutL P cq rq cw rh) := Lib.hid (by unfold cropIn; rw [HUA.out, HUB.out, f7, k7, f8, k8])
  clear RF SF g0 g0' g1 g1' f4 f4' f4'' f5 f5' f6 f6' f7 f8 k4 k4' k4'' k5 k5' k6 k6' k7 k8
  go_upto_region 8 with (fail)
  go_region
  clear f1 f1' f2 f3 f3' k1 k1' k2 k3 k3' a0 a1 a2 a3 a4 a5 a6 a7 a8
  go_upto_region 9 with (fail)
  obtain ⟨w4, hw4⟩ : ∃ w4, w3.drew = w4 := ⟨_, rfl⟩
  rw [hw4]
  have hd4 : Below w3.heap.size w3 w4 := by rw [← hw4]; exact (Below.refl _ _).drew
  have X4 := Lib.hid (X3.out.old hd4)
  have Z4 := Lib.hid (Z3.out.old hd4)
  have B4 : Hid (Below B w w4) := Lib.hid (B3.out.trans (hd4.mono (by have := (Array.getElem?_eq_some_iff.1 X3.out).1; omega)))
  have MOD := Lib.hid (good_mod GD.out HK.out)
  have BLT : Hid (B + 1 < w4.heap.size) := Lib.hid (Array.getElem?_eq_some_iff.1 Z4.out).1
  clear hd4 hw4 X3 Z3 B3
  have NZ1 : ¬ ua = 0 := by have := UL.out; omega
  have NZ2 : ¬ ub = 0 := by have := UL.out; omega
  have NZ3 : (ua == 0) = false := by rw [beq_eq_false_iff_ne]; exact NZ1
  have NZ4 : (ub == 0) = false := by rw [beq_eq_false_iff_ne]; exact NZ2
  obtain ⟨⟨f4, f4', f4''⟩, ⟨f5, f5'⟩, f6, f6'⟩ := F45.out
  obtain ⟨⟨k4, k4', k4''⟩, ⟨k5, k5'⟩, k6, k6'⟩ := K45.out
  have d4 := (Below.refl w4.heap.size w4).drew
  have C0 : (PBox w4.drew B P (.slice b0 n0 d0) (.slice b1 n1 d1) (.slice b2 n2 d2) (.slice b3 n3 d3) (.slice bp n dp) (.slice ba na da) ∧ (∃ cs : Array Value, cs.size = 9 ∧ w4.drew.heap[B + 1]? = some (.cells cs 36 (0, 0))) ∧ Below B w w4.drew) := ⟨X4.out.old d4, ⟨zPic, rfl, Z4.out.old d4⟩, B4.out.trans (d4.mono (by have := BLT.out; omega))⟩
  refine wp_region_perm (fun X => PBox X B P (.slice b0 n0 d0) (.slice b1 n1 d1) (.slice b2 n2 d2) (.slice b3 n3 d3) (.slice bp n dp) (.slice ba na da) ∧ (∃ cs : Array Value, cs.size = 9 ∧ X.heap[B + 1]? = some (.cells cs 36 (0, 0))) ∧ Below B w X) [(0, true), (2, true), (3, true), (4, true), (5, true), (6, true), (7, true), (8, true), (9, true), (10, true), (11, true), (12, true), (13, true), (14, true), (15, true), (16, true), (17, true), (18, true), (19, true), (20, true), (21, true), (1, false), (22, false), (23, false), (24, true)] (by kernel_rfl) (by kernel_rfl) C0 (fun hC0 => ?_)
  clear C0 d4
  iterate 21
    (refine perm_take rfl ?_
     apply Exists.intro
     refine ⟨Or.inl ⟨by rfl, fun X hX => ?_⟩, ?_⟩
     · obtain ⟨hbx, -, -⟩ := hX
       obtain ⟨a0, a1, a2, a3, a4, a5, a6, a7, a8⟩ := hbx.cells
       clear hbx
       go_simp
       exact rfl
     simp only [Act.put, List.setIfInBounds_toArray, List.set_cons_zero, List.set_cons_succ])
  clear f4 f4' f4'' f5 f5' f6 f6' k4 k4' k4'' k5 k5' k6 k6' NZ1 NZ2 NZ3 NZ4
  have CC := Lib.hid hC0
  have BL4 : Hid (B + 1 < w4.drew.heap.size) := Lib.hid BLT.out
  clear hC0
  refine perm_step rfl (fun K hK => ?_)
  rw [if_pos (by rfl)]
  go_wp2_with (go_at_call 36; refine (ownT_any P _ _ _ _ _ _ _ (HP.out.old (by rw [HB.out]; exact CC.out.2.2)) MOD.out).mono ?_; rintro e x1 ⟨s0, s1, s2, s3, sv, tv, rfl, ho, hb⟩)
  have CC1 : Hid (PBox x1 B P (.slice b0 n0 d0) (.slice b1 n1 d1) (.slice b2 n2 d2) (.slice b3 n3 d3) (.slice bp n dp) (.slice ba na da) ∧ (∃ cs : Array Value, cs.size = 9 ∧ x1.heap[B + 1]? = some (.cells cs 36 (0, 0))) ∧ Below B w x1) := Lib.hid ⟨CC.out.1.old hb, by
    obtain ⟨cs, h1, h2⟩ := CC.out.2.1
    exact ⟨cs, h1, by rw [hb.block _ (Array.getElem?_eq_some_iff.1 h2).1]; exact h2⟩, CC.out.2.2.trans (hb.mono (by have := BL4.out; omega))⟩
  have HO := Lib.hid (ho.mono (show B ≤ w4.drew.heap.size by have := BL4.out; omega))
  have BL5 : Hid (B + 1 < x1.heap.size) := Lib.hid (Nat.lt_of_lt_of_le BL4.out hb.size)
  refine hK.out _ _ CC1.out (fun _ => ?_)
  clear hK K ho hb
  try simp only [Act.put, List.setIfInBounds_toArray, List.set_cons_zero, List.set_cons_succ]
  refine perm_step rfl (fun K hK => ?_)
  rw [if_pos (by rfl)]
  go_wp2_with (go_at_call 35; refine (cut_any P s0 s1 s2 s3 sv tv cq rq cw rh x1 HO.out.pic MOD.out FF.out CI2.out).mono ?_; rintro e x2 ⟨rv, rs', rfl, hrs, hpt, hb⟩)
  have CC2 : Hid (PBox x2 B P (.slice b0 n0 d0) (.slice b1 n1 d1) (.slice b2 n2 d2) (.slice b3 n3 d3) (.slice bp n dp) (.slice ba na da) ∧ (∃ cs : Array Value, cs.size = 9 ∧ x2.heap[B + 1]? = some (.cells cs 36 (0, 0))) ∧ Below B w x2) := Lib.hid ⟨CC1.out.1.old hb, by
    obtain ⟨cs, h1, h2⟩ := CC1.out.2.1
    exact ⟨cs, h1, by rw [hb.block _ (Array.getElem?_eq_some_iff.1 h2).1]; exact h2⟩, CC1.out.2.2.trans (hb.mono (by have := BL5.out; omega))⟩
  have HO2 := Lib.hid (HO.out.hi (keepHi_below hb))
  have PO2 : Hid (PicO B x2 (cutL P cq rq cw rh) s0 s1 s2 s3 rv tv) := Lib.hid ⟨HO2.out.q0, HO2.out.q1, HO2.out.q2, HO2.out.q3, ⟨rs', hrs, hpt.mono (by have := BL5.out; omega)⟩, HO2.out.kept⟩
  refine hK.out _ _ CC2.out (fun _ => ?_)
  clear hK K hb hrs hpt
  try simp only [Act.put, List.setIfInBounds_toArray, List.set_cons_zero, List.set_cons_succ]
  refine perm_step rfl (fun K hK => ?_)
  rw [if_pos (by rfl)]
  obtain ⟨cs, hcs, hcB⟩ := CC2.out.2.1
  obtain ⟨e0, g0, hs0⟩ := owns_any PO2.out.q0
  obtain ⟨e1, g1, hs1⟩ := owns_any PO2.out.q1
  obtain ⟨e2, g2, hs2⟩ := owns_any PO2.out.q2
  obtain ⟨e3, g3, hs3⟩ := owns_any PO2.out.q3
  obtain ⟨_, _, hpp⟩ := PO2.out.parts
  obtain ⟨_, _, hkk⟩ := PO2.out.kept
  obtain ⟨e4, g4, hs4⟩ := owns_any hpp.row
  obtain ⟨e5, g5, hs5⟩ := owns_any hkk.row
  have H1C : Hid ((vPic (cutL P cq rq cw rh) s0 s1 s2 s3 rv tv).all (·.oneCell') = true) := Lib.hid (by rw [hs0, hs1, hs2, hs3, hs4, hs5]; kernel_rfl)
  clear hs0 hs1 hs2 hs3 hs4 hs5 hpp hkk
  refine wp_store_row _ _ _ rfl (B + 1) (vPic (cutL P cq rq cw rh) s0 s1 s2 s3 rv tv) rfl rfl 36 cs hcB HI.out hcs H1C.out ?_
  obtain ⟨x3, hx3⟩ : ∃ x3, x2.setRow (B + 1) (vPic (cutL P cq rq cw rh) s0 s1 s2 s3 rv tv) = x3 := ⟨_, rfl⟩
  rw [hx3]
  have E3 : x3.heap[B + 1]? = some (.cells (vPic (cutL P cq rq cw rh) s0 s1 s2 s3 rv tv) 36 (0, 0)) := by rw [← hx3]; exact setRow_heap _ _ _ _ _ _ hcB
  have PO3 : Hid (PicO B x3 (cutL P cq rq cw rh) s0 s1 s2 s3 rv tv) := Lib.hid (by rw [← hx3]; exact PO2.out.ty (keepTy_row hcB) (by decide) (by decide) (by decide) (by decide) (by decide))
  have BE3 : Hid (Below B w x3) := Lib.hid (by rw [← hx3]; exact below_setRow CC2.out.2.2 (Nat.le_succ _) _)
  have PB3 : Hid (PBox x3 B P (.slice b0 n0 d0) (.slice b1 n1 d1) (.slice b2 n2 d2) (.slice b3 n3 d3) (.slice bp n dp) (.slice ba na da)) := Lib.hid (by
    rw [← hx3]
    unfold PBox
    rw [setRow_other x2 (B + 1) B _ (by omega)]
    exact CC2.out.1)
  refine hK.out _ _ ⟨PB3.out, ⟨_, rfl, E3⟩, BE3.out⟩ (fun _ => ?_)
  clear hK K hcs hcB hx3
  try simp only [Act.put, List.setIfInBounds_toArray, List.set_cons_zero, List.set_cons_succ]
  refine perm_take rfl ?_
  apply Exists.intro
  refine ⟨Or.inl ⟨by rfl, fun X hX => ?_⟩, ?_⟩
  · clear hX
    go_simp
    exact rfl
  try simp only [Act.put, List.setIfInBounds_toArray, List.set_cons_zero, List.set_cons_succ]
  refine perm_done ?_
  obtain ⟨r0, r1, r2, r3, r4, r5, r6, r7, r8⟩ := PBox.cells (P := cutL P cq rq cw rh) E3
  have RE : Hid (∃ r0 r1 r2 r3 rv' sv', Ending.returned (.tuple #[.agg (vPic (cutL P cq rq cw rh) s0 s1 s2 s3 rv tv), .nilIface]) = Ending.returned (.tuple #[.agg (vPic (cropL P x y W0 H0 pf) r0 r1 r2 r3 rv' sv'), errV (cropE P x y W0 H0 pf)]) ∧ PicO w.heap.size x3 (cropL P x y W0 H0 pf) r0 r1 r2 r3 rv' sv' ∧ Below w.heap.size w x3) := Lib.hid (by
    rw [CL.out, CRI.out, CE.out, errV_zero, HB.out]
    exact ⟨_, _, _, _, _, _, rfl, PO3.out, BE3.out⟩)
  clear E3
  go_wp2_with fail
  refine bodyPost_ret (v := .tuple #[.agg (vPic (cutL P cq rq cw rh) s0 s1 s2 s3 rv tv), .nilIface]) (by unfold vPic; simp [results, Try.results15, go_sem, r0, r1, r2, r3, r4, r5, r6, r7, r8]; try rfl) rfl RE.out
end Go.Proofs.Ytnhalnjdlkdnkaa
