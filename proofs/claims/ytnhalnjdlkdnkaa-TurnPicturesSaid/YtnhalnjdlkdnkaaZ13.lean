/- turn.cut walked. By an AI agent. -/
import Derived.Test.YtnhalnjdlkdnkaaZ12
namespace Go.Proofs.Ytnhalnjdlkdnkaa
open Go.RowKit Go.BigFrame
set_option linter.unusedVariables false
set_option linter.unusedSimpArgs false
set_option maxRecDepth 20000

set_option maxHeartbeats 16000000 in
theorem cut_any (P : PicL) (q0 q1 q2 q3 pv kv : Value) (c r W0 H0 : Int) (w : World) (hp : PicC w P q0 q1 q2 q3 pv kv) (hM : Mod P) (F : Fit P) (I : In P c r W0 H0) :
    Calls Try.prog 35 #[.agg (vPic P q0 q1 q2 q3 pv kv), .int .i64 c, .int .i64 r, .int .i64 W0, .int .i64 H0] w fun e w' => ∃ rv rs', e = .returned (.agg (vPic (cutL P c r W0 H0) q0 q1 q2 q3 rv kv)) ∧ rs'.map (·.1) = (cutL P c r W0 H0).parts ∧ PtO w.heap.size w' rv rs' ∧ Below w.heap.size w w' := by
  have HP := Lib.hid hp
  have HM := Lib.hid hM
  have FF := Lib.hid F
  have II := Lib.hid I
  obtain ⟨rs, hrs, hpr, hpo⟩ := pts_rows hp.parts
  have HPR := Lib.hid hpr
  have HPO := Lib.hid hpo
  have HRS := Lib.hid hrs
  obtain ⟨b0, d0, rfl⟩ := hp.q0.len
  obtain ⟨b1, d1, rfl⟩ := hp.q1.len
  obtain ⟨b2, d2, rfl⟩ := hp.q2.len
  obtain ⟨b3, d3, rfl⟩ := hp.q3.len
  obtain ⟨ba, da, rfl, _⟩ := hp.kept.len
  obtain ⟨bp, dp, rfl, _⟩ := hp.parts.len
  obtain ⟨n0, hn0⟩ : ∃ z, P.q0.length = z := ⟨_, rfl⟩
  obtain ⟨n1, hn1⟩ : ∃ z, P.q1.length = z := ⟨_, rfl⟩
  obtain ⟨n2, hn2⟩ : ∃ z, P.q2.length = z := ⟨_, rfl⟩
  obtain ⟨n3, hn3⟩ : ∃ z, P.q3.length = z := ⟨_, rfl⟩
  obtain ⟨na, hna⟩ : ∃ z, P.kept.length = z := ⟨_, rfl⟩
  obtain ⟨n, hn⟩ : ∃ z, P.parts.length = z := ⟨_, rfl⟩
  rw [hn0, hn1, hn2, hn3, hna, hn] at HP ⊢
  rw [hn] at HPR
  have N4 : Hid (1 ≤ n ∧ n ≤ 4) := Lib.hid (by rw [← hn]; exact F.n)
  have HN : Hid (rs.length = n) := Lib.hid (by rw [← hn, ← hrs]; simp)
  clear hn0 hn1 hn2 hn3 hna hp hM F I hrs hpr hpo
  have HNP := Lib.hid hn
  clear hn
  obtain ⟨w1, hw1⟩ : ∃ w1, ((w.alloc (.cells (vPic P (.slice b0 n0 d0) (.slice b1 n1 d1) (.slice b2 n2 d2) (.slice b3 n3 d3) (.slice bp n dp) (.slice ba na da)) 36)).alloc (.cells zPic 36)).alloc (.cells (vPic P (.slice b0 n0 d0) (.slice b1 n1 d1) (.slice b2 n2 d2) (.slice b3 n3 d3) (.slice bp n dp) (.slice ba na da)) 36) = w1 := ⟨_, rfl⟩
  have X1 : Hid (CutX w w.heap.size P P (.slice b0 n0 d0) (.slice b1 n1 d1) (.slice b2 n2 d2) (.slice b3 n3 d3) (.slice bp n dp) (.slice bp n dp) (.slice ba na da) w1) := Lib.hid (by
    rw [← hw1]
    exact ⟨heap_old (heap_old (heap_alloc_new _ _)), heap_old (by have h := heap_alloc_new (w.alloc (.cells (vPic P (.slice b0 n0 d0) (.slice b1 n1 d1) (.slice b2 n2 d2) (.slice b3 n3 d3) (.slice bp n dp) (.slice ba na da)) 36)) (.cells zPic 36); rw [World.size_alloc] at h; exact h),
      by have h := heap_alloc_new ((w.alloc (.cells (vPic P (.slice b0 n0 d0) (.slice b1 n1 d1) (.slice b2 n2 d2) (.slice b3 n3 d3) (.slice bp n dp) (.slice ba na da)) 36)).alloc (.cells zPic 36)) (.cells (vPic P (.slice b0 n0 d0) (.slice b1 n1 d1) (.slice b2 n2 d2) (.slice b3 n3 d3) (.slice bp n dp) (.slice ba na da)) 36); rw [World.size_alloc, World.size_alloc] at h; exact h,
      (((Below.refl _ _).alloc (Nat.le_refl _) _).alloc (by simp) _).alloc (by simp; omega) _⟩)
  obtain ⟨B, hB⟩ : ∃ B, w.heap.size = B := ⟨_, rfl⟩
  have HB := Lib.hid hB
  rw [hB] at X1
  have CL := Lib.hid (cloneP_any _ _ _ w1 (SlN.old HPR.out (by rw [HB.out]; exact X1.out.l)) (parts_one HPO.out) (by have := N4.out; omega))
  obtain ⟨a0, a1, a2, a3, a4, a5, a6, a7, a8⟩ := X1.out.a.cells
  unfold vPic zPic at hw1
  go_enter Try.func35, Try.ntmps35
  unfold vPic
  go_wp2_with fail
  refine CL.out.mono ?_
  rintro e x1 ⟨v1, rfl, ho1, hb1⟩
  obtain ⟨g, gc, rfl, hg1, hg2, C1, hC1⟩ := owns_shape ho1 (by have := N4.out; omega) (by decide)
  have X2 := Lib.hid (X1.out.old hb1)
  have LB1 : Hid (B ≤ w1.heap.size) := Lib.hid (by have := X1.out.lt; omega)
  have O1 := Lib.hid (World.ownsRow.mono ho1 LB1.out)
  have HG : Hid (B ≤ g) := Lib.hid (Nat.le_trans LB1.out hg1)
  clear ho1 hb1 hC1 hg1 hg2 a0 a1 a2 a3 a4 a5 a6 a7 a8 hw1 CL
  obtain ⟨a0, a1, a2, a3, a4, a5, a6, a7, a8⟩ := X2.out.a.cells
  have z6 := X2.out.a.frozen 6
  have z0 := X2.out.a.frozen 0
  have z1 := X2.out.a.frozen 1
  obtain ⟨x2, hx2⟩ : ∃ x2, ((x1.setCell ⟨B, 6, none⟩ (.slice (some ⟨g, 0, none⟩) n gc)).setCell ⟨B, 0, none⟩ (.int .i64 W0)).setCell ⟨B, 1, none⟩ (.int .i64 H0) = x2 := ⟨_, rfl⟩
  have XX : Hid (CutX w B P (sidesL P W0 H0) (.slice b0 n0 d0) (.slice b1 n1 d1) (.slice b2 n2 d2) (.slice b3 n3 d3) (.slice bp n dp) (.slice (some ⟨g, 0, none⟩) n gc) (.slice ba na da) x2) := Lib.hid (by
    rw [← hx2]
    refine ⟨?_, ((X2.out.z.set (by omega)).set (by omega)).set (by omega), ?_, below_set (below_set (below_set X2.out.l (Nat.le_refl _)) (Nat.le_refl _)) (Nat.le_refl _)⟩
    · have h1 : ((x1.setCell ⟨B, 6, none⟩ (.slice (some ⟨g, 0, none⟩) n gc)).heap[B]? = _) := heap_setCell_same x1 B 6 _ _ (.slice (some ⟨g, 0, none⟩) n gc) X2.out.a
      have h2 := heap_setCell_same _ B 0 _ _ (.int .i64 W0) h1
      have h3 := heap_setCell_same _ B 1 _ _ (.int .i64 H0) h2
      exact h3
    · unfold PBox
      rw [Go.Deep.blk_setCell_other _ _ _ _ (by simp only; omega), Go.Deep.blk_setCell_other _ _ _ _ (by simp only; omega), Go.Deep.blk_setCell_other _ _ _ _ (by simp only; omega)]
      exact X2.out.o)
  have HH : Hid (HalfP B x2 (.slice (some ⟨g, 0, none⟩) n gc) rs []) := Lib.hid ⟨Nat.zero_le _, by
    have k1 : KeepTy 36 x1 (x1.setCell ⟨B, 6, none⟩ (.slice (some ⟨g, 0, none⟩) n gc)) := keepTy_set X2.out.a
    have h1 : ((x1.setCell ⟨B, 6, none⟩ (.slice (some ⟨g, 0, none⟩) n gc)).heap[B]? = _) := heap_setCell_same x1 B 6 _ _ (.slice (some ⟨g, 0, none⟩) n gc) X2.out.a
    have k2 := keepTy_set (j := 0) (u := .int .i64 W0) h1
    have h2 := heap_setCell_same _ B 0 _ _ (.int .i64 W0) h1
    have k3 := keepTy_set (j := 1) (u := .int .i64 H0) h2
    have := owns_ty (owns_ty (owns_ty O1.out k1 (by decide)) k2 (by decide)) k3 (by decide)
    rw [hx2] at this
    simpa [HN.out] using this, fun p hp => by simp at hp, fun p hp => by simp at hp, List.Pairwise.nil⟩
  have y6 := XX.out.a.cells.2.2.2.2.2.2.1
  go_wp2_with fail
  clear y6 a0 a1 a2 a3 a4 a5 a6 a7 a8 z0 z1 z6
  go_loopw [29] (fun i W => ∃ (k : Nat) (done : List (PartL × Value)), k ≤ n ∧ i = .int .i64 (k : Nat) ∧ done.length = k ∧ done.map (·.1) = (cutL P c r W0 H0).parts.take k ∧ HalfP B W (.slice (some ⟨g, 0, none⟩) n gc) rs done ∧ CutX w B P (sidesL P W0 H0) (.slice b0 n0 d0) (.slice b1 n1 d1) (.slice b2 n2 d2) (.slice b3 n3 d3) (.slice bp n dp) (.slice (some ⟨g, 0, none⟩) n gc) (.slice ba na da) W) (fun i _ => n - (intOf i).toNat)
  case atStart => exact ⟨0, [], Nat.zero_le _, rfl, rfl, rfl, HH.out, XX.out⟩
  case round =>
    clear HH XX hx2 X2 O1
    obtain ⟨k, done, hk, rfl, hdl, hdf, hh, hx⟩ := hrel
    have HH := Lib.hid hh
    have XX := Lib.hid hx
    have DL := Lib.hid hdl
    have DF := Lib.hid hdf
    clear hh hx hdl hdf
    by_cases hkn : k < n
    rotate_left
    · obtain rfl : k = n := by omega
      have f1 : decide ((k : Int) < (k : Int)) = false := by rw [decide_eq_false_iff_not]; omega
      have PO : Hid (PtO B wr (.slice (some ⟨g, 0, none⟩) k gc) done) := Lib.hid (HH.out.fin (by rw [DL.out, HN.out]))
      have DM : Hid (done.map (·.1) = (cutL P c r W0 H0).parts) := Lib.hid (by
        rw [DF.out, List.take_of_length_le]
        have h1 : (cutL P c r W0 H0).parts.length = P.parts.length := by unfold cutL; simp
        rw [h1, HNP.out]
        exact Nat.le_refl _)
      have H1 : Hid ((#[.int .i64 W0, .int .i64 H0, .slice b0 n0 d0, .slice b1 n1 d1, .slice b2 n2 d2, .slice b3 n3 d3, .slice (some ⟨g, 0, none⟩) k gc, .int .i64 P.restart, .slice ba na da] : Array Value).all (·.oneCell') = true) := Lib.hid (by kernel_rfl)
      have HI : Hid ((Try.prog.info? 36).map (·.size) = some 9) := Lib.hid (by kernel_rfl)
      obtain ⟨a0, a1, a2, a3, a4, a5, a6, a7, a8⟩ := XX.out.a.cells
      go_wp2_with (refine wpList_store_row rfl _ _ _ rfl (B + 1) #[.int .i64 W0, .int .i64 H0, .slice b0 n0 d0, .slice b1 n1 d1, .slice b2 n2 d2, .slice b3 n3 d3, .slice (some ⟨g, 0, none⟩) k gc, .int .i64 P.restart, .slice ba na da] rfl rfl 36 _ XX.out.z HI.out rfl H1.out ?_)
      obtain ⟨wE, hE⟩ : ∃ wE, wr.setRow (B + 1) #[.int .i64 W0, .int .i64 H0, .slice b0 n0 d0, .slice b1 n1 d1, .slice b2 n2 d2, .slice b3 n3 d3, .slice (some ⟨g, 0, none⟩) k gc, .int .i64 P.restart, .slice ba na da] = wE := ⟨_, rfl⟩
      have hwE : wE.heap[B + 1]? = some (.cells #[.int .i64 W0, .int .i64 H0, .slice b0 n0 d0, .slice b1 n1 d1, .slice b2 n2 d2, .slice b3 n3 d3, .slice (some ⟨g, 0, none⟩) k gc, .int .i64 P.restart, .slice ba na da] 36 (0, 0)) := by rw [← hE]; exact setRow_heap _ _ _ _ _ _ XX.out.z
      have PE : Hid (PtO B wE (.slice (some ⟨g, 0, none⟩) k gc) done) := Lib.hid (by rw [← hE]; exact PO.out.ty (keepTy_row XX.out.z) (by decide) (by decide))
      have BE : Hid (Below B w wE) := Lib.hid (by rw [← hE]; exact below_setRow XX.out.l (Nat.le_succ _) _)
      rw [hE]
      obtain ⟨r0, r1, r2, r3, r4, r5, r6, r7, r8⟩ := PBox.cells (P := sidesL P W0 H0) hwE
      have r0 : wE.cell? ⟨B + 1, 0, none⟩ = some (.int .i64 W0) := r0
      have r1 : wE.cell? ⟨B + 1, 1, none⟩ = some (.int .i64 H0) := r1
      have r7 : wE.cell? ⟨B + 1, 7, none⟩ = some (.int .i64 P.restart) := r7
      clear hE hwE
      refine bodyPost_ret (v := .agg #[.int .i64 W0, .int .i64 H0, .slice b0 n0 d0, .slice b1 n1 d1, .slice b2 n2 d2, .slice b3 n3 d3, .slice (some ⟨g, 0, none⟩) k gc, .int .i64 P.restart, .slice ba na da]) (by simp [results, Try.results35, go_sem, r0, r1, r2, r3, r4, r5, r6, r7, r8]; try rfl) rfl ⟨_, done, rfl, DM.out, by rw [HB.out]; exact PE.out, by rw [HB.out]; exact BE.out⟩
    · have f1 : decide ((k : Int) < (n : Int)) = true := by rw [decide_eq_true_eq]; omega
      have f1' : decide (k < n) = true := by rw [decide_eq_true_eq]; omega
      have f2 : (k : Int) < (n : Int) := by omega
      have GK := Lib.hid (step_wrap k n hkn (Nat.le_trans N4.out.2 (by decide)))
      have hkr : k < rs.length := by have := HN.out; omega
      have hkP : k < P.parts.length := by rw [HNP.out]; exact hkn
      obtain ⟨⟨p, x0⟩, hpx⟩ : ∃ p, rs[k] = p := ⟨_, rfl⟩
      have hpp : P.parts[k] = p := by
        have h : P.parts[k]? = some p := by rw [← HRS.out, List.getElem?_map, List.getElem?_eq_getElem hkr, hpx]; rfl
        rw [List.getElem?_eq_getElem hkP] at h
        exact Option.some.inj h
      have PX := Lib.hid (HPO.out _ (List.getElem_mem hkr))
      rw [hpx] at PX
      have MR := Lib.hid (HH.out.mid HN.out DL.out hkr hpx)
      have KR := Lib.hid hkr
      have KP := Lib.hid hkP
      have HPP : Hid (∀ h : k < P.parts.length, P.parts[k]'h = p) := Lib.hid (fun h => hpp)
      obtain ⟨rest, hrest⟩ : ∃ q, rs.drop (k + 1) = q := ⟨_, rfl⟩
      rw [hrest] at MR
      have HRT := Lib.hid hrest
      have KN := Lib.hid hkn
      -- the old part
      obtain ⟨pa, pc, hpe, _, hptx⟩ := pts_at HP.out.parts
      obtain ⟨ob, oo, x, hpa, hPB, hBK, o0, o1, o2, o3, o4, o5, o6⟩ := hptx k hkP
      simp only [Value.slice.injEq] at hpe
      obtain ⟨rfl, hnn, rfl⟩ := hpe
      subst hpa
      clear hnn hptx
      rw [hpp] at hPB hBK o0 o1 o2 o3 o4 o5
      obtain ⟨xa, xc, hxs⟩ := bks_slice hBK
      subst hxs
      obtain ⟨xn, hxn⟩ : ∃ z, p.bs.length = z := ⟨_, rfl⟩
      rw [hxn] at hBK o6
      have HXN := Lib.hid hxn
      have BK := Lib.hid hBK
      have PBp := Lib.hid hPB
      have wl : Below w.heap.size w wr := by rw [HB.out]; exact XX.out.l
      have o0 := cell_old wl o0
      have o1 := cell_old wl o1
      have o2 := cell_old wl o2
      have o3 := cell_old wl o3
      have o4 := cell_old wl o4
      have o5 := cell_old wl o5
      have o6 := cell_old wl o6
      obtain ⟨a0, a1, a2, a3, a4, a5, a6, a7, a8⟩ := XX.out.a.cells
      have y6 := XX.out.o.cells.2.2.2.2.2.2.1
      obtain ⟨wt, hwt⟩ : ∃ wt, wr.alloc (.cells #[.int .i64 p.id, .int .i64 p.h, .int .i64 p.v, .int .i64 p.tq, .int .i64 p.wide, .int .i64 p.high, .slice xa xn xc] 70) = wt := ⟨_, rfl⟩
      have hbt : Below wr.heap.size wr wt := by rw [← hwt]; exact (Below.refl _ _).alloc (Nat.le_refl _) _
      have XT := Lib.hid (XX.out.old hbt)
      have MT := Lib.hid (MR.out.old hbt)
      obtain ⟨T, hT⟩ : ∃ T, wr.heap.size = T := ⟨_, rfl⟩
      have PT : Hid (PtB wt T p (.slice xa xn xc)) := Lib.hid (by rw [← hwt, ← hT]; exact heap_alloc_new _ _)
      have GT : Hid (g < T) := Lib.hid (by rw [← hT]; exact MR.out.heap.2.1)
      have DB : Hid (∀ q ∈ done, ∀ b, q.2.ownBlock = some b → b < T) := Lib.hid (by rw [← hT]; exact fun q hq b hb => ((HH.out.bk q hq).row.lt b hb).2)
      have KIN : Hid ((done.map (·.1) ++ p :: rest.map (·.1)).map kin = P.parts.map kin) := Lib.hid (mid_kin DF.out hkP (by rw [hpp]) (by rw [← HRT.out, List.map_drop, HRS.out]))
      have ROK : Hid (∀ q ∈ rest, PartB q.1 ∧ Bks w q.2 q.1.bs) := Lib.hid (fun q hq => HPO.out q (by rw [← HRT.out] at hq; exact List.mem_of_mem_drop hq))
      have NLL : Hid ((done ++ (p, x0) :: rest).length = n) := Lib.hid (by rw [← HRT.out, List.length_append, List.length_cons, List.length_drop, DL.out]; have := HN.out; omega)
      clear hpx hpp hkr hkP hrest hkn hPB hBK hxn hbt wl
      go_upto_region 9 with (fail)
      clear a0 a1 a2 a3 a4 a5 a6 a7 a8 y6 o0 o1 o2 o3 o4 o5 o6 hwt
      obtain ⟨a0, a1, a2, a3, a4, a5, a6, a7, a8⟩ := XT.out.a.cells
      have PMID : Hid (∀ W q1, Below B w W → MidR B W g n gc done q1 rest → PartB q1.1 → Bks W q1.2 q1.1.bs → Pts W (.slice (some ⟨g, 0, none⟩) n gc) (done.map (·.1) ++ q1.1 :: rest.map (·.1)) ) := Lib.hid (fun W q1 hW hm h1 h2 => by
        have h := hm.pts (by have := NLL.out; simpa using this) (fun q hq => (HH.out.ok q hq)) ⟨h1, h2⟩ (fun q hq => ⟨(ROK.out q hq).1, (ROK.out q hq).2.old (by rw [HB.out]; exact hW)⟩)
        simpa using h)
      have SZ := Lib.hid (size_any (midL P W0 H0 (done.map (·.1) ++ p :: rest.map (·.1))) (.slice b0 n0 d0) (.slice b1 n1 d1) (.slice b2 n2 d2) (.slice b3 n3 d3) (.slice (some ⟨g, 0, none⟩) n gc) (.slice ba na da) k wt (PMID.out wt (p, x0) XT.out.l MT.out PX.out.1 (PX.out.2.old (by rw [HB.out]; exact XT.out.l))) (by
        have := NLL.out
        have h2 := N4.out
        show (done.map (·.1) ++ p :: rest.map (·.1)).length ≤ _
        simp at this ⊢
        omega))
      rw [(mid_size P W0 H0 _ KIN.out (k : Int)).1] at SZ
      have CS := Lib.hid (cut_sizes FF.out II.out k KP.out)
      have CP := Lib.hid (cut_prod FF.out II.out k KP.out)
      obtain ⟨sN, hsw⟩ : ∃ z : Nat, (sizeL (sidesL P W0 H0) (k : Int)).1 = (z : Int) := ⟨_, (Int.toNat_of_nonneg (by have := CS.out; omega)).symm⟩
      obtain ⟨tN, hsh⟩ : ∃ z : Nat, (sizeL (sidesL P W0 H0) (k : Int)).2 = (z : Int) := ⟨_, (Int.toNat_of_nonneg (by have := CS.out; omega)).symm⟩
      rw [hsw, hsh] at SZ CS CP
      have PL : Hid (p.bs.length ≤ 400000) := Lib.hid (by
        have h := FF.out.pt k KP.out
        rw [HPP.out KP.out] at h
        have h1 := h.2.2.1
        have h2 := h.2.2.2
        omega)
      have S65 : Hid (sN ≤ 262140 ∧ tN ≤ 262140) := Lib.hid (by have := szL_in (sidesL P W0 H0) (k : Int); omega)
      have HSW := Lib.hid hsw
      have HSH := Lib.hid hsh
      clear hsw hsh
      go_wp2_with fail
      refine SZ.out.mono ?_
      rintro e y1 ⟨rfl, hby⟩
      have XY := Lib.hid (XT.out.old hby)
      have MY := Lib.hid (MT.out.old hby)
      have PY := Lib.hid (PT.out.old hby)
      have TY : Hid (T < y1.heap.size) := Lib.hid (Array.getElem?_eq_some_iff.1 PY.out).1
      clear hby a0 a1 a2 a3 a4 a5 a6 a7 a8
      obtain ⟨m0, m1, m2, m3, m4, m5, m6⟩ := MY.out.cells DL.out KN.out
      have z4 := MY.out.frozen (k * 7 + 4)
      have z5 := MY.out.frozen (k * 7 + 5)
      obtain ⟨y2, hy2⟩ : ∃ y2, (y1.setCell ⟨g, k * 7 + 4, none⟩ (.int .i64 (sN : Int))).setCell ⟨g, k * 7 + 5, none⟩ (.int .i64 (tN : Int)) = y2 := ⟨_, rfl⟩
      have M1 := Lib.hid (MY.out.set DL.out 4 (by decide) (.int .i64 (sN : Int)) ({ p with wide := (sN : Int) }, x0) rfl)
      have X3 : Hid (CutX w B P (sidesL P W0 H0) _ _ _ _ _ _ _ y2) := Lib.hid (by rw [← hy2]; exact M1.out.cutX (MY.out.cutX XY.out (Nat.le_refl _)) (Nat.le_refl _))
      have M3 : Hid (MidR B y2 g n gc done ({ p with wide := (sN : Int), high := (tN : Int) }, x0) rest) := Lib.hid (by rw [← hy2]; exact M1.out.set DL.out 5 (by decide) (.int .i64 (tN : Int)) ({ p with wide := (sN : Int), high := (tN : Int) }, x0) rfl)
      have P3 : Hid (PtB y2 T p (.slice xa xn xc)) := Lib.hid (by
        rw [← hy2]
        unfold PtB
        rw [Go.Deep.blk_setCell_other _ _ _ _ (by have := GT.out; simp only; omega), Go.Deep.blk_setCell_other _ _ _ _ (by have := GT.out; simp only; omega)]
        exact PY.out)
      have FP := Lib.hid (FF.out.pt k KP.out)
      obtain ⟨N, hN⟩ : ∃ N : Nat, (sN : Int) * (tN : Int) = (N : Int) := ⟨((sN : Int) * (tN : Int)).toNat, by rw [Int.toNat_of_nonneg (Int.mul_nonneg (by have := CS.out; omega) (by have := CS.out; omega))]⟩
      have hNl : N ≤ 65536 := by have h1 := CP.out; have h2 := FP.out.2.2.2; omega
      obtain ⟨O, mk, mkO⟩ := mkBlk0 N (Nat.le_trans hNl (by decide))
      have MKO := Lib.hid mkO
      have NLE := Lib.hid hNl
      have HNN := Lib.hid hN
      have GM : Hid (wrap64 ((sN : Int) * (tN : Int)) = (N : Int) ∧ IntKind.i64.wrap ((sN : Int) * (tN : Int)) = (N : Int)) := Lib.hid (by rw [hN]; exact wrapN N (Nat.le_trans hNl (by decide)))
      clear mkO hN hNl
      go_upto_region 10 with (fail)
      clear m0 m1 m2 m3 m4 m5 m6 z4 z5 hy2 PY XY MY M1
      obtain ⟨m0, m1, m2, m3, m4, m5, m6⟩ := M3.out.cells DL.out KN.out
      have z6 := M3.out.frozen (k * 7 + 6)
      simp only at m4 m5 m6
      have hbO : Below y2.heap.size y2 (y2.alloc O) := (Below.refl _ _).alloc (Nat.le_refl _) _
      have M4 := Lib.hid (M3.out.old hbO)
      have X4 := Lib.hid (X3.out.old hbO)
      have P4 := Lib.hid (P3.out.old hbO)
      have s6 : (y2.alloc O).cell? ⟨g, k * 7 + 6, none⟩ = some x0 := (M4.out.cells DL.out KN.out).2.2.2.2.2.2
      have z7 := M4.out.frozen (k * 7 + 6)
      clear hbO
      have gm := GM.out.1
      have gm' := GM.out.2
      go_region
      clear gm gm'
      obtain ⟨v0, hv0⟩ : ∃ v0, Value.slice (some ⟨y2.heap.size, 0, none⟩) 0 N = v0 := ⟨_, rfl⟩
      obtain ⟨M, hM⟩ : ∃ M, y2.heap.size = M := ⟨_, rfl⟩
      obtain ⟨y3, hy3⟩ : ∃ y3, ((y2.alloc O).setCell ⟨g, k * 7 + 6, none⟩ (.slice (some ⟨y2.heap.size, 0, none⟩) 0 N)).drew = y3 := ⟨_, rfl⟩
      have hdr : Below ((y2.alloc O).setCell ⟨g, k * 7 + 6, none⟩ (.slice (some ⟨y2.heap.size, 0, none⟩) 0 N)).heap.size ((y2.alloc O).setCell ⟨g, k * 7 + 6, none⟩ (.slice (some ⟨y2.heap.size, 0, none⟩) 0 N)) y3 := by rw [← hy3]; exact (Below.refl _ _).drew
      have M5 : Hid (MidR B y3 g n gc done ({ p with wide := (sN : Int), high := (tN : Int) }, v0) rest) := Lib.hid ((M4.out.set DL.out 6 (by decide) _ ({ p with wide := (sN : Int), high := (tN : Int) }, v0) (by rw [← hv0]; rfl)).old hdr)
      have X5 := Lib.hid ((M4.out.cutX (j := k * 7 + 6) (u := .slice (some ⟨y2.heap.size, 0, none⟩) 0 N) X4.out (Nat.le_refl _)).old hdr)
      have P5 : Hid (PtB y3 T p (.slice xa xn xc)) := Lib.hid (by
        rw [← hy3]
        show _ = _
        show ((y2.alloc O).setCell ⟨g, k * 7 + 6, none⟩ (.slice (some ⟨y2.heap.size, 0, none⟩) 0 N)).heap[T]? = _
        rw [Go.Deep.blk_setCell_other _ _ _ _ (by have := GT.out; simp only; omega)]
        exact P4.out)
      have V5 : Hid (BkO M y3 v0 (gathL p c r (sN : Int) 0)) := Lib.hid (by
        obtain ⟨_, _, C, hC⟩ := M4.out.heap
        have h := owns_below (owns_other (j := k * 7 + 6) (u := .slice (some ⟨y2.heap.size, 0, none⟩) 0 N) (MKO.out y2) hC (by decide)) hdr
        rw [hv0, hM] at h
        exact ⟨h, fun b hb => by simp [gathL] at hb⟩)
      have MS : Hid (M ≤ y3.heap.size) := Lib.hid (by have := hdr.size; rw [← hM]; simp at this; omega)
      have TM : Hid (T ≤ M) := Lib.hid (by rw [← hM]; have := (Array.getElem?_eq_some_iff.1 P3.out).1; omega)
      rw [hy3]
      have OKD := Lib.hid HH.out.ok
      have SEP := Lib.hid HH.out.sep
      clear hdr hy3 hv0 hM s6 z7 m0 m1 m2 m3 m4 m5 m6 z6 M4 X4 P4 M3 X3 P3 MKO mk MR XX XT MT PT HH
      obtain ⟨m0, m1, m2, m3, m4, m5, m6⟩ := M5.out.cells DL.out KN.out
      simp only at m4 m5 m6
      go_wp2_with fail
      clear m0 m1 m2 m3 m4 m5 m6
      go_loopw [70] (fun i W => ∃ (y : Nat) (v : Value), (y : Int) ≤ (tN : Int) ∧ i = .int .i64 (y : Nat) ∧ BkO M W v (gathL p c r (sN : Int) y) ∧ MidR B W g n gc done ({ p with wide := (sN : Int), high := (tN : Int) }, v) rest ∧ CutX w B P (sidesL P W0 H0) (.slice b0 n0 d0) (.slice b1 n1 d1) (.slice b2 n2 d2) (.slice b3 n3 d3) (.slice (some ⟨ob, oo, none⟩) n dp) (.slice (some ⟨g, 0, none⟩) n gc) (.slice ba na da) W ∧ PtB W T p (.slice xa xn xc) ∧ M ≤ W.heap.size) (fun i _ => tN - (intOf i).toNat)
      case atStart => exact ⟨0, v0, by have := CS.out; omega, rfl, V5.out, M5.out, X5.out, P5.out, MS.out⟩
      case round =>
        clear V5 M5 X5 P5 MS
        obtain ⟨y, v, hy, rfl, hbk, hmr, hcx, hpt, hms⟩ := hrel
        have V := Lib.hid hbk
        have MR := Lib.hid hmr
        have XX := Lib.hid hcx
        have PT := Lib.hid hpt
        have MS := Lib.hid hms
        obtain ⟨m0, m1, m2, m3, m4, m5, m6⟩ := hmr.cells DL.out KN.out
        simp only at m0 m1 m2 m3 m4 m5 m6
        obtain ⟨t0, t1, t2, t3, t4, t5, t6⟩ := hpt.cells
        have z6 := hmr.frozen (k * 7 + 6)
        clear hbk hmr hcx hpt hms
        by_cases hys : (y : Int) < (tN : Int)
        · skip
          -- [q
          have hyN : y < tN := Int.ofNat_lt.1 hys
          obtain ⟨f1, f1'⟩ := dec_lt hyN
          have HYN := Lib.hid hyN
          have GY := Lib.hid (step_wrap y tN hyN (Nat.le_trans S65.out.2 (by decide)))
          have RB := Lib.hid (row_bounds FF.out II.out k KP.out (y : Int) ⟨Int.natCast_nonneg _, by rw [HSH.out]; exact hys⟩)
          rw [HPP.out KP.out, HSW.out] at RB
          obtain ⟨rb1, rb2, rb3, rb4, at_, rb5, rb6, rb7⟩ := RB.out
          have UF := Lib.hid (row_wraps rb1 rb2 rb3 rb4 rb5)
          have RB6 := Lib.hid rb6
          have RB7 : Hid (at_ + sN ≤ p.bs.length) := Lib.hid (by simpa using rb7)
          have HYS := Lib.hid hys
          clear RB rb1 rb2 rb3 rb4 rb5 rb6 rb7 hys hyN
          have HAL := Lib.hid (at_small at_ sN p.bs.length RB7.out (PL.out))
          obtain ⟨A1, A2, A3, A4, ⟨u1, u1'⟩, ⟨u2, u2'⟩, ⟨u3, u3'⟩, ⟨u4, u4'⟩, ⟨u5, u5'⟩⟩ := UF.out
          go_upto_region 14 with (fail)
          go_region
          clear u1 u1' u2 u2' u3 u3' u4 u4' u5 u5'
          obtain ⟨xb, xo, rfl⟩ : ∃ xb xo, xa = some ⟨xb, xo, none⟩ := by
            obtain ⟨_, a, c', hv, hc', hx⟩ := BK.out.range
            obtain ⟨b, o, ha, _⟩ := hx 0 (Nat.lt_of_lt_of_le (Nat.lt_of_lt_of_le (Int.ofNat_le.1 CS.out.1.1) (Nat.le_add_left _ _)) RB7.out)
            simp only [Value.slice.injEq] at hv
            rw [hv.1, ha]
            exact ⟨b, o, rfl⟩
          have XCN : Hid (p.bs.length ≤ xc) := Lib.hid (by
            obtain ⟨_, a, c', hv, hc', _⟩ := BK.out.range
            simp only [Value.slice.injEq] at hv
            rw [hv.2.2]
            exact hc')
          have G5 := Lib.hid (subFacts at_ sN p.bs.length xc RB7.out XCN.out (Int.ofNat_le.1 CS.out.1.1) HAL.out S65.out.1)
          go_upto_region 15 with (fail)
          have hd9 : Below wr.heap.size wr wr.drew := (Below.refl _ _).drew
          obtain ⟨w9, hw9⟩ : ∃ w9, wr.drew = w9 := ⟨_, rfl⟩
          rw [hw9] at hd9 ⊢
          have V9 := Lib.hid (V.out.old hd9)
          have MR9 := Lib.hid (MR.out.old hd9)
          have XX9 := Lib.hid (XX.out.old hd9)
          have PT9 := Lib.hid (PT.out.old hd9)
          have MS9 : Hid (M ≤ w9.heap.size) := Lib.hid (Nat.le_trans MS.out hd9.size)
          have BK9 : Hid (Bks w9 (.slice (some ⟨xb, xo, none⟩) xn xc) p.bs) := Lib.hid (BK.out.old (by rw [HB.out]; exact XX9.out.l))
          clear m0 m1 m2 m3 m4 m5 m6 t0 t1 t2 t3 t4 t5 t6 z6 hd9 hw9 V MR XX PT MS
          obtain ⟨m0, m1, m2, m3, m4, m5, m6⟩ := MR9.out.cells DL.out KN.out
          simp only at m4 m5 m6
          obtain ⟨t0, t1, t2, t3, t4, t5, t6⟩ := PT9.out.cells
          obtain ⟨va, vc, hvs⟩ := V9.out.shape
          have GL : Hid ((gathL p c r (sN : Int) y).length = y * sN) := Lib.hid (by
            have h := gath_len FF.out II.out k KP.out y (by rw [HSH.out]; exact Int.le_of_lt HYS.out)
            rw [HPP.out KP.out, HSW.out] at h
            simpa using h)
          have YS : Hid (y * sN ≤ 65536) := Lib.hid (rows_le y sN tN N HYN.out HNN.out NLE.out)
          have SRC : Hid (SlN 64 w9.drew (.slice (some ⟨xb, xo + at_ * 64, none⟩) sN (xc - at_)) sN (fB (rowL p c r (sN : Int) (y : Int)))) := Lib.hid (by
            have h := bks_sub (BK9.out.old (Below.refl w9.heap.size w9).drew) at_ sN RB7.out
            have e : rowL p c r (sN : Int) (y : Int) = (p.bs.drop at_).take sN := by unfold rowL; rw [RB6.out]; simp
            rw [e]; exact h)
          obtain ⟨LN1, LN2⟩ := app_bounds (gathL p c r (sN : Int) y).length sN (by rw [GL.out]; exact YS.out) S65.out.1
          have LL1 := Lib.hid LN1
          have LL2 := Lib.hid LN2
          clear LN1 LN2
          have ARM : Hid (∀ w5, w9.drew.grownBy w5 v.ownBlock → MidR B w5 g n gc done ({ p with wide := (sN : Int), high := (tN : Int) }, v) rest) := Lib.hid (fun w5 hg5 => by
            have h1 := MR9.out.old (Below.refl w9.heap.size w9).drew
            have h2 := V9.out.old (Below.refl w9.heap.size w9).drew
            exact ⟨h1.row.kept hg5 (own_ne h1.row h2.row (by decide)), fun q hq => ⟨(h1.bk q hq).row.kept hg5 (by
              cases hv : q.2.ownBlock with
              | none => exact .inl rfl
              | some b =>
                right
                intro e
                have hlt := DB.out q hq b hv
                have := (h2.row.lt b e.symm).1
                have := TM.out
                omega), (h1.bk q hq).all⟩⟩)
          have RL : Hid ((rowL p c r (sN : Int) (y : Int)).length = sN) := Lib.hid (by
            have h := rowL_len FF.out II.out k KP.out (y : Int) ⟨Int.natCast_nonneg _, by rw [HSH.out]; exact HYS.out⟩
            rw [HPP.out KP.out, HSW.out] at h
            simpa using h)
          have AFTER : Hid (∀ w5 v5, w9.drew.grownBy w5 v.ownBlock → w5.ownsRow M 23 64 v5 ((gathL p c r (sN : Int) y).length + sN) (fB (gathL p c r (sN : Int) y) ++ fB (rowL p c r (sN : Int) (y : Int))) →
              BkO M (w5.setCell ⟨g, k * 7 + 6, none⟩ v5) v5 (gathL p c r (sN : Int) (y + 1)) ∧ MidR B (w5.setCell ⟨g, k * 7 + 6, none⟩ v5) g n gc done ({ p with wide := (sN : Int), high := (tN : Int) }, v5) rest ∧
              CutX w B P (sidesL P W0 H0) (.slice b0 n0 d0) (.slice b1 n1 d1) (.slice b2 n2 d2) (.slice b3 n3 d3) (.slice (some ⟨ob, oo, none⟩) n dp) (.slice (some ⟨g, 0, none⟩) n gc) (.slice ba na da) (w5.setCell ⟨g, k * 7 + 6, none⟩ v5) ∧ PtB (w5.setCell ⟨g, k * 7 + 6, none⟩ v5) T p (.slice (some ⟨xb, xo, none⟩) xn xc) ∧ M ≤ (w5.setCell ⟨g, k * 7 + 6, none⟩ v5).heap.size) := Lib.hid (fun w5 v5 hg5 ho5 => by
            have hm5 := ARM.out w5 hg5
            obtain ⟨_, _, C, hC⟩ := hm5.heap
            have h2 := (V9.out.old (Below.refl w9.heap.size w9).drew)
            have h3 := (XX9.out.old (Below.refl w9.heap.size w9).drew).grown h2.row hg5 (by have := HG.out; have := GT.out; have := TM.out; omega)
            refine ⟨(BkO.more ho5 h2.all BK.out.range.1 RL.out).other hC (by decide), hm5.set DL.out 6 (by decide) _ ({ p with wide := (sN : Int), high := (tN : Int) }, v5) rfl, hm5.cutX h3 (Nat.le_refl _), ?_, by have := hg5.size; have := MS9.out; simp at *; omega⟩
            have h4 : PtB w5 T p (.slice (some ⟨xb, xo, none⟩) xn xc) := heap_grown h2.row hg5 (PT9.out.old (Below.refl w9.heap.size w9).drew) (by decide)
            exact h4.setOther (by have := GT.out; omega))
          subst hvs
          obtain ⟨E, g5, g5', l1, l2, l3, l4⟩ := G5.out
          have C0 : w9.drew.cell? ⟨T, 6, none⟩ = some (.slice (some ⟨xb, xo, none⟩) xn xc) ∧ w9.drew.cell? ⟨g, k * 7 + 4, none⟩ = some (.int .i64 (sN : Int)) := ⟨t6, m4⟩
          refine wp_region_perm (fun X => X.cell? ⟨T, 6, none⟩ = some (.slice (some ⟨xb, xo, none⟩) xn xc) ∧ X.cell? ⟨g, k * 7 + 4, none⟩ = some (.int .i64 (sN : Int))) [(0, true), (1, true), (2, true), (3, true), (5, true), (6, true), (7, true), (8, true), (9, true), (10, true), (11, true), (12, true), (13, true), (14, true), (4, false), (15, false), (16, true), (17, true), (18, false)] (by kernel_rfl) (by kernel_rfl) C0 (fun hC0 => ?_)
          clear C0
          iterate 14
            (refine perm_take rfl ?_
             apply Exists.intro
             refine ⟨Or.inl ⟨by rfl, fun X hX => ?_⟩, ?_⟩
             · obtain ⟨x6, x4⟩ := hX
               go_simp
               exact rfl
             simp only [Act.put, List.setIfInBounds_toArray, List.set_cons_zero, List.set_cons_succ])
          clear g5 g5' l1 l2 l3 l4
          have CC := Lib.hid hC0
          clear hC0
          refine perm_step rfl (fun K hK => ?_)
          rw [if_pos (by rfl)]
          go_wp2_with fail
          refine hK.out _ _ CC.out (fun _ => ?_)
          clear hK K
          try simp only [Act.put, List.setIfInBounds_toArray, List.set_cons_zero, List.set_cons_succ]
          refine perm_step rfl (fun K hK => ?_)
          refine step_app tyB rfl _ _ rfl M _ _ (fB (gathL p c r (sN : Int) y)) rfl (V9.out.old (Below.refl w9.heap.size w9).drew).row _ sN _ rfl SRC.out (fB_one _) LL1.out LL2.out MS9.out ?_
          intro v5 w5 hown5 hg5
          have AF := Lib.hid (AFTER.out w5 _ hg5 hown5)
          have hm5 := ARM.out w5 hg5
          have h6 := (V9.out.old (Below.refl w9.heap.size w9).drew)
          have CC5 : Hid (w5.cell? ⟨T, 6, none⟩ = some (.slice (some ⟨xb, xo, none⟩) xn xc) ∧ w5.cell? ⟨g, k * 7 + 4, none⟩ = some (.int .i64 (sN : Int))) := Lib.hid (by
            have h4 : PtB w5 T p (.slice (some ⟨xb, xo, none⟩) xn xc) := heap_grown h6.row hg5 (PT9.out.old (Below.refl w9.heap.size w9).drew) (by decide)
            exact ⟨h4.cells.2.2.2.2.2.2, (hm5.cells DL.out KN.out).2.2.2.2.1⟩)
          have q6 := (hm5.cells DL.out KN.out).2.2.2.2.2.2
          have q7 := hm5.frozen (k * 7 + 6)
          obtain ⟨va5, vc5, rfl⟩ := owns_any hown5
          refine hK.out _ _ CC5.out (fun _ => ?_)
          clear hK K h6 hown5 hg5 hm5
          try simp only [Act.put, List.setIfInBounds_toArray, List.set_cons_zero, List.set_cons_succ]
          iterate 2
            (refine perm_take rfl ?_
             apply Exists.intro
             refine ⟨Or.inl ⟨by rfl, fun X hX => ?_⟩, ?_⟩
             · obtain ⟨x6, x4⟩ := hX
               go_simp
               exact rfl
             simp only [Act.put, List.setIfInBounds_toArray, List.set_cons_zero, List.set_cons_succ])
          refine perm_step rfl (fun K hK => ?_)
          rw [if_pos (by rfl)]
          go_wp2_with fail
          refine hK.out _ _ ⟨by
            have h := AF.out.2.2.2.1.cells.2.2.2.2.2.2
            exact h, (AF.out.2.1.cells DL.out KN.out).2.2.2.2.1⟩ (fun _ => ?_)
          clear hK K q6 q7
          refine perm_done ?_
          have gy := GY.out
          go_wp2_with fail
          go_roundw
          case rel => exact ⟨y + 1, _, Int.ofNat_le.2 HYN.out, by go_num, AF.out.1, AF.out.2.1, AF.out.2.2.1, AF.out.2.2.2.1, AF.out.2.2.2.2⟩
          case measure => simp [intOf]; have := HYN.out; omega
          -- q]
        · obtain rfl : y = tN := by omega
          have f1 : decide ((y : Int) < (y : Int)) = false := by rw [decide_eq_false_iff_not]; omega
          have GL : Hid ((gathL p c r (sN : Int) y).length = y * sN) := Lib.hid (by
            have h := gath_len FF.out II.out k KP.out y (by rw [HSH.out]; exact Int.le_refl _)
            rw [HPP.out KP.out, HSW.out] at h
            simpa using h)
          have GS : Hid ((gathL p c r (sN : Int) y).length ≤ 65536) := Lib.hid (by rw [GL.out]; exact rows_all y sN y N rfl HNN.out NLE.out)
          have WL : Hid (Below B w wr) := Lib.hid XX.out.l
          have KIN2 : Hid ((done.map (·.1) ++ { p with wide := (sN : Int), high := (y : Int), bs := gathL p c r (sN : Int) y } :: rest.map (·.1)).map kin = P.parts.map kin) := Lib.hid (by have h := KIN.out; simpa [kin] using h)
          have SHW := Lib.hid (shown_any (midL P W0 H0 (done.map (·.1) ++ { p with wide := (sN : Int), high := (y : Int), bs := gathL p c r (sN : Int) y } :: rest.map (·.1))) (.slice b0 n0 d0) (.slice b1 n1 d1) (.slice b2 n2 d2) (.slice b3 n3 d3) (.slice (some ⟨g, 0, none⟩) n gc) (.slice ba na da) k wr (PMID.out wr ({ p with wide := (sN : Int), high := (y : Int), bs := gathL p c r (sN : Int) y }, v) WL.out (MR.out.same rfl) (partB_new PX.out.1 sN y S65.out _ (by have := GS.out; omega)) V.out.bks) (by
            have := NLL.out
            have h2 := N4.out
            show (done.map (·.1) ++ { p with wide := (sN : Int), high := (y : Int), bs := gathL p c r (sN : Int) y } :: rest.map (·.1)).length ≤ _
            simp at this ⊢
            omega))
          rw [mid_shown FF.out II.out KP.out KIN2.out { p with wide := (sN : Int), high := (y : Int), bs := gathL p c r (sN : Int) y } (by rw [HPP.out KP.out, HSW.out, HSH.out]; simp) (mid_len DL.out), HPP.out KP.out] at SHW
          obtain ⟨a0, a1, a2, a3, a4, a5, a6, a7, a8⟩ := XX.out.a.cells
          clear t0 t1 t2 t3 t4 t5 t6 z6
          go_wp2_with fail
          refine SHW.out.mono ?_
          rintro e x9 ⟨v9, rfl, ho9, hb9⟩
          obtain ⟨va9, vc9, hv9⟩ := ho9.shape
          have XX9 := Lib.hid (XX.out.old hb9)
          have MR9 := Lib.hid (MR.out.old hb9)
          have WM : Hid (M ≤ wr.heap.size) := Lib.hid MS.out
          have O9 : Hid (BkO wr.heap.size x9 v9 (cutP P c r W0 H0 k p).bs) := Lib.hid (by
            have h := ho9
            exact h)
          clear hb9 ho9 a0 a1 a2 a3 a4 a5 a6 a7 a8 m0 m1 m2 m3 m4 m5 m6
          have q6 := (MR9.out.cells DL.out KN.out).2.2.2.2.2.2
          have q7 := MR9.out.frozen (k * 7 + 6)
          have M10 : Hid (MidR B (x9.setCell ⟨g, k * 7 + 6, none⟩ v9) g n gc done (cutP P c r W0 H0 k p, v9) (rs.drop (k + 1))) := Lib.hid (by
            rw [HRT.out]
            refine MR9.out.set DL.out 6 (by decide) v9 (cutP P c r W0 H0 k p, v9) ?_
            unfold cutP cutX vPart
            rw [HSW.out, HSH.out]
            rfl)
          have X10 := Lib.hid (MR9.out.cutX (j := k * 7 + 6) (u := v9) XX9.out (Nat.le_refl _))
          have LTD : Hid (∀ q ∈ done, q.2.ownBlock = none ∨ q.2.ownBlock ≠ v9.ownBlock) := Lib.hid (fun q hq => by
            cases hv : q.2.ownBlock with
            | none => exact .inl rfl
            | some b =>
              right
              intro e
              have hlt := DB.out q hq b hv
              have := (O9.out.row.lt b e.symm).1
              have := TM.out
              have := WM.out
              omega)
          have H10 : Hid (HalfP B (x9.setCell ⟨g, k * 7 + 6, none⟩ v9) (.slice (some ⟨g, 0, none⟩) n gc) rs (done ++ [(cutP P c r W0 H0 k p, v9)])) := Lib.hid (by
            obtain ⟨_, _, C, hC⟩ := MR9.out.heap
            refine M10.out.half HN.out DL.out KN.out OKD.out ?_ ((O9.out.mono (by have := HG.out; have := GT.out; have := TM.out; have := WM.out; omega)).other hC (by decide)) SEP.out LTD.out
            have h1 : (cutP P c r W0 H0 k p) = { p with wide := (sN : Int), high := (y : Int), bs := (cutP P c r W0 H0 k p).bs } := by
              unfold cutP cutX
              rw [HSW.out, HSH.out]
            rw [h1]
            refine partB_new PX.out.1 sN y S65.out _ ?_
            have h2 : (cutP P c r W0 H0 k p).bs.length = (gathL p c r (sN : Int) y).length := by
              show (cutB p c r _ _).length = _
              rw [cutB_len, HSW.out, HSH.out]
              simp
            rw [h2]
            have := GS.out
            omega)
          have TK := Lib.hid (cut_take (c := c) (r := r) (w := W0) (h := H0) KP.out (HPP.out KP.out))
          simp only at q6
          rw [hv9] at X10 H10 ⊢
          clear M10 hv9
          have gk := GK.out
          go_wp2_with fail
          go_roundw
          case rel => exact ⟨k + 1, done ++ [(cutP P c r W0 H0 k p, _)], KN.out, by go_num, by rw [List.length_append, DL.out]; rfl, by rw [List.map_append, DF.out, TK.out]; rfl, H10.out, X10.out⟩
          case measure => simp [intOf]; have := KN.out; omega
end Go.Proofs.Ytnhalnjdlkdnkaa
