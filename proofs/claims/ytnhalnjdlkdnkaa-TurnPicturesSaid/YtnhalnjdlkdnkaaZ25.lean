/- turn.flop walked. By an AI agent. -/
import Derived.Test.YtnhalnjdlkdnkaaZ23
import Derived.Test.YtnhalnjdlkdnkaaZ24
namespace Go.Proofs.Ytnhalnjdlkdnkaa
open Go.RowKit Go.BigFrame
set_option linter.unusedVariables false
set_option linter.unusedSimpArgs false
set_option maxRecDepth 20000

set_option maxHeartbeats 16000000 in
theorem flop_any (base : Nat) (P : PicL) (q0 q1 q2 q3 pv kv : Value) (w : World) (hp : PicO base w P q0 q1 q2 q3 pv kv) (hbase : base ≤ w.heap.size) (F : Fit P) :
    Calls Try.prog 48 #[.agg (vPic P q0 q1 q2 q3 pv kv)] w fun e w' => e = .returned (.agg (vPic (flopP P) q0 q1 q2 q3 pv kv)) ∧ PicO base w' (flopP P) q0 q1 q2 q3 pv kv ∧ Below base w w' ∧ KeepN w w' := by
  have HP := Lib.hid hp
  have FF := Lib.hid F
  have BS := Lib.hid hbase
  obtain ⟨b0, d0, rfl⟩ := hp.pic.q0.len
  obtain ⟨b1, d1, rfl⟩ := hp.pic.q1.len
  obtain ⟨b2, d2, rfl⟩ := hp.pic.q2.len
  obtain ⟨b3, d3, rfl⟩ := hp.pic.q3.len
  obtain ⟨ba, da, rfl, _⟩ := hp.pic.kept.len
  obtain ⟨rs, hrs, hpt⟩ := hp.parts
  obtain ⟨ss, hss, hsg⟩ := hp.kept
  obtain ⟨n, hn⟩ : ∃ z, P.parts.length = z := ⟨_, rfl⟩
  have N4 : Hid (1 ≤ n ∧ n ≤ 4) := Lib.hid (by rw [← hn]; exact F.n)
  have HN : Hid (rs.length = n) := Lib.hid (by rw [← hn, ← hrs]; simp)
  obtain ⟨g, dp, rfl, hg1, hg2, _, _⟩ := owns_shape hpt.row (by have := N4.out; have := HN.out; omega) (by decide)
  rw [HN.out] at hpt HP ⊢
  obtain ⟨n0, hn0⟩ : ∃ z, P.q0.length = z := ⟨_, rfl⟩
  obtain ⟨n1, hn1⟩ : ∃ z, P.q1.length = z := ⟨_, rfl⟩
  obtain ⟨n2, hn2⟩ : ∃ z, P.q2.length = z := ⟨_, rfl⟩
  obtain ⟨n3, hn3⟩ : ∃ z, P.q3.length = z := ⟨_, rfl⟩
  obtain ⟨na, hna⟩ : ∃ z, P.kept.length = z := ⟨_, rfl⟩
  rw [hn0, hn1, hn2, hn3, hna] at HP ⊢
  rw [hna] at hsg
  have HNP := Lib.hid hn
  have HRS := Lib.hid hrs
  have HSS := Lib.hid hss
  have PTW := Lib.hid hpt
  have SGW := Lib.hid hsg
  clear hn0 hn1 hn2 hn3 hna hn hp F hbase hrs hss hpt hsg hg1 hg2
  obtain ⟨w1, hw1⟩ : ∃ w1, (w.alloc (.cells (vPic P (.slice b0 n0 d0) (.slice b1 n1 d1) (.slice b2 n2 d2) (.slice b3 n3 d3) (.slice (some ⟨g, 0, none⟩) n dp) (.slice ba na da)) 36)).alloc (.cells zPic 36) = w1 := ⟨_, rfl⟩
  have B1 : Hid (Below w.heap.size w w1) := Lib.hid (by rw [← hw1]; exact ((Below.refl _ _).alloc (Nat.le_refl _) _).alloc (by simp) _)
  obtain ⟨B, hB⟩ : ∃ B, w.heap.size = B := ⟨_, rfl⟩
  have HB := Lib.hid hB
  have I1 : Hid (FlI base w B P (.slice b0 n0 d0) (.slice b1 n1 d1) (.slice b2 n2 d2) (.slice b3 n3 d3) (.slice (some ⟨g, 0, none⟩) n dp) (.slice ba na da) ss w1) := Lib.hid (by
    have hb := B1.out
    refine ⟨owns_below HP.out.q0 hb, owns_below HP.out.q1 hb, owns_below HP.out.q2 hb, owns_below HP.out.q3 hb, by rw [← hw1, ← hB]; exact heap_old (heap_alloc_new _ _), ?_, SGW.out.hi (keepHi_below hb), hb.mono BS.out, keepN_below hb⟩
    rw [← hw1, ← hB]
    have h := heap_alloc_new (w.alloc (.cells (vPic P (.slice b0 n0 d0) (.slice b1 n1 d1) (.slice b2 n2 d2) (.slice b3 n3 d3) (.slice (some ⟨g, 0, none⟩) n dp) (.slice ba na da)) 36)) (.cells zPic 36)
    rw [World.size_alloc] at h
    exact h)
  have P1 := Lib.hid (PTW.out.hi (keepHi_below B1.out))
  have S1 : Hid (w1.heap.size = B + 2) := Lib.hid (by rw [← hw1, ← hB]; simp)
  have LG : Hid (g < B) := Lib.hid (by rw [← hB]; exact PTW.out.heap.2.1)
  have BB : Hid (base ≤ B) := Lib.hid (by rw [← hB]; exact BS.out)
  obtain ⟨a0, a1, a2, a3, a4, a5, a6, a7, a8⟩ := I1.out.box.cells
  unfold vPic zPic at hw1
  unfold vPic
  go_enter Try.func48, Try.ntmps48
  go_wp2_with fail
  clear a0 a1 a2 a3 a4 a5 a6 a7 a8
  go_loopw [11] (fun i W => ∃ (k : Nat) (rs' : List (PartL × Value)), k ≤ n ∧ i = .int .i64 (k : Nat) ∧ rs'.map (·.1) = (P.parts.take k).map flopPt ++ P.parts.drop k ∧ PtO base W (.slice (some ⟨g, 0, none⟩) n dp) rs' ∧ FlI base w B P (.slice b0 n0 d0) (.slice b1 n1 d1) (.slice b2 n2 d2) (.slice b3 n3 d3) (.slice (some ⟨g, 0, none⟩) n dp) (.slice ba na da) ss W) (fun i _ => n - (intOf i).toNat)
  case atStart => exact ⟨0, rs, Nat.zero_le _, rfl, by rw [HRS.out]; rfl, P1.out, I1.out⟩
  case round =>
    clear I1 P1 S1 B1
    obtain ⟨k, rs', hk, rfl, hmap, hpt, hfi⟩ := hrel
    have PT := Lib.hid hpt
    have FI := Lib.hid hfi
    have MP := Lib.hid hmap
    have HN2 : Hid (rs'.length = n) := Lib.hid (by
      have h := congrArg List.length hmap
      rw [List.length_map, List.length_append, List.length_map, List.length_take, List.length_drop, HNP.out] at h
      omega)
    obtain ⟨a0, a1, a2, a3, a4, a5, a6, a7, a8⟩ := hfi.box.cells
    clear hpt hfi hmap
    by_cases hkn : k < n
    · have f1 : decide ((k : Int) < (n : Int)) = true := by rw [decide_eq_true_eq]; omega
      have f1' : decide (k < n) = true := by rw [decide_eq_true_eq]; omega
      have f2 : (k : Int) < (n : Int) := by omega
      have GK := Lib.hid (step_wrap k n hkn (Nat.le_trans N4.out.2 (by decide)))
      have hkr : k < rs'.length := by rw [HN2.out]; exact hkn
      have hkP : k < P.parts.length := by rw [HNP.out]; exact hkn
      obtain ⟨⟨p, x0⟩, hpx⟩ : ∃ p, rs'[k] = p := ⟨_, rfl⟩
      have hpp : P.parts[k] = p := by
        have h : (rs'.map (·.1))[k]? = some p := by rw [List.getElem?_map, List.getElem?_eq_getElem hkr, hpx]; rfl
        rw [MP.out, List.getElem?_append_right (by rw [List.length_map, List.length_take]; omega), List.length_map, List.length_take, Nat.min_eq_left (by omega), Nat.sub_self, List.getElem?_drop, Nat.add_zero, List.getElem?_eq_getElem hkP] at h
        exact Option.some.inj h
      have BK := Lib.hid (PT.out.bk _ (List.getElem_mem hkr))
      have OKP := Lib.hid (PT.out.ok _ (List.getElem_mem hkr))
      obtain ⟨m0, m1, m2, m3, m4, m5, m6⟩ := PT.out.cellAt HN2.out k hkr
      rw [hpx] at BK OKP m0 m1 m2 m3 m4 m5 m6
      simp only at BK OKP m0 m1 m2 m3 m4 m5 m6
      have SZ := FF.out.pt k hkP
      rw [hpp] at SZ
      have FA := fac_at FF.out.fac k hkP
      obtain ⟨wN, hwN⟩ : ∃ wN : Nat, p.wide = (wN : Int) := ⟨p.wide.toNat, by rw [Int.toNat_of_nonneg (by have := szL_in P (k : Int); omega)]⟩
      obtain ⟨hN, hhN⟩ : ∃ hN : Nat, p.high = (hN : Int) := ⟨p.high.toNat, by rw [Int.toNat_of_nonneg (by have := szL_in P (k : Int); omega)]⟩
      have XL : Hid (p.bs.length = hN * wN) := Lib.hid (by
        have h : (p.bs.length : Int) = ((wN * hN : Nat) : Int) := by rw [SZ.2.2.1, ← SZ.1, ← SZ.2.1, hwN, hhN]; push_cast; rfl
        rw [Nat.mul_comm]
        omega)
      have X65 : Hid (p.bs.length ≤ 65536) := Lib.hid (by have h1 := SZ.2.2.1; have h2 := SZ.2.2.2; omega)
      have XP : Hid (0 < p.bs.length) := Lib.hid (by
        have s := size_of FF.out.w FF.out.h FF.out.fac k hkP
        obtain ⟨u1, u2⟩ := max_of FF.out.fac FF.out.n.1
        have v1 := upI_pos FF.out.w.1 (show 0 < 8 * maxH P.parts by omega)
        have v2 := upI_pos FF.out.h.1 (show 0 < 8 * maxV P.parts by omega)
        have e1 : 1 * 1 ≤ (P.parts[k]).h * upI P.w (8 * maxH P.parts) := Int.mul_le_mul FA.1.1 v1 (by omega) (by omega)
        have e2 : 1 * 1 ≤ (P.parts[k]).v * upI P.h (8 * maxV P.parts) := Int.mul_le_mul FA.2.1 v2 (by omega) (by omega)
        have h1 : 1 ≤ (sizeL P (k : Int)).1 := by rw [s]; omega
        have h2 : 1 ≤ (sizeL P (k : Int)).2 := by rw [s]; omega
        have h3 : 1 * 1 ≤ (sizeL P (k : Int)).1 * (sizeL P (k : Int)).2 := Int.mul_le_mul h1 h2 (by omega) (by omega)
        have h4 := SZ.2.2.1
        omega)
      obtain ⟨xb, xc, rfl, hxb1, hxb2⟩ := BK.out.got XP.out
      have WB : Hid (1 ≤ wN ∧ wN ≤ 140737488351232) := Lib.hid (by
        have h1 := szL_in P (k : Int)
        refine ⟨?_, by omega⟩
        rcases Nat.eq_zero_or_pos wN with h0 | h0
        · have h2 := XL.out
          rw [h0, Nat.mul_zero] at h2
          have := XP.out
          omega
        · exact h0)
      rw [hwN] at m4
      rw [hhN] at m5
      obtain ⟨xn, hxn⟩ : ∃ z, p.bs.length = z := ⟨_, rfl⟩
      have HXN := Lib.hid hxn
      rw [hxn] at BK m6 XL X65 XP
      have HWN := Lib.hid hwN
      have HHN := Lib.hid hhN
      have HKR := Lib.hid hkr
      have HPX : Hid (∀ h : k < rs'.length, rs'[k]'h = (p, .slice (some ⟨xb, 0, none⟩) xn xc)) := Lib.hid (fun h => by rw [hpx, hxn])
      have HPP : Hid (∀ h : k < P.parts.length, P.parts[k]'h = p) := Lib.hid (fun h => hpp)
      have KN := Lib.hid hkn
      clear hkn hkr hkP hpx hpp SZ FA hwN hhN hxb1 hxb2 hxn
      go_upto_region 5 with (fail)
      have hd := (Below.refl wr.heap.size wr).drew
      have CC0 : (fun X => X.cell? ⟨g, k * 7 + 6, none⟩ = some (.slice (some ⟨xb, 0, none⟩) xn xc) ∧ X.cell? ⟨g, k * 7 + 4, none⟩ = some (.int .i64 (wN : Int)) ∧ Below wr.heap.size wr X) wr.drew := ⟨cell_old hd m6, cell_old hd m4, hd⟩
      refine wp_region_mix (fun X => X.cell? ⟨g, k * 7 + 6, none⟩ = some (.slice (some ⟨xb, 0, none⟩) xn xc) ∧ X.cell? ⟨g, k * 7 + 4, none⟩ = some (.int .i64 (wN : Int)) ∧ Below wr.heap.size wr X) [true, true, true, true, true, true, true, true, false, false, true] (by kernel_rfl) (by kernel_rfl) CC0 (fun hC0 => ?_)
      clear CC0 hd m0 m1 m2 m3 m4 m5 m6 a0 a1 a2 a3 a4 a5 a6 a7 a8
      repeat
        (refine mix_take ?_
         apply Exists.intro
         refine ⟨Or.inl ⟨by rfl, fun X hX => ?_⟩, ?_⟩
         · obtain ⟨y6, y4, -⟩ := hX
           go_simp
           exact rfl
         simp only [Act.put, List.setIfInBounds_toArray, List.set_cons_zero, List.set_cons_succ])
      have C0 := Lib.hid hC0
      clear hC0
      have HH1 : Hid (1 ≤ hN ∧ hN ≤ 65536) := Lib.hid (by
        have h1 := XL.out
        have h2 := XP.out
        rcases Nat.eq_zero_or_pos hN with h0 | h0
        · rw [h0, Nat.zero_mul] at h1; omega
        · refine ⟨h0, ?_⟩
          have h3 : hN * 1 ≤ hN * wN := Nat.mul_le_mul_left _ WB.out.1
          have := X65.out
          omega)
      obtain ⟨M, hM⟩ : ∃ M, wr.drew.heap.size = M := ⟨_, rfl⟩
      have BKD := Lib.hid (BK.out.old (Below.refl wr.heap.size wr).drew)
      refine mix_step (fun K hK => ?_)
      rw [if_pos (by rfl)]
      go_wp2_with (go_at_call 66; refine (chunkK_any (some ⟨xb, 0, none⟩) xn xc wN wr.drew WB.out.1).mono ?_; rintro e x1 ⟨rfl, hx1⟩; have HX1 := Lib.hid hx1; clear hx1)
      have hx1 := HX1.out
      have b1' : Below M wr.drew x1 := by rw [hx1, ← hM]; exact ((Below.refl _ _).alloc (Nat.le_refl _) _).alloc (by simp) _
      have Y1 : Hid (Boxed x1 M 68 (.slice (some ⟨xb, 0, none⟩) (hN * wN) xc)) := Lib.hid (by
        rw [hx1, ← hM, ← XL.out]; exact (Boxed.new wr.drew _ _).alloc _)
      have Y2 : Hid (Boxed x1 (M + 1) 3 (.int .i64 (wN : Nat))) := Lib.hid (by
        rw [hx1]
        have h := Boxed.new (wr.drew.alloc (.cells #[.slice (some ⟨xb, 0, none⟩) xn xc] 68)) 3 (.int .i64 (wN : Nat))
        rw [World.size_alloc, hM] at h
        exact h)
      have C1 : Hid (x1.cell? ⟨g, k * 7 + 6, none⟩ = some (.slice (some ⟨xb, 0, none⟩) xn xc) ∧ x1.cell? ⟨g, k * 7 + 4, none⟩ = some (.int .i64 (wN : Int)) ∧ Below wr.heap.size wr x1) := Lib.hid (by
        have hb : Below wr.drew.heap.size wr.drew x1 := by rw [hM]; exact b1'
        exact ⟨cell_old hb C0.out.1, cell_old hb C0.out.2.1, C0.out.2.2.trans (hb.mono C0.out.2.2.size)⟩)
      have BK1 := Lib.hid (BKD.out.old (by rw [hM]; exact b1'))
      refine hK.out _ _ C1.out (fun _ => ?_)
      clear hK K hx1 HX1 b1' BKD
      try simp only [Act.put, List.setIfInBounds_toArray, List.set_cons_zero, List.set_cons_succ]
      have CO := Lib.hid (collectK M (M + 1) xb wN hN xc x1 WB.out.1 (by rw [← XL.out]; have := X65.out; omega) HH1.out.2 WB.out.2 Y1.out Y2.out (by
        obtain ⟨_, a, c, he, hc, _⟩ := BK1.out.bks.range
        rw [HXN.out] at he hc
        simp only [Value.slice.injEq] at he
        rw [← XL.out, he.2.2]
        exact hc))
      refine mix_step (fun K hK => ?_)
      rw [if_pos (by rfl)]
      go_wp2_with (go_at_call 68; refine CO.out.mono ?_; rintro e x2 ⟨v2, rfl, ho2, hb2⟩)
      have C2 : Hid (x2.cell? ⟨g, k * 7 + 6, none⟩ = some (.slice (some ⟨xb, 0, none⟩) xn xc) ∧ x2.cell? ⟨g, k * 7 + 4, none⟩ = some (.int .i64 (wN : Int)) ∧ Below wr.heap.size wr x2) := Lib.hid ⟨cell_old hb2 C1.out.1, cell_old hb2 C1.out.2.1, C1.out.2.2.trans (hb2.mono C1.out.2.2.size)⟩
      have BK2 := Lib.hid (BK1.out.old hb2)
      refine hK.out _ _ C2.out (fun _ => ?_)
      obtain ⟨gr, gc, rfl, hgr1, hgr2, _, _⟩ := owns_shape ho2 (by have := HH1.out; omega) (by decide)
      have O2 : Hid (x2.ownsRow base 68 1 _ hN (chVs xb wN hN)) := Lib.hid (World.ownsRow.mono ho2 (by have := C1.out.2.2.size; have := FI.out.lt; have := BB.out; omega))
      have PT2 := Lib.hid (PT.out.hi (keepHi_below C2.out.2.2))
      have FI2 := Lib.hid (FI.out.old C2.out.2.2 BB.out)
      clear hK K ho2 hb2 Y1 Y2 BK1 C0 C1 hM
      try simp only [Act.put, List.setIfInBounds_toArray, List.set_cons_zero, List.set_cons_succ]
      refine mix_take ?_
      apply Exists.intro
      refine ⟨Or.inl ⟨by rfl, fun X hX => ?_⟩, ?_⟩
      · go_simp
        exact rfl
      simp only [Act.put, List.setIfInBounds_toArray, List.set_cons_zero, List.set_cons_succ]
      refine mix_done ?_
      have RV := Lib.hid (revS_any base gr hN gc xb wN x2 O2.out HH1.out.2)
      go_wp2_with fail
      refine RV.out.mono ?_
      rintro e x3 ⟨⟨rv, rfl⟩, ho3, hg3⟩
      have PT3 := Lib.hid (PT2.out.ty (keepTy_grown O2.out hg3) (by decide) (by decide))
      have FI3 := Lib.hid (FI2.out.ty (keepTy_grown O2.out hg3) (grown_below hg3 (by have := FI2.out.lt; have := BB.out; omega) (fun b hb => (O2.out.lt b hb).1)) (by decide) (by decide) (by decide) (by decide))
      have BK3 : Hid (BkO base x3 (.slice (some ⟨xb, 0, none⟩) xn xc) p.bs) := Lib.hid ⟨owns_ty BK2.out.row (keepTy_grown O2.out hg3) (by decide), BK2.out.all⟩
      have O3 := Lib.hid ho3
      clear ho3 hg3
      have CN := Lib.hid (concatK base base gr hN gc xb xc wN xn p.bs x3 O3.out BK3.out (by rw [HXN.out]; exact XL.out) WB.out.1 HH1.out.1 (by rw [HXN.out]; exact X65.out))
      go_wp2_with fail
      refine CN.out.mono ?_
      rintro e x4 ⟨v4, rfl, ho4, hb4⟩
      obtain ⟨fr, hfr⟩ : ∃ z, opR wN hN p.bs = z := ⟨_, rfl⟩
      have FRE := Lib.hid hfr
      have FLR : Hid (fr.length = xn) := Lib.hid (by rw [← hfr]; simp [opR, HXN.out])
      rw [hfr] at ho4
      obtain ⟨eb, ec, rfl, heb1, heb2⟩ := ho4.got (by rw [FLR.out]; exact XP.out)
      rw [FLR.out] at ho4 ⊢
      have PT4 := Lib.hid (PT3.out.hi (keepHi_below hb4))
      have FI4 := Lib.hid (FI3.out.old hb4 BB.out)
      have NEW : Hid (BkO base x4 (.slice (some ⟨eb, 0, none⟩) xn ec) (mapTo (blockL 2) fr 0)) := Lib.hid (by
        rw [mapTo_zero]
        exact ho4.mono (by have := FI3.out.lt; have := BB.out; omega))
      have FRESH : Hid (∀ q ∈ rs', (q.2.ownBlock = none ∨ q.2.ownBlock ≠ (Value.slice (some ⟨eb, 0, none⟩) xn ec).ownBlock) ∧ ((Value.slice (some ⟨eb, 0, none⟩) xn ec).ownBlock = none ∨ (Value.slice (some ⟨eb, 0, none⟩) xn ec).ownBlock ≠ q.2.ownBlock)) := Lib.hid (fun q hq => by
        have h := owns_new (PT3.out.bk q hq).row (T := eb) heb1
        refine ⟨h, .inr (fun e => ?_)⟩
        rcases h with h | h
        · rw [h] at e; simp [Value.ownBlock] at e
        · exact h e.symm)
      have HG : Hid (base ≤ g) := Lib.hid PT4.out.heap.1
      have z6 := PT4.out.frozen (k * 7 + 6)
      have z7 : x4.cell? ⟨g, k * 7 + 6, none⟩ = some (.slice (some ⟨xb, 0, none⟩) xn xc) := by
        have h := (PT4.out.cellAt HN2.out k HKR.out).2.2.2.2.2.2
        rw [HPX.out HKR.out] at h
        exact h
      obtain ⟨C9, hC9⟩ := PT4.out.heap.2.2
      obtain ⟨y1, hy1⟩ : ∃ y1, x4.setCell ⟨g, k * 7 + 6, none⟩ (.slice (some ⟨eb, 0, none⟩) xn ec) = y1 := ⟨_, rfl⟩
      have P1 : Hid (PtO base y1 (.slice (some ⟨g, 0, none⟩) n dp) (rs'.set k ({ p with bs := mapTo (blockL 2) fr 0 }, .slice (some ⟨eb, 0, none⟩) xn ec))) := Lib.hid (by
        rw [← hy1]
        have h := PT4.out.setB HN2.out k HKR.out (.slice (some ⟨eb, 0, none⟩) xn ec) (mapTo (blockL 2) fr 0) (by rw [mapTo_len, FLR.out]; have := X65.out; omega) NEW.out FRESH.out
        rw [HPX.out HKR.out] at h
        exact h)
      have I1 : Hid (FlI base w B P (.slice b0 n0 d0) (.slice b1 n1 d1) (.slice b2 n2 d2) (.slice b3 n3 d3) (.slice (some ⟨g, 0, none⟩) n dp) (.slice ba na da) ss y1) := Lib.hid (by
        rw [← hy1]
        exact FI4.out.ty (keepTy_set hC9) (below_at HG.out) (by decide) (by decide) (by decide) (by decide))
      have RK : Hid (∀ (bs' : List (List Int)) (h : k < (rs'.set k ({ p with bs := bs' }, (.slice (some ⟨eb, 0, none⟩) xn ec : Value))).length), (rs'.set k ({ p with bs := bs' }, (.slice (some ⟨eb, 0, none⟩) xn ec : Value)))[k]'h = ({ p with bs := bs' }, .slice (some ⟨eb, 0, none⟩) xn ec)) := Lib.hid (fun bs' h => by rw [List.getElem_set_self])
      have RKL : Hid (∀ bs' : List (List Int), k < (rs'.set k ({ p with bs := bs' }, (.slice (some ⟨eb, 0, none⟩) xn ec : Value))).length) := Lib.hid (fun bs' => by rw [List.length_set]; exact HKR.out)
      have NX : Hid (∀ (bs bs' : List (List Int)) (X Y : World), PtO base X (.slice (some ⟨g, 0, none⟩) n dp) (rs'.set k ({ p with bs := bs }, .slice (some ⟨eb, 0, none⟩) xn ec)) ∧ FlI base w B P (.slice b0 n0 d0) (.slice b1 n1 d1) (.slice b2 n2 d2) (.slice b3 n3 d3) (.slice (some ⟨g, 0, none⟩) n dp) (.slice ba na da) ss X →
          bs'.length = xn → BkO base Y (.slice (some ⟨eb, 0, none⟩) xn ec) bs' → X.grownBy Y (some eb) → PtO base Y (.slice (some ⟨g, 0, none⟩) n dp) (rs'.set k ({ p with bs := bs' }, .slice (some ⟨eb, 0, none⟩) xn ec)) ∧ FlI base w B P (.slice b0 n0 d0) (.slice b1 n1 d1) (.slice b2 n2 d2) (.slice b3 n3 d3) (.slice (some ⟨g, 0, none⟩) n dp) (.slice ba na da) ss Y) := Lib.hid (fun bs bs' X Y h hl hx hg => by
        have hk := RKL.out bs
        have h2 := h.1.inPlace k hk bs' (by rw [hl]; have := X65.out; omega) (by rw [RK.out]; exact hx) (by rw [RK.out]; exact hg)
        have hrow := (h.1.bk _ (List.getElem_mem hk)).row
        rw [RK.out, List.set_set] at h2
        rw [RK.out] at hrow
        exact ⟨h2, h.2.ty (keepTy_grown hrow hg) (grown_below hg (by have := h.2.lt; have := BB.out; omega) (fun b hb => (hrow.lt b hb).1)) (by decide) (by decide) (by decide) (by decide)⟩)
      clear ho4 hb4 heb1 heb2 NEW FRESH FI4 FI3 FI2 FI PT PT2 PT3 BK2 BK3 O2 O3 CN RV CO C2 BK hfr
      go_upto_region 8 with (fail)
      clear z6 z7 hC9 hy1 PT4
      have t6 := (P1.out.cellAt (by rw [List.length_set]; exact HN2.out) k (RKL.out _)).2.2.2.2.2.2
      rw [RK.out] at t6
      simp only at t6
      go_wp2_with fail
      clear t6
      go_loopw [40] (fun i W => ∃ y : Nat, y ≤ xn ∧ i = .int .i64 (y : Nat) ∧ PtO base W (.slice (some ⟨g, 0, none⟩) n dp) (rs'.set k ({ p with bs := mapTo (blockL 2) fr y }, .slice (some ⟨eb, 0, none⟩) xn ec)) ∧ FlI base w B P (.slice b0 n0 d0) (.slice b1 n1 d1) (.slice b2 n2 d2) (.slice b3 n3 d3) (.slice (some ⟨g, 0, none⟩) n dp) (.slice ba na da) ss W) (fun i _ => xn - (intOf i).toNat)
      case atStart => exact ⟨0, Nat.zero_le _, rfl, P1.out, I1.out⟩
      case round =>
        clear P1 I1
        obtain ⟨y, hy, rfl, hrc⟩ := hrel
        have RC := Lib.hid hrc
        clear hrc
        by_cases hyn : y < xn
        · have l1 : decide ((y : Int) < (xn : Int)) = true := by rw [decide_eq_true_eq]; omega
          have l1' : decide (y < xn) = true := by rw [decide_eq_true_eq]; omega
          have l2 : (y : Int) < (xn : Int) := by omega
          have GY := Lib.hid (step_wrap y xn hyn (Nat.le_trans X65.out (by decide)))
          have BK : Hid (BkO base wr (.slice (some ⟨eb, 0, none⟩) xn ec) (mapTo (blockL 2) fr y)) := Lib.hid (by
            have h := RC.out.1.bk _ (List.getElem_mem (RKL.out _))
            rw [RK.out] at h
            exact h)
          have hyb : y < fr.length := by rw [FLR.out]; exact hyn
          have hym : y < (mapTo (blockL 2) fr y).length := by rw [mapTo_len]; exact hyb
          have hrx := BK.out.range y hym
          have hcc := BK.out.all.at y hym
          obtain ⟨_, hat⟩ := mapTo_at (blockL 2) fr y hyb
          rw [hat] at hrx hcc
          obtain ⟨cb, hcb⟩ : ∃ cb, fr[y] = cb := ⟨_, rfl⟩
          rw [hcb] at hrx hcc
          have CB := Lib.hid hcc
          have RX := Lib.hid hrx
          have STEP : Hid (mapTo (blockL 2) fr (y + 1) = (mapTo (blockL 2) fr y).set y (blockL 2 cb)) := Lib.hid (by rw [← hcb]; exact mapTo_succ _ fr y hyb)
          have HI : Hid ((Try.prog.info? 23).map (·.size) = some (vIs cb).length) := Lib.hid (by rw [vIs_length, CB.out.1]; kernel_rfl)
          have HIA : Hid ((Try.prog.info? 23).map (·.size) = some (vIs cb).toArray.size) := Lib.hid (by have := HI.out; simpa using this)
          have HOA : Hid ((vIs cb).toArray.all (·.oneCell') = true) := Lib.hid (all_oneCell_toArray (vIs_one cb))
          have HYN := Lib.hid hyn
          have HYM := Lib.hid hym
          clear hrx hcc hcb hat hyb hyn hym
          go_wp2_with (refine wpList_load_mid rfl _ _ rfl eb (y * 64) rfl (vIs cb) _ RX.out Try.underlying23 rfl HI.out ?_; refine stop ?_)
          refine unstop ?_
          go_wp2_with (refine wpList_store_row rfl _ _ _ rfl wr.heap.size (vIs cb).toArray rfl rfl 23 _ (heap_alloc_new _ _) HIA.out (by simp [vIs, CB.out.1]) HOA.out ?_; refine stop ?_)
          refine unstop ?_
          generalize hZ : World.setRow _ wr.heap.size (vIs cb).toArray = Z1
          have HZ1 : Hid (Z1.heap[wr.heap.size]? = some (.cells (vIs cb).toArray 23 (0, 0))) := Lib.hid (by rw [← hZ]; exact setRow_heap _ _ _ _ _ _ (heap_alloc_new _ _))
          have BZ1 : Hid (Below wr.heap.size wr Z1) := Lib.hid (by rw [← hZ]; exact below_setRow ((Below.refl _ _).alloc (Nat.le_refl _) _) (Nat.le_refl _) _)
          obtain ⟨N, hN2⟩ : ∃ N, wr.heap.size = N := ⟨_, rfl⟩
          have HNN := Lib.hid hN2
          rw [hN2] at HZ1
          rw [hN2]
          clear hZ
          go_upto_region 11 with (fail)
          have RZ := Lib.hid (And.intro (RC.out.1.hi (keepHi_below BZ1.out)) (RC.out.2.old BZ1.out BB.out))
          have t6 := (RZ.out.1.cellAt (by rw [List.length_set]; exact HN2.out) k (RKL.out _)).2.2.2.2.2.2
          rw [RK.out] at t6
          simp only at t6
          have hd := (Below.refl Z1.heap.size Z1).drew
          have CC0 : (fun X => X.cell? ⟨g, k * 7 + 6, none⟩ = some (.slice (some ⟨eb, 0, none⟩) xn ec) ∧ X.rangeAt N 0 (vIs cb) ∧ Below Z1.heap.size Z1 X) Z1.drew := ⟨cell_old hd t6, fun j v hj => by rw [Nat.zero_add]; exact cell_old hd (by rw [cell_of_row _ _ j _ _ _ HZ1.out]; simpa using hj), hd⟩
          refine wp_region_last (fun X => X.cell? ⟨g, k * 7 + 6, none⟩ = some (.slice (some ⟨eb, 0, none⟩) xn ec) ∧ X.rangeAt N 0 (vIs cb) ∧ Below Z1.heap.size Z1 X) 8 9 [(0, true), (1, true), (2, true), (3, true), (4, true), (5, true), (6, false), (7, true)] (by kernel_rfl) (by kernel_rfl) CC0 (fun hC0 => ?_)
          clear CC0 hd t6
          have CCD := Lib.hid hC0
          clear hC0 hN2
          iterate 5
            (refine last_take rfl ?_
             apply Exists.intro
             refine ⟨Or.inl ⟨by rfl, fun X hX => ?_⟩, ?_⟩
             · obtain ⟨y6, -, -⟩ := hX
               go_simp
               exact rfl
             simp only [Act.put, List.setIfInBounds_toArray, List.set_cons_zero, List.set_cons_succ])
          refine last_take rfl ?_
          refine ⟨_, yieldsIf_load_mid (by rfl) _ _ rfl N 0 rfl (vIs cb) _ (fun X hX => hX.2.1) Try.underlying23 rfl HI.out, ?_⟩
          simp only [Act.put, List.setIfInBounds_toArray, List.set_cons_zero, List.set_cons_succ]
          refine last_step rfl (fun K hK => ?_)
          rw [if_pos (by rfl)]
          go_wp2_with (go_at_call 10; refine (block_any cb 2 _ CB.out.1).mono ?_; rintro e w6 ⟨rfl, hb6⟩)
          have CC6 := Lib.hid (show Below Z1.heap.size Z1 w6 from CCD.out.2.2.trans (hb6.mono CCD.out.2.2.size))
          have t6 : w6.cell? ⟨g, k * 7 + 6, none⟩ = some (.slice (some ⟨eb, 0, none⟩) xn ec) := cell_old hb6 CCD.out.1
          have CC7 : Hid (w6.cell? ⟨g, k * 7 + 6, none⟩ = some (.slice (some ⟨eb, 0, none⟩) xn ec) ∧ w6.rangeAt N 0 (vIs cb) ∧ Below Z1.heap.size Z1 w6) := Lib.hid ⟨t6, range_old hb6 CCD.out.2.1, CC6.out⟩
          refine hK.out _ _ CC7.out (fun _ => ?_)
          clear hK K hb6 t6
          try simp only [Act.put, List.setIfInBounds_toArray, List.set_cons_zero, List.set_cons_succ]
          refine last_take rfl ?_
          apply Exists.intro
          refine ⟨Or.inl ⟨by rfl, fun X hX => ?_⟩, ?_⟩
          · obtain ⟨y6, -, -⟩ := hX
            go_simp
            exact rfl
          simp only [Act.put, List.setIfInBounds_toArray, List.set_cons_zero, List.set_cons_succ]
          have R6 := Lib.hid (And.intro (RZ.out.1.hi (keepHi_below CC6.out)) (RZ.out.2.old CC6.out BB.out))
          have BM6 : Hid (BkO base w6 (.slice (some ⟨eb, 0, none⟩) xn ec) (mapTo (blockL 2) fr y)) := Lib.hid (by
            have h := R6.out.1.bk _ (List.getElem_mem (RKL.out _))
            rw [RK.out] at h
            exact h)
          have B64 : Hid (Blk64 (blockL 2 cb)) := Lib.hid (blk_turned 2 CB.out)
          have TH := Lib.hid (BM6.out.there y HYM.out)
          have HI6 : Hid ((Try.prog.info? 23).map (·.size) = some (vIs (blockL 2 cb)).toArray.size) := Lib.hid (info64 _ (blockL_len 2 cb))
          have TH2 : Hid (w6.there eb (y * 64) (vIs (blockL 2 cb)).toArray.size) := Lib.hid (by
            have e : (vIs (blockL 2 cb)).toArray.size = 64 := by simp [vIs_length, blockL_len]
            rw [e]
            exact TH.out)
          have H16 : Hid ((vIs (blockL 2 cb)).toArray.all (·.oneCell') = true) := Lib.hid (all_oneCell_toArray (vIs_one _))
          refine last_done rfl (fun K hK => ?_)
          rw [if_pos (by rfl)]
          refine wp_store_mid _ _ _ rfl eb (y * 64) (vIs (blockL 2 cb)).toArray rfl rfl TH2.out HI6.out H16.out ?_
          refine hK.out _ _ ?_
          clear hK K
          obtain ⟨W9, hW9⟩ : ∃ W9, w6.setCells eb (y * 64) (vIs (blockL 2 cb)).toArray.toList = W9 := ⟨_, rfl⟩
          rw [hW9]
          have hst := BM6.out.stored y HYM.out B64.out
          have hW9' : w6.setCells eb (y * 64) (vIs (blockL 2 cb)) = W9 := hW9
          rw [hW9', ← STEP.out] at hst
          have R9 := Lib.hid (NX.out _ (mapTo (blockL 2) fr (y + 1)) _ W9 R6.out (by rw [mapTo_len]; exact FLR.out) hst.1 hst.2)
          have gy := GY.out
          clear hst hW9 hW9'
          go_wp2_with fail
          go_roundw
          case rel => exact ⟨y + 1, HYN.out, by go_num, R9.out⟩
          case measure => simp [intOf]; have := HYN.out; omega
        · obtain rfl : y = xn := by omega
          have l1 : decide ((y : Int) < (y : Int)) = false := by rw [decide_eq_false_iff_not]; omega
          have gk := GK.out
          have EQ : Hid (({ p with bs := mapTo (blockL 2) fr y } : PartL) = flopPt p) := Lib.hid (by
            have h := mapTo_full (blockL 2) fr
            rw [FLR.out] at h
            unfold flopPt opB
            rw [HWN.out, HHN.out, Int.toNat_natCast, Int.toNat_natCast, FRE.out, h])
          have MAP : Hid ((rs'.set k (flopPt p, (.slice (some ⟨eb, 0, none⟩) y ec : Value))).map (·.1) = (P.parts.take (k + 1)).map flopPt ++ P.parts.drop (k + 1)) := Lib.hid (by
            have hkP : k < P.parts.length := by rw [HNP.out]; exact KN.out
            rw [List.map_set, MP.out, List.set_append_right _ _ (by rw [List.length_map, List.length_take]; omega), List.length_map, List.length_take, Nat.min_eq_left (by omega), Nat.sub_self, List.drop_eq_getElem_cons hkP, List.take_succ_eq_append_getElem hkP, List.map_append, HPP.out hkP, List.append_assoc]
            rfl)
          rw [EQ.out] at RC
          clear hy
          go_wp2_with fail
          go_roundw
          case rel => exact ⟨k + 1, _, KN.out, by go_num, MAP.out, RC.out.1, RC.out.2⟩
          case measure => simp [intOf]; have := KN.out; omega
    · obtain rfl : k = n := by omega
      have f1 : decide ((k : Int) < (k : Int)) = false := by rw [decide_eq_false_iff_not]; omega
      have DM : Hid (rs'.map (·.1) = (flopP P).parts) := Lib.hid (by
        rw [MP.out, List.take_of_length_le (by rw [HNP.out]; exact Nat.le_refl _), List.drop_of_length_le (by rw [HNP.out]; exact Nat.le_refl _), List.append_nil]
        rfl)
      have ZB := Lib.hid FI.out.z
      have H1 : Hid ((#[.int .i64 P.w, .int .i64 P.h, .slice b0 n0 d0, .slice b1 n1 d1, .slice b2 n2 d2, .slice b3 n3 d3, .slice (some ⟨g, 0, none⟩) k dp, .int .i64 P.restart, .slice ba na da] : Array Value).all (·.oneCell') = true) := Lib.hid (by kernel_rfl)
      have HI : Hid ((Try.prog.info? 36).map (·.size) = some 9) := Lib.hid (by kernel_rfl)
      go_wp2_with (refine wpList_store_row rfl _ _ _ rfl (B + 1) #[.int .i64 P.w, .int .i64 P.h, .slice b0 n0 d0, .slice b1 n1 d1, .slice b2 n2 d2, .slice b3 n3 d3, .slice (some ⟨g, 0, none⟩) k dp, .int .i64 P.restart, .slice ba na da] rfl rfl 36 _ ZB.out HI.out rfl H1.out ?_)
      obtain ⟨wE, hE⟩ : ∃ wE, wr.setRow (B + 1) #[.int .i64 P.w, .int .i64 P.h, .slice b0 n0 d0, .slice b1 n1 d1, .slice b2 n2 d2, .slice b3 n3 d3, .slice (some ⟨g, 0, none⟩) k dp, .int .i64 P.restart, .slice ba na da] = wE := ⟨_, rfl⟩
      have PO : Hid (PicO base wr (flopP P) (.slice b0 n0 d0) (.slice b1 n1 d1) (.slice b2 n2 d2) (.slice b3 n3 d3) (.slice (some ⟨g, 0, none⟩) k dp) (.slice ba na da)) := Lib.hid ⟨FI.out.n0, FI.out.n1, FI.out.n2, FI.out.n3, ⟨rs', DM.out, PT.out⟩, ⟨ss, HSS.out, FI.out.sg⟩⟩
      have PE := Lib.hid (show PicO base wE (flopP P) (.slice b0 n0 d0) (.slice b1 n1 d1) (.slice b2 n2 d2) (.slice b3 n3 d3) (.slice (some ⟨g, 0, none⟩) k dp) (.slice ba na da) by rw [← hE]; exact PO.out.ty (keepTy_row ZB.out) (by decide) (by decide) (by decide) (by decide) (by decide))
      have BE : Hid (Below base w wE) := Lib.hid (by rw [← hE]; exact below_setRow FI.out.l (by have := BB.out; omega) _)
      have KE : Hid (KeepN w wE) := Lib.hid (by rw [← hE]; exact FI.out.kp.row (by have := HB.out; omega))
      have BX : PBox wE (B + 1) P (.slice b0 n0 d0) (.slice b1 n1 d1) (.slice b2 n2 d2) (.slice b3 n3 d3) (.slice (some ⟨g, 0, none⟩) k dp) (.slice ba na da) := by unfold PBox; rw [← hE]; exact setRow_heap _ _ _ _ _ _ ZB.out
      rw [hE]
      clear hE a0 a1 a2 a3 a4 a5 a6 a7 a8
      obtain ⟨r0, r1, r2, r3, r4, r5, r6, r7, r8⟩ := BX.cells
      refine bodyPost_ret (v := .agg (vPic P (.slice b0 n0 d0) (.slice b1 n1 d1) (.slice b2 n2 d2) (.slice b3 n3 d3) (.slice (some ⟨g, 0, none⟩) k dp) (.slice ba na da))) (by unfold vPic; simp [results, Try.results48, go_sem, r0, r1, r2, r3, r4, r5, r6, r7, r8]; try rfl) rfl ⟨rfl, PE.out, BE.out, KE.out⟩
end Go.Proofs.Ytnhalnjdlkdnkaa
