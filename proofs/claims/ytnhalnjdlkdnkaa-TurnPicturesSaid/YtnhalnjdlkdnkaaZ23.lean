/- turn.flip walked. By an AI agent. -/
import Derived.Test.YtnhalnjdlkdnkaaZ22
namespace Go.Proofs.Ytnhalnjdlkdnkaa
open Go.RowKit Go.BigFrame
set_option linter.unusedVariables false
set_option linter.unusedSimpArgs false
set_option maxRecDepth 20000
attribute [local go_sem] Oper.semAt_some

theorem owns_low {base L : Nat} {W W' : World} {e : TypeId} {size : Nat} {v : Value} {n : Nat} {xs : List Value} (hr : W.ownsRow base e size v n xs) (hb : Below L W W') (hv : ∀ b, v.ownBlock = some b → b < L) : W'.ownsRow base e size v n xs := by
  refine ⟨hr.1, ?_⟩
  rcases hr.2 with h | ⟨g, cap, cur, rfl, hg, hc, hx⟩
  · exact .inl h
  · exact .inr ⟨g, cap, cur, rfl, hg, by rw [hb.block g (hv g rfl)]; exact hc, hx⟩
/-- what stays within a part's round -/
structure FlR (base : Nat) (w : World) (B : Nat) (P : PicL) (q0 q1 q2 q3 pv kv : Value) (ss : List ((Int × List UInt8) × Value)) (T U : Nat) (ds : List Deferred) (p : PartL) (xv : Value) (rs1 : List (PartL × Value)) (X : World) : Prop where
  pt : PtO base X pv rs1
  fi : FlI base w B P q0 q1 q2 q3 pv kv ss X
  pb : PtB X T p xv
  mks : Marks (B + 2) X ds U
  lt : U ≤ X.heap.size
  tu : B + 2 ≤ T ∧ T < U
theorem FlR.low {base : Nat} {w : World} {B : Nat} {P : PicL} {q0 q1 q2 q3 pv kv : Value} {ss : List ((Int × List UInt8) × Value)} {T U : Nat} {ds : List Deferred} {p : PartL} {xv : Value} {rs1 : List (PartL × Value)} {X Y : World}
    (h : FlR base w B P q0 q1 q2 q3 pv kv ss T U ds p xv rs1 X) (hb : Below U X Y) (hB : base ≤ B ∧ w.heap.size = B) (hv : ∀ b, pv.ownBlock = some b → b < B) (hr : ∀ p ∈ rs1, ∀ b, p.2.ownBlock = some b → b < B)
    (hq : ∀ v ∈ [q0, q1, q2, q3, kv], ∀ b, v.ownBlock = some b → b < B) (hs : ∀ p ∈ ss, ∀ b, p.2.ownBlock = some b → b < B) : FlR base w B P q0 q1 q2 q3 pv kv ss T U ds p xv rs1 Y := by
  have h1 := h.tu
  refine ⟨h.pt.low U hb (fun b e => by have := hv b e; omega) (fun q hq b e => by have := hr q hq b e; omega), h.fi.low U hb (by omega) hB.1 (by omega) (fun v hv b e => by have := hq v hv b e; omega) (fun q hq b e => by have := hs q hq b e; omega), ?_, h.mks.same (fun j _ hj => hb.block j hj), Nat.le_trans h.lt hb.size, h.tu⟩
  unfold PtB
  rw [hb.block T h1.2]
  exact h.pb
theorem FlR.step {base : Nat} {w : World} {B : Nat} {P : PicL} {q0 q1 q2 q3 pv kv : Value} {ss : List ((Int × List UInt8) × Value)} {T U : Nat} {ds : List Deferred} {p : PartL} {xv : Value} {rs1 : List (PartL × Value)} {X Y : World}
    (h : FlR base w B P q0 q1 q2 q3 pv kv ss T U ds p xv rs1 X) (k : Nat) (hk : k < rs1.length) (bs : List (List Int)) (hok : bs.length ≤ 140737488351232) (hx : BkO base Y rs1[k].2 bs) (hg : X.grownBy Y rs1[k].2.ownBlock) (hr : ∀ b, rs1[k].2.ownBlock = some b → b < B) (hB : base ≤ B) :
    FlR base w B P q0 q1 q2 q3 pv kv ss T U ds p xv (rs1.set k ({ rs1[k].1 with bs := bs }, rs1[k].2)) Y := by
  have h1 := h.tu
  have hrow := (h.pt.bk _ (List.getElem_mem hk)).row
  refine ⟨h.pt.inPlace k hk bs hok hx hg, h.fi.ty (keepTy_grown hrow hg) (grown_below hg (by have := h.fi.lt; omega) (fun b hb => (hrow.lt b hb).1)) (by decide) (by decide) (by decide) (by decide), heap_grown hrow hg h.pb (by decide), h.mks.same (fun j hj1 hj => ?_), Nat.le_trans h.lt hg.size, h.tu⟩
  exact hg.block j (Nat.lt_of_lt_of_le hj h.lt) (fun e => by have := hr j e.symm; omega)

set_option maxHeartbeats 16000000 in
theorem flip_any (base : Nat) (P : PicL) (q0 q1 q2 q3 pv kv : Value) (w : World) (hp : PicO base w P q0 q1 q2 q3 pv kv) (hbase : base ≤ w.heap.size) (F : Fit P) :
    Calls Try.prog 47 #[.agg (vPic P q0 q1 q2 q3 pv kv)] w fun e w' => e = .returned (.agg (vPic (flipP P) q0 q1 q2 q3 pv kv)) ∧ PicO base w' (flipP P) q0 q1 q2 q3 pv kv ∧ Below base w w' ∧ KeepN w w' := by
  have HP := Lib.hid hp
  have FF := Lib.hid F
  have BS := Lib.hid hbase
  obtain ⟨b0, d0, rfl⟩ := hp.pic.q0.len
  obtain ⟨b1, d1, rfl⟩ := hp.pic.q1.len
  obtain ⟨b2, d2, rfl⟩ := hp.pic.q2.len
  obtain ⟨b3, d3, rfl⟩ := hp.pic.q3.len
  obtain ⟨ba, da, rfl, _⟩ := hp.pic.kept.len
  obtain ⟨rs, hrs, hpt⟩ := hp.parts
  obtain ⟨ss, hss, hsg⟩ := hp.kept
  obtain ⟨n, hn⟩ : ∃ z, P.parts.length = z := ⟨_, rfl⟩
  have N4 : Hid (1 ≤ n ∧ n ≤ 4) := Lib.hid (by rw [← hn]; exact F.n)
  have HN : Hid (rs.length = n) := Lib.hid (by rw [← hn, ← hrs]; simp)
  obtain ⟨g, dp, rfl, hg1, hg2, _, _⟩ := owns_shape hpt.row (by have := N4.out; have := HN.out; omega) (by decide)
  rw [HN.out] at hpt HP ⊢
  obtain ⟨n0, hn0⟩ : ∃ z, P.q0.length = z := ⟨_, rfl⟩
  obtain ⟨n1, hn1⟩ : ∃ z, P.q1.length = z := ⟨_, rfl⟩
  obtain ⟨n2, hn2⟩ : ∃ z, P.q2.length = z := ⟨_, rfl⟩
  obtain ⟨n3, hn3⟩ : ∃ z, P.q3.length = z := ⟨_, rfl⟩
  obtain ⟨na, hna⟩ : ∃ z, P.kept.length = z := ⟨_, rfl⟩
  rw [hn0, hn1, hn2, hn3, hna] at HP ⊢
  rw [hna] at hsg
  have HNP := Lib.hid hn
  have HRS := Lib.hid hrs
  have HSS := Lib.hid hss
  have PTW := Lib.hid hpt
  have SGW := Lib.hid hsg
  clear hn0 hn1 hn2 hn3 hna hn hp F hbase hrs hss hpt hsg hg1 hg2
  obtain ⟨w1, hw1⟩ : ∃ w1, (w.alloc (.cells (vPic P (.slice b0 n0 d0) (.slice b1 n1 d1) (.slice b2 n2 d2) (.slice b3 n3 d3) (.slice (some ⟨g, 0, none⟩) n dp) (.slice ba na da)) 36)).alloc (.cells zPic 36) = w1 := ⟨_, rfl⟩
  have B1 : Hid (Below w.heap.size w w1) := Lib.hid (by rw [← hw1]; exact ((Below.refl _ _).alloc (Nat.le_refl _) _).alloc (by simp) _)
  obtain ⟨B, hB⟩ : ∃ B, w.heap.size = B := ⟨_, rfl⟩
  have HB := Lib.hid hB
  have I1 : Hid (FlI base w B P (.slice b0 n0 d0) (.slice b1 n1 d1) (.slice b2 n2 d2) (.slice b3 n3 d3) (.slice (some ⟨g, 0, none⟩) n dp) (.slice ba na da) ss w1) := Lib.hid (by
    have hb := B1.out
    refine ⟨owns_below HP.out.q0 hb, owns_below HP.out.q1 hb, owns_below HP.out.q2 hb, owns_below HP.out.q3 hb, by rw [← hw1, ← hB]; exact heap_old (heap_alloc_new _ _), ?_, SGW.out.hi (keepHi_below hb), hb.mono BS.out, keepN_below hb⟩
    rw [← hw1, ← hB]
    have h := heap_alloc_new (w.alloc (.cells (vPic P (.slice b0 n0 d0) (.slice b1 n1 d1) (.slice b2 n2 d2) (.slice b3 n3 d3) (.slice (some ⟨g, 0, none⟩) n dp) (.slice ba na da)) 36)) (.cells zPic 36)
    rw [World.size_alloc] at h
    exact h)
  have P1 := Lib.hid (PTW.out.hi (keepHi_below B1.out))
  have S1 : Hid (w1.heap.size = B + 2) := Lib.hid (by rw [← hw1, ← hB]; simp)
  have LQ : Hid (∀ v ∈ [(.slice b0 n0 d0 : Value), .slice b1 n1 d1, .slice b2 n2 d2, .slice b3 n3 d3, .slice ba na da], ∀ b, v.ownBlock = some b → b < B) := Lib.hid (fun v hv b hb => by
    rw [← hB]
    simp only [List.mem_cons, List.not_mem_nil, or_false] at hv
    rcases hv with rfl | rfl | rfl | rfl | rfl
    · exact (HP.out.q0.lt b hb).2
    · exact (HP.out.q1.lt b hb).2
    · exact (HP.out.q2.lt b hb).2
    · exact (HP.out.q3.lt b hb).2
    · exact (SGW.out.row.lt b hb).2)
  have LS : Hid (∀ p ∈ ss, ∀ b, p.2.ownBlock = some b → b < B) := Lib.hid (fun p hp b hb => by rw [← hB]; exact ((SGW.out.dt p hp).lt b hb).2)
  have LP : Hid (∀ p ∈ rs, ∀ b, p.2.ownBlock = some b → b < B) := Lib.hid (fun p hp b hb => by rw [← hB]; exact ((PTW.out.bk p hp).row.lt b hb).2)
  have LG : Hid (g < B) := Lib.hid (by rw [← hB]; exact PTW.out.heap.2.1)
  have BB : Hid (base ≤ B) := Lib.hid (by rw [← hB]; exact BS.out)
  obtain ⟨a0, a1, a2, a3, a4, a5, a6, a7, a8⟩ := I1.out.box.cells
  unfold vPic zPic at hw1

  refine (callsIn_wide (n := 6)).1 ?_
  unfold vPic
  refine callsIn_of_wp_marks Try.func47 rfl trivial ?_ rfl
  simp only [Try.ntmps47, List.size_toArray, List.length_cons, List.length_nil, Nat.reduceAdd, Nat.reduceSub, Array.replicate_succ, Array.replicate_zero, List.push_toArray, List.append_toArray, List.nil_append, List.cons_append]
  refine wpIn_wide.2 ?_
  go_wp2_with fail
  refine wp_loop (fun a' W => ∃ (s4 s5 s6 s7 s12 s13 s14 s15 s16 s17 s18 s19 s20 s21 s22 s23 s24 s25 s26 s27 s28 s29 s30 s31 s32 s33 s34 s35 s36 s37 s38 : Value) (k : Nat) (ds : List Deferred) (rs' : List (PartL × Value)), a' = { tmps := #[.agg #[.int .i64 P.w, .int .i64 P.h, .slice b0 n0 d0, .slice b1 n1 d1, .slice b2 n2 d2, .slice b3 n3 d3, .slice (some ⟨g, 0, none⟩) n dp, .int .i64 P.restart, .slice ba na da], .pointer (some ⟨B, 0, none⟩), .pointer (some ⟨B + 1, 0, none⟩), undef, s4, s5, s6, s7, .pointer (some ⟨B, 6, none⟩), .slice (some ⟨g, 0, none⟩) n dp, .int .i64 (n : Int), .int .i64 (k : Int), s12, s13, s14, s15, s16, s17, s18, s19, s20, s21, s22, s23, s24, s25, s26, s27, s28, s29, s30, s31, s32, s33, s34, s35, s36, s37, s38, undef], defers := ds } ∧ k ≤ n ∧ rs'.map (·.1) = (P.parts.take k).map flipPt ++ P.parts.drop k ∧ PtO base W (.slice (some ⟨g, 0, none⟩) n dp) rs' ∧ (∀ p ∈ rs', ∀ b, p.2.ownBlock = some b → b < B) ∧ FlI base w B P (.slice b0 n0 d0) (.slice b1 n1 d1) (.slice b2 n2 d2) (.slice b3 n3 d3) (.slice (some ⟨g, 0, none⟩) n dp) (.slice ba na da) ss W ∧ Marks (B + 2) W ds W.heap.size) (fun a' _ => n - (intOf (a'.tmps.getD 11 undef)).toNat) ?start ?round
  case start => exact ⟨_, _, _, _, _, _, _, _, _, _, _, _, _, _, _, _, _, _, _, _, _, _, _, _, _, _, _, _, _, _, _, 0, [], rs, rfl, Nat.zero_le _, by rw [HRS.out]; rfl, P1.out, LP.out, I1.out, trivial⟩
  case round =>
    clear I1 P1 S1 B1 a0 a1 a2 a3 a4 a5 a6 a7 a8
    rintro a' W0 ⟨s4, s5, s6, s7, s12, s13, s14, s15, s16, s17, s18, s19, s20, s21, s22, s23, s24, s25, s26, s27, s28, s29, s30, s31, s32, s33, s34, s35, s36, s37, s38, k, ds, rs', rfl, hk, hmap, hpt, hlo, hfi, hmk⟩
    have PT := Lib.hid hpt
    have FI := Lib.hid hfi
    have MP := Lib.hid hmap
    have LO := Lib.hid hlo
    have MK := Lib.hid hmk
    have HN2 : Hid (rs'.length = n) := Lib.hid (by
      have h := congrArg List.length hmap
      rw [List.length_map, List.length_append, List.length_map, List.length_take, List.length_drop, HNP.out] at h
      omega)
    clear hpt hfi hmap hlo hmk
    by_cases hkn : k < n
    · have f1 : decide ((k : Int) < (n : Int)) = true := by rw [decide_eq_true_eq]; omega
      have f1' : decide (k < n) = true := by rw [decide_eq_true_eq]; omega
      have f2 : (k : Int) < (n : Int) := by omega
      have GK := Lib.hid (step_wrap k n hkn (Nat.le_trans N4.out.2 (by decide)))
      have hkr : k < rs'.length := by rw [HN2.out]; exact hkn
      have hkP : k < P.parts.length := by rw [HNP.out]; exact hkn
      obtain ⟨⟨p, x0⟩, hpx⟩ : ∃ p, rs'[k] = p := ⟨_, rfl⟩
      have hpp : P.parts[k] = p := by
        have h : (rs'.map (·.1))[k]? = some p := by rw [List.getElem?_map, List.getElem?_eq_getElem hkr, hpx]; rfl
        rw [MP.out, List.getElem?_append_right (by rw [List.length_map, List.length_take]; omega), List.length_map, List.length_take, Nat.min_eq_left (by omega), Nat.sub_self, List.getElem?_drop, Nat.add_zero, List.getElem?_eq_getElem hkP] at h
        exact Option.some.inj h
      have BK := Lib.hid (PT.out.bk _ (List.getElem_mem hkr))
      have OKP := Lib.hid (PT.out.ok _ (List.getElem_mem hkr))
      obtain ⟨m0, m1, m2, m3, m4, m5, m6⟩ := PT.out.cellAt HN2.out k hkr
      have LX := LO.out _ (List.getElem_mem hkr)
      rw [hpx] at BK OKP m0 m1 m2 m3 m4 m5 m6 LX
      simp only at BK OKP m0 m1 m2 m3 m4 m5 m6 LX
      have SZ := FF.out.pt k hkP
      rw [hpp] at SZ
      have FA := fac_at FF.out.fac k hkP
      obtain ⟨wN, hwN⟩ : ∃ wN : Nat, p.wide = (wN : Int) := ⟨p.wide.toNat, by rw [Int.toNat_of_nonneg (by have := szL_in P (k : Int); omega)]⟩
      obtain ⟨hN, hhN⟩ : ∃ hN : Nat, p.high = (hN : Int) := ⟨p.high.toNat, by rw [Int.toNat_of_nonneg (by have := szL_in P (k : Int); omega)]⟩
      have XL : Hid (p.bs.length = hN * wN) := Lib.hid (by
        have h : (p.bs.length : Int) = ((wN * hN : Nat) : Int) := by rw [SZ.2.2.1, ← SZ.1, ← SZ.2.1, hwN, hhN]; push_cast; rfl
        rw [Nat.mul_comm]
        omega)
      have X65 : Hid (p.bs.length ≤ 65536) := Lib.hid (by have h1 := SZ.2.2.1; have h2 := SZ.2.2.2; omega)
      have XP : Hid (0 < p.bs.length) := Lib.hid (by
        have s := size_of FF.out.w FF.out.h FF.out.fac k hkP
        obtain ⟨u1, u2⟩ := max_of FF.out.fac FF.out.n.1
        have v1 := upI_pos FF.out.w.1 (show 0 < 8 * maxH P.parts by omega)
        have v2 := upI_pos FF.out.h.1 (show 0 < 8 * maxV P.parts by omega)
        have e1 : 1 * 1 ≤ (P.parts[k]).h * upI P.w (8 * maxH P.parts) := Int.mul_le_mul FA.1.1 v1 (by omega) (by omega)
        have e2 : 1 * 1 ≤ (P.parts[k]).v * upI P.h (8 * maxV P.parts) := Int.mul_le_mul FA.2.1 v2 (by omega) (by omega)
        have h1 : 1 ≤ (sizeL P (k : Int)).1 := by rw [s]; omega
        have h2 : 1 ≤ (sizeL P (k : Int)).2 := by rw [s]; omega
        have h3 : 1 * 1 ≤ (sizeL P (k : Int)).1 * (sizeL P (k : Int)).2 := Int.mul_le_mul h1 h2 (by omega) (by omega)
        have h4 := SZ.2.2.1
        omega)
      obtain ⟨xb, xc, rfl, hxb1, hxb2⟩ := BK.out.got XP.out
      have WB : Hid (1 ≤ wN ∧ wN ≤ 140737488351232) := Lib.hid (by
        have h1 := szL_in P (k : Int)
        refine ⟨?_, by omega⟩
        rcases Nat.eq_zero_or_pos wN with h0 | h0
        · have h2 := XL.out
          rw [h0, Nat.mul_zero] at h2
          have := XP.out
          omega
        · exact h0)
      rw [hwN] at m4
      rw [hhN] at m5
      obtain ⟨xn, hxn⟩ : ∃ z, p.bs.length = z := ⟨_, rfl⟩
      have HXN := Lib.hid hxn
      rw [hxn] at BK m6 XL X65 XP LX
      have HWN := Lib.hid hwN
      have HHN := Lib.hid hhN
      have HKR := Lib.hid hkr
      have HPX : Hid (∀ h : k < rs'.length, rs'[k]'h = (p, .slice (some ⟨xb, 0, none⟩) xn xc)) := Lib.hid (fun h => by rw [hpx, hxn])
      have HPP : Hid (∀ h : k < P.parts.length, P.parts[k]'h = p) := Lib.hid (fun h => hpp)
      have KN := Lib.hid hkn
      have LXB : Hid (xb < B) := Lib.hid (LX xb rfl)
      obtain ⟨wt, hwt⟩ : ∃ wt, W0.alloc (.cells #[.int .i64 p.id, .int .i64 p.h, .int .i64 p.v, .int .i64 p.tq, .int .i64 (wN : Int), .int .i64 (hN : Int), .slice (some ⟨xb, 0, none⟩) xn xc] 70) = wt := ⟨_, rfl⟩
      have hbt : Below W0.heap.size W0 wt := by rw [← hwt]; exact (Below.refl _ _).alloc (Nat.le_refl _) _
      have PTT := Lib.hid (PT.out.hi (keepHi_below hbt))
      have FIT := Lib.hid (FI.out.old hbt BB.out)
      obtain ⟨T, hT⟩ : ∃ T, W0.heap.size = T := ⟨_, rfl⟩
      have BT : Hid (B + 2 ≤ T) := Lib.hid (by rw [← hT]; exact FI.out.lt)
      have PB : Hid (PtB wt T p (.slice (some ⟨xb, 0, none⟩) xn xc)) := Lib.hid (by unfold PtB; rw [← hwt, ← hT, hwN, hhN]; exact heap_alloc_new _ _)
      have MT : Hid (Marks (B + 2) wt ds T) := Lib.hid (by
        have h := MK.out
        rw [hT] at h
        exact h.same (fun j _ hj => hbt.block j (by omega)))
      have ST : Hid (wt.heap.size = T + 1) := Lib.hid (by rw [← hwt, ← hT]; simp)
      have BKT := Lib.hid (BK.out.old hbt)
      clear hkn hkr hkP hpx hpp SZ FA hwN hhN hxb1 hxb2 hxn LX hbt PT FI MK
      have t4 := PB.out.cells.2.2.2.2.1
      have t6 := PB.out.cells.2.2.2.2.2.2
      rw [HWN.out] at t4
      go_wp2_with fail
      refine (chunkK_any (some ⟨xb, 0, none⟩) xn xc wN wt WB.out.1).mono ?_
      rintro e w2 ⟨rfl, hw2⟩
      rw [ST.out]
      have hb2 : Below (T + 1) wt w2 := by rw [hw2, ← ST.out]; exact ((Below.refl _ _).alloc (Nat.le_refl _) _).alloc (by simp) _
      have S2 : Hid (w2.heap.size = T + 3) := Lib.hid (by rw [hw2]; simp [ST.out])
      have X1 : Hid (Boxed w2 (T + 1) 68 (.slice (some ⟨xb, 0, none⟩) (hN * wN) xc)) := Lib.hid (by
        rw [hw2, ← ST.out, ← XL.out]; exact (Boxed.new wt _ _).alloc _)
      have X2 : Hid (Boxed w2 (T + 2) 3 (.int .i64 (wN : Nat))) := Lib.hid (by
        rw [hw2]
        have h := Boxed.new (wt.alloc (.cells #[.slice (some ⟨xb, 0, none⟩) xn xc] 68)) 3 (.int .i64 (wN : Nat))
        rw [World.size_alloc, ST.out] at h
        exact h)
      have PT2 := Lib.hid (PTT.out.hi (keepHi_below (by rw [ST.out]; exact hb2)))
      have FI2 := Lib.hid (FIT.out.old (by rw [ST.out]; exact hb2) BB.out)
      have PB2 : Hid (PtB w2 T p (.slice (some ⟨xb, 0, none⟩) xn xc)) := Lib.hid (PB.out.old (by rw [ST.out]; exact hb2))
      have M2 : Hid (Marks (B + 2) w2 ds T) := Lib.hid (MT.out.same (fun j _ hj => hb2.block j (by omega)))
      have BK2 : Hid (BkO base w2 (.slice (some ⟨xb, 0, none⟩) xn xc) p.bs) := Lib.hid (BKT.out.old (by rw [ST.out]; exact hb2))
      have SQ := Lib.hid (chunkK_seq 5 (T + 1) (T + 2) [T + 1, T + 2] xb 0 wN hN xc w2 WB.out.1 (by rw [← XL.out]; have := X65.out; omega) WB.out.2 X1.out X2.out (by simp) (by simp) (by
        obtain ⟨_, a, c, he, hc, _⟩ := BK2.out.bks.range
        rw [HXN.out] at he hc
        simp only [Value.slice.injEq] at he
        rw [← XL.out, he.2.2]
        exact hc))
      have LOK : Hid (∀ bs' : List (List Int), ∀ q ∈ rs'.set k ({ p with bs := bs' }, (.slice (some ⟨xb, 0, none⟩) xn xc : Value)), ∀ b, q.2.ownBlock = some b → b < B) := Lib.hid (fun bs' q hq b hb => by
        rcases List.mem_or_eq_of_mem_set hq with h | h
        · exact LO.out q h b hb
        · subst h
          have h2 := Option.some.inj hb
          rw [← h2]
          exact LXB.out)
      have LGV : Hid (∀ b, (Value.slice (some ⟨g, 0, none⟩) n dp).ownBlock = some b → b < B) := Lib.hid (fun b hb => by have h := Option.some.inj hb; rw [← h]; exact LG.out)
      have R0 : Hid (FlR base w B P (.slice b0 n0 d0) (.slice b1 n1 d1) (.slice b2 n2 d2) (.slice b3 n3 d3) (.slice (some ⟨g, 0, none⟩) n dp) (.slice ba na da) ss T (T + 3) ds p (.slice (some ⟨xb, 0, none⟩) xn xc) (rs'.set k ({ p with bs := flTo wN p.bs 0 }, .slice (some ⟨xb, 0, none⟩) xn xc)) w2) := Lib.hid (by
        refine ⟨?_, FI2.out, PB2.out, M2.out.mono (by omega), by rw [S2.out]; exact Nat.le_refl _, BT.out, by omega⟩
        rw [flTo_zero]
        show PtO base w2 _ (rs'.set k (p, _))
        rw [← HPX.out HKR.out, List.set_getElem_self]
        exact PT2.out)
      have RK : Hid (∀ (bs' : List (List Int)) (h : k < (rs'.set k ({ p with bs := bs' }, (.slice (some ⟨xb, 0, none⟩) xn xc : Value))).length), (rs'.set k ({ p with bs := bs' }, (.slice (some ⟨xb, 0, none⟩) xn xc : Value)))[k]'h = ({ p with bs := bs' }, .slice (some ⟨xb, 0, none⟩) xn xc)) := Lib.hid (fun bs' h => by rw [List.getElem_set_self])
      have RKL : Hid (∀ bs' : List (List Int), k < (rs'.set k ({ p with bs := bs' }, (.slice (some ⟨xb, 0, none⟩) xn xc : Value))).length) := Lib.hid (fun bs' => by rw [List.length_set]; exact HKR.out)
      have NX : Hid (∀ (bs bs' : List (List Int)) (U : Nat) (ds : List Deferred) (X Y : World), FlR base w B P (.slice b0 n0 d0) (.slice b1 n1 d1) (.slice b2 n2 d2) (.slice b3 n3 d3) (.slice (some ⟨g, 0, none⟩) n dp) (.slice ba na da) ss T U ds p (.slice (some ⟨xb, 0, none⟩) xn xc) (rs'.set k ({ p with bs := bs }, .slice (some ⟨xb, 0, none⟩) xn xc)) X →
          bs'.length = xn → BkO base Y (.slice (some ⟨xb, 0, none⟩) xn xc) bs' → X.grownBy Y (some xb) → FlR base w B P (.slice b0 n0 d0) (.slice b1 n1 d1) (.slice b2 n2 d2) (.slice b3 n3 d3) (.slice (some ⟨g, 0, none⟩) n dp) (.slice ba na da) ss T U ds p (.slice (some ⟨xb, 0, none⟩) xn xc) (rs'.set k ({ p with bs := bs' }, .slice (some ⟨xb, 0, none⟩) xn xc)) Y) := Lib.hid (fun bs bs' U ds X Y h hl hx hg => by
        have h2 := h.step k (RKL.out bs) bs' (by rw [hl]; have := X65.out; omega) (by rw [RK.out]; exact hx) (by rw [RK.out]; exact hg) (fun b hb => by rw [RK.out] at hb; have e := Option.some.inj hb; rw [← e]; exact LXB.out) BB.out
        rw [RK.out, List.set_set] at h2
        exact h2)
      clear m0 m1 m2 m3 m4 m5 m6 f1 f1' f2 hwt hT t4 t6 hw2 hb2 X1 X2 PTT FIT PB MT BK ST PT2 FI2 PB2 M2 BKT
      go_wp2_with fail
      have hB2 := BB.out
      refine wpIn_wide.1 (rangeU (n := 6) (by omega) (gf := 82) (lb := #[.pointer (some ⟨T + 1, 0, none⟩), .pointer (some ⟨T + 2, 0, none⟩)]) rfl (enters_of Try.func82 (by kernel_rfl) rfl)
        SQ.out (Below.refl _ _) (fun _ => rfl) (by rw [S2.out]; simp)
        (fun pre X => FlR base w B P (.slice b0 n0 d0) (.slice b1 n1 d1) (.slice b2 n2 d2) (.slice b3 n3 d3) (.slice (some ⟨g, 0, none⟩) n dp) (.slice ba na da) ss T (T + 3) ds p (.slice (some ⟨xb, 0, none⟩) xn xc) (rs'.set k ({ p with bs := flTo wN p.bs pre.length }, .slice (some ⟨xb, 0, none⟩) xn xc)) X) (fun c pre X => False)
        (fun s X Y h hb => h.low (by rw [S2.out] at hb; exact hb) ⟨hB2, HB.out⟩ LGV.out (LOK.out _) LQ.out LS.out) (fun c s X Y h hb => h) R0.out ?round ?done ?stop)
      case stop =>
        rintro _ _ _ _ _ _ h _
        exact h.elim
      case round =>
        rintro ll pre x0 X hl hlX _ hC hx
        rw [S2.out] at hl ⊢
        obtain ⟨hr, rfl⟩ := hx
        rw [Nat.zero_add]
        have RC := Lib.hid hC
        have HR := Lib.hid hr
        clear hC hr
        gi_wp2_with fail
        refine ⟨KeepsFrom.refl _ _, fun Z hZ => ?_⟩
        have bz : Below (T + 3) X Z := (hZ.below (Nat.le_refl _)).mono (by omega)
        have RZ := Lib.hid (RC.out.low bz ⟨BB.out, HB.out⟩ LGV.out (LOK.out _) LQ.out LS.out)
        have HZ := Lib.hid hZ
        have BZ : Hid (BkO base Z (.slice (some ⟨xb, 0, none⟩) xn xc) (flTo wN p.bs pre.length)) := Lib.hid (by
          have h := RZ.out.pt.bk _ (List.getElem_mem (RKL.out _))
          rw [RK.out] at h
          exact h)
        have RV := Lib.hid (revB_any base xb xn xc (pre.length * wN) wN wN (flTo wN p.bs pre.length) Z BZ.out (by
          rw [flTo_len, HXN.out, XL.out, ← Nat.succ_mul]
          exact Nat.mul_le_mul_right _ HR.out) (by rw [flTo_len, HXN.out]; exact X65.out))
        clear bz hZ RC
        gi_wp2_with fail
        refine ⟨trivial, (callsIn_wide.2 RV.out).mono ?_⟩
        rintro e Y ⟨⟨rv, rfl⟩, hbk, hg⟩
        have BY := Lib.hid hbk
        have GY := Lib.hid hg
        clear hbk hg
        gi_wp2_with fail
        have hsz := GY.out.size
        have hzx := HZ.out.size
        have hlt := RZ.out.lt
        have htu := RZ.out.tu
        have hxB := LXB.out
        refine ⟨⟨hsz, fun j o hj ho _ => ?_⟩, ⟨by omega, fun j hj hlt => ?_⟩, ?_⟩
        · rw [GY.out.block j (Array.getElem?_eq_some_iff.1 ho).1 (fun e => by have := Option.some.inj e; omega)]; exact ho
        · have hjx : j ≠ xb := by
            rcases hj with hj | hj
            · simp at hj; omega
            · omega
          have hjl : j ≠ ll := by
            rcases hj with hj | hj
            · simp at hj; omega
            · omega
          rw [GY.out.block j (by omega) (fun e => hjx (Option.some.inj e)), HZ.out.block j hjl]
        · have h := NX.out _ (flTo wN p.bs (pre.length + 1)) _ _ _ Y RZ.out (by rw [flTo_len]; exact HXN.out) (by
            have h := BY.out
            rw [flTo_succ wN hN p.bs (by rw [HXN.out]; exact XL.out) _ HR.out] at h
            exact h) GY.out
          show FlR _ _ _ _ _ _ _ _ _ _ _ _ _ _ _ _ (rs'.set k ({ p with bs := flTo wN p.bs (pre ++ [_]).length }, _)) _
          rw [List.length_append]
          exact h
      case done =>
        rintro E pre X hE hEX hfin hC hK
        have hE2 : T + 3 ≤ E := by rw [S2.out] at hE; exact hE
        unfold FinCh at hfin
        rw [hfin, flTo_full wN hN p.bs (by rw [HXN.out]; exact XL.out)] at hC
        obtain ⟨fr, hfr⟩ : ∃ z, flR wN p.bs = z := ⟨_, rfl⟩
        have FLR : Hid (fr.length = xn) := Lib.hid (by rw [← hfr]; simp [flR, HXN.out])
        have FRE := Lib.hid hfr
        rw [hfr] at hC
        obtain ⟨U, hU⟩ : ∃ U, X.heap.size = U := ⟨_, rfl⟩
        have RC : Hid (FlR base w B P (.slice b0 n0 d0) (.slice b1 n1 d1) (.slice b2 n2 d2) (.slice b3 n3 d3) (.slice (some ⟨g, 0, none⟩) n dp) (.slice ba na da) ss T U ({ target := .collected E, args := #[] } :: ds) p (.slice (some ⟨xb, 0, none⟩) xn xc) (rs'.set k ({ p with bs := mapTo (blockL 1) fr 0 }, .slice (some ⟨xb, 0, none⟩) xn xc)) X) := Lib.hid (by
          rw [mapTo_zero]
          refine ⟨hC.pt, hC.fi, hC.pb, ⟨E, rfl, by have := BT.out; omega, by omega, hK, hC.mks.mono hE2⟩, by omega, BT.out, by omega⟩)
        have t6 := RC.out.pb.cells.2.2.2.2.2.2
        clear hC hK hE hEX hfin hfr SQ R0
        go_wp2_with fail
        clear t6
        go_loopw [26] (fun i W => ∃ y : Nat, y ≤ xn ∧ i = .int .i64 (y : Nat) ∧ FlR base w B P (.slice b0 n0 d0) (.slice b1 n1 d1) (.slice b2 n2 d2) (.slice b3 n3 d3) (.slice (some ⟨g, 0, none⟩) n dp) (.slice ba na da) ss T U ({ target := .collected E, args := #[] } :: ds) p (.slice (some ⟨xb, 0, none⟩) xn xc) (rs'.set k ({ p with bs := mapTo (blockL 1) fr y }, .slice (some ⟨xb, 0, none⟩) xn xc)) W) (fun i _ => xn - (intOf i).toNat)
        case atStart => exact ⟨0, Nat.zero_le _, rfl, RC.out⟩
        case round =>
          clear RC
          obtain ⟨y, hy, rfl, hrc⟩ := hrel
          have RC := Lib.hid hrc
          clear hrc
          by_cases hyn : y < xn
          · have l1 : decide ((y : Int) < (xn : Int)) = true := by rw [decide_eq_true_eq]; omega
            have l1' : decide (y < xn) = true := by rw [decide_eq_true_eq]; omega
            have l2 : (y : Int) < (xn : Int) := by omega
            have GY := Lib.hid (step_wrap y xn hyn (Nat.le_trans X65.out (by decide)))
            have BK : Hid (BkO base wr (.slice (some ⟨xb, 0, none⟩) xn xc) (mapTo (blockL 1) fr y)) := Lib.hid (by
              have h := RC.out.pt.bk _ (List.getElem_mem (RKL.out _))
              rw [RK.out] at h
              exact h)
            have hyb : y < fr.length := by rw [FLR.out]; exact hyn
            have hym : y < (mapTo (blockL 1) fr y).length := by rw [mapTo_len]; exact hyb
            have hrx := BK.out.range y hym
            have hcc := BK.out.all.at y hym
            obtain ⟨_, hat⟩ := mapTo_at (blockL 1) fr y hyb
            rw [hat] at hrx hcc
            obtain ⟨cb, hcb⟩ : ∃ cb, fr[y] = cb := ⟨_, rfl⟩
            rw [hcb] at hrx hcc
            have CB := Lib.hid hcc
            have RX := Lib.hid hrx
            have STEP : Hid (mapTo (blockL 1) fr (y + 1) = (mapTo (blockL 1) fr y).set y (blockL 1 cb)) := Lib.hid (by rw [← hcb]; exact mapTo_succ _ fr y hyb)
            have HI : Hid ((Try.prog.info? 23).map (·.size) = some (vIs cb).length) := Lib.hid (by rw [vIs_length, CB.out.1]; kernel_rfl)
            have HIA : Hid ((Try.prog.info? 23).map (·.size) = some (vIs cb).toArray.size) := Lib.hid (by have := HI.out; simpa using this)
            have HOA : Hid ((vIs cb).toArray.all (·.oneCell') = true) := Lib.hid (all_oneCell_toArray (vIs_one cb))
            have HYN := Lib.hid hyn
            have HYM := Lib.hid hym
            clear hrx hcc hcb hat hyb hyn hym
            go_wp2_with (refine wpList_load_mid rfl _ _ rfl xb (y * 64) rfl (vIs cb) _ RX.out Try.underlying23 rfl HI.out ?_; refine stop ?_)
            refine unstop ?_
            go_wp2_with (refine wpList_store_row rfl _ _ _ rfl wr.heap.size (vIs cb).toArray rfl rfl 23 _ (heap_alloc_new _ _) HIA.out (by simp [vIs, CB.out.1]) HOA.out ?_; refine stop ?_)
            refine unstop ?_
            generalize hZ : World.setRow _ wr.heap.size (vIs cb).toArray = Z1
            have HZ1 : Hid (Z1.heap[wr.heap.size]? = some (.cells (vIs cb).toArray 23 (0, 0))) := Lib.hid (by rw [← hZ]; exact setRow_heap _ _ _ _ _ _ (heap_alloc_new _ _))
            have BZ1 : Hid (Below wr.heap.size wr Z1) := Lib.hid (by rw [← hZ]; exact below_setRow ((Below.refl _ _).alloc (Nat.le_refl _) _) (Nat.le_refl _) _)
            obtain ⟨N, hN2⟩ : ∃ N, wr.heap.size = N := ⟨_, rfl⟩
            have HNN := Lib.hid hN2
            rw [hN2] at HZ1
            rw [hN2]
            clear hZ
            go_upto_region 10 with (fail)
            have RZ := Lib.hid (RC.out.low (BZ1.out.mono RC.out.lt) ⟨BB.out, HB.out⟩ LGV.out (LOK.out _) LQ.out LS.out)
            have t6 := RZ.out.pb.cells.2.2.2.2.2.2
            have hd := (Below.refl Z1.heap.size Z1).drew
            have CC0 : (fun X => X.cell? ⟨T, 6, none⟩ = some (.slice (some ⟨xb, 0, none⟩) xn xc) ∧ X.rangeAt N 0 (vIs cb) ∧ Below Z1.heap.size Z1 X) Z1.drew := ⟨cell_old hd t6, fun j v hj => by rw [Nat.zero_add]; exact cell_old hd (by rw [cell_of_row _ _ j _ _ _ HZ1.out]; simpa using hj), hd⟩
            refine wp_region_last (fun X => X.cell? ⟨T, 6, none⟩ = some (.slice (some ⟨xb, 0, none⟩) xn xc) ∧ X.rangeAt N 0 (vIs cb) ∧ Below Z1.heap.size Z1 X) 6 7 [(0, true), (1, true), (2, true), (3, true), (4, false), (5, true)] (by kernel_rfl) (by kernel_rfl) CC0 (fun hC0 => ?_)
            clear CC0 hd t6
            have CCD := Lib.hid hC0
            clear hC0 hN2
            iterate 3
              (refine last_take rfl ?_
               apply Exists.intro
               refine ⟨Or.inl ⟨by rfl, fun X hX => ?_⟩, ?_⟩
               · obtain ⟨y6, -, -⟩ := hX
                 go_simp
                 exact rfl
               simp only [Act.put, List.setIfInBounds_toArray, List.set_cons_zero, List.set_cons_succ])
            refine last_take rfl ?_
            refine ⟨_, yieldsIf_load_mid (by rfl) _ _ rfl N 0 rfl (vIs cb) _ (fun X hX => hX.2.1) Try.underlying23 rfl HI.out, ?_⟩
            simp only [Act.put, List.setIfInBounds_toArray, List.set_cons_zero, List.set_cons_succ]
            refine last_step rfl (fun K hK => ?_)
            rw [if_pos (by rfl)]
            go_wp2_with (go_at_call 10; refine (block_any cb 1 _ CB.out.1).mono ?_; rintro e w6 ⟨rfl, hb6⟩)
            have CC6 := Lib.hid (show Below Z1.heap.size Z1 w6 from CCD.out.2.2.trans (hb6.mono CCD.out.2.2.size))
            have t6 : w6.cell? ⟨T, 6, none⟩ = some (.slice (some ⟨xb, 0, none⟩) xn xc) := cell_old hb6 CCD.out.1
            have CC7 : Hid (w6.cell? ⟨T, 6, none⟩ = some (.slice (some ⟨xb, 0, none⟩) xn xc) ∧ w6.rangeAt N 0 (vIs cb) ∧ Below Z1.heap.size Z1 w6) := Lib.hid ⟨t6, range_old hb6 CCD.out.2.1, CC6.out⟩
            refine hK.out _ _ CC7.out (fun _ => ?_)
            clear hK K hb6 t6
            try simp only [Act.put, List.setIfInBounds_toArray, List.set_cons_zero, List.set_cons_succ]
            refine last_take rfl ?_
            apply Exists.intro
            refine ⟨Or.inl ⟨by rfl, fun X hX => ?_⟩, ?_⟩
            · obtain ⟨y6, -, -⟩ := hX
              go_simp
              exact rfl
            simp only [Act.put, List.setIfInBounds_toArray, List.set_cons_zero, List.set_cons_succ]
            have R6 := Lib.hid (RZ.out.low (CC6.out.mono (Nat.le_trans RC.out.lt BZ1.out.size)) ⟨BB.out, HB.out⟩ LGV.out (LOK.out _) LQ.out LS.out)
            have BM6 : Hid (BkO base w6 (.slice (some ⟨xb, 0, none⟩) xn xc) (mapTo (blockL 1) fr y)) := Lib.hid (by
              have h := R6.out.pt.bk _ (List.getElem_mem (RKL.out _))
              rw [RK.out] at h
              exact h)
            have B64 : Hid (Blk64 (blockL 1 cb)) := Lib.hid (blk_turned 1 CB.out)
            have TH := Lib.hid (BM6.out.there y HYM.out)
            have HI6 : Hid ((Try.prog.info? 23).map (·.size) = some (vIs (blockL 1 cb)).toArray.size) := Lib.hid (info64 _ (blockL_len 1 cb))
            have TH2 : Hid (w6.there xb (y * 64) (vIs (blockL 1 cb)).toArray.size) := Lib.hid (by
              have e : (vIs (blockL 1 cb)).toArray.size = 64 := by simp [vIs_length, blockL_len]
              rw [e]
              exact TH.out)
            have H16 : Hid ((vIs (blockL 1 cb)).toArray.all (·.oneCell') = true) := Lib.hid (all_oneCell_toArray (vIs_one _))
            refine last_done rfl (fun K hK => ?_)
            rw [if_pos (by rfl)]
            refine wp_store_mid _ _ _ rfl xb (y * 64) (vIs (blockL 1 cb)).toArray rfl rfl TH2.out HI6.out H16.out ?_
            refine hK.out _ _ ?_
            clear hK K
            obtain ⟨W9, hW9⟩ : ∃ W9, w6.setCells xb (y * 64) (vIs (blockL 1 cb)).toArray.toList = W9 := ⟨_, rfl⟩
            rw [hW9]
            have hst := BM6.out.stored y HYM.out B64.out
            have hW9' : w6.setCells xb (y * 64) (vIs (blockL 1 cb)) = W9 := hW9
            rw [hW9', ← STEP.out] at hst
            have R9 := Lib.hid (NX.out _ (mapTo (blockL 1) fr (y + 1)) _ _ _ W9 R6.out (by rw [mapTo_len]; exact FLR.out) hst.1 hst.2)
            have gy := GY.out
            clear hst hW9 hW9'
            go_wp2_with fail
            go_roundw
            case rel => exact ⟨y + 1, HYN.out, by go_num, R9.out⟩
            case measure => simp [intOf]; have := HYN.out; omega
          · obtain rfl : y = xn := by omega
            have l1 : decide ((y : Int) < (y : Int)) = false := by rw [decide_eq_false_iff_not]; omega
            have gk := GK.out
            have EQ : Hid (({ p with bs := mapTo (blockL 1) fr y } : PartL) = flipPt p) := Lib.hid (by
              have h := mapTo_full (blockL 1) fr
              rw [FLR.out] at h
              unfold flipPt flB
              rw [HWN.out, Int.toNat_natCast, FRE.out, h])
            have MAP : Hid ((rs'.set k (flipPt p, (.slice (some ⟨xb, 0, none⟩) y xc : Value))).map (·.1) = (P.parts.take (k + 1)).map flipPt ++ P.parts.drop (k + 1)) := Lib.hid (by
              have hkP : k < P.parts.length := by rw [HNP.out]; exact KN.out
              rw [List.map_set, MP.out, List.set_append_right _ _ (by rw [List.length_map, List.length_take]; omega), List.length_map, List.length_take, Nat.min_eq_left (by omega), Nat.sub_self, List.drop_eq_getElem_cons hkP, List.take_succ_eq_append_getElem hkP, List.map_append, HPP.out hkP, List.append_assoc]
              rfl)
            have LK := Lib.hid (LOK.out (mapTo (blockL 1) fr y))
            rw [EQ.out] at RC LK
            clear hy
            go_wp2_with fail
            refine ⟨⟨_, _, _, _, _, _, _, _, _, _, _, _, _, _, _, _, _, _, _, _, _, _, _, _, _, _, _, _, _, _, _, k + 1, _, _, rfl, KN.out, MAP.out, RC.out.pt, LK.out, RC.out.fi, RC.out.mks.mono RC.out.lt⟩, ?_⟩
            have h := KN.out
            simp [intOf]
            omega
    · obtain rfl : k = n := by omega
      have f1 : decide ((k : Int) < (k : Int)) = false := by rw [decide_eq_false_iff_not]; omega
      have DM : Hid (rs'.map (·.1) = (flipP P).parts) := Lib.hid (by
        rw [MP.out, List.take_of_length_le (by rw [HNP.out]; exact Nat.le_refl _), List.drop_of_length_le (by rw [HNP.out]; exact Nat.le_refl _), List.append_nil]
        rfl)
      obtain ⟨a0, a1, a2, a3, a4, a5, a6, a7, a8⟩ := FI.out.box.cells
      have ZB := Lib.hid FI.out.z
      have H1 : Hid ((#[.int .i64 P.w, .int .i64 P.h, .slice b0 n0 d0, .slice b1 n1 d1, .slice b2 n2 d2, .slice b3 n3 d3, .slice (some ⟨g, 0, none⟩) k dp, .int .i64 P.restart, .slice ba na da] : Array Value).all (·.oneCell') = true) := Lib.hid (by kernel_rfl)
      have HI : Hid ((Try.prog.info? 36).map (·.size) = some 9) := Lib.hid (by kernel_rfl)
      go_wp2_with (refine wpList_store_row rfl _ _ _ rfl (B + 1) #[.int .i64 P.w, .int .i64 P.h, .slice b0 n0 d0, .slice b1 n1 d1, .slice b2 n2 d2, .slice b3 n3 d3, .slice (some ⟨g, 0, none⟩) k dp, .int .i64 P.restart, .slice ba na da] rfl rfl 36 _ ZB.out HI.out rfl H1.out ?_)
      obtain ⟨wE, hE⟩ : ∃ wE, W0.setRow (B + 1) #[.int .i64 P.w, .int .i64 P.h, .slice b0 n0 d0, .slice b1 n1 d1, .slice b2 n2 d2, .slice b3 n3 d3, .slice (some ⟨g, 0, none⟩) k dp, .int .i64 P.restart, .slice ba na da] = wE := ⟨_, rfl⟩
      have PE := Lib.hid (show PtO base wE _ _ by rw [← hE]; exact PT.out.ty (keepTy_row ZB.out) (by decide) (by decide))
      have BX := Lib.hid (show PBox wE (B + 1) P (.slice b0 n0 d0) (.slice b1 n1 d1) (.slice b2 n2 d2) (.slice b3 n3 d3) (.slice (some ⟨g, 0, none⟩) k dp) (.slice ba na da) by unfold PBox; rw [← hE]; exact setRow_heap _ _ _ _ _ _ ZB.out)
      have E0 := Lib.hid (show wE.ownsRow base 3 1 _ _ _ by rw [← hE]; exact owns_ty FI.out.n0 (keepTy_row ZB.out) (by decide))
      have E1 := Lib.hid (show wE.ownsRow base 3 1 _ _ _ by rw [← hE]; exact owns_ty FI.out.n1 (keepTy_row ZB.out) (by decide))
      have E2 := Lib.hid (show wE.ownsRow base 3 1 _ _ _ by rw [← hE]; exact owns_ty FI.out.n2 (keepTy_row ZB.out) (by decide))
      have E3 := Lib.hid (show wE.ownsRow base 3 1 _ _ _ by rw [← hE]; exact owns_ty FI.out.n3 (keepTy_row ZB.out) (by decide))
      have SE := Lib.hid (show SgO base wE _ ss by rw [← hE]; exact FI.out.sg.ty (keepTy_row ZB.out) (by decide) (by decide))
      have BE : Hid (Below base w wE) := Lib.hid (by rw [← hE]; exact below_setRow FI.out.l (by have := BB.out; omega) _)
      have KE : Hid (KeepN w wE) := Lib.hid (by rw [← hE]; exact FI.out.kp.row (by have := HB.out; omega))
      have ME : Hid (Marks (B + 2) wE ds W0.heap.size) := Lib.hid (MK.out.same (fun j h1 h2 => by rw [← hE]; exact setRow_other _ _ _ _ (by omega)))
      rw [hE]
      clear hE a0 a1 a2 a3 a4 a5 a6 a7 a8
      refine marks_leave ds W0.heap.size wE ME.out (fun w' hb' hs' => ?_)
      have BX' : PBox w' (B + 1) P (.slice b0 n0 d0) (.slice b1 n1 d1) (.slice b2 n2 d2) (.slice b3 n3 d3) (.slice (some ⟨g, 0, none⟩) k dp) (.slice ba na da) := by unfold PBox; rw [hb'.block (B + 1) (by omega)]; exact BX.out
      obtain ⟨r0, r1, r2, r3, r4, r5, r6, r7, r8⟩ := BX'.cells
      have lq := LQ.out
      refine ⟨.agg (vPic P (.slice b0 n0 d0) (.slice b1 n1 d1) (.slice b2 n2 d2) (.slice b3 n3 d3) (.slice (some ⟨g, 0, none⟩) k dp) (.slice ba na da)), by unfold vPic; simp [results, Try.results47, go_sem, r0, r1, r2, r3, r4, r5, r6, r7, r8]; try rfl, rfl, ?_, BE.out.trans (hb'.mono (by have := BB.out; omega)), KE.out.low hb' (by have := HB.out; omega)⟩
      exact ⟨owns_low E0.out hb' (fun b e => by have := lq _ (by simp) b e; omega), owns_low E1.out hb' (fun b e => by have := lq _ (List.mem_cons_of_mem _ (List.mem_cons_self ..)) b e; omega), owns_low E2.out hb' (fun b e => by have := lq _ (List.mem_cons_of_mem _ (List.mem_cons_of_mem _ (List.mem_cons_self ..))) b e; omega), owns_low E3.out hb' (fun b e => by have := lq _ (List.mem_cons_of_mem _ (List.mem_cons_of_mem _ (List.mem_cons_of_mem _ (List.mem_cons_self ..)))) b e; omega),
        ⟨rs', DM.out, PE.out.low (B + 2) hb' (fun b e => by have h : g = b := Option.some.inj e; have := LG.out; omega) (fun q hq b e => by have := LO.out q hq b e; omega)⟩,
        ⟨ss, HSS.out, ⟨owns_low SE.out.row hb' (fun b e => by have := lq (.slice ba na da) (by simp) b e; omega), SE.out.ok, fun q hq => owns_low (SE.out.dt q hq) hb' (fun b e => by have := LS.out q hq b e; omega)⟩⟩⟩
end Go.Proofs.Ytnhalnjdlkdnkaa
