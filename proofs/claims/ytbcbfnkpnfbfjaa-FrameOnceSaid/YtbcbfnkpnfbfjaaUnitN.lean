/- frame.several walked. By an AI agent. -/
import Derived.Test.YtbcbfnkpnfbfjaaUnitM
namespace Go.Proofs.Ytbcbfnkpnfbfjaa
open Go.RowKit Go.BigFrame
set_option linter.unusedVariables false
set_option linter.unusedSimpArgs false
attribute [local go_sem] Oper.semAt_some

set_option maxRecDepth 20000 in
set_option maxHeartbeats 16000000 in
theorem several_any (n ll : Nat) (bs : List Nat) (U : Nat) (J Jx : List Value → World → Prop) (P : PicL) (q0 q1 q2 q3 pv kv psv : Value) (ps : List Int) (D : World → Prop) (w : World) (hDU : DataU D P pv psv ps bs U) (hDw : D w) (hl : P.parts.length ≤ 140737488351232) (hpl : ps.length ≤ 1000)
    (hp0 : 0 < ps.length) (hok : ∀ k ∈ ps, (sizeL P k).1 ≠ 0)
    (hU : U ≤ w.heap.size) (hJ : SinceB U J) (hF : Feed n ll bs U (severalN P ps) (severalF P ps) J Jx) (h0 : J [] w) :
    Calls Try.prog 26 #[.agg (vPic P q0 q1 q2 q3 pv kv), psv, .func (.yield ll) #[] #[]] w fun e w' => (∃ v, e = .returned v) ∧ ((∃ pre, pre.length = severalN P ps ∧ J pre w') ∨ ∃ pre, Jx pre w') := by
  obtain ⟨pa, pc, rfl, _⟩ := Els.len (hDU.pts w hDw)
  obtain ⟨ka, kc, rfl, hkx⟩ := (hDU.ns w hDw).read
  have DU := Lib.hid hDU
  have FF := Lib.hid hF
  have HJ := Lib.hid hJ
  have HK := Lib.hid hkx
  have HOK := Lib.hid hok
  have HPL := Lib.hid hpl
  clear hF hkx hDU
  obtain ⟨w1, hw1⟩ : ∃ w1, w.alloc (.cells (vPic P q0 q1 q2 q3 (.slice pa P.parts.length pc) kv) 27) = w1 := ⟨_, rfl⟩
  have hb1 : Below w.heap.size w w1 := by rw [← hw1]; exact (Below.refl _ _).alloc (Nat.le_refl _) _
  obtain ⟨B, hB⟩ : ∃ B, w.heap.size = B := ⟨_, rfl⟩
  have BX1 : Hid (PBox w1 B P q0 q1 q2 q3 (.slice pa P.parts.length pc) kv) := Lib.hid (by rw [← hw1, ← hB]; exact heap_alloc_new _ _)
  have J1 : Hid (J [] w1) := Lib.hid (hJ _ _ _ h0 (hb1.mono hU))
  have L1 : Hid (D w1) := Lib.hid (DU.out.old _ _ hDw hb1)
  have U1 : Hid (U ≤ B ∧ B < w1.heap.size) := Lib.hid ⟨by omega, by rw [← hw1, ← hB]; simp⟩
  unfold vPic at hw1
  -- the factors
  obtain ⟨k0, hk0⟩ : ∃ k0, ps.getD 0 0 = k0 := ⟨_, rfl⟩
  have hk0' : ps[0] = k0 := by rw [← hk0, List.getD_eq_getElem?_getD, List.getElem?_eq_getElem hp0]; rfl
  have hm := mostL_of (hok k0 (by rw [← hk0']; exact List.getElem_mem hp0))
  obtain ⟨hf, hhf⟩ : ∃ z, maxH P.parts = z := ⟨_, rfl⟩
  obtain ⟨vf, hvf⟩ : ∃ z, maxV P.parts = z := ⟨_, rfl⟩
  rw [hhf, hvf] at hm
  obtain ⟨hk, hw, hh, hfx, h14, v14⟩ := mostL_some hm
  have ui1 := upI_in P.w (8 * hf) (by omega) (by omega)
  have ui2 := upI_in P.h (8 * vf) (by omega) (by omega)
  obtain ⟨cols, hcols⟩ : ∃ c : Nat, upI P.w (8 * hf) = (c : Int) := ⟨(upI P.w (8 * hf)).toNat, by omega⟩
  obtain ⟨rows, hrows⟩ : ∃ c : Nat, upI P.h (8 * vf) = (c : Int) := ⟨(upI P.h (8 * vf)).toNat, by omega⟩
  have CN : Hid (severalN P ps = rows * cols) := Lib.hid (by unfold severalN rowsN colsN; rw [hk0, hm]; simp only; rw [hcols, hrows]; simp)
  have FA : Hid (∀ y x : Nat, x < cols → severalF P ps (y * cols + x) = unitAt P cols y x ps) := Lib.hid (fun y x hx => by
    have hcn : colsN P (ps.getD 0 0) = cols := by unfold colsN; rw [hk0, hm]; simp only; rw [hcols]; simp
    have := severalF_at P ps y x (by rw [hcn]; exact hx)
    rw [hcn] at this
    exact this)
  have RC : Hid (rows ≤ 65535 ∧ cols ≤ 65535) := Lib.hid (by omega)
  have BD : Hid ((0 ≤ P.w ∧ P.w ≤ 1000000) ∧ (0 ≤ P.h ∧ P.h ≤ 1000000) ∧ (1 ≤ hf ∧ hf ≤ 100) ∧ (1 ≤ vf ∧ vf ≤ 100)) := Lib.hid (by omega)
  have g1 : IntKind.i64.wrap (8 * hf) = 8 * hf := IntWalk.i64_in _ (by omega)
  have g2 : IntKind.i64.wrap (8 * vf) = 8 * vf := IntWalk.i64_in _ (by omega)
  have HM := Lib.hid hm
  obtain ⟨kb, ko, rfl, hkc⟩ := HK.out 0 hp0
  have kc0 : w1.cell? ⟨kb, ko, none⟩ = some (.int .i64 k0) := by have := cell_old hb1 hkc; rw [hk0'] at this; simpa using this
  have i1 : decide ((0 : Int) < (ps.length : Int)) = true := by rw [decide_eq_true_eq]; omega
  have i2 : decide (0 < ps.length) = true := by rw [decide_eq_true_eq]; omega
  have HP0 := Lib.hid hp0
  have i3 : 0 < ps.length := hp0
  have i4 : (0 : Int) < (ps.length : Int) := by omega
  have SV : SvC w1 B P q0 q1 q2 q3 (.slice pa P.parts.length pc) kv kb ko k0 w1.drew := ⟨BX1.out.old (Below.refl _ _).drew, cell_old (Below.refl _ _).drew kc0, (Below.refl _ _).drew⟩
  have MA : Hid (∀ X, SvC w1 B P q0 q1 q2 q3 (.slice pa P.parts.length pc) kv kb ko k0 X → Calls Try.prog 27 #[.agg (vPic P q0 q1 q2 q3 (.slice pa P.parts.length pc) kv), .int .i64 k0] X fun e w' => e = .returned (mostV (some (hf, vf))) ∧ SvC w1 B P q0 q1 q2 q3 (.slice pa P.parts.length pc) kv kb ko k0 w') := Lib.hid (fun X hX => by
    refine (most_any P q0 q1 q2 q3 _ kv k0 X ((DU.out.pts _ L1.out).old hX.2.2) hl).mono ?_
    rintro e w' ⟨h1, h2⟩
    exact ⟨by rw [h1, HM.out], hX.1.old h2, cell_old h2 hX.2.1, hX.2.2.trans (h2.mono hX.2.2.size)⟩)
  clear hb1 hJ h0 hU hok hpl hDw hk0 hk0' hm hhf hvf hk hw hh hfx h14 v14 ui1 ui2 hp0 hkc kc0
  unfold vPic
  go_enter Try.func26, Try.ntmps26
  go_upto_region 1 with (fail)
  rw [hB] at *
  refine wp_region_q (SvC w1 B P q0 q1 q2 q3 (.slice pa P.parts.length pc) kv kb ko k0) (by kernel_rfl) (by kernel_rfl) SV ?_
  clear SV
  repeat
    first
    | go_big_quiet_skip
    | (go_big_quiet_want
       first
       | (go_big_quiet_op; go_big_quiet_on)
       | (apply Exists.intro
          refine ⟨fun X hX => ?_, ?_⟩
          · have hXX := Lib.hid hX
            obtain ⟨hbx, e9, eZ⟩ := hX
            obtain ⟨a0, a1, a2, a3, a4, a5, a6, a7, a8⟩ := hbx.cells
            clear hbx eZ
            unfold Oper.quietAt
            go_simp
            first
            | exact ⟨rfl, rfl⟩
            | exact rfl
            | (go_at_call 27; exact MA.out _ hXX.out)
          go_big_quiet_on
          try simp only [Act.put, List.setIfInBounds_toArray, List.set_cons_zero, List.set_cons_succ]))
  refine wpQuiet_nil ?_
  rintro w2 ⟨hbx2, -, hb2⟩
  have S2 : Hid (SvI B D P q0 q1 q2 q3 (.slice pa P.parts.length pc) kv J [] w2) := Lib.hid ⟨HJ.out _ _ _ J1.out (hb2.mono (Nat.le_trans U1.out.1 (Nat.le_of_lt U1.out.2))), hbx2, DU.out.old _ _ L1.out hb2, Nat.lt_of_lt_of_le U1.out.2 hb2.size⟩
  have UB := Lib.hid U1.out.1
  obtain ⟨a0, a1, a2, a3, a4, a5, a6, a7, a8⟩ := hbx2.cells
  clear hb2 hbx2 MA J1 L1 U1 BX1 hw1 i1 i2 i3 i4
  unfold mostV
  go_wp2_with fail
  refine (up_any P.w (8 * hf) w2 (by have := BD.out; omega) (by have := BD.out; omega)).mono ?_
  rintro e w3 ⟨rfl, rfl⟩
  rw [hcols]
  go_wp2_with fail
  refine (up_any P.h (8 * vf) w2 (by have := BD.out; omega) (by have := BD.out; omega)).mono ?_
  rintro e w3 ⟨rfl, rfl⟩
  rw [hrows]
  clear a0 a1 a2 a3 a4 a5 a6 a7 a8 g1 g2 hcols hrows
  go_wp2_with fail
  go_loopw [36] (fun i W => ∃ (y : Nat) (pre : List Value), i = .int .i64 (y : Nat) ∧ y ≤ rows ∧ pre.length = y * cols ∧ SvI B D P q0 q1 q2 q3 (.slice pa P.parts.length pc) kv J pre W) (fun i _ => rows - (intOf i).toNat)
  case atStart => exact ⟨0, [], rfl, Nat.zero_le _, by simp, S2.out⟩
  case round =>
    clear S2
    obtain ⟨y, pre, rfl, hy, hpre, hS⟩ := hrel
    have SS := Lib.hid hS
    have PRE := Lib.hid hpre
    clear hS hpre
    by_cases hyl : y < rows
    · have e1 : decide ((y : Int) < (rows : Int)) = true := by rw [decide_eq_true_eq]; omega
      have e1' : decide (y < rows) = true := by rw [decide_eq_true_eq]; omega
      have HYS := Lib.hid (show ((y + 1) * cols = y * cols + cols) from Nat.succ_mul _ _)
      have YL := Lib.hid hyl
      clear hyl
      go_wp2_with fail
      clear e1 e1'
      go_loopw [40] (fun i W => ∃ (x : Nat) (pre : List Value), i = .int .i64 (x : Nat) ∧ x ≤ cols ∧ pre.length = y * cols + x ∧ SvI B D P q0 q1 q2 q3 (.slice pa P.parts.length pc) kv J pre W) (fun i _ => cols - (intOf i).toNat)
      case atStart => exact ⟨0, pre, rfl, Nat.zero_le _, PRE.out, SS.out⟩
      case round =>
        clear SS PRE
        obtain ⟨x, pre, rfl, hx, hpre, hS⟩ := hrel
        revert wr; intro V hS
        have SS := Lib.hid hS
        have PRE := Lib.hid hpre
        clear hS hpre
        by_cases hxl : x < cols
        · have e2 : decide ((x : Int) < (cols : Int)) = true := by rw [decide_eq_true_eq]; omega
          have e2' : decide (x < cols) = true := by rw [decide_eq_true_eq]; omega
          have XL := Lib.hid hxl
          clear hxl
          obtain ⟨N, hN⟩ : ∃ N, V.heap.size = N := ⟨_, rfl⟩
          have HN := Lib.hid hN
          have BN : Hid (B < N) := Lib.hid (by rw [← hN]; exact SS.out.size)
          clear hN
          go_wp2_with fail
          clear e2 e2'
          go_loopw [12, 45] (fun u i W => ∃ m : Nat, i = .int .i64 (m : Nat) ∧ m ≤ ps.length ∧ W.ownsRow N 38 2 u (unitAt P cols y x (ps.take m)).length (vUnit (unitAt P cols y x (ps.take m))) ∧ Below N V W) (fun _ i _ => ps.length - (intOf i).toNat)
          case atStart => exact ⟨0, rfl, Nat.zero_le _, World.ownsRow_nil _ _ _ _, by rw [← HN.out]; exact Below.refl _ _⟩
          case round =>
            obtain ⟨m, rfl, hm, hown, hbl⟩ := hrel
            obtain ⟨ua, uc, rfl⟩ := owns_len hown
            have OW := Lib.hid hown
            have BL := Lib.hid hbl
            clear hown hbl
            by_cases hml : m < ps.length
            · have e3 : decide ((m : Int) < (ps.length : Int)) = true := by rw [decide_eq_true_eq]; omega
              have e3' : decide (m < ps.length) = true := by rw [decide_eq_true_eq]; omega
              have SW : Hid (SvI B D P q0 q1 q2 q3 (.slice pa P.parts.length pc) kv J pre wr) := Lib.hid (SS.out.below HJ.out UB.out DU.out (by rw [HN.out]; exact BL.out))
              obtain ⟨a', c', hv0, hkx⟩ := (DU.out.ns _ SW.out.data).read
              simp only [Value.slice.injEq, true_and] at hv0
              obtain ⟨hv1, rfl⟩ := hv0
              obtain ⟨b', o', hv, hkc⟩ := hkx m hml
              rw [← hv1] at hv
              simp only [Option.some.injEq, Addr.mk.injEq, and_true] at hv
              obtain ⟨rfl, rfl⟩ := hv
              have kc1 := hkc
              clear hkx hv1
              obtain ⟨hz', vz', PO⟩ := partOk_of (HOK.out ps[m] (List.getElem_mem hml))
              have TK := Lib.hid (unitAt_take P cols y x ps m hml)
              have LEN : Hid ((unitAt P cols y x (ps.take m)).length ≤ 16 * 1000) := Lib.hid (by
                have h1 := unitAt_len P cols y x (ps.take m) (fun k hk => by
                  obtain ⟨_, _, h⟩ := partOk_of (HOK.out k (List.mem_of_mem_take hk))
                  exact h.n16)
                have h2 := List.length_take_le m ps
                have h3 := HPL.out
                omega)
              have TH : Hid (m < 1000) := Lib.hid (by have := HPL.out; omega)
              obtain ⟨k, hk⟩ : ∃ k, ps[m] = k := ⟨_, rfl⟩
              rw [hk] at PO kc1 TK
              obtain ⟨kn, rfl⟩ : ∃ kn : Nat, k = (kn : Int) := ⟨k.toNat, by have := PO.k0; omega⟩
              have hlt : kn < P.parts.length := by have := PO.lt; simpa using this
              obtain ⟨pa', pc', hpv, _, hpx⟩ := pts_at (DU.out.pts _ SW.out.data)
              obtain ⟨pb, po, xv, hpe, hPB, hBK, c0, c1, c2, c3, c4, c5, c6⟩ := hpx kn hlt
              simp only [Value.slice.injEq, true_and] at hpv
              obtain ⟨rfl, rfl⟩ := hpv
              subst hpe
              obtain ⟨xa, xc, rfl, _⟩ := Els.len hBK
              have hpa : P.parts[kn] = partAt P (kn : Int) := by unfold partAt; rw [List.getD_eq_getElem?_getD, Int.toNat_natCast, List.getElem?_eq_getElem hlt]; rfl
              rw [hpa] at c0 c1 c2 c3 c4 c5 c6
              obtain ⟨pt, hpt⟩ : ∃ p, partAt P (kn : Int) = p := ⟨_, rfl⟩
              have PH := PO.h
              have PV := PO.v
              rw [hpt] at c0 c1 c2 c3 c4 c5 c6 PH PV
              obtain ⟨xn, hxn⟩ : ∃ xn, pt.bs.length = xn := ⟨_, rfl⟩
              rw [hxn] at c6
              obtain ⟨hz, hhz⟩ : ∃ z, pt.h = z := ⟨_, rfl⟩
              obtain ⟨vz, hvz⟩ : ∃ z, pt.v = z := ⟨_, rfl⟩
              rw [hhz] at c1
              rw [hvz] at c2
              have HZ : Hid ((1 ≤ hz ∧ hz ≤ 4) ∧ (1 ≤ vz ∧ vz ≤ 4)) := Lib.hid (by have := PO.h1; have := PO.h4; have := PO.v1; have := PO.v4; omega)
              obtain ⟨N4, hN4, h16⟩ : ∃ N4 : Nat, hz * vz = (N4 : Int) ∧ N4 ≤ 16 := ⟨hz' * vz', by rw [Int.natCast_mul, ← PH, ← PV, hhz, hvz], Nat.mul_le_mul PO.h4 PO.v4⟩
              have PN : Hid (partN P (kn : Int) = N4) := Lib.hid (by unfold partN; rw [hpt, hhz, hvz, hN4]; simp)
              have PU : Hid (∀ i : Nat, partU P cols y x (kn : Int) i = ((kn : Int), ((y : Int) * vz + (i : Int) / hz) * (cols : Int) * hz + (x : Int) * hz + (i : Int) % hz)) := Lib.hid (fun i => by unfold partU; rw [hpt, hhz, hvz])
              have H16 := Lib.hid h16
              have gm : IntKind.i64.wrap (hz * vz) = (N4 : Int) := by rw [hN4]; exact IntWalk.i64_in _ (by omega)
              obtain ⟨a0, a1, a2, a3, a4, a5, a6, a7, a8⟩ := SW.out.box.cells
              have i1 : decide ((kn : Int) < (P.parts.length : Int)) = true := by rw [decide_eq_true_eq]; omega
              have i3 : (0 : Int) ≤ (kn : Int) := by omega
              have i4 : (kn : Int) < (P.parts.length : Int) := by omega
              have i5 : decide (kn < P.parts.length) = true := by rw [decide_eq_true_eq]; exact hlt
              obtain ⟨X, hX⟩ : ∃ X, wr.alloc (.cells #[.int .i64 pt.id, .int .i64 hz, .int .i64 vz, .int .i64 pt.tq, .int .i64 pt.wide, .int .i64 pt.high, .slice xa xn xc] 48) = X := ⟨_, rfl⟩
              obtain ⟨BX, hBX⟩ : ∃ BX, wr.heap.size = BX := ⟨_, rfl⟩
              have XB : Hid (X.heap[BX]? = some (.cells #[.int .i64 pt.id, .int .i64 hz, .int .i64 vz, .int .i64 pt.tq, .int .i64 pt.wide, .int .i64 pt.high, .slice xa xn xc] 48 (0, 0))) := Lib.hid (by rw [← hX, ← hBX]; exact heap_alloc_new _ _)
              have bx : Below wr.heap.size wr X := by rw [← hX]; exact (Below.refl _ _).alloc (Nat.le_refl _) _
              have OX : Hid (X.ownsRow N 38 2 (.slice ua (unitAt P cols y x (ps.take m)).length uc) (unitAt P cols y x (ps.take m)).length (vUnit (unitAt P cols y x (ps.take m)))) := Lib.hid (owns_below OW.out bx)
              have BLX : Hid (Below N V X) := Lib.hid (BL.out.trans (bx.mono (by have := BL.out.size; have := HN.out; omega)))
              have x1 : X.cell? ⟨BX, 1, none⟩ = some (.int .i64 hz) := by rw [cell_of_row _ _ 1 _ _ _ XB.out]; rfl
              have x2 : X.cell? ⟨BX, 2, none⟩ = some (.int .i64 vz) := by rw [cell_of_row _ _ 2 _ _ _ XB.out]; rfl
              clear bx hPB hBK hpx hpa hpt PH PV hhz hvz hN4 h16 PO hk hkc hxn
              obtain ⟨A, hA⟩ : ∃ A, unitAt P cols y x (ps.take m) = A := ⟨_, rfl⟩
              rw [hA] at TK LEN OW OX ⊢
              clear hA
              go_wp2_with fail
              clear a0 a1 a2 a3 a4 a5 a6 a7 a8 i1 i3 i4 i5 c0 c1 c2 c3 c4 c5 c6 kc1 gm e3 e3' hX x1 x2
              obtain ⟨F, hF⟩ : ∃ F, partU P cols y x (kn : Int) = F := ⟨_, rfl⟩
              rw [hF] at PU TK
              rw [PN.out] at TK
              clear hF
              go_loopw [12, 59] (fun u i W => ∃ d : Nat, i = .int .i64 (d : Nat) ∧ d ≤ N4 ∧ W.ownsRow N 38 2 u (A ++ (List.range d).map F).length (vUnit (A ++ (List.range d).map F)) ∧ Below N V W ∧ W.heap[BX]? = some (.cells #[.int .i64 pt.id, .int .i64 hz, .int .i64 vz, .int .i64 pt.tq, .int .i64 pt.wide, .int .i64 pt.high, .slice xa xn xc] 48 (0, 0))) (fun _ i _ => N4 - (intOf i).toNat)
              case atStart => exact ⟨0, rfl, Nat.zero_le _, by simpa using OX.out, BLX.out, XB.out⟩
              case round =>
                clear OX BLX XB OW BL SW hBX
                obtain ⟨d, rfl, hd, hown, hbl, hxb⟩ := hrel
                obtain ⟨ua, uc, rfl⟩ := owns_len hown
                have OW := Lib.hid hown
                have BL := Lib.hid hbl
                have XB := Lib.hid hxb
                have LN : Hid ((A ++ (List.range d).map F).length ≤ 20000) := Lib.hid (by rw [List.length_append, List.length_map, List.length_range]; have := LEN.out; have := H16.out; omega)
                clear hown hbl hxb
                by_cases hdl : d < N4
                · have e4 : decide ((d : Int) < (N4 : Int)) = true := by rw [decide_eq_true_eq]; omega
                  have e4' : decide (d < N4) = true := by rw [decide_eq_true_eq]; omega
                  obtain ⟨dq, dr, m1, m2, m3, m4, m5, m6, m7, t1, t2, t3, t4, t5, t6, t7, t8, t9, t10, t11, t12⟩ := place_in (row := y) (cols := cols) (col := x) (i := d) HZ.out.1 HZ.out.2 (by have := RC.out; have := YL.out; omega) RC.out.2 (by have := RC.out; have := XL.out; omega) (by have := H16.out; omega)
                  have FD : Hid (F d = ((kn : Int), m7)) := Lib.hid (by rw [PU.out, t12])
                  have MS := Lib.hid (map_range_succ F d)
                  have z1 : (hz == 0) = false := by rw [beq_eq_false_iff_ne]; have := HZ.out; omega
                  have z2 : ¬ hz = 0 := by have := HZ.out; omega
                  obtain ⟨A2, hA2⟩ : ∃ A2, A ++ (List.range d).map F = A2 := ⟨_, rfl⟩
                  have A2N : Hid (A ++ (List.range (d + 1)).map F = A2 ++ [((kn : Int), m7)]) := Lib.hid (by rw [MS.out, ← List.append_assoc, hA2, FD.out])
                  rw [hA2] at OW LN ⊢
                  clear hA2 t12
                  have HD := Lib.hid hdl
                  clear hdl
                  go_upto_region 17 with (fail)
                  clear e4 e4'
                  refine wp_region_oqt (v := .slice ua A2.length uc) (fun Y => Y.cell? ⟨BX, 1, none⟩ = some (.int .i64 hz) ∧ Y.cell? ⟨BX, 2, none⟩ = some (.int .i64 vz) ∧ Below wr.heap.size wr Y) 27 (by kernel_rfl) (by kernel_rfl) ⟨cell_old (Below.refl _ _).drew (by rw [cell_of_row _ _ 1 _ _ _ XB.out]; rfl), cell_old (Below.refl _ _).drew (by rw [cell_of_row _ _ 2 _ _ _ XB.out]; rfl), (Below.refl _ _).drew⟩ ⟨rfl, fun _ => rfl⟩ ?_
                  simp only [Act.put, List.setIfInBounds_toArray, List.set_cons_zero, List.set_cons_succ, List.take_succ_cons, List.take_zero, List.drop_succ_cons, List.drop_zero]
                  repeat
                    first
                    | go_big_quiet_skip
                    | (go_big_quiet_want
                       first
                       | (go_big_quiet_op; go_big_quiet_on)
                       | (apply Exists.intro
                          refine ⟨fun X hX => ?_, ?_⟩
                          · obtain ⟨e1, e2, eZ⟩ := hX
                            clear eZ
                            unfold Oper.quietAt
                            go_simp
                            first
                            | exact ⟨rfl, rfl⟩
                            | exact rfl
                          go_big_quiet_on
                          try simp only [Act.put, List.setIfInBounds_toArray, List.set_cons_zero, List.set_cons_succ]))
                  refine wpQuiet_nil ?_
                  rintro Y ⟨-, -, hbY⟩
                  have OY := owns_below OW.out hbY
                  have BY := BL.out.trans (hbY.mono (by have := BL.out.size; have := HN.out; omega))
                  have XY := heap_low XB.out hbY
                  go_wp2_with (at_builtin; refine stop ?_)
                  refine unstop (wpList_app tyL rfl _ _ rfl N (.slice ua A2.length uc) A2.length (vUnit A2) rfl (OY.alloc _) _ 1 [.int .i64 (kn : Int), .int .i64 m7] rfl (sl_lit2 _ _ _ _) (by intro u hu; simp at hu; rcases hu with rfl | rfl <;> rfl) (by have := LN.out; omega) (by have := LN.out; omega) (by have := BY.size; have := HN.out; simp; omega) ?_)
                  intro v9 w9 o9 g9 _
                  have X9 : Hid (w9.heap[BX]? = some (.cells #[.int .i64 pt.id, .int .i64 hz, .int .i64 vz, .int .i64 pt.tq, .int .i64 pt.wide, .int .i64 pt.high, .slice xa xn xc] 48 (0, 0))) := Lib.hid (by
                    have hy2 := heap_low XY ((Below.refl _ Y).alloc (Nat.le_refl _) (.cells #[.int .i64 (kn : Int), .int .i64 m7] 38))
                    rw [g9.block BX (Array.getElem?_eq_some_iff.1 hy2).1 (fun e => row_ne2 (OY.alloc _) hy2 (by decide) e.symm)]
                    exact hy2)
                  have B9 : Hid (Below N V w9) := Lib.hid (by
                    have h1 : Below N V (Y.alloc (.cells #[.int .i64 (kn : Int), .int .i64 m7] 38)) := BY.alloc (by have := BY.size; have := HN.out; omega) _
                    have h2 := HN.out
                    subst h2
                    exact run_app_below (OY.alloc _) g9 h1 (Nat.le_refl _))
                  obtain ⟨a9, c9, rfl⟩ := owns_len o9
                  have O9 : Hid (w9.ownsRow N 38 2 (.slice a9 (A2.length + 1) c9) (A ++ (List.range (d + 1)).map F).length (vUnit (A ++ (List.range (d + 1)).map F))) := Lib.hid (by rw [A2N.out, vUnit_one, List.length_append]; exact o9)
                  clear o9 g9 OY BY XY hbY
                  have gd : IntKind.i64.wrap ((d : Int) + 1) = (d : Int) + 1 := IntWalk.i64_in _ (by have := HD.out; have := H16.out; omega)
                  clear t1 t2 t3 t4 t5 t6 t7 t8 t9 t10 t11 z1 z2
                  go_wp2_with fail
                  refine strict_at ?_
                  go_wp2_with fail
                  go_roundw
                  case rel => exact ⟨d + 1, by go_num, HD.out, O9.out, B9.out, X9.out⟩
                  case measure => simp [intOf]; have := HD.out; omega
                · obtain rfl : d = N4 := by omega
                  have e4 : decide ((d : Int) < (d : Int)) = false := by rw [decide_eq_false_iff_not]; omega
                  have gm3 : IntKind.i64.wrap ((m : Int) + 1) = (m : Int) + 1 := IntWalk.i64_in _ (by have := TH.out; omega)
                  rw [← TK.out] at OW ⊢
                  go_wp2_with fail
                  go_roundw
                  case rel => exact ⟨m + 1, by go_num, by omega, OW.out, BL.out⟩
                  case measure => simp [intOf]; omega
            · obtain rfl : m = ps.length := by omega
              have e3 : decide ((ps.length : Int) < (ps.length : Int)) = false := by rw [decide_eq_false_iff_not]; omega
              have SW : Hid (SvI B D P q0 q1 q2 q3 (.slice pa P.parts.length pc) kv J pre wr) := Lib.hid (SS.out.below HJ.out UB.out DU.out (by rw [HN.out]; exact BL.out))
              rw [List.take_length] at OW ⊢
              have UV : UnitV wr (.slice ua (unitAt P cols y x ps).length uc) (severalF P ps pre.length) := by
                rw [PRE.out, FA.out y x XL.out]
                exact sl_of_owns OW.out
              obtain ⟨A, hA⟩ : ∃ A, unitAt P cols y x ps = A := ⟨_, rfl⟩
              rw [hA] at UV OW ⊢
              have NN : pre.length < severalN P ps := by rw [PRE.out, CN.out]; exact at_lt YL.out XL.out
              obtain ⟨f1, t1, as1, y1, hy1, hR1⟩ := FF.out pre (.slice ua A.length uc) wr (Nat.le_trans UB.out (Nat.le_of_lt SW.out.size)) SW.out.j ⟨NN, UV⟩
              have RR := Lib.hid hR1
              have gx : IntKind.i64.wrap ((x : Int) + 1) = (x : Int) + 1 := IntWalk.i64_in _ (by have := XL.out; have := RC.out; omega)
              clear hR1 UV NN hml hA
              go_upto_region 20 with (fail)
              refine (wpIn_wide (n := n + 1)).1 ?_
              gi_wp2_with fail
              refine RR.out.mono ?_
              rintro e W5 (⟨rfl, hj5, hk5⟩ | ⟨rfl, hj5, hk5⟩)
              · have S5 := Lib.hid (SW.out.kept hj5 UB.out DU.out hk5)
                clear hj5 hk5 hy1 e3
                gi_wp2_with fail
                go_wp2_with fail
                go_roundw
                case rel => exact ⟨x + 1, pre ++ [_], by go_num, XL.out, by rw [List.length_append, PRE.out]; simp; omega, S5.out⟩
                case measure => simp [intOf]; have := XL.out; omega
              · have J5 := Lib.hid hj5
                clear hj5 hk5 hy1 e3
                gi_wp2_with fail
                go_wp2_with fail
                refine bodyPost_ret (results_none rfl _ _ _) rfl ?_
                exact ⟨⟨_, rfl⟩, .inr ⟨_, J5.out⟩⟩
        · obtain rfl : x = cols := by omega
          have e2 : decide ((x : Int) < (x : Int)) = false := by rw [decide_eq_false_iff_not]; omega
          have gy : IntKind.i64.wrap ((y : Int) + 1) = (y : Int) + 1 := IntWalk.i64_in _ (by have := RC.out; have := YL.out; omega)
          go_wp2_with fail
          go_roundw
          case rel => exact ⟨y + 1, pre, by go_num, YL.out, by rw [PRE.out, HYS.out], SS.out⟩
          case measure => simp [intOf]; have := YL.out; omega
    · obtain rfl : y = rows := by omega
      have e1 : decide ((y : Int) < (y : Int)) = false := by rw [decide_eq_false_iff_not]; omega
      go_wp2_with fail
      go_end0
      exact ⟨⟨_, rfl⟩, .inl ⟨pre, by rw [PRE.out, CN.out], SS.out.j⟩⟩
end Go.Proofs.Ytbcbfnkpnfbfjaa
