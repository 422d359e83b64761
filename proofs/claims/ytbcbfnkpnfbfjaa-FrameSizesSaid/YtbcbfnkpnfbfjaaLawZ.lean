/- The law FrameSizes walked. By an AI agent. -/
import Derived.Test.YtbcbfnkpnfbfjaaShow
import Derived.Test.YtbcbfnkpnfbfjaaAliveU
namespace Go.Proofs.Ytbcbfnkpnfbfjaa
open Go.RowKit Go.BigFrame
set_option linter.unusedVariables false
set_option linter.unusedSimpArgs false
attribute [local go_sem] Oper.semAt_some

theorem range_old {w w' : World} (hb : Below w.heap.size w w') {b o : Nat} {cs : List Value} (h : w.rangeAt b o cs) : w'.rangeAt b o cs := fun j v hj => cell_old hb (h j v hj)
theorem range_heap {w : World} {b : Nat} {cs : List Value} {t : TypeId} {fr : Nat × Nat} (h : w.heap[b]? = some (.cells cs.toArray t fr)) : w.rangeAt b 0 cs := fun j v hj => by
  rw [Nat.zero_add, cell_of_row _ _ j _ _ _ h]
  simpa using hj
theorem vIs_all (l : List Int) : (vIs l).toArray.all (·.oneCell') = true := all_oneCell_toArray (fun v hv => by
  simp only [vIs, List.mem_map] at hv
  obtain ⟨z, _, rfl⟩ := hv
  rfl)
/-- a load of many cells, quiet -/
theorem quiet_load_mid {P : Program} {o : Oper} {a : Act} {C : World → Prop} {next : Act → Prop} {ty : TypeId} {x : Operand} (ho : o.op = .load ty x) (b off : Nat) (hx : a.eval x = .pointer (some ⟨b, off, none⟩)) (cs : List Value) (d : TypeDesc)
    (hS : ∀ w, C w → w.rangeAt b off cs) (hu : P.underlying ty = some d) (hd : d.isRow = true) (hi : (P.info? ty).map (·.size) = some cs.length) (h : next (a.put o.dst (.agg cs.toArray))) : o.quiet P a C next := by
  refine ⟨.agg cs.toArray, fun w hw => ?_, h⟩
  unfold Oper.quietAt Oper.quietUpon execOp
  simp only [ho, hx, Instr.loadAt, Instr.sureAddr, Sem.run_bind, Sem.run_pure, Result.andThen_ok, run_loadVar_mid w b off ty cs d (hS w hw) hu hd hi]
  simp [hw]
set_option maxRecDepth 100000 in
set_option maxHeartbeats 16000000 in
theorem lawFSizes_any (P : PicL) (q0 q1 q2 q3 pv kv : Value) (k : Int) (w : World) (hp : PicC w P q0 q1 q2 q3 pv kv) (hB : PicB P) (hk : -9223372036854775808 ≤ k ∧ k ≤ 9223372036854775807) :
    Calls Try.prog 5 #[.agg (vPic P q0 q1 q2 q3 pv kv), .int .i64 k] w fun e w' => e = .returned (.bool true) ∧ Below w.heap.size w w' := by
  have hl := hB.parts
  have hpt := hp.parts
  obtain ⟨pa, pc, rfl, _, hx⟩ := pts_at hpt
  have HX := Lib.hid hx
  have HC := Lib.hid hpt
  clear hp hB hx hpt hk
  obtain ⟨w1, hw1⟩ : ∃ w1, w.alloc (.cells (vPic P q0 q1 q2 q3 (.slice pa P.parts.length pc) kv) 27) = w1 := ⟨_, rfl⟩
  have hb1 : Below w.heap.size w w1 := by rw [← hw1]; exact (Below.refl _ _).alloc (Nat.le_refl _) _
  have hbox : PBox w1 w.heap.size P q0 q1 q2 q3 (.slice pa P.parts.length pc) kv := by rw [← hw1]; exact heap_alloc_new _ _
  have B1 := Lib.hid hb1
  have BX1 := Lib.hid hbox
  unfold vPic at hw1
  clear hb1 hbox
  unfold vPic
  go_enter Try.func5, Try.ntmps5
  go_wp2_with fail
  refine (alive_any w1).mono ?_
  rintro e w2 ⟨rfl, hb2⟩
  have B2 := Lib.hid (B1.out.trans (hb2.mono B1.out.size))
  have BX2 := Lib.hid (BX1.out.old hb2)
  clear hb2 hw1
  obtain ⟨a0, a1, a2, a3, a4, a5, a6, a7, a8⟩ := BX2.out.cells
  by_cases hbig : 100 < P.parts.length
  · have d1 : decide ((100 : Int) < (P.parts.length : Int)) = true := by rw [decide_eq_true_eq]; omega
    have d1' : decide (100 < P.parts.length) = true := by rw [decide_eq_true_eq]; omega
    clear hbig
    go_wp2_with fail
    go_ret
    exact ⟨rfl, B2.out⟩
  have d1 : decide ((100 : Int) < (P.parts.length : Int)) = false := by rw [decide_eq_false_iff_not]; omega
  have d1' : decide (100 < P.parts.length) = false := by rw [decide_eq_false_iff_not]; omega
  clear hbig
  go_wp2_with fail
  refine (size_any P q0 q1 q2 q3 _ kv k w2 (HC.out.old B2.out) hl).mono ?_
  rintro e w3 ⟨rfl, hb3⟩
  have B3 := Lib.hid (B2.out.trans (hb3.mono B2.out.size))
  have BX3 := Lib.hid (BX2.out.old hb3)
  clear hb3 a0 a1 a2 a3 a4 a5 a6 a7 a8 d1 d1'
  obtain ⟨a0, a1, a2, a3, a4, a5, a6, a7, a8⟩ := BX3.out.cells
  have SI := szL_in P k
  have OI := owL_in P k
  obtain ⟨sw, hsw⟩ : ∃ z, (sizeL P k).1 = z := ⟨_, rfl⟩
  obtain ⟨sh, hsh⟩ : ∃ z, (sizeL P k).2 = z := ⟨_, rfl⟩
  obtain ⟨ow, how⟩ : ∃ z, (ownL P k).1 = z := ⟨_, rfl⟩
  obtain ⟨oh, hoh⟩ : ∃ z, (ownL P k).2 = z := ⟨_, rfl⟩
  rw [hsw, hsh] at SI ⊢
  rw [how, hoh] at OI
  have HSI := Lib.hid SI
  have HOI := Lib.hid OI
  have HSW := Lib.hid hsw
  have HSH := Lib.hid hsh
  have HOW := Lib.hid how
  have HOH := Lib.hid hoh
  clear SI OI hsw hsh how hoh
  go_wp2_with fail
  refine (refSize_any P q0 q1 q2 q3 _ kv k w3 (HC.out.old B3.out) hl).mono ?_
  rintro e w4 ⟨rfl, hb4⟩
  have B4 := Lib.hid (B3.out.trans (hb4.mono B3.out.size))
  have BX4 := Lib.hid (BX3.out.old hb4)
  rw [HSW.out, HSH.out]
  clear hb4 a0 a1 a2 a3 a4 a5 a6 a7 a8
  obtain ⟨a0, a1, a2, a3, a4, a5, a6, a7, a8⟩ := BX4.out.cells
  go_wp2_with fail
  refine (own_any P q0 q1 q2 q3 _ kv k w4 (HC.out.old B4.out) hl).mono ?_
  rintro e w5 ⟨rfl, hb5⟩
  have B5 := Lib.hid (B4.out.trans (hb5.mono B4.out.size))
  have BX5 := Lib.hid (BX4.out.old hb5)
  rw [HOW.out, HOH.out]
  clear hb5 a0 a1 a2 a3 a4 a5 a6 a7 a8
  obtain ⟨a0, a1, a2, a3, a4, a5, a6, a7, a8⟩ := BX5.out.cells
  go_wp2_with fail
  refine (refOwn_any P q0 q1 q2 q3 _ kv k w5 (HC.out.old B5.out) hl).mono ?_
  rintro e w6 ⟨rfl, hb6⟩
  have B6 := Lib.hid (B5.out.trans (hb6.mono B5.out.size))
  have BX6 := Lib.hid (BX5.out.old hb6)
  rw [HOW.out, HOH.out]
  clear hb6 a0 a1 a2 a3 a4 a5 a6 a7 a8
  obtain ⟨a0, a1, a2, a3, a4, a5, a6, a7, a8⟩ := BX6.out.cells
  have n1 : (sw != sw) = false := by rw [bne_eq_false_iff_eq]
  have n2 : (sh != sh) = false := by rw [bne_eq_false_iff_eq]
  have n3 : (ow != ow) = false := by rw [bne_eq_false_iff_eq]
  have n4 : (oh != oh) = false := by rw [bne_eq_false_iff_eq]
  go_wp2_with fail
  refine (shown_any P q0 q1 q2 q3 _ kv k w6 (HC.out.old B6.out) hl).mono ?_
  rintro e w7 ⟨v7, rfl, ho7, hb7⟩
  have B7 := Lib.hid (B6.out.trans (hb7.mono B6.out.size))
  have BX7 := Lib.hid (BX6.out.old hb7)
  have O7 := Lib.hid ho7
  clear hb7 ho7 a0 a1 a2 a3 a4 a5 a6 a7 a8 n1 n2 n3 n4
  obtain ⟨a0, a1, a2, a3, a4, a5, a6, a7, a8⟩ := BX7.out.cells
  by_cases hz : sw = 0
  · have z1 : (sw == 0) = true := by rw [beq_iff_eq]; exact hz
    have SL : shownL P k = [] := by
      have : fullB P k = false := by unfold fullB; rw [HSW.out, hz]; rfl
      unfold shownL; rw [this]; rfl
    have O7' := O7.out
    rw [SL] at O7'
    obtain ⟨va, vc, rfl⟩ := O7'.shape
    clear hz SL O7'
    go_wp2_with fail
    go_ret
    exact ⟨rfl, B7.out⟩
  have z1 : (sw == 0) = false := by rw [beq_eq_false_iff_ne]; exact hz
  have hm := mostOf (P := P) (k := k) (by rw [HSW.out]; exact hz)
  obtain ⟨hkr, hw, hh, hfx, h14, v14⟩ := mostL_some hm
  obtain ⟨ph1, pv1, hlt, -⟩ := part_in hm
  obtain ⟨b, off, x, rfl, -, hBK, c0, c1, c2, c3, c4, c5, c6⟩ := HX.out k.toNat hlt
  have hpa : P.parts[k.toNat] = partAt P k := by unfold partAt; rw [List.getD_eq_getElem?_getD, List.getElem?_eq_getElem hlt]; rfl
  rw [hpa] at hBK
  obtain ⟨kn, hkn⟩ : ∃ n : Nat, k = (n : Int) := ⟨k.toNat, by omega⟩
  subst hkn
  simp only [Int.toNat_natCast] at c6 hlt
  obtain ⟨bs, hbs⟩ : ∃ bs, (partAt P (kn : Int)).bs = bs := ⟨_, rfl⟩
  rw [hbs] at hBK
  obtain ⟨xa, xc, rfl, _⟩ := Els.len hBK
  obtain ⟨n, hn⟩ : ∃ n, bs.length = n := ⟨_, rfl⟩
  rw [hn] at hBK c6
  have HN := Lib.hid hn
  have d6 := cell_old B7.out c6
  have i1 : decide ((kn : Int) < (P.parts.length : Int)) = true := by rw [decide_eq_true_eq]; omega
  have i2 : kn < P.parts.length := hlt
  have i3 : (0 : Int) ≤ (kn : Int) := by omega
  have i4 : (kn : Int) < (P.parts.length : Int) := by omega
  have SI := HSI.out
  have mm := mul_in (a := sw) (b := sh) (m := 262140) (n := 262140) SI.1 SI.2
  obtain ⟨pr, hpr⟩ : ∃ pr, sw * sh = pr := ⟨_, rfl⟩
  rw [hpr] at mm
  have g1 : wrap64 (sw * sh) = pr := by rw [hpr]; exact IntWalk.wrap64_in _ (by omega)
  have HK := Lib.hid (hBK.old B7.out)
  have HBS := Lib.hid hbs
  have HPR := Lib.hid hpr
  clear hm hkr hw hh hfx h14 v14 ph1 pv1 c0 c1 c2 c3 c4 c5 c6 hpa hBK hbs hn
  by_cases hf : (n : Int) = pr
  · have f1 : ((n : Int) != pr) = false := by rw [bne_eq_false_iff_eq]; exact hf
    have NL : Hid (n ≤ 100000000000) := Lib.hid (by omega)
    have NZ : Hid (1 ≤ sw) := Lib.hid (by omega)
    have SL : Hid (shownL P (kn : Int) = shTo sw ow oh bs n) := Lib.hid (by
      have h1 : fullB P (kn : Int) = true := by
        unfold fullB
        rw [HSW.out, HSH.out, HBS.out, HN.out, HPR.out, hf, decide_eq_false hz, decide_eq_true rfl]
        rfl
      unfold shownL
      rw [h1, if_pos rfl, HSW.out, HBS.out, HN.out, HOW.out, HOH.out])
    have OV : Hid (BkO w6.heap.size w7 v7 (shTo sw ow oh bs n)) := Lib.hid (by rw [← SL.out]; exact O7.out)
    obtain ⟨va, vc, hva⟩ := OV.out.shape
    rw [shTo_length, HN.out] at hva
    subst hva
    clear hf hz hpr SI mm O7
    go_wp2_with fail
    clear a0 a1 a2 a3 a4 a5 a6 a7 a8 d6 i1 i2 i3 i4 g1 f1 z1
    go_loopw [98] (fun t W => ∃ i : Nat, t = .int .i64 (i : Nat) ∧ i ≤ n ∧ Below w7.heap.size w7 W) (fun t _ => n - (intOf t).toNat)
    case atStart => exact ⟨0, rfl, Nat.zero_le _, Below.refl _ _⟩
    case round =>
      obtain ⟨i, rfl, hi, hb⟩ := hrel
      have BB := Lib.hid hb
      clear hb
      by_cases hil : i < n
      · have l1 : decide ((i : Int) < (n : Int)) = true := by rw [decide_eq_true_eq]; omega
        have l2 : decide (i < n) = true := by rw [decide_eq_true_eq]; omega
        have l3 : (i : Int) < (n : Int) := by omega
        obtain ⟨m0, m1, q0', q1'⟩ := place_q i NZ.out
        have zz : (sw == 0) = false := by rw [beq_eq_false_iff_ne]; have := NZ.out; omega
        have zz2 : ¬ sw = 0 := by have := NZ.out; omega
        have gi : IntKind.i64.wrap ((i : Int) + 1) = (i : Int) + 1 := IntWalk.i64_in _ (by have := NL.out; omega)
        obtain ⟨mr, hmr⟩ : ∃ z, (i : Int) % sw = z := ⟨_, rfl⟩
        obtain ⟨dq, hdq⟩ : ∃ z, (i : Int) / sw = z := ⟨_, rfl⟩
        have t1 : (i : Int).tmod sw = mr := by rw [← hmr]; exact Int.tmod_eq_emod_of_nonneg (by omega)
        have t2 : (i : Int).tdiv sw = dq := by rw [← hdq]; exact Int.tdiv_eq_ediv_of_nonneg (by omega)
        rw [hmr] at m0 m1
        rw [hdq] at q0' q1'
        have t3 : wrap64 mr = mr := IntWalk.wrap64_in _ (by have := HSI.out; omega)
        have t4 : wrap64 dq = dq := IntWalk.wrap64_in _ (by have := NL.out; omega)
        have t5 : IntKind.i64.wrap mr = mr := IntWalk.i64_in _ (by have := HSI.out; omega)
        have t6 : IntKind.i64.wrap dq = dq := IntWalk.i64_in _ (by have := NL.out; omega)
        have HMR := Lib.hid hmr
        have HDQ := Lib.hid hdq
        have HIL := Lib.hid hil
        clear hmr hdq m0 m1 q0' q1'
        have hib : i < bs.length := by rw [HN.out]; exact hil
        obtain ⟨hall, xa', xc', hxe, _, hxx⟩ := HK.out.range
        simp only [Value.slice.injEq] at hxe
        obtain ⟨rfl, -, rfl⟩ := hxe
        obtain ⟨xb, xo, rfl, hrg⟩ := hxx i hib
        obtain ⟨g, gc, hge, hg1, hg2⟩ := OV.out.got (by rw [shTo_length, HN.out]; omega)
        simp only [Value.slice.injEq] at hge
        obtain ⟨rfl, -, rfl⟩ := hge
        have RX := Lib.hid (range_old BB.out hrg)
        have hrs := OV.out.range i (by rw [shTo_length]; exact hib)
        rw [shTo_at _ _ _ _ _ _ hib, if_pos hil] at hrs
        have RS := Lib.hid (range_old BB.out hrs)
        obtain ⟨cb, hcb⟩ : ∃ c, bs[i]'hib = c := ⟨_, rfl⟩
        have CB : Hid (Blk64 cb) := Lib.hid (by rw [← hcb]; exact hall.at i hib)
        rw [hcb] at RX RS
        have HI : Hid ((Try.prog.info? 50).map (·.size) = some (vIs cb).length) := Lib.hid (by rw [vIs_length, CB.out.1]; kernel_rfl)
        clear hall hxx hrg hg1 hg2 hrs hcb
        have HIA : Hid ((Try.prog.info? 50).map (·.size) = some (vIs cb).toArray.size) := Lib.hid (by have := HI.out; simpa using this)
        have HOA : Hid ((vIs cb).toArray.all (·.oneCell') = true) := Lib.hid (vIs_all cb)
        have BL := Lib.hid zb_built
        have ZI := Lib.hid zb_info
        have ZO := Lib.hid zb_one
        go_wp2_with (refine wpList_load_mid rfl _ _ rfl xb (xo + i * 64) rfl (vIs cb) _ RX.out Try.underlying50 rfl HI.out ?_; refine stop ?_)
        refine unstop ?_
        go_wp2_with (refine wpList_store_row rfl _ _ _ rfl wr.heap.size (vIs cb).toArray rfl rfl 50 _ (heap_alloc_new _ _) HIA.out (by simp [vIs, CB.out.1]) HOA.out ?_; refine stop ?_)
        refine unstop ?_
        generalize hZ : World.setRow _ wr.heap.size (vIs cb).toArray = Z1
        have HZ1 : Hid (Z1.heap[wr.heap.size]? = some (.cells (vIs cb).toArray 50 (0, 0))) := Lib.hid (by rw [← hZ]; exact setRow_heap _ _ _ _ _ _ (heap_alloc_new _ _))
        have BZ1 : Hid (Below wr.heap.size wr Z1) := Lib.hid (by rw [← hZ]; exact below_setRow ((Below.refl _ _).alloc (Nat.le_refl _) _) (Nat.le_refl _) _)
        clear hZ
        by_cases hc1 : ow ≤ mr
        · have v1 : decide (ow ≤ mr) = true := decide_eq_true hc1
          have SS : Hid (shB sw ow oh i cb = zero64) := Lib.hid (by unfold shB; rw [if_pos (.inl (by rw [HMR.out]; exact hc1))])
          clear hc1
          have HSB : Hid (shB sw ow oh i cb = zero64) := Lib.hid SS.out
          go_wp2_with (first | refine wpList_agg rfl _ _ rfl _ _ rfl BL.out ?_ | (refine wpList_store_row rfl _ _ _ rfl wr.heap.size (vIs zero64).toArray rfl rfl 50 _ HZ1.out ZI.out (by simp [vIs, CB.out.1, zero64]) ZO.out ?_; refine stop ?_))
          refine unstop ?_
          have HZ2' : (Z1.setRow wr.heap.size (vIs zero64).toArray).heap[wr.heap.size]? = some (.cells (vIs zero64).toArray 50 (0, 0)) := setRow_heap _ _ _ _ _ _ HZ1.out
          have BZ2' : Below wr.heap.size wr (Z1.setRow wr.heap.size (vIs zero64).toArray) := below_setRow BZ1.out (Nat.le_refl _) _
          rw [HSB.out] at RS
          generalize Z1.setRow wr.heap.size (vIs zero64).toArray = Z2 at HZ2' BZ2'
          have HZ2 := Lib.hid HZ2'
          have BZ2 := Lib.hid BZ2'
          have SB : Hid (Blk64 zero64) := Lib.hid blk_zero
          have HIS : Hid ((Try.prog.info? 50).map (·.size) = some (vIs zero64).length) := Lib.hid (by kernel_rfl)
          obtain ⟨sb, hsb⟩ : ∃ sb, zero64 = sb := ⟨_, rfl⟩
          rw [hsb] at HZ2 SB RS HIS
          clear HZ2' BZ2' hsb
          have QS : Hid (Z2.drew.rangeAt g (i * 64) (vIs sb) ∧ Z2.drew.rangeAt wr.heap.size 0 (vIs sb) ∧ Below wr.heap.size wr Z2.drew) := Lib.hid ⟨range_old (BZ2.out.drew) RS.out, range_old ((Below.refl _ _).drew) (range_heap HZ2.out), BZ2.out.drew⟩
          go_wp2_with fail
          refine wp_region_q (fun X => X.rangeAt g (i * 64) (vIs sb) ∧ X.rangeAt wr.heap.size 0 (vIs sb) ∧ Below wr.heap.size wr X) (by kernel_rfl) (by kernel_rfl) QS.out ?_
          clear QS
          have EQ := same_in sb SB.out.1 SB.out.in64
          unfold arr at EQ
          repeat
            first
            | go_big_quiet_skip
            | (go_big_quiet_want
               first
               | (refine quiet_load_mid rfl g (i * 64) (by first | rfl | simp) (vIs sb) _ (fun w hw => hw.1) Try.underlying50 rfl HIS.out ?_; go_big_quiet_on; try simp only [Act.put, List.setIfInBounds_toArray, List.set_cons_zero, List.set_cons_succ])
               | (refine quiet_load_mid rfl wr.heap.size 0 rfl (vIs sb) _ (fun w hw => hw.2.1) Try.underlying50 rfl HIS.out ?_; go_big_quiet_on; try simp only [Act.put, List.setIfInBounds_toArray, List.set_cons_zero, List.set_cons_succ])
               | (go_big_quiet_op; go_big_quiet_on)
               | (apply Exists.intro
                  refine ⟨fun X hX => ?_, ?_⟩
                  · clear hX
                    unfold Oper.quietAt
                    go_simp
                    first
                    | exact ⟨rfl, rfl⟩
                    | exact rfl
                  go_big_quiet_on
                  try simp only [Act.put, List.setIfInBounds_toArray, List.set_cons_zero, List.set_cons_succ]))
          refine wpQuiet_nil ?_
          rintro Y ⟨-, -, hbY⟩
          have BY := Lib.hid (BB.out.trans (hbY.mono BB.out.size))
          clear hbY EQ
          go_wp2_with fail
          go_roundw
          case rel => exact ⟨i + 1, by go_num, HIL.out, BY.out⟩
          case measure => simp [intOf]; have := HIL.out; omega
        · have v1 : decide (ow ≤ mr) = false := decide_eq_false hc1
          by_cases hc2 : oh ≤ dq
          · have v2 : decide (oh ≤ dq) = true := decide_eq_true hc2
            have SS : Hid (shB sw ow oh i cb = zero64) := Lib.hid (by unfold shB; rw [if_pos (.inr (by rw [HDQ.out]; exact hc2))])
            clear hc1 hc2
            have HSB : Hid (shB sw ow oh i cb = zero64) := Lib.hid SS.out
            go_wp2_with (first | refine wpList_agg rfl _ _ rfl _ _ rfl BL.out ?_ | (refine wpList_store_row rfl _ _ _ rfl wr.heap.size (vIs zero64).toArray rfl rfl 50 _ HZ1.out ZI.out (by simp [vIs, CB.out.1, zero64]) ZO.out ?_; refine stop ?_))
            refine unstop ?_
            have HZ2' : (Z1.setRow wr.heap.size (vIs zero64).toArray).heap[wr.heap.size]? = some (.cells (vIs zero64).toArray 50 (0, 0)) := setRow_heap _ _ _ _ _ _ HZ1.out
            have BZ2' : Below wr.heap.size wr (Z1.setRow wr.heap.size (vIs zero64).toArray) := below_setRow BZ1.out (Nat.le_refl _) _
            rw [HSB.out] at RS
            generalize Z1.setRow wr.heap.size (vIs zero64).toArray = Z2 at HZ2' BZ2'
            have HZ2 := Lib.hid HZ2'
            have BZ2 := Lib.hid BZ2'
            have SB : Hid (Blk64 zero64) := Lib.hid blk_zero
            have HIS : Hid ((Try.prog.info? 50).map (·.size) = some (vIs zero64).length) := Lib.hid (by kernel_rfl)
            obtain ⟨sb, hsb⟩ : ∃ sb, zero64 = sb := ⟨_, rfl⟩
            rw [hsb] at HZ2 SB RS HIS
            clear HZ2' BZ2' hsb
            have QS : Hid (Z2.drew.rangeAt g (i * 64) (vIs sb) ∧ Z2.drew.rangeAt wr.heap.size 0 (vIs sb) ∧ Below wr.heap.size wr Z2.drew) := Lib.hid ⟨range_old (BZ2.out.drew) RS.out, range_old ((Below.refl _ _).drew) (range_heap HZ2.out), BZ2.out.drew⟩
            go_wp2_with fail
            refine wp_region_q (fun X => X.rangeAt g (i * 64) (vIs sb) ∧ X.rangeAt wr.heap.size 0 (vIs sb) ∧ Below wr.heap.size wr X) (by kernel_rfl) (by kernel_rfl) QS.out ?_
            clear QS
            have EQ := same_in sb SB.out.1 SB.out.in64
            unfold arr at EQ
            repeat
              first
              | go_big_quiet_skip
              | (go_big_quiet_want
                 first
                 | (refine quiet_load_mid rfl g (i * 64) (by first | rfl | simp) (vIs sb) _ (fun w hw => hw.1) Try.underlying50 rfl HIS.out ?_; go_big_quiet_on; try simp only [Act.put, List.setIfInBounds_toArray, List.set_cons_zero, List.set_cons_succ])
                 | (refine quiet_load_mid rfl wr.heap.size 0 rfl (vIs sb) _ (fun w hw => hw.2.1) Try.underlying50 rfl HIS.out ?_; go_big_quiet_on; try simp only [Act.put, List.setIfInBounds_toArray, List.set_cons_zero, List.set_cons_succ])
                 | (go_big_quiet_op; go_big_quiet_on)
                 | (apply Exists.intro
                    refine ⟨fun X hX => ?_, ?_⟩
                    · clear hX
                      unfold Oper.quietAt
                      go_simp
                      first
                      | exact ⟨rfl, rfl⟩
                      | exact rfl
                    go_big_quiet_on
                    try simp only [Act.put, List.setIfInBounds_toArray, List.set_cons_zero, List.set_cons_succ]))
            refine wpQuiet_nil ?_
            rintro Y ⟨-, -, hbY⟩
            have BY := Lib.hid (BB.out.trans (hbY.mono BB.out.size))
            clear hbY EQ
            go_wp2_with fail
            go_roundw
            case rel => exact ⟨i + 1, by go_num, HIL.out, BY.out⟩
            case measure => simp [intOf]; have := HIL.out; omega
          · have v2 : decide (oh ≤ dq) = false := decide_eq_false hc2
            have SS : Hid (shB sw ow oh i cb = cb) := Lib.hid (by unfold shB; rw [if_neg (by rw [HMR.out, HDQ.out]; omega)])
            clear hc1 hc2
            rw [SS.out] at RS
            obtain ⟨Z2, hZ2⟩ : ∃ Z2, Z1 = Z2 := ⟨_, rfl⟩
            rw [hZ2] at HZ1 BZ1 ⊢
            have HZ2 := Lib.hid HZ1.out
            have BZ2 := Lib.hid BZ1.out
            have SB := Lib.hid CB.out
            have HIS := Lib.hid HI.out
            obtain ⟨sb, hsb⟩ : ∃ sb, cb = sb := ⟨_, rfl⟩
            rw [hsb] at HZ2 SB RS HIS ⊢
            clear hsb hZ2
            have QS : Hid (Z2.drew.rangeAt g (i * 64) (vIs sb) ∧ Z2.drew.rangeAt wr.heap.size 0 (vIs sb) ∧ Below wr.heap.size wr Z2.drew) := Lib.hid ⟨range_old (BZ2.out.drew) RS.out, range_old ((Below.refl _ _).drew) (range_heap HZ2.out), BZ2.out.drew⟩
            go_wp2_with fail
            refine wp_region_q (fun X => X.rangeAt g (i * 64) (vIs sb) ∧ X.rangeAt wr.heap.size 0 (vIs sb) ∧ Below wr.heap.size wr X) (by kernel_rfl) (by kernel_rfl) QS.out ?_
            clear QS
            have EQ := same_in sb SB.out.1 SB.out.in64
            unfold arr at EQ
            repeat
              first
              | go_big_quiet_skip
              | (go_big_quiet_want
                 first
                 | (refine quiet_load_mid rfl g (i * 64) (by first | rfl | simp) (vIs sb) _ (fun w hw => hw.1) Try.underlying50 rfl HIS.out ?_; go_big_quiet_on; try simp only [Act.put, List.setIfInBounds_toArray, List.set_cons_zero, List.set_cons_succ])
                 | (refine quiet_load_mid rfl wr.heap.size 0 rfl (vIs sb) _ (fun w hw => hw.2.1) Try.underlying50 rfl HIS.out ?_; go_big_quiet_on; try simp only [Act.put, List.setIfInBounds_toArray, List.set_cons_zero, List.set_cons_succ])
                 | (go_big_quiet_op; go_big_quiet_on)
                 | (apply Exists.intro
                    refine ⟨fun X hX => ?_, ?_⟩
                    · clear hX
                      unfold Oper.quietAt
                      go_simp
                      first
                      | exact ⟨rfl, rfl⟩
                      | exact rfl
                    go_big_quiet_on
                    try simp only [Act.put, List.setIfInBounds_toArray, List.set_cons_zero, List.set_cons_succ]))
            refine wpQuiet_nil ?_
            rintro Y ⟨-, -, hbY⟩
            have BY := Lib.hid (BB.out.trans (hbY.mono BB.out.size))
            clear hbY EQ
            go_wp2_with fail
            go_roundw
            case rel => exact ⟨i + 1, by go_num, HIL.out, BY.out⟩
            case measure => simp [intOf]; have := HIL.out; omega
      · obtain rfl : i = n := by omega
        have l1 : decide ((i : Int) < (i : Int)) = false := by rw [decide_eq_false_iff_not]; omega
        go_wp2_with fail
        go_ret
        exact ⟨rfl, B7.out.trans (BB.out.mono B7.out.size)⟩
  · have f1 : ((n : Int) != pr) = true := by rw [bne_iff_ne]; exact hf
    have SL : shownL P (kn : Int) = [] := by
      have : fullB P (kn : Int) = false := by
        unfold fullB
        rw [HSW.out, HSH.out, HBS.out, HN.out, HPR.out, decide_eq_false hf, Bool.and_false]
      unfold shownL; rw [this]; rfl
    have O7' := O7.out
    rw [SL] at O7'
    obtain ⟨va, vc, rfl⟩ := O7'.shape
    clear hf hz hpr SI mm SL O7'
    go_wp2_with fail
    go_ret
    exact ⟨rfl, B7.out⟩
end Go.Proofs.Ytbcbfnkpnfbfjaa
