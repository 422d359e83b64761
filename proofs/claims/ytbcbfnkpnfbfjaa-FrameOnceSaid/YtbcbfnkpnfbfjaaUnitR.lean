/- The document's units: burnishref23.Units. By an AI agent. -/
import Derived.Test.YtbcbfnkpnfbfjaaUsO
namespace Go.Proofs.Ytbcbfnkpnfbfjaa
open Go.RowKit Go.BigFrame
set_option linter.unusedVariables false
set_option linter.unusedSimpArgs false
attribute [local go_sem] Oper.semAt_some

theorem svC_size {w : World} {B : Nat} {P : PicL} {q0 q1 q2 q3 pv kv : Value} {kb ko : Nat} {k0 : Int} {X : World} (hpt : Pts w pv P.parts) (hl : P.parts.length ≤ 140737488351232) (hX : SvC w B P q0 q1 q2 q3 pv kv kb ko k0 X) :
    Calls Try.prog 12 #[.agg (vPic P q0 q1 q2 q3 pv kv), .int .i64 k0] X fun e w' => e = .returned (.tuple #[.int .i64 (sizeL P k0).1, .int .i64 (sizeL P k0).2]) ∧ SvC w B P q0 q1 q2 q3 pv kv kb ko k0 w' := by
  refine (refSize_any P q0 q1 q2 q3 _ kv k0 X (hpt.old hX.2.2) hl).mono ?_
  rintro e w' ⟨h1, h2⟩
  exact ⟨h1, hX.1.old h2, cell_old h2 hX.2.1, hX.2.2.trans (h2.mono hX.2.2.size)⟩
theorem svC_own {w : World} {B : Nat} {P : PicL} {q0 q1 q2 q3 pv kv : Value} {kb ko : Nat} {k0 : Int} {X : World} (hpt : Pts w pv P.parts) (hl : P.parts.length ≤ 140737488351232) (hX : SvC w B P q0 q1 q2 q3 pv kv kb ko k0 X) :
    Calls Try.prog 13 #[.agg (vPic P q0 q1 q2 q3 pv kv), .int .i64 k0] X fun e w' => e = .returned (.tuple #[.int .i64 (ownL P k0).1, .int .i64 (ownL P k0).2]) ∧ SvC w B P q0 q1 q2 q3 pv kv kb ko k0 w' := by
  refine (refOwn_any P q0 q1 q2 q3 _ kv k0 X (hpt.old hX.2.2) hl).mono ?_
  rintro e w' ⟨h1, h2⟩
  exact ⟨h1, hX.1.old h2, cell_old h2 hX.2.1, hX.2.2.trans (h2.mono hX.2.2.size)⟩
theorem svC_fac {w : World} {B : Nat} {P : PicL} {q0 q1 q2 q3 pv kv : Value} {kb ko : Nat} {k0 h v : Int} {X : World} (hpt : Pts w pv P.parts) (hl : P.parts.length ≤ 140737488351232) (hm : mostL P k0 = some (h, v)) (hX : SvC w B P q0 q1 q2 q3 pv kv kb ko k0 X) :
    Calls Try.prog 22 #[.agg (vPic P q0 q1 q2 q3 pv kv), .int .i64 k0] X fun e w' => e = .returned (.tuple #[.int .i64 h, .int .i64 v, .bool true]) ∧ SvC w B P q0 q1 q2 q3 pv kv kb ko k0 w' := by
  refine (factors_any P q0 q1 q2 q3 _ kv k0 X (hpt.old hX.2.2) hl).mono ?_
  rintro e w' ⟨h1, h2⟩
  exact ⟨by rw [h1, hm]; rfl, hX.1.old h2, cell_old h2 hX.2.1, hX.2.2.trans (h2.mono hX.2.2.size)⟩
theorem svC_at {w : World} {B : Nat} {P : PicL} {q0 q1 q2 q3 pv kv : Value} {kb ko : Nat} {k0 : Int} (hb : PBox w B P q0 q1 q2 q3 pv kv) (hk : w.cell? ⟨kb, ko, none⟩ = some (.int .i64 k0)) : SvC w B P q0 q1 q2 q3 pv kv kb ko k0 w.drew :=
  ⟨hb.old (Below.refl _ _).drew, cell_old (Below.refl _ _).drew hk, (Below.refl _ _).drew⟩
set_option maxRecDepth 20000 in
set_option maxHeartbeats 16000000 in
theorem refUnits_any (P : PicL) (q0 q1 q2 q3 pv kv psv : Value) (ps : List Int) (w : World) (hc : Pts w pv P.parts) (hps : Ns w psv ps) (hl : P.parts.length ≤ 140737488351232) (hpl : ps.length ≤ 1000)
    (hsm : (P.w ≤ 400 ∨ 65535 < P.w) ∧ (P.h ≤ 400 ∨ 65535 < P.h)) :
    Calls Try.prog 8 #[.agg (vPic P q0 q1 q2 q3 pv kv), psv] w (UsOut w (unitsL P ps)) := by
  obtain ⟨pa, pc, rfl, _⟩ := Els.len hc
  obtain ⟨ka, kc, rfl, hkx⟩ := hps.read
  have HKX := Lib.hid hkx
  have HPL := Lib.hid hpl
  have HSM := Lib.hid hsm
  clear hkx hps
  obtain ⟨V, hw1⟩ : ∃ w1, w.alloc (.cells (vPic P q0 q1 q2 q3 (.slice pa P.parts.length pc) kv) 27) = w1 := ⟨_, rfl⟩
  have hb1 : Below w.heap.size w V := by rw [← hw1]; exact (Below.refl _ _).alloc (Nat.le_refl _) _
  obtain ⟨B, hB⟩ : ∃ B, w.heap.size = B := ⟨_, rfl⟩
  obtain ⟨N, hN⟩ : ∃ N, V.heap.size = N := ⟨_, rfl⟩
  have BX1 : Hid (PBox V B P q0 q1 q2 q3 (.slice pa P.parts.length pc) kv) := Lib.hid (by rw [← hw1, ← hB]; exact heap_alloc_new _ _)
  have HN := Lib.hid hN
  have HB := Lib.hid hB
  have BV := Lib.hid hb1
  have PV : Hid (Pts V (.slice pa P.parts.length pc) P.parts) := Lib.hid (hc.old hb1)
  have HK : Hid (∀ m (h : m < ps.length), ∃ b off, ka = some ⟨b, off, none⟩ ∧ V.cell? ⟨b, off + m, none⟩ = some (.int .i64 ps[m])) := Lib.hid (fun m h => by
    obtain ⟨b, o, h1, h2⟩ := HKX.out m h
    exact ⟨b, o, h1, cell_old hb1 h2⟩)
  -- the facts at a later world
  have AT : Hid (∀ W, Below N V W → PBox W B P q0 q1 q2 q3 (.slice pa P.parts.length pc) kv ∧ Pts W (.slice pa P.parts.length pc) P.parts) := Lib.hid (fun W hW => by
    rw [← HN.out] at hW
    exact ⟨BX1.out.old hW, PV.out.old hW⟩)
  have FIN : Hid (∀ W v qs, Below N V W → UsO N W v qs → qs.map (·.1) = unitsL P ps → UsOut w (unitsL P ps) (.returned v) W) := Lib.hid (fun W v qs h1 h2 h3 => by
    refine ⟨v, qs, rfl, h2.mono (by have := BV.out.size; have := HN.out; omega), h3, ?_⟩
    rw [← HN.out] at h1
    exact BV.out.trans (h1.mono BV.out.size))
  unfold vPic at hw1
  clear hb1 hc hsm HKX BX1 PV
  unfold vPic
  go_enter Try.func8, Try.ntmps8
  go_wp2_with fail
  clear hw1
  go_loopw [6] (fun i W => ∃ m : Nat, i = .int .i64 (m : Nat) ∧ m ≤ ps.length ∧ (∀ k ∈ ps.take m, (sizeL P k).1 ≠ 0) ∧ Below N V W) (fun i _ => ps.length - (intOf i).toNat)
  case atStart => exact ⟨0, rfl, Nat.zero_le _, by simp, by rw [← HN.out]; exact Below.refl _ _⟩
  case round =>
    obtain ⟨m, rfl, hm, hal, hbl⟩ := hrel
    have AL := Lib.hid hal
    have BL := Lib.hid hbl
    clear hal hbl
    by_cases hml : m < ps.length
    · have e1 : decide ((m : Int) < (ps.length : Int)) = true := by rw [decide_eq_true_eq]; omega
      have e1' : decide (m < ps.length) = true := by rw [decide_eq_true_eq]; omega
      obtain ⟨kb, ko, rfl, hkc⟩ := HK.out m hml
      have kc0 : wr.cell? ⟨kb, ko + m, none⟩ = some (.int .i64 ps[m]) := cell_old (by rw [HN.out]; exact BL.out) hkc
      have TK := Lib.hid (List.take_succ_eq_append_getElem hml)
      have MM := Lib.hid (List.getElem_mem hml)
      obtain ⟨k, hk⟩ : ∃ k, ps[m] = k := ⟨_, rfl⟩
      rw [hk] at kc0 TK MM
      have gm : IntKind.i64.wrap ((m : Int) + 1) = (m : Int) + 1 := IntWalk.i64_in _ (by have := HPL.out; omega)
      obtain ⟨hbx, hpt⟩ := AT.out _ BL.out
      have i3 : (0 : Int) ≤ (m : Int) := by omega
      have i4 : (m : Int) < (ps.length : Int) := by omega
      have SV : SvC wr B P q0 q1 q2 q3 (.slice pa P.parts.length pc) kv kb (ko + m) k wr.drew := ⟨hbx.old (Below.refl _ _).drew, cell_old (Below.refl _ _).drew kc0, (Below.refl _ _).drew⟩
      have PT := Lib.hid hpt
      clear hkc hk hbx hpt kc0
      go_wp2_with fail
      refine wp_region_q (SvC wr B P q0 q1 q2 q3 (.slice pa P.parts.length pc) kv kb (ko + m) k) (by kernel_rfl) (by kernel_rfl) SV ?_
      clear SV
      repeat
        first
        | go_big_quiet_skip
        | (go_big_quiet_want
           first
           | (go_big_quiet_op; go_big_quiet_on)
           | (apply Exists.intro
              refine ⟨fun X hX => ?_, ?_⟩
              · have hXX := Lib.hid hX
                obtain ⟨hbx, e9, eZ⟩ := hX
                obtain ⟨a0, a1, a2, a3, a4, a5, a6, a7, a8⟩ := hbx.cells
                clear hbx eZ
                unfold Oper.quietAt
                go_simp
                first
                | exact ⟨rfl, hXX.out⟩
                | exact ⟨rfl, rfl⟩
                | exact rfl
                | (go_at_call 12; exact svC_size PT.out hl hXX.out)
              go_big_quiet_on
              try simp only [Act.put, List.setIfInBounds_toArray, List.set_cons_zero, List.set_cons_succ]))
      refine wpQuiet_nil ?_
      rintro w2 ⟨-, -, hb2⟩
      have B4 : Hid (Below N V w2) := Lib.hid (BL.out.trans (hb2.mono (by have := BL.out.size; have := HN.out; omega)))
      obtain ⟨sw, hsw⟩ : ∃ z, (sizeL P k).1 = z := ⟨_, rfl⟩
      obtain ⟨sh, hsh⟩ : ∃ z, (sizeL P k).2 = z := ⟨_, rfl⟩
      rw [hsw, hsh]
      have SW := Lib.hid hsw
      clear hb2 hsw hsh i3 i4
      by_cases hz : sw = 0
      · have z1 : (sw == 0) = true := by rw [beq_iff_eq]; exact hz
        have UN : Hid (unitsL P ps = []) := Lib.hid (by unfold unitsL; rw [unitsOk_false MM.out (by rw [SW.out]; exact hz)]; rfl)
        clear hz
        go_wp2_with fail
        go_ret
        exact FIN.out _ _ [] B4.out (UsO.nil _ _) (by rw [UN.out]; rfl)
      · have z1 : (sw == 0) = false := by rw [beq_eq_false_iff_ne]; exact hz
        have NZ := Lib.hid hz
        clear hz
        go_wp2_with fail
        go_roundw
        case rel => exact ⟨m + 1, by go_num, by omega, by
          intro q hq
          rw [TK.out, List.mem_append] at hq
          rcases hq with hq | hq
          · exact AL.out q hq
          · obtain rfl : q = k := by simpa using hq
            rw [SW.out]; exact NZ.out, B4.out⟩
        case measure => simp [intOf]; omega
    · obtain rfl : m = ps.length := by omega
      have e1 : decide ((ps.length : Int) < (ps.length : Int)) = false := by rw [decide_eq_false_iff_not]; omega
      have ALL : Hid (∀ k ∈ ps, (sizeL P k).1 ≠ 0) := Lib.hid (by have := AL.out; rwa [List.take_length] at this)
      have OKT := Lib.hid (unitsOk_true ALL.out)
      clear AL hml
      by_cases hp0 : ps.length = 0
      · obtain rfl := List.eq_nil_of_length_eq_zero hp0
        have UN : Hid (unitsL P [] = []) := Lib.hid (by unfold unitsL unitsN; rw [OKT.out]; rfl)
        clear hp0
        go_wp2_with fail
        go_ret
        exact FIN.out _ _ [] BL.out (UsO.nil _ _) (by rw [UN.out]; rfl)
      · -- the factors
        have hp : 0 < ps.length := by omega
        obtain ⟨k0, hk0⟩ : ∃ k0, ps[0]'hp = k0 := ⟨_, rfl⟩
        have HP := Lib.hid hp
        have hkm : k0 ∈ ps := by rw [← hk0]; exact List.getElem_mem hp
        have hm := mostL_of (ALL.out k0 hkm)
        obtain ⟨hf, hhf⟩ : ∃ z, maxH P.parts = z := ⟨_, rfl⟩
        obtain ⟨vf, hvf⟩ : ∃ z, maxV P.parts = z := ⟨_, rfl⟩
        rw [hhf, hvf] at hm
        have HHF := Lib.hid hhf
        obtain ⟨hkr, hw, hh, hfx, h14, v14⟩ := mostL_some hm
        have hsm := HSM.out
        have ui1 := upI_in P.w (8 * hf) (by omega) (by omega)
        have ui2 := upI_in P.h (8 * vf) (by omega) (by omega)
        obtain ⟨cols, hcols⟩ : ∃ c : Nat, upI P.w (8 * hf) = (c : Int) := ⟨(upI P.w (8 * hf)).toNat, by omega⟩
        obtain ⟨rows, hrows⟩ : ∃ c : Nat, upI P.h (8 * vf) = (c : Int) := ⟨(upI P.h (8 * vf)).toNat, by omega⟩
        have HG : Hid (ps.getD 0 0 = k0) := Lib.hid (by rw [← hk0, List.getD_eq_getElem?_getD, List.getElem?_eq_getElem hp]; rfl)
        have CN : Hid (severalN P ps = rows * cols) := Lib.hid (by unfold severalN rowsN colsN; rw [HG.out, hm]; simp only; rw [hcols, hrows]; simp)
        have FA : Hid (∀ y x : Nat, x < cols → severalF P ps (y * cols + x) = unitAt P cols y x ps) := Lib.hid (fun y x hx => by
          have hcn : colsN P (ps.getD 0 0) = cols := by unfold colsN; rw [HG.out, hm]; simp only; rw [hcols]; simp
          have := severalF_at P ps y x (by rw [hcn]; exact hx)
          rw [hcn] at this
          exact this)
        have RC : Hid (rows ≤ 400 ∧ cols ≤ 400) := Lib.hid (by omega)
        have BD : Hid ((0 ≤ P.w ∧ P.w ≤ 1000000) ∧ (0 ≤ P.h ∧ P.h ≤ 1000000) ∧ (1 ≤ hf ∧ hf ≤ 100) ∧ (1 ≤ vf ∧ vf ≤ 100)) := Lib.hid (by omega)
        have W4 : Hid (P.w ≤ 400 ∧ P.h ≤ 400) := Lib.hid (by omega)
        have g1 : IntKind.i64.wrap (8 * hf) = 8 * hf := IntWalk.i64_in _ (by omega)
        have g2 : IntKind.i64.wrap (8 * vf) = 8 * vf := IntWalk.i64_in _ (by omega)
        have HM := Lib.hid hm
        have HCO := Lib.hid hcols
        have HRO := Lib.hid hrows
        obtain ⟨kb, ko, rfl, hkc⟩ := HK.out 0 hp
        have kc0 : wr.cell? ⟨kb, ko, none⟩ = some (.int .i64 k0) := by have := cell_old (by rw [HN.out]; exact BL.out) hkc; rw [hk0] at this; simpa using this
        have i1 : decide ((0 : Int) < (ps.length : Int)) = true := by rw [decide_eq_true_eq]; omega
        have i2 : decide (0 < ps.length) = true := by rw [decide_eq_true_eq]; omega
        have i3 : 0 < ps.length := hp
        have i4 : (0 : Int) < (ps.length : Int) := by omega
        have z1 : ((ps.length : Int) == 0) = false := by rw [beq_eq_false_iff_ne]; omega
        have z2 : (ps.length == 0) = false := by rw [beq_eq_false_iff_ne]; omega
        obtain ⟨hbx, hpt⟩ := AT.out _ BL.out
        have SV : SvC wr B P q0 q1 q2 q3 (.slice pa P.parts.length pc) kv kb ko k0 wr.drew := ⟨hbx.old (Below.refl _ _).drew, cell_old (Below.refl _ _).drew kc0, (Below.refl _ _).drew⟩
        have PT := Lib.hid hpt
        have HKM := Lib.hid hkm
        clear hk0 hkm hm hhf hvf hkr hw hh hfx h14 v14 hsm ui1 ui2 hcols hrows hkc kc0 hbx hpt hp0 hp
        go_wp2_with fail
        refine wp_region_q (SvC wr B P q0 q1 q2 q3 (.slice pa P.parts.length pc) kv kb ko k0) (by kernel_rfl) (by kernel_rfl) SV ?_
        clear SV
        repeat
          first
          | go_big_quiet_skip
          | (go_big_quiet_want
             first
             | (go_big_quiet_op; go_big_quiet_on)
             | (apply Exists.intro
                refine ⟨fun X hX => ?_, ?_⟩
                · have hXX := Lib.hid hX
                  obtain ⟨hbx, e9, eZ⟩ := hX
                  obtain ⟨a0, a1, a2, a3, a4, a5, a6, a7, a8⟩ := hbx.cells
                  clear hbx eZ
                  unfold Oper.quietAt
                  go_simp
                  first
                  | exact ⟨rfl, hXX.out⟩
                  | exact ⟨rfl, rfl⟩
                  | exact rfl
                  | (go_at_call 22; exact svC_fac PT.out hl HM.out hXX.out)
                go_big_quiet_on
                try simp only [Act.put, List.setIfInBounds_toArray, List.set_cons_zero, List.set_cons_succ]))
        refine wpQuiet_nil ?_
        rintro w2 ⟨-, hk2, hb2⟩
        have B2 : Hid (Below N V w2) := Lib.hid (BL.out.trans (hb2.mono (by have := BL.out.size; have := HN.out; omega)))
        have KC2 := Lib.hid hk2
        clear hb2 hk2 BL PT z1 z2
        by_cases hp1 : ps.length = 1
        · have z1 : ((ps.length : Int) == 1) = true := by rw [beq_iff_eq]; omega
          have z2 : (ps.length == 1) = true := by rw [beq_iff_eq]; omega
          have PE : ps = [k0] := by
            obtain ⟨q, hq⟩ := List.length_eq_one_iff.1 hp1
            have := HG.out
            rw [hq] at this ⊢
            simp at this
            rw [this]
          have UN : Hid (unitsL P ps = (List.range (singleN P k0)).map (singleF P k0)) := Lib.hid (by
            have ho := OKT.out
            unfold unitsL unitsN
            rw [ho, PE]
            rfl)
          have SI := sizeL_in P k0
          have hmm := HM.out
          obtain ⟨hkr, hw, hh, hfx, h14, v14⟩ := mostL_some hmm
          obtain ⟨ph1, pv1, _⟩ := part_in hmm
          obtain ⟨sw, hsw⟩ : ∃ z, (sizeL P k0).1 = z := ⟨_, rfl⟩
          obtain ⟨sh, hsh⟩ : ∃ z, (sizeL P k0).2 = z := ⟨_, rfl⟩
          have OI : (0 ≤ (ownL P k0).1 ∧ (ownL P k0).1 ≤ 1600) ∧ 0 ≤ (ownL P k0).2 ∧ (ownL P k0).2 ≤ 1600 := by
            have h4 := W4.out
            unfold ownL
            rw [hmm]
            have b1 := mul_in (a := P.w) (b := (partAt P k0).h) (m := 400) (n := 4) (by omega) (by omega)
            have b2 := mul_in (a := P.h) (b := (partAt P k0).v) (m := 400) (n := 4) (by omega) (by omega)
            have u1 := upI_in (P.w * (partAt P k0).h) hf (by omega) (by omega)
            have u2 := upI_in (P.h * (partAt P k0).v) vf (by omega) (by omega)
            have u3 := upI_in (upI (P.w * (partAt P k0).h) hf) 8 (by omega) (by omega)
            have u4 := upI_in (upI (P.h * (partAt P k0).v) vf) 8 (by omega) (by omega)
            simp only
            omega
          obtain ⟨ow, how⟩ : ∃ z : Nat, (ownL P k0).1 = (z : Int) := ⟨(ownL P k0).1.toNat, by omega⟩
          obtain ⟨oh, hoh⟩ : ∃ z : Nat, (ownL P k0).2 = (z : Int) := ⟨(ownL P k0).2.toNat, by omega⟩
          rw [hsw, hsh] at SI
          rw [how, hoh] at OI
          have HSI := Lib.hid SI
          have HOI := Lib.hid OI
          have HSW := Lib.hid hsw
          have HSH := Lib.hid hsh
          have HOW := Lib.hid how
          have HOH := Lib.hid hoh
          have OW : Hid (ownW P k0 = ow ∧ singleN P k0 = oh * ow) := Lib.hid (by unfold singleN ownW ownH; rw [how, hoh]; simp)
          have FB : Hid (∀ y x : Nat, x < ow → singleF P k0 (y * ow + x) = [(k0, (y : Int) * sw + (x : Int))]) := Lib.hid (fun y x hx => by
            have := singleF_at P k0 y x (by rw [OW.out.1]; exact hx)
            rw [OW.out.1, hsw] at this
            exact this)
          obtain ⟨hbx, hpt⟩ := AT.out _ B2.out
          have SV := svC_at hbx KC2.out
          have PT := Lib.hid hpt
          clear PE SI OI hmm hkr hw hh hfx h14 v14 ph1 pv1 hsw hsh how hoh hbx hpt hp1
          go_wp2_with fail
          refine wp_region_q (SvC w2 B P q0 q1 q2 q3 (.slice pa P.parts.length pc) kv kb ko k0) (by kernel_rfl) (by kernel_rfl) SV ?_
          clear SV z1 z2
          repeat
            first
            | go_big_quiet_skip
            | (go_big_quiet_want
               first
               | (go_big_quiet_op; go_big_quiet_on)
               | (apply Exists.intro
                  refine ⟨fun X hX => ?_, ?_⟩
                  · have hXX := Lib.hid hX
                    obtain ⟨hbx, e9, eZ⟩ := hX
                    obtain ⟨a0, a1, a2, a3, a4, a5, a6, a7, a8⟩ := hbx.cells
                    clear hbx eZ
                    unfold Oper.quietAt
                    go_simp
                    first
                    | exact ⟨rfl, hXX.out⟩
                    | exact ⟨rfl, rfl⟩
                    | exact rfl
                    | (go_at_call 12; exact svC_size PT.out hl hXX.out)
                  go_big_quiet_on
                  try simp only [Act.put, List.setIfInBounds_toArray, List.set_cons_zero, List.set_cons_succ]))
          refine wpQuiet_nil ?_
          rintro w3 ⟨hbx, hk3, hb3⟩
          rw [HSW.out, HSH.out]
          have B3 : Hid (Below N V w3) := Lib.hid (B2.out.trans (hb3.mono (by have := B2.out.size; have := HN.out; omega)))
          have SV := svC_at hbx hk3
          obtain ⟨_, hpt⟩ := AT.out _ B3.out
          have PT3 := Lib.hid hpt
          clear hbx hk3 hb3 hpt PT
          go_wp2_with fail
          refine wp_region_q (SvC w3 B P q0 q1 q2 q3 (.slice pa P.parts.length pc) kv kb ko k0) (by kernel_rfl) (by kernel_rfl) SV ?_
          clear SV
          repeat
            first
            | go_big_quiet_skip
            | (go_big_quiet_want
               first
               | (go_big_quiet_op; go_big_quiet_on)
               | (apply Exists.intro
                  refine ⟨fun X hX => ?_, ?_⟩
                  · have hXX := Lib.hid hX
                    obtain ⟨hbx, e9, eZ⟩ := hX
                    obtain ⟨a0, a1, a2, a3, a4, a5, a6, a7, a8⟩ := hbx.cells
                    clear hbx eZ
                    unfold Oper.quietAt
                    go_simp
                    first
                    | exact ⟨rfl, hXX.out⟩
                    | exact ⟨rfl, rfl⟩
                    | exact rfl
                    | (go_at_call 13; exact svC_own PT3.out hl hXX.out)
                  go_big_quiet_on
                  try simp only [Act.put, List.setIfInBounds_toArray, List.set_cons_zero, List.set_cons_succ]))
          refine wpQuiet_nil ?_
          rintro w4 ⟨-, hk4, hb4⟩
          rw [HOW.out, HOH.out]
          have B4 : Hid (Below N V w4) := Lib.hid (B3.out.trans (hb4.mono (by have := B3.out.size; have := HN.out; omega)))
          clear hk4 hb4 PT3
          have KV : Hid (V.cell? ⟨kb, ko, none⟩ = some (.int .i64 k0)) := Lib.hid (by
            obtain ⟨b, o, h1, h2⟩ := HK.out 0 HP.out
            simp only [Option.some.injEq, Addr.mk.injEq, and_true] at h1
            obtain ⟨rfl, rfl⟩ := h1
            have e : ps[0]'HP.out = k0 := by
              have := HG.out
              rw [List.getD_eq_getElem?_getD, List.getElem?_eq_getElem HP.out] at this
              exact this
            rw [← e]
            exact h2)
          go_wp2_with fail
          go_loopw [5, 16] (fun u i W => ∃ (y : Nat) (qs : List UvP), i = .int .i64 (y : Nat) ∧ y ≤ oh ∧ qs.map (·.1) = (List.range (y * ow)).map (singleF P k0) ∧ UsO N W u qs ∧ Below N V W) (fun _ i _ => oh - (intOf i).toNat)
          case atStart => exact ⟨0, [], rfl, Nat.zero_le _, by simp, UsO.nil _ _, B4.out⟩
          case round =>
            obtain ⟨y, qs, rfl, hy, hq, hu, hbl⟩ := hrel
            obtain ⟨ua, uc, rfl⟩ := owns_len hu.row
            have QE := Lib.hid hq
            have UO := Lib.hid hu
            have BL := Lib.hid hbl
            clear hq hu hbl
            by_cases hyl : y < oh
            · have c1 : decide ((y : Int) < (oh : Int)) = true := by rw [decide_eq_true_eq]; omega
              have c2 : decide (y < oh) = true := by rw [decide_eq_true_eq]; omega
              have HYS := Lib.hid (show ((y + 1) * ow = y * ow + ow) from Nat.succ_mul _ _)
              have YL := Lib.hid hyl
              clear hyl
              go_wp2_with fail
              clear c1 c2
              go_loopw [5, 17] (fun u i W => ∃ (x : Nat) (qs : List UvP), i = .int .i64 (x : Nat) ∧ x ≤ ow ∧ qs.map (·.1) = (List.range (y * ow + x)).map (singleF P k0) ∧ UsO N W u qs ∧ Below N V W) (fun _ i _ => ow - (intOf i).toNat)
              case atStart => exact ⟨0, qs, rfl, Nat.zero_le _, QE.out, UO.out, BL.out⟩
              case round =>
                clear QE UO BL
                obtain ⟨x, qs, rfl, hx, hq, hu, hbl⟩ := hrel
                obtain ⟨ua, uc, rfl⟩ := owns_len hu.row
                have QE := Lib.hid hq
                have UO := Lib.hid hu
                have BL := Lib.hid hbl
                clear hq hu hbl
                by_cases hxl : x < ow
                · have d1 : decide ((x : Int) < (ow : Int)) = true := by rw [decide_eq_true_eq]; omega
                  have d2 : decide (x < ow) = true := by rw [decide_eq_true_eq]; omega
                  have kc1 := cell_old (by rw [HN.out]; exact BL.out) KV.out
                  have LEN : Hid (qs.length ≤ 2600000) := Lib.hid (by
                    have h := congrArg List.length QE.out
                    simp only [List.length_map, List.length_range] at h
                    have h2 := at_lt (h := oh) (w := ow) YL.out hxl
                    have h3 : oh * ow ≤ 1600 * 1600 := Nat.mul_le_mul (by have := HOI.out; omega) (by have := HOI.out; omega)
                    omega)
                  have SI := HSI.out
                  have OI := HOI.out
                  have YO := YL.out
                  have mm := mul_in (a := sw) (b := (y : Int)) (m := 262140) (n := 1600) (by omega) (by omega)
                  have g3 : IntKind.i64.wrap (sw * (y : Int)) = sw * (y : Int) := IntWalk.i64_in _ (by omega)
                  obtain ⟨pp, hpp⟩ : ∃ z, sw * (y : Int) = z := ⟨_, rfl⟩
                  rw [hpp] at mm g3
                  have g4 : IntKind.i64.wrap (pp + (x : Int)) = pp + (x : Int) := IntWalk.i64_in _ (by omega)
                  obtain ⟨at_, hat⟩ : ∃ z, pp + (x : Int) = z := ⟨_, rfl⟩
                  rw [hat] at g4
                  have FX : Hid (singleF P k0 (y * ow + x) = [(k0, at_)]) := Lib.hid (by rw [FB.out y x hxl, ← hat, ← hpp, Int.mul_comm])
                  have XL := Lib.hid hxl
                  clear hxl SI OI YO mm
                  have QA : Hid (qs.map (·.1) ++ [[(k0, at_)]] = (List.range (y * ow + (x + 1))).map (singleF P k0)) := Lib.hid (by rw [← Nat.add_assoc, map_range_succ, QE.out, FX.out])
                  go_wp2_with (at_builtin; refine stop ?_)
                  have hbn : N ≤ wr.heap.size := by have := BL.out.size; have := HN.out; omega
                  have o1 : (wr.alloc (.cells #[.int .i64 k0, .int .i64 at_] 39)).ownsRow N 39 2 (.slice (some ⟨wr.heap.size, 0, none⟩) 1 1) 1 (vUnit [(k0, at_)]) := World.ownsRow_lit wr #[.int .i64 k0, .int .i64 at_] 1 hbn (by decide) rfl
                  have ba : Below wr.heap.size wr (wr.alloc (.cells #[.int .i64 k0, .int .i64 at_] 39)) := (Below.refl _ _).alloc (Nat.le_refl _) _
                  have bb : Below (wr.alloc (.cells #[.int .i64 k0, .int .i64 at_] 39)).heap.size (wr.alloc (.cells #[.int .i64 k0, .int .i64 at_] 39)) ((wr.alloc (.cells #[.int .i64 k0, .int .i64 at_] 39)).alloc (.cells #[.slice (some ⟨wr.heap.size, 0, none⟩) 1 1] 36)) := (Below.refl _ _).alloc (Nat.le_refl _) _
                  have o2 := owns_below o1 bb
                  have u2 := (UO.out.old ba).old bb
                  have b2 : Below N V ((wr.alloc (.cells #[.int .i64 k0, .int .i64 at_] 39)).alloc (.cells #[.slice (some ⟨wr.heap.size, 0, none⟩) 1 1] 36)) := (BL.out.alloc hbn _).alloc (by simp; omega) _
                  have sl : SlN 1 ((wr.alloc (.cells #[.int .i64 k0, .int .i64 at_] 39)).alloc (.cells #[.slice (some ⟨wr.heap.size, 0, none⟩) 1 1] 36)) (.slice (some ⟨wr.heap.size + 1, 0, none⟩) 1 1) 1 [.slice (some ⟨wr.heap.size, 0, none⟩) 1 1] := by
                    have := sl_lit (wr.alloc (.cells #[.int .i64 k0, .int .i64 at_] 39)) [.slice (some ⟨wr.heap.size, 0, none⟩) 1 1] 36 1 rfl (by decide)
                    rw [World.size_alloc] at this
                    exact this
                  refine unstop (wpList_app tyU rfl _ _ rfl N (.slice ua qs.length uc) qs.length (qs.map (·.2)) rfl u2.row _ 1 [.slice (some ⟨wr.heap.size, 0, none⟩) 1 1] rfl sl (by intro u hu; simp at hu; subst hu; rfl) (by have := LEN.out; omega) (by have := LEN.out; omega) (by simp; omega) ?_)
                  intro v9 w9 o9 gr9 _
                  have UN9 := Lib.hid (u2.snoc (u := [(k0, at_)]) o2 gr9 o9)
                  have B9 : Hid (Below N V w9) := Lib.hid (by
                    have h2 := HN.out
                    subst h2
                    exact run_app_below u2.row gr9 b2 (Nat.le_refl _))
                  obtain ⟨a9, c9, rfl⟩ := owns_len o9
                  have O9L : Hid ((qs ++ [([(k0, at_)], Value.slice (some ⟨wr.heap.size, 0, none⟩) 1 1)]).map (·.1) = (List.range (y * ow + (x + 1))).map (singleF P k0)) := Lib.hid (by rw [List.map_append]; exact QA.out)
                  clear o9 gr9 o1 ba bb o2 u2 b2 sl hbn d1 d2 kc1 g3 g4 hat hpp
                  have gd : IntKind.i64.wrap ((x : Int) + 1) = (x : Int) + 1 := IntWalk.i64_in _ (by have := XL.out; have := HOI.out; omega)
                  go_wp2_with fail
                  go_roundw
                  case rel => exact ⟨x + 1, _, by go_num, XL.out, O9L.out, UN9.out, B9.out⟩
                  case measure => simp [intOf]; have := XL.out; omega
                · obtain rfl : x = ow := by omega
                  have d1 : decide ((x : Int) < (x : Int)) = false := by rw [decide_eq_false_iff_not]; omega
                  have gy : IntKind.i64.wrap ((y : Int) + 1) = (y : Int) + 1 := IntWalk.i64_in _ (by have := HOI.out; have := YL.out; omega)
                  go_wp2_with fail
                  go_roundw
                  case rel => exact ⟨y + 1, qs, by go_num, YL.out, by rw [QE.out, HYS.out], UO.out, BL.out⟩
                  case measure => simp [intOf]; have := YL.out; omega
            · obtain rfl : y = oh := by omega
              have c1 : decide ((y : Int) < (y : Int)) = false := by rw [decide_eq_false_iff_not]; omega
              go_wp2_with fail
              go_ret
              exact FIN.out _ _ qs BL.out UO.out (by rw [QE.out, UN.out, OW.out.2])
        · have z1 : ((ps.length : Int) == 1) = false := by rw [beq_eq_false_iff_ne]; omega
          have z2 : (ps.length == 1) = false := by rw [beq_eq_false_iff_ne]; omega
          have UN : Hid (unitsL P ps = (List.range (rows * cols)).map (severalF P ps)) := Lib.hid (by
            have ho := OKT.out
            have hc := CN.out
            unfold unitsL unitsN
            rw [ho, ← hc]
            match ps, HP.out, hp1 with
            | [], h, _ => simp at h
            | [k], _, h => exact absurd rfl h
            | k :: k' :: t, _, _ => rfl)
          have KA : Hid (∀ m (h : m < ps.length), V.cell? ⟨kb, ko + m, none⟩ = some (.int .i64 ps[m])) := Lib.hid (fun m h => by
            obtain ⟨b, o, h1, h2⟩ := HK.out m h
            simp only [Option.some.injEq, Addr.mk.injEq, and_true] at h1
            obtain ⟨rfl, rfl⟩ := h1
            exact h2)
          clear HK hp1 i1 i2 i3 i4
          go_wp2_with fail
          clear z1 z2
          go_loopw [5, 18] (fun u i W => ∃ (y : Nat) (qs : List UvP), i = .int .i64 (y : Nat) ∧ y ≤ rows ∧ qs.map (·.1) = (List.range (y * cols)).map (severalF P ps) ∧ UsO N W u qs ∧ Below N V W) (fun _ i _ => rows - (intOf i).toNat)
          case atStart => exact ⟨0, [], rfl, Nat.zero_le _, by simp, UsO.nil _ _, B2.out⟩
          case round =>
            obtain ⟨y, qs, rfl, hy, hq, hu, hbl⟩ := hrel
            obtain ⟨ua, uc, rfl⟩ := owns_len hu.row
            have QE := Lib.hid hq
            have UO := Lib.hid hu
            have BL := Lib.hid hbl
            obtain ⟨hbx, hpt⟩ := AT.out _ hbl
            obtain ⟨a0, a1, a2, a3, a4, a5, a6, a7, a8⟩ := hbx.cells
            clear hq hu hbl hpt hbx
            by_cases hyl : y < rows
            · have c1 : decide ((y : Int) < (rows : Int)) = true := by rw [decide_eq_true_eq]; omega
              have c2 : decide (y < rows) = true := by rw [decide_eq_true_eq]; omega
              have HYS := Lib.hid (show ((y + 1) * cols = y * cols + cols) from Nat.succ_mul _ _)
              have YL := Lib.hid hyl
              clear hyl
              go_wp2_with fail
              refine (refUp_any P.h (8 * vf) wr (by have := BD.out; omega) (by have := BD.out; omega)).mono ?_
              rintro e w5 ⟨rfl, rfl⟩
              rw [HRO.out]
              go_wp2_with fail
              clear c1 c2 a0 a1 a2 a3 a4 a5 a6 a7 a8
              go_loopw [5, 19] (fun u i W => ∃ (x : Nat) (qs : List UvP), i = .int .i64 (x : Nat) ∧ x ≤ cols ∧ qs.map (·.1) = (List.range (y * cols + x)).map (severalF P ps) ∧ UsO N W u qs ∧ Below N V W) (fun _ i _ => cols - (intOf i).toNat)
              case atStart => exact ⟨0, qs, rfl, Nat.zero_le _, QE.out, UO.out, BL.out⟩
              case round =>
                clear QE UO BL
                obtain ⟨x, qs, rfl, hx, hq, hu, hbl⟩ := hrel
                revert wr; intro Z hu hbl
                obtain ⟨ua, uc, rfl⟩ := owns_len hu.row
                have QE := Lib.hid hq
                have UO := Lib.hid hu
                have BL := Lib.hid hbl
                obtain ⟨hbx, hpt⟩ := AT.out _ hbl
                obtain ⟨a0, a1, a2, a3, a4, a5, a6, a7, a8⟩ := hbx.cells
                have HBX := Lib.hid hbx
                have PT := Lib.hid hpt
                clear hq hu hbl hpt hbx
                by_cases hxl : x < cols
                · have d1 : decide ((x : Int) < (cols : Int)) = true := by rw [decide_eq_true_eq]; omega
                  have d2 : decide (x < cols) = true := by rw [decide_eq_true_eq]; omega
                  have XL := Lib.hid hxl
                  have LEN : Hid (qs.length ≤ 200000) := Lib.hid (by
                    have h := congrArg List.length QE.out
                    simp only [List.length_map, List.length_range] at h
                    have h2 := at_lt (h := rows) (w := cols) YL.out hxl
                    have h3 : rows * cols ≤ 400 * 400 := Nat.mul_le_mul (by have := RC.out; omega) (by have := RC.out; omega)
                    omega)
                  clear hxl
                  obtain ⟨M, hM⟩ : ∃ M, Z.heap.size = M := ⟨_, rfl⟩
                  have HM2 := Lib.hid hM
                  have NM : Hid (N ≤ M ∧ B < M) := Lib.hid (by have := BL.out.size; have := HN.out; have := BV.out.size; have h := (Array.getElem?_eq_some_iff.1 HBX.out).1; omega)
                  clear hM
                  go_wp2_with fail
                  refine (refUp_any P.w (8 * hf) Z (by have := BD.out; omega) (by have := BD.out; omega)).mono ?_
                  rintro e w6 ⟨rfl, rfl⟩
                  rw [HCO.out]
                  go_wp2_with fail
                  clear d1 d2 a0 a1 a2 a3 a4 a5 a6 a7 a8
                  go_loopw [20, 21] (fun u i W => ∃ m : Nat, i = .int .i64 (m : Nat) ∧ m ≤ ps.length ∧ W.ownsRow M 39 2 u (unitAt P cols y x (ps.take m)).length (vUnit (unitAt P cols y x (ps.take m))) ∧ Below M Z W) (fun _ i _ => ps.length - (intOf i).toNat)
                  case atStart => exact ⟨0, rfl, Nat.zero_le _, World.ownsRow_nil _ _ _ _, by rw [← HM2.out]; exact Below.refl _ _⟩
                  case round =>
                    obtain ⟨m, rfl, hm, hown, hbl⟩ := hrel
                    obtain ⟨va, vc, rfl⟩ := owns_len hown
                    have OW := Lib.hid hown
                    have BZ := Lib.hid hbl
                    clear hown hbl
                    by_cases hml : m < ps.length
                    · have e3 : decide ((m : Int) < (ps.length : Int)) = true := by rw [decide_eq_true_eq]; omega
                      have e3' : decide (m < ps.length) = true := by rw [decide_eq_true_eq]; omega
                      have BW : Hid (∀ W, Below M Z W → Below N V W) := Lib.hid (fun W h => BL.out.trans (h.mono NM.out.1))
                      have kc1 : wr.cell? ⟨kb, ko + m, none⟩ = some (.int .i64 (ps[m]'hml)) := cell_old (by rw [HN.out]; exact BW.out _ BZ.out) (KA.out m hml)
                      obtain ⟨hn, vn, PO⟩ := partOk_of (ALL.out (ps[m]'hml) (List.getElem_mem hml))
                      have TK := Lib.hid (unitAt_take P cols y x ps m hml)
                      have SC := size_cols (ALL.out (ps[m]'hml) (List.getElem_mem hml))
                      rw [HHF.out, HCO.out] at SC
                      have LEN2 : Hid ((unitAt P cols y x (ps.take m)).length ≤ 16 * 1000) := Lib.hid (by
                        have h1 := unitAt_len P cols y x (ps.take m) (fun k hk => by
                          obtain ⟨_, _, h⟩ := partOk_of (ALL.out k (List.mem_of_mem_take hk))
                          exact h.n16)
                        have h2 := List.length_take_le m ps
                        have h3 := HPL.out
                        omega)
                      obtain ⟨k, hk⟩ : ∃ k, ps[m]'hml = k := ⟨_, rfl⟩
                      rw [hk] at PO kc1 TK SC
                      obtain ⟨kn, rfl⟩ : ∃ kn : Nat, k = (kn : Int) := ⟨k.toNat, by have := PO.k0; omega⟩
                      have hlt : kn < P.parts.length := by have := PO.lt; simpa using this
                      obtain ⟨pa', pc', hpv, _, hpx⟩ := pts_at (AT.out V (by rw [← HN.out]; exact Below.refl _ _)).2
                      obtain ⟨pb, po, xv, hpe, hPB, hBK, c0, c1, c2, c3, c4, c5, c6⟩ := hpx kn hlt
                      simp only [Value.slice.injEq, true_and] at hpv
                      obtain ⟨rfl, rfl⟩ := hpv
                      subst hpe
                      have hpa : P.parts[kn] = partAt P (kn : Int) := by unfold partAt; rw [List.getD_eq_getElem?_getD, Int.toNat_natCast, List.getElem?_eq_getElem hlt]; rfl
                      rw [hpa, PO.h] at c1
                      rw [hpa, PO.v] at c2
                      rw [PO.h] at SC
                      have PC : Hid (∀ W, Below M Z W → W.cell? ⟨B, 6, none⟩ = some (.slice (some ⟨pb, po, none⟩) P.parts.length pc) ∧ W.cell? ⟨pb, po + kn * 7 + 1, none⟩ = some (.int .i64 (hn : Int)) ∧ W.cell? ⟨pb, po + kn * 7 + 2, none⟩ = some (.int .i64 (vn : Int))) := Lib.hid (fun W h => by
                        have hb := BW.out W h
                        have hb' : Below V.heap.size V W := by rw [HN.out]; exact hb
                        obtain ⟨_, _, _, _, _, _, b6, _, _⟩ := (AT.out W hb).1.cells
                        exact ⟨b6, cell_old hb' c1, cell_old hb' c2⟩)
                      have HZ : Hid ((1 ≤ hn ∧ hn ≤ 4) ∧ (1 ≤ vn ∧ vn ≤ 4)) := Lib.hid ⟨⟨PO.h1, PO.h4⟩, PO.v1, PO.v4⟩
                      have PN : Hid (partN P (kn : Int) = vn * hn) := Lib.hid (by rw [PO.n, Nat.mul_comm])
                      have PU : Hid (∀ i : Nat, partU P cols y x (kn : Int) i = ((kn : Int), ((y : Int) * (vn : Int) + (i : Int) / (hn : Int)) * (cols : Int) * (hn : Int) + (x : Int) * (hn : Int) + (i : Int) % (hn : Int))) := Lib.hid (fun i => by unfold partU; rw [PO.h, PO.v])
                      obtain ⟨hbx, hpt⟩ := AT.out _ (BW.out _ BZ.out)
                      obtain ⟨a0, a1, a2, a3, a4, a5, a6, a7, a8⟩ := hbx.cells
                      have PTW := Lib.hid hpt
                      have ML := Lib.hid hml
                      have SCH := Lib.hid SC
                      have i0 : (m : Int) < (ps.length : Int) := by omega
                      obtain ⟨A, hA⟩ : ∃ A, unitAt P cols y x (ps.take m) = A := ⟨_, rfl⟩
                      rw [hA] at TK LEN2 OW ⊢
                      clear hA c0 c1 c2 c3 c4 c5 c6 hpa hPB hBK hpx hbx hpt PO hk SC
                      go_wp2_with fail
                      refine (refSize_any P q0 q1 q2 q3 _ kv (kn : Int) wr PTW.out hl).mono ?_
                      rintro e w7 ⟨rfl, hb7⟩
                      rw [SCH.out]
                      obtain ⟨sw, hsw⟩ : ∃ sw, (hn : Int) * (cols : Int) = sw := ⟨_, rfl⟩
                      obtain ⟨sh, hsh⟩ : ∃ sh, (sizeL P (kn : Int)).2 = sh := ⟨_, rfl⟩
                      rw [hsw, hsh]
                      have HSW := Lib.hid hsw
                      have O7 := Lib.hid (owns_below OW.out hb7)
                      have B7 : Hid (Below M Z w7) := Lib.hid (BZ.out.trans (hb7.mono (by have := BZ.out.size; have := HM2.out; omega)))
                      clear hsw hsh hb7 a0 a1 a2 a3 a4 a5 a6 a7 a8 e3 e3' i0 kc1 OW BZ
                      obtain ⟨F, hF⟩ : ∃ F, partU P cols y x (kn : Int) = F := ⟨_, rfl⟩
                      rw [hF] at PU TK
                      rw [PN.out] at TK
                      clear hF hml
                      go_wp2_with fail
                      have i3 : (0 : Int) ≤ (kn : Int) := by omega
                      have i4 : (kn : Int) < (P.parts.length : Int) := by omega
                      have i5 : decide (kn < P.parts.length) = true := by rw [decide_eq_true_eq]; exact hlt
                      go_loopw [20, 25] (fun u i W => ∃ d : Nat, i = .int .i64 (d : Nat) ∧ d ≤ vn ∧ W.ownsRow M 39 2 u (A ++ (List.range (d * hn)).map F).length (vUnit (A ++ (List.range (d * hn)).map F)) ∧ Below M Z W) (fun _ i _ => vn - (intOf i).toNat)
                      case atStart => exact ⟨0, rfl, Nat.zero_le _, by simpa using O7.out, B7.out⟩
                      case round =>
                        clear O7 B7
                        obtain ⟨d, rfl, hd, hown, hbl⟩ := hrel
                        obtain ⟨va, vc, rfl⟩ := owns_len hown
                        have OW := Lib.hid hown
                        have BZ := Lib.hid hbl
                        obtain ⟨p1, p2, p3⟩ := PC.out _ hbl
                        clear hown hbl
                        by_cases hdl : d < vn
                        · have e4 : decide ((d : Int) < (vn : Int)) = true := by rw [decide_eq_true_eq]; omega
                          have e4' : decide (d < vn) = true := by rw [decide_eq_true_eq]; omega
                          have HDS := Lib.hid (show ((d + 1) * hn = d * hn + hn) from Nat.succ_mul _ _)
                          have DL := Lib.hid hdl
                          clear hdl
                          go_wp2_with fail
                          clear e4 e4' p1 p2 p3
                          go_loopw [20, 26] (fun u i W => ∃ g : Nat, i = .int .i64 (g : Nat) ∧ g ≤ hn ∧ W.ownsRow M 39 2 u (A ++ (List.range (d * hn + g)).map F).length (vUnit (A ++ (List.range (d * hn + g)).map F)) ∧ Below M Z W) (fun _ i _ => hn - (intOf i).toNat)
                          case atStart => exact ⟨0, rfl, Nat.zero_le _, OW.out, BZ.out⟩
                          case round =>
                            clear OW BZ
                            obtain ⟨g, rfl, hg, hown, hbl⟩ := hrel
                            obtain ⟨va, vc, rfl⟩ := owns_len hown
                            have OW := Lib.hid hown
                            have BZ := Lib.hid hbl
                            obtain ⟨p1, p2, p3⟩ := PC.out _ hbl
                            clear hown hbl
                            by_cases hgl : g < hn
                            · have e5 : decide ((g : Int) < (hn : Int)) = true := by rw [decide_eq_true_eq]; omega
                              have e5' : decide (g < hn) = true := by rw [decide_eq_true_eq]; omega
                              obtain ⟨m1, m2, m3, m4, m5, m6, t1, t2, t3, t4, t5, t6, t7⟩ := refplace (row := y) (cols := cols) (col := x) (H := hn) (V := vn) (y := d) (x := g) (wide := sw) HZ.out.1 HZ.out.2 (by have := RC.out; have := YL.out; omega) (by have := RC.out; omega) (by have := RC.out; have := XL.out; omega) DL.out hgl HSW.out.symm
                              have LN : Hid ((A ++ (List.range (d * hn + g)).map F).length ≤ 20000) := Lib.hid (by
                                rw [List.length_append, List.length_map, List.length_range]
                                have := LEN2.out
                                have h1 : d * hn ≤ 4 * 4 := Nat.mul_le_mul (by have := DL.out; have := HZ.out; omega) HZ.out.1.2
                                have := HZ.out
                                omega)
                              have FD : Hid (F (d * hn + g) = ((kn : Int), m6)) := Lib.hid (by rw [PU.out, t7])
                              have MS := Lib.hid (map_range_succ F (d * hn + g))
                              obtain ⟨A2, hA2⟩ : ∃ A2, A ++ (List.range (d * hn + g)).map F = A2 := ⟨_, rfl⟩
                              have A2N : Hid (A ++ (List.range (d * hn + (g + 1))).map F = A2 ++ [((kn : Int), m6)]) := Lib.hid (by rw [← Nat.add_assoc, MS.out, ← List.append_assoc, hA2, FD.out])
                              rw [hA2] at OW LN ⊢
                              have HGL := Lib.hid hgl
                              clear hA2 t7 hgl
                              go_upto_region 40 with (fail)
                              clear e5 e5'
                              refine wp_region_oqt (v := .slice va A2.length vc) (fun Y => Y.cell? ⟨B, 6, none⟩ = some (.slice (some ⟨pb, po, none⟩) P.parts.length pc) ∧ Y.cell? ⟨pb, po + kn * 7 + 1, none⟩ = some (.int .i64 (hn : Int)) ∧ Y.cell? ⟨pb, po + kn * 7 + 2, none⟩ = some (.int .i64 (vn : Int)) ∧ Below wr.heap.size wr Y) 26 (by kernel_rfl) (by kernel_rfl) ⟨cell_old (Below.refl _ _).drew p1, cell_old (Below.refl _ _).drew p2, cell_old (Below.refl _ _).drew p3, (Below.refl _ _).drew⟩ ⟨rfl, fun _ => rfl⟩ ?_
                              simp only [Act.put, List.setIfInBounds_toArray, List.set_cons_zero, List.set_cons_succ, List.take_succ_cons, List.take_zero, List.drop_succ_cons, List.drop_zero]
                              clear p1 p2 p3
                              repeat
                                first
                                | go_big_quiet_skip
                                | (go_big_quiet_want
                                   first
                                   | (go_big_quiet_op; go_big_quiet_on)
                                   | (apply Exists.intro
                                      refine ⟨fun X hX => ?_, ?_⟩
                                      · obtain ⟨e1, e2, e3, eZ⟩ := hX
                                        clear eZ
                                        unfold Oper.quietAt
                                        go_simp
                                        first
                                        | exact ⟨rfl, rfl⟩
                                        | exact rfl
                                      go_big_quiet_on
                                      try simp only [Act.put, List.setIfInBounds_toArray, List.set_cons_zero, List.set_cons_succ]))
                              refine wpQuiet_nil ?_
                              rintro Y ⟨-, -, -, hbY⟩
                              have OY := owns_below OW.out hbY
                              have BY := BZ.out.trans (hbY.mono (by have := BZ.out.size; have := HM2.out; omega))
                              go_wp2_with (at_builtin; refine stop ?_)
                              refine unstop (wpList_app tyP2 rfl _ _ rfl M (.slice va A2.length vc) A2.length (vUnit A2) rfl (OY.alloc _) _ 1 [.int .i64 (kn : Int), .int .i64 m6] rfl (sl_lit2 _ _ _ _) (by intro u hu; simp at hu; rcases hu with rfl | rfl <;> rfl) (by have := LN.out; omega) (by have := LN.out; omega) (by have := BY.size; have := HM2.out; simp; omega) ?_)
                              intro v9 w9 o9 gr9 _
                              have B9 : Hid (Below M Z w9) := Lib.hid (by
                                have h1 : Below M Z (Y.alloc (.cells #[.int .i64 (kn : Int), .int .i64 m6] 39)) := BY.alloc (by have := BY.size; have := HM2.out; omega) _
                                have h2 := HM2.out
                                subst h2
                                exact run_app_below (OY.alloc _) gr9 h1 (Nat.le_refl _))
                              obtain ⟨a9, c9, rfl⟩ := owns_len o9
                              have O9 : Hid (w9.ownsRow M 39 2 (.slice a9 (A2.length + 1) c9) (A ++ (List.range (d * hn + (g + 1))).map F).length (vUnit (A ++ (List.range (d * hn + (g + 1))).map F))) := Lib.hid (by rw [A2N.out, vUnit_one, List.length_append]; exact o9)
                              clear o9 gr9 OY BY hbY
                              have gd : IntKind.i64.wrap ((g : Int) + 1) = (g : Int) + 1 := IntWalk.i64_in _ (by have := HGL.out; have := HZ.out; omega)
                              clear t1 t2 t3 t4 t5 t6
                              go_wp2_with fail
                              refine strict_at ?_
                              go_wp2_with fail
                              go_roundw
                              case rel => exact ⟨g + 1, by go_num, HGL.out, O9.out, B9.out⟩
                              case measure => simp [intOf]; have := HGL.out; omega
                            · obtain rfl : g = hn := by omega
                              have e5 : decide ((g : Int) < (g : Int)) = false := by rw [decide_eq_false_iff_not]; omega
                              have gd : IntKind.i64.wrap ((d : Int) + 1) = (d : Int) + 1 := IntWalk.i64_in _ (by have := DL.out; have := HZ.out; omega)
                              rw [← HDS.out] at OW ⊢
                              go_wp2_with fail
                              go_roundw
                              case rel => exact ⟨d + 1, by go_num, DL.out, OW.out, BZ.out⟩
                              case measure => simp [intOf]; have := DL.out; omega
                        · obtain rfl : d = vn := by omega
                          have e4 : decide ((d : Int) < (d : Int)) = false := by rw [decide_eq_false_iff_not]; omega
                          have gm : IntKind.i64.wrap ((m : Int) + 1) = (m : Int) + 1 := IntWalk.i64_in _ (by have := ML.out; have := HPL.out; omega)
                          rw [← TK.out] at OW ⊢
                          go_wp2_with fail
                          go_roundw
                          case rel => exact ⟨m + 1, by go_num, ML.out, OW.out, BZ.out⟩
                          case measure => simp [intOf]; have := ML.out; omega
                    · obtain rfl : m = ps.length := by omega
                      have e3 : decide ((ps.length : Int) < (ps.length : Int)) = false := by rw [decide_eq_false_iff_not]; omega
                      rw [List.take_length] at OW ⊢
                      have FX : Hid (severalF P ps (y * cols + x) = unitAt P cols y x ps) := Lib.hid (FA.out y x XL.out)
                      obtain ⟨A, hA⟩ : ∃ A, unitAt P cols y x ps = A := ⟨_, rfl⟩
                      rw [hA] at OW FX ⊢
                      clear hA hml
                      have QA : Hid (qs.map (·.1) ++ [A] = (List.range (y * cols + (x + 1))).map (severalF P ps)) := Lib.hid (by rw [← Nat.add_assoc, map_range_succ, QE.out, FX.out])
                      have UW := Lib.hid (UO.out.old (by rw [HM2.out]; exact BZ.out))
                      go_wp2_with (at_builtin; refine stop ?_)
                      have hbn : N ≤ wr.heap.size := by have := BZ.out.size; have := HM2.out; have := NM.out; omega
                      have ba : Below wr.heap.size wr (wr.alloc (.cells #[.slice va A.length vc] 36)) := (Below.refl _ _).alloc (Nat.le_refl _) _
                      have o2 := World.ownsRow.mono (owns_below OW.out ba) NM.out.1
                      have u2 := UW.out.old ba
                      have b2 : Below N V (wr.alloc (.cells #[.slice va A.length vc] 36)) := (BL.out.trans (BZ.out.mono NM.out.1)).alloc hbn _
                      have sl : SlN 1 (wr.alloc (.cells #[.slice va A.length vc] 36)) (.slice (some ⟨wr.heap.size, 0, none⟩) 1 1) 1 [.slice va A.length vc] := sl_lit wr [.slice va A.length vc] 36 1 rfl (by decide)
                      refine unstop (wpList_app tyU rfl _ _ rfl N (.slice ua qs.length uc) qs.length (qs.map (·.2)) rfl u2.row _ 1 [.slice va A.length vc] rfl sl (by intro u hu; simp at hu; subst hu; rfl) (by have := LEN.out; omega) (by have := LEN.out; omega) (by simp; omega) ?_)
                      intro v9 w9 o9 gr9 _
                      have UN9 := Lib.hid (u2.snoc (u := A) o2 gr9 o9)
                      have B9 : Hid (Below N V w9) := Lib.hid (by
                        have h2 := HN.out
                        subst h2
                        exact run_app_below u2.row gr9 b2 (Nat.le_refl _))
                      obtain ⟨a9, c9, rfl⟩ := owns_len o9
                      have O9L : Hid ((qs ++ [(A, Value.slice va A.length vc)]).map (·.1) = (List.range (y * cols + (x + 1))).map (severalF P ps)) := Lib.hid (by rw [List.map_append]; exact QA.out)
                      clear o9 gr9 ba o2 u2 b2 sl hbn e3
                      have gd : IntKind.i64.wrap ((x : Int) + 1) = (x : Int) + 1 := IntWalk.i64_in _ (by have := XL.out; have := RC.out; omega)
                      go_wp2_with fail
                      go_roundw
                      case rel => exact ⟨x + 1, _, by go_num, XL.out, O9L.out, UN9.out, B9.out⟩
                      case measure => simp [intOf]; have := XL.out; omega
                · obtain rfl : x = cols := by omega
                  have d1 : decide ((x : Int) < (x : Int)) = false := by rw [decide_eq_false_iff_not]; omega
                  have gy : IntKind.i64.wrap ((y : Int) + 1) = (y : Int) + 1 := IntWalk.i64_in _ (by have := RC.out; have := YL.out; omega)
                  go_wp2_with fail
                  refine (refUp_any P.w (8 * hf) Z (by have := BD.out; omega) (by have := BD.out; omega)).mono ?_
                  rintro e w6 ⟨rfl, rfl⟩
                  rw [HCO.out]
                  go_wp2_with fail
                  go_roundw
                  case rel => exact ⟨y + 1, qs, by go_num, YL.out, by rw [QE.out, HYS.out], UO.out, BL.out⟩
                  case measure => simp [intOf]; have := YL.out; omega
            · obtain rfl : y = rows := by omega
              have c1 : decide ((y : Int) < (y : Int)) = false := by rw [decide_eq_false_iff_not]; omega
              go_wp2_with fail
              refine (refUp_any P.h (8 * vf) wr (by have := BD.out; omega) (by have := BD.out; omega)).mono ?_
              rintro e w6 ⟨rfl, rfl⟩
              rw [HRO.out]
              go_wp2_with fail
              go_ret
              exact FIN.out _ _ qs BL.out UO.out (by rw [QE.out, UN.out])
end Go.Proofs.Ytbcbfnkpnfbfjaa
