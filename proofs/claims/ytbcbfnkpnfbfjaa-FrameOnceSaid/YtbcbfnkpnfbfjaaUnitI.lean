/- The iterator frame.Units. By an AI agent. -/
import Derived.Test.YtbcbfnkpnfbfjaaUnitN
namespace Go.Proofs.Ytbcbfnkpnfbfjaa
open Go.RowKit Go.BigFrame
set_option linter.unusedVariables false
set_option linter.unusedSimpArgs false
attribute [local go_sem] Oper.semAt_some

theorem units_any (P : PicL) (q0 q1 q2 q3 pv kv : Value) (a : Option Addr) (n c : Nat) (w : World) : Calls Try.prog 9 #[.agg (vPic P q0 q1 q2 q3 pv kv), .slice a n c] w fun e w' =>
    e = .returned (.func (.func 24) #[] #[.pointer (some ⟨w.heap.size + 1, 0, none⟩), .pointer (some ⟨w.heap.size, 0, none⟩)]) ∧
    w' = (w.alloc (.cells (vPic P q0 q1 q2 q3 pv kv) 27)).alloc (.cells #[.slice a n c] 22) := by
  unfold vPic
  go_enter Try.func9, Try.ntmps9
  go_wp2
  go_ret
  exact ⟨rfl, rfl⟩
def OkU (P : PicL) (ps : List Int) (pre : List Value) (x : Value) (W : World) : Prop := pre.length < unitsN P ps ∧ UnitV W x (unitsF P ps pre.length)
def FinU (P : PicL) (ps : List Int) (pre : List Value) : Prop := pre.length = unitsN P ps
theorem unitsOk_false {P : PicL} {ps : List Int} {k : Int} (hk : k ∈ ps) (h : (sizeL P k).1 = 0) : unitsN P ps = 0 := by
  unfold unitsN
  have : unitsOk P ps = false := by
    unfold unitsOk
    rw [List.all_eq_false]
    exact ⟨k, hk, by simp [h]⟩
  rw [this]; rfl
theorem unitsOk_true {P : PicL} {ps : List Int} (h : ∀ k ∈ ps, (sizeL P k).1 ≠ 0) : unitsOk P ps = true := by
  unfold unitsOk
  rw [List.all_eq_true]
  intro k hk
  simp [h k hk]
/-- a picture's cells and a slice's in a region -/
def UiC (w : World) (b1 b2 : Nat) (P : PicL) (q0 q1 q2 q3 pv kv : Value) (sv : Value) (kb ko : Nat) (k0 : Int) (X : World) : Prop :=
  PBox X b2 P q0 q1 q2 q3 pv kv ∧ X.cell? ⟨b1, 0, none⟩ = some sv ∧ X.cell? ⟨kb, ko, none⟩ = some (.int .i64 k0) ∧ Below w.heap.size w X
set_option maxRecDepth 20000 in
set_option maxHeartbeats 16000000 in
theorem units_seq (n : Nat) (b1 b2 : Nat) (bs : List Nat) (P : PicL) (q0 q1 q2 q3 pv kv psv : Value) (ps : List Int) (D : World → Prop) (w : World) (hDU : ∀ U, DataU D P pv psv ps bs U) (hDw : D w) (hl : P.parts.length ≤ 140737488351232) (hpl : ps.length ≤ 1000)
    (c1 : w.cell? ⟨b1, 0, none⟩ = some psv) (c2 : PBox w b2 P q0 q1 q2 q3 pv kv) :
    SeqU n Try.prog 24 #[.pointer (some ⟨b1, 0, none⟩), .pointer (some ⟨b2, 0, none⟩)] (fun x => #[x]) bs (OkU P ps) (FinU P ps) w := fun ll J Jx V hV hJ hJx hY h0 => by
  obtain ⟨pa, pc, rfl, _⟩ := Els.len ((hDU 0).pts w hDw)
  obtain ⟨ka, kc, rfl, hkx⟩ := ((hDU 0).ns w hDw).read
  have DU := Lib.hid hDU
  have HK := Lib.hid hkx
  have HJ := Lib.hid hJ
  have H0 := Lib.hid h0
  have DV := Lib.hid ((hDU 0).old _ _ hDw hV)
  have WV := Lib.hid hV
  have HPL := Lib.hid hpl
  have d1 := cell_old hV c1
  have X2 := Lib.hid (c2.old hV)
  have YY : Hid (∀ (N : Nat) (F : Nat → List (Int × Int)), unitsN P ps = N → (∀ q, unitsF P ps q = F q) → Feed (n - 1) ll bs V.heap.size N F J Jx) := Lib.hid (fun N F hN hF pre x W1 hs hj hx => hY pre x W1 hs hj ⟨by rw [hN]; exact hx.1, by rw [hF]; exact hx.2⟩)
  have HD1 := Lib.hid d1
  clear hkx hJ hY h0 c1 c2 hV hpl hJx hDU hDw
  refine callsIn_wide.2 ?_
  go_enter Try.func24, Try.ntmps24
  go_wp2_with fail
  clear d1
  go_loopw [10] (fun i W => ∃ m : Nat, i = .int .i64 (m : Nat) ∧ m ≤ ps.length ∧ (∀ k ∈ ps.take m, (sizeL P k).1 ≠ 0) ∧ Below V.heap.size V W) (fun i _ => ps.length - (intOf i).toNat)
  case atStart => exact ⟨0, rfl, Nat.zero_le _, by simp, Below.refl _ _⟩
  case round =>
    obtain ⟨m, rfl, hm, hal, hbl⟩ := hrel
    have AL := Lib.hid hal
    have BL := Lib.hid hbl
    clear hal hbl
    by_cases hml : m < ps.length
    · have e1 : decide ((m : Int) < (ps.length : Int)) = true := by rw [decide_eq_true_eq]; omega
      have e1' : decide (m < ps.length) = true := by rw [decide_eq_true_eq]; omega
      obtain ⟨kb, ko, rfl, hkc⟩ := HK.out m hml
      have kc0 := cell_old (WV.out.trans (BL.out.mono WV.out.size)) hkc
      have TK := Lib.hid (List.take_succ_eq_append_getElem hml)
      have MM := Lib.hid (List.getElem_mem hml)
      obtain ⟨k, hk⟩ : ∃ k, ps[m] = k := ⟨_, rfl⟩
      rw [hk] at kc0 TK MM
      have gm : IntKind.i64.wrap ((m : Int) + 1) = (m : Int) + 1 := IntWalk.i64_in _ (by have := HPL.out; omega)
      obtain ⟨a0, a1, a2, a3, a4, a5, a6, a7, a8⟩ := (X2.out.old BL.out).cells
      have PT : Hid (Pts wr (.slice pa P.parts.length pc) P.parts) := Lib.hid ((DU.out 0).pts _ ((DU.out 0).old _ _ DV.out BL.out))
      clear hkc hk
      go_wp2_with fail
      refine (size_any P q0 q1 q2 q3 _ kv k wr PT.out hl).mono ?_
      rintro e w4 ⟨rfl, hb4⟩
      have B4 : Hid (Below V.heap.size V w4) := Lib.hid (BL.out.trans (hb4.mono BL.out.size))
      obtain ⟨sw, hsw⟩ : ∃ z, (sizeL P k).1 = z := ⟨_, rfl⟩
      obtain ⟨sh, hsh⟩ : ∃ z, (sizeL P k).2 = z := ⟨_, rfl⟩
      rw [hsw, hsh]
      have SW := Lib.hid hsw
      clear hb4 hsw hsh a0 a1 a2 a3 a4 a5 a6 a7 a8
      by_cases hz : sw = 0
      · have z1 : (sw == 0) = true := by rw [beq_iff_eq]; exact hz
        have UN : Hid (unitsN P ps = 0) := Lib.hid (unitsOk_false MM.out (by rw [SW.out]; exact hz))
        clear hz
        go_wp2_with fail
        refine bodyPost_ret (results_none rfl _ _ _) rfl ?_
        exact ⟨⟨_, rfl⟩, .inl ⟨[], UN.out.symm, HJ.out _ _ _ H0.out B4.out⟩⟩
      · have z1 : (sw == 0) = false := by rw [beq_eq_false_iff_ne]; exact hz
        have NZ := Lib.hid hz
        clear hz
        go_wp2_with fail
        go_roundw
        case rel => exact ⟨m + 1, by go_num, by omega, by
          intro q hq
          rw [TK.out, List.mem_append] at hq
          rcases hq with hq | hq
          · exact AL.out q hq
          · obtain rfl : q = k := by simpa using hq
            rw [SW.out]; exact NZ.out, B4.out⟩
        case measure => simp [intOf]; omega
    · obtain rfl : m = ps.length := by omega
      have e1 : decide ((ps.length : Int) < (ps.length : Int)) = false := by rw [decide_eq_false_iff_not]; omega
      have ALL : Hid (∀ k ∈ ps, (sizeL P k).1 ≠ 0) := Lib.hid (by have := AL.out; rwa [List.take_length] at this)
      have c1 := cell_old BL.out HD1.out
      have OKT := Lib.hid (unitsOk_true ALL.out)
      have PT : Hid (Pts wr (.slice pa P.parts.length pc) P.parts) := Lib.hid ((DU.out 0).pts _ ((DU.out 0).old _ _ DV.out BL.out))
      have JW : Hid (J [] wr) := Lib.hid (HJ.out _ _ _ H0.out BL.out)
      have DW := Lib.hid ((DU.out 0).old _ _ DV.out BL.out)
      have WW := Lib.hid (WV.out.trans (BL.out.mono WV.out.size))
      have SZ : Hid (V.heap.size ≤ wr.heap.size) := Lib.hid BL.out.size
      have BX := Lib.hid (X2.out.old BL.out)
      clear AL hml
      rcases ps with _ | ⟨k, _ | ⟨k', ps'⟩⟩
      · have UN : Hid (unitsN P [] = 0) := Lib.hid (by unfold unitsN; rw [OKT.out]; rfl)
        clear YY HK
        go_wp2_with fail
        go_end0
        exact ⟨⟨_, rfl⟩, .inl ⟨[], UN.out.symm, JW.out⟩⟩
      · have UN : Hid (unitsN P [k] = singleN P k) := Lib.hid (by unfold unitsN; rw [OKT.out]; rfl)
        obtain ⟨kb, ko, rfl, hkc⟩ := HK.out 0 (by simp)
        have kc0 : wr.cell? ⟨kb, ko, none⟩ = some (.int .i64 k) := by have := cell_old WW.out hkc; simpa using this
        have FD := Lib.hid (YY.out (singleN P k) (singleF P k) UN.out (fun q => rfl))
        have e3 : ([k] : List Int).length = 1 := rfl
        rw [e3] at c1 ⊢
        have UC : UiC wr b1 b2 P q0 q1 q2 q3 (.slice pa P.parts.length pc) kv (.slice (some ⟨kb, ko, none⟩) 1 kc) kb ko k wr.drew := ⟨BX.out.old (Below.refl _ _).drew, cell_old (Below.refl _ _).drew c1, cell_old (Below.refl _ _).drew kc0, (Below.refl _ _).drew⟩
        clear YY HK hkc
        go_upto_region 10 with (fail)
        clear c1 kc0 e1
        refine wp_region_qt (UiC wr b1 b2 P q0 q1 q2 q3 (.slice pa P.parts.length pc) kv (.slice (some ⟨kb, ko, none⟩) 1 kc) kb ko k) 5 (by kernel_rfl) (by kernel_rfl) UC ?_
        simp only [List.take_succ_cons, List.take_zero, List.drop_succ_cons, List.drop_zero]
        clear UC
        repeat
          first
          | go_big_quiet_skip
          | (go_big_quiet_want
             first
             | (go_big_quiet_op; go_big_quiet_on)
             | (apply Exists.intro
                refine ⟨fun X hX => ?_, ?_⟩
                · have hXX := Lib.hid hX
                  obtain ⟨hbx, e8, e9, eZ⟩ := hX
                  obtain ⟨a0, a1, a2, a3, a4, a5, a6, a7, a8⟩ := hbx.cells
                  clear hbx eZ
                  unfold Oper.quietAt
                  go_simp
                  first
                  | exact ⟨rfl, hXX.out⟩
                  | exact ⟨rfl, rfl⟩
                  | exact rfl
                go_big_quiet_on
                try simp only [Act.put, List.setIfInBounds_toArray, List.set_cons_zero, List.set_cons_succ]))
        refine wpQuiet_nil ?_
        rintro Y ⟨-, -, -, hbY⟩
        have PY := Lib.hid (PT.out.old hbY)
        have JY := Lib.hid (HJ.out _ _ _ JW.out (hbY.mono SZ.out))
        have UY := Lib.hid (Nat.le_trans SZ.out hbY.size)
        clear hbY
        go_wp2_with fail
        refine (single_any (n - 1) ll bs V.heap.size J Jx P q0 q1 q2 q3 _ kv k Y PY.out hl UY.out HJ.out FD.out JY.out).mono ?_
        rintro e W6 ⟨⟨v, rfl⟩, hR⟩
        have RR := Lib.hid hR
        clear hR
        go_wp2_with fail
        go_end0
        refine ⟨⟨_, rfl⟩, ?_⟩
        rcases RR.out with ⟨pre, h1, h2⟩ | h2
        · exact .inl ⟨pre, by unfold FinU; rw [UN.out]; exact h1, h2⟩
        · exact .inr h2
      · have UN : Hid (unitsN P (k :: k' :: ps') = severalN P (k :: k' :: ps')) := Lib.hid (by unfold unitsN; rw [OKT.out]; rfl)
        have FD := Lib.hid (YY.out (severalN P (k :: k' :: ps')) (severalF P (k :: k' :: ps')) UN.out (fun q => rfl))
        generalize hPLe : k :: k' :: ps' = PL at *
        have LL : Hid (2 ≤ PL.length) := Lib.hid (by rw [← hPLe]; simp)
        clear HK YY
        generalize hpn : PL.length = pn at *
        have z1 : ((pn : Int) == 0) = false := by rw [beq_eq_false_iff_ne]; have := LL.out; omega
        have z2 : ((pn : Int) == 1) = false := by rw [beq_eq_false_iff_ne]; have := LL.out; omega
        have z3 : (pn == 0) = false := by rw [beq_eq_false_iff_ne]; have := LL.out; omega
        have z4 : (pn == 1) = false := by rw [beq_eq_false_iff_ne]; have := LL.out; omega
        have z5 : ¬ pn = 0 := by have := LL.out; omega
        have z6 : ¬ pn = 1 := by have := LL.out; omega
        have PN := Lib.hid hpn
        obtain ⟨a0, a1, a2, a3, a4, a5, a6, a7, a8⟩ := BX.out.cells
        have PE := Lib.hid hPLe
        clear hPLe hpn e1
        go_wp2_with fail
        refine (several_any (n - 1) ll bs V.heap.size J Jx P q0 q1 q2 q3 _ kv _ PL D wr (DU.out _) DW.out hl (by rw [PN.out]; exact HPL.out) (by have := LL.out; have := PN.out; omega) ALL.out SZ.out HJ.out FD.out JW.out).mono ?_
        rintro e W6 ⟨⟨v, rfl⟩, hR⟩
        have RR := Lib.hid hR
        clear hR a0 a1 a2 a3 a4 a5 a6 a7 a8 c1
        go_wp2_with fail
        go_end0
        refine ⟨⟨_, rfl⟩, ?_⟩
        rcases RR.out with ⟨pre, h1, h2⟩ | h2
        · exact .inl ⟨pre, by unfold FinU; rw [PE.out, UN.out]; exact h1, h2⟩
        · exact .inr h2
end Go.Proofs.Ytbcbfnkpnfbfjaa
