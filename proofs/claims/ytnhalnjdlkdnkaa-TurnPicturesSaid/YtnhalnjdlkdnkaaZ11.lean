/- turn.own walked. By an AI agent. -/
import Derived.Test.YtnhalnjdlkdnkaaZ10
namespace Go.Proofs.Ytnhalnjdlkdnkaa
open Go.RowKit Go.BigFrame
set_option linter.unusedVariables false
set_option linter.unusedSimpArgs false
set_option maxRecDepth 20000

theorem pbox_q3 {w : World} {B : Nat} {P : PicL} {q0 q1 q2 q3 pv kv : Value} (h : PBox w B P q0 q1 q2 q3 pv kv) (j : Nat) (hj : j < 4) : w.cell? ⟨B, 2 + j, none⟩ = some (qV q0 q1 q2 q3 j) := by
  obtain ⟨a0, a1, a2, a3, a4, a5, a6, a7, a8⟩ := h.cells
  rcases (show j = 0 ∨ j = 1 ∨ j = 2 ∨ j = 3 by omega) with rfl | rfl | rfl | rfl
  · exact a2
  · exact a3
  · exact a4
  · exact a5
theorem PBox.frozen {w : World} {B : Nat} {P : PicL} {q0 q1 q2 q3 pv kv : Value} (h : PBox w B P q0 q1 q2 q3 pv kv) (j : Nat) : w.frozen? ⟨B, j, none⟩ = false := frozen_of_row w B j _ _ h
theorem pbox_setq {w : World} {B : Nat} {P : PicL} {pv kv : Value} (f g : Nat → Value) (h : PBox w B P (f 0) (f 1) (f 2) (f 3) pv kv) (k : Nat) (hk : k < 4) (u : Value) (hg : ∀ j, g j = if j = k then u else f j) :
    PBox (w.setCell ⟨B, 2 + k, none⟩ u) B P (g 0) (g 1) (g 2) (g 3) pv kv := by
  unfold PBox at h ⊢
  rw [heap_setCell_same w B (2 + k) _ _ u h]
  rw [hg 0, hg 1, hg 2, hg 3]
  rcases (show k = 0 ∨ k = 1 ∨ k = 2 ∨ k = 3 by omega) with rfl | rfl | rfl | rfl <;> rfl
theorem pbox_setp {w : World} {B : Nat} {P : PicL} {q0 q1 q2 q3 pv kv : Value} (h : PBox w B P q0 q1 q2 q3 pv kv) (u : Value) : PBox (w.setCell ⟨B, 6, none⟩ u) B P q0 q1 q2 q3 u kv := by
  unfold PBox at h ⊢
  rw [heap_setCell_same w B 6 _ _ u h]
  rfl
theorem pbox_setk {w : World} {B : Nat} {P : PicL} {q0 q1 q2 q3 pv kv : Value} (h : PBox w B P q0 q1 q2 q3 pv kv) (u : Value) : PBox (w.setCell ⟨B, 8, none⟩ u) B P q0 q1 q2 q3 pv u := by
  unfold PBox at h ⊢
  rw [heap_setCell_same w B 8 _ _ u h]
  rfl
def zPic : Array Value := #[.int .i64 0, .int .i64 0, .slice none 0 0, .slice none 0 0, .slice none 0 0, .slice none 0 0, .slice none 0 0, .int .i64 0, .slice none 0 0]
def ZBox (w : World) (B : Nat) : Prop := w.heap[B]? = some (.cells zPic 36 (0, 0))
theorem ZBox.old {w w' : World} {B : Nat} (h : ZBox w B) (hb : Below w.heap.size w w') : ZBox w' B := by
  unfold ZBox; rw [hb.block B (Array.getElem?_eq_some_iff.1 h).1]; exact h
theorem ZBox.set {w : World} {B C j : Nat} {u : Value} (h : ZBox w B) (hne : C ≠ B) : ZBox (w.setCell ⟨C, j, none⟩ u) B := by
  unfold ZBox; rw [Go.Deep.blk_setCell_other _ _ _ _ (by simpa using hne.symm)]; exact h
theorem below_set {b : Nat} {w w' : World} (h : Below b w w') {B j : Nat} {u : Value} (hB : b ≤ B) : Below b w (w'.setCell ⟨B, j, none⟩ u) :=
  ⟨h.os, h.tape, h.output, by simpa using h.size, fun k hk => by rw [Go.Deep.blk_setCell_other _ _ _ _ (by simp only; omega)]; exact h.block k hk⟩
/-- the tables of a picture, the first of them made anew -/
def QsO (base : Nat) (W : World) (P : PicL) (q0 q1 q2 q3 : Value) (k : Nat) (f : Nat → Value) : Prop := ∀ j, j < 4 → if j < k then NO base W (f j) (qL P j) else f j = qV q0 q1 q2 q3 j
theorem QsO.old {base : Nat} {W W' : World} {P : PicL} {q0 q1 q2 q3 : Value} {k : Nat} {f : Nat → Value} (h : QsO base W P q0 q1 q2 q3 k f) (hb : Below W.heap.size W W') : QsO base W' P q0 q1 q2 q3 k f := fun j hj => by
  have := h j hj
  split
  · rename_i hjk; rw [if_pos hjk] at this; exact owns_below this hb
  · rename_i hjk; rw [if_neg hjk] at this; exact this
theorem QsO.set {base : Nat} {W : World} {P : PicL} {q0 q1 q2 q3 : Value} {k : Nat} {f : Nat → Value} (h : QsO base W P q0 q1 q2 q3 k f) {B j : Nat} {C : Array Value} {t : TypeId} {fr : Nat × Nat} {u : Value} (hB : W.heap[B]? = some (.cells C t fr)) (ht : 3 ≠ t) : QsO base (W.setCell ⟨B, j, none⟩ u) P q0 q1 q2 q3 k f := fun i hi => by
  have := h i hi
  split
  · rename_i hik; rw [if_pos hik] at this; exact owns_other this hB ht
  · rename_i hik; rw [if_neg hik] at this; exact this
theorem QsO.step {base : Nat} {W : World} {P : PicL} {q0 q1 q2 q3 : Value} {k : Nat} {f : Nat → Value} (h : QsO base W P q0 q1 q2 q3 k f) {u : Value} (hu : NO base W u (qL P k)) : QsO base W P q0 q1 q2 q3 (k + 1) (fun j => if j = k then u else f j) := fun j hj => by
  by_cases e : j = k
  · subst e
    rw [if_pos (by omega)]
    simp only [if_pos]
    exact hu
  · have := h j hj
    by_cases hjk : j < k
    · rw [if_pos hjk] at this
      rw [if_pos (by omega)]
      simp only [if_neg e]
      exact this
    · rw [if_neg hjk] at this
      rw [if_neg (by omega)]
      simp only [if_neg e]
      exact this
set_option maxHeartbeats 8000000 in
theorem ownT_any (P : PicL) (q0 q1 q2 q3 pv kv : Value) (w : World) (hp : PicC w P q0 q1 q2 q3 pv kv) (hM : Mod P) :
    Calls Try.prog 36 #[.agg (vPic P q0 q1 q2 q3 pv kv)] w fun e w' => ∃ r0 r1 r2 r3 rv sv, e = .returned (.agg (vPic P r0 r1 r2 r3 rv sv)) ∧ PicO w.heap.size w' P r0 r1 r2 r3 rv sv ∧ Below w.heap.size w w' := by
  have HP := Lib.hid hp
  have HM := Lib.hid hM
  obtain ⟨rs, hrs, hpr, hpo⟩ := pts_rows hp.parts
  obtain ⟨ss, hss, hkr, hko⟩ := sgs_rows hp.kept
  have HPR := Lib.hid hpr
  have HPO := Lib.hid hpo
  have HKR := Lib.hid hkr
  have HKO := Lib.hid hko
  have HRS := Lib.hid hrs
  have HSS := Lib.hid hss
  obtain ⟨w1, hw1⟩ : ∃ w1, (w.alloc (.cells (vPic P q0 q1 q2 q3 pv kv) 36)).alloc (.cells zPic 36) = w1 := ⟨_, rfl⟩
  have B1 : Hid (Below w.heap.size w w1) := Lib.hid (by rw [← hw1]; exact ((Below.refl _ _).alloc (Nat.le_refl _) _).alloc (by simp) _)
  have X1 : Hid (PBox w1 w.heap.size P q0 q1 q2 q3 pv kv) := Lib.hid (by
    rw [← hw1]
    have h : PBox (w.alloc (.cells (vPic P q0 q1 q2 q3 pv kv) 36)) w.heap.size P q0 q1 q2 q3 pv kv := heap_alloc_new _ _
    exact h.old ((Below.refl _ _).alloc (Nat.le_refl _) _))
  have Z1 : Hid (ZBox w1 (w.heap.size + 1)) := Lib.hid (by
    rw [← hw1]
    have h := heap_alloc_new (w.alloc (.cells (vPic P q0 q1 q2 q3 pv kv) 36)) (.cells zPic 36)
    rw [World.size_alloc] at h
    exact h)
  obtain ⟨B, hB⟩ : ∃ B, w.heap.size = B := ⟨_, rfl⟩
  have HB := Lib.hid hB
  obtain ⟨a0, a1, a2, a3, a4, a5, a6, a7, a8⟩ := X1.out.cells
  rw [hB] at X1 Z1 a0 a1 a2 a3 a4 a5 a6 a7 a8
  clear hp hM hrs hpr hpo hss hkr hko
  unfold vPic zPic at hw1
  unfold vPic
  rw [hB] at B1
  go_enter Try.func36, Try.ntmps36
  go_wp2_with fail
  go_loopw [9] (fun i W => ∃ (k : Nat) (f : Nat → Value), k ≤ 4 ∧ i = .int .i64 (k : Nat) ∧ QsO B W P q0 q1 q2 q3 k f ∧ PBox W B P (f 0) (f 1) (f 2) (f 3) pv kv ∧ ZBox W (B + 1) ∧ Below B w W) (fun i _ => 4 - (intOf i).toNat)
  case atStart => exact ⟨0, qV q0 q1 q2 q3, Nat.zero_le _, rfl, fun j _ => by rw [if_neg (Nat.not_lt_zero j)], X1.out, Z1.out, B1.out⟩
  case round =>
    obtain ⟨k, f, hk, rfl, hqs, hbx, hzb, hbl⟩ := hrel
    have QS := Lib.hid hqs
    have BX := Lib.hid hbx
    have ZB := Lib.hid hzb
    have BL := Lib.hid hbl
    have FZ := hbx.frozen
    obtain ⟨a0, a1, a2, a3, a4, a5, a6, a7, a8⟩ := hbx.cells
    clear hqs hbx hzb hbl
    by_cases hk4 : k < 4
    · have f1 : decide ((k : Int) < 4) = true := by rw [decide_eq_true_eq]; omega
      have f1' : decide (k < 4) = true := by rw [decide_eq_true_eq]; omega
      have f2 : (k : Int) < 4 := by omega
      have gk : IntKind.i64.wrap ((k : Int) + 1) = (k : Int) + 1 := IntWalk.i64_in _ (by omega)
      have qi := fun W => qV_index q0 q1 q2 q3 k hk4 W
      have K4 := Lib.hid hk4
      have NSQ := Lib.hid (qV_ns HP.out k)
      have QL := Lib.hid (HM.out.q k)
      have CL := Lib.hid (cloneI_any (qV q0 q1 q2 q3 k) _ _ wr (NSQ.out.old (by rw [HB.out]; exact BL.out)) (vIs_one _) (by have := QL.out; omega))
      clear hk4
      go_wp2_with fail
      refine CL.out.mono ?_
      rintro e x1 ⟨v1, rfl, ho1, hb1⟩
      obtain ⟨va, vc, rfl⟩ := owns_any ho1
      have LB : Hid (B ≤ wr.heap.size) := Lib.hid (by have := BL.out.size; have := HB.out; omega)
      have QS1 := Lib.hid (QS.out.old hb1)
      have BX1 := Lib.hid (BX.out.old hb1)
      have ZB1 := Lib.hid (ZB.out.old hb1)
      have BL1 := Lib.hid (BL.out.trans (hb1.mono LB.out))
      have O1 : Hid (NO B x1 (.slice va (qL P k).length vc) (qL P k)) := Lib.hid (World.ownsRow.mono ho1 LB.out)
      have c1 := pbox_q3 BX1.out k K4.out
      have c2 := BX1.out.frozen (2 + k)
      clear ho1 hb1 a0 a1 a2 a3 a4 a5 a6 a7 a8 FZ
      go_wp2_with fail
      go_roundw
      case rel => exact ⟨k + 1, fun j => if j = k then .slice va (qL P k).length vc else f j, K4.out, by go_num, (QS1.out.set BX1.out (by decide)).step (owns_other O1.out BX1.out (by decide)), pbox_setq f _ BX1.out k K4.out _ (fun _ => rfl), ZB1.out.set (by omega), below_set BL1.out (Nat.le_refl _)⟩
      case measure => simp [intOf]; have := K4.out; omega
    · obtain rfl : k = 4 := by omega
      have LB : Hid (B ≤ wr.heap.size) := Lib.hid (by have := BL.out.size; have := HB.out; omega)
      have NP := Lib.hid (HM.out.n)
      have CL := Lib.hid (cloneP_any pv _ _ wr (SlN.old HPR.out (by rw [HB.out]; exact BL.out)) (parts_one HPO.out) (by have := NP.out; omega))
      go_wp2_with fail
      refine CL.out.mono ?_
      rintro e x1 ⟨v1, rfl, ho1, hb1⟩
      obtain ⟨va, vc, rfl⟩ := owns_any ho1
      have QS1 := Lib.hid (QS.out.old hb1)
      have BX1 := Lib.hid (BX.out.old hb1)
      have ZB1 := Lib.hid (ZB.out.old hb1)
      have BL1 := Lib.hid (BL.out.trans (hb1.mono LB.out))
      have O1 := Lib.hid (World.ownsRow.mono ho1 LB.out)
      have c1 := BX1.out.cells.2.2.2.2.2.2.1
      have c2 := BX1.out.frozen 6
      clear ho1 hb1 a0 a1 a2 a3 a4 a5 a6 a7 a8 FZ
      obtain ⟨n, hn⟩ : ∃ n, P.parts.length = n := ⟨_, rfl⟩
      rw [hn] at O1 NP ⊢
      obtain ⟨x2, hx2⟩ : ∃ x2, x1.setCell ⟨B, 6, none⟩ (.slice va n vc) = x2 := ⟨_, rfl⟩
      have QS2 : Hid (QsO B x2 P q0 q1 q2 q3 4 f) := Lib.hid (by rw [← hx2]; exact QS1.out.set BX1.out (by decide))
      have BX2 : Hid (PBox x2 B P (f 0) (f 1) (f 2) (f 3) (.slice va n vc) kv) := Lib.hid (by rw [← hx2]; exact pbox_setp BX1.out _)
      have ZB2 : Hid (ZBox x2 (B + 1)) := Lib.hid (by rw [← hx2]; exact ZB1.out.set (by omega))
      have BL2 : Hid (Below B w x2) := Lib.hid (by rw [← hx2]; exact below_set BL1.out (Nat.le_refl _))
      have HN : Hid (rs.length = n) := Lib.hid (by rw [← hn, ← HRS.out]; simp)
      have HH : Hid (HalfP B x2 (.slice va n vc) rs []) := Lib.hid ⟨Nat.zero_le _, by
        rw [← hx2]
        have := owns_other (j := 6) (u := .slice va n vc) O1.out BX1.out (by decide)
        simpa [HN.out] using this, fun p hp => by simp at hp, fun p hp => by simp at hp, List.Pairwise.nil⟩
      obtain ⟨a0, a1, a2, a3, a4, a5, a6, a7, a8⟩ := BX2.out.cells
      clear O1 QS1 ZB1 BL1 QS BX ZB BL hn
      go_wp2_with fail
      go_loopw [26] (fun i W => ∃ (k : Nat) (done : List (PartL × Value)), k ≤ n ∧ i = .int .i64 (k : Nat) ∧ done.length = k ∧ done.map (·.1) = P.parts.take k ∧ HalfP B W (.slice va n vc) rs done ∧ QsO B W P q0 q1 q2 q3 4 f ∧ PBox W B P (f 0) (f 1) (f 2) (f 3) (.slice va n vc) kv ∧ ZBox W (B + 1) ∧ Below B w W) (fun i _ => n - (intOf i).toNat)
      case atStart => exact ⟨0, [], Nat.zero_le _, rfl, rfl, rfl, HH.out, QS2.out, BX2.out, ZB2.out, BL2.out⟩
      case round =>
        obtain ⟨k, done, hk, rfl, hdl, hdf, hh, hqs, hbx, hzb, hbl⟩ := hrel
        have HH := Lib.hid hh
        have QS := Lib.hid hqs
        have BX := Lib.hid hbx
        have ZB := Lib.hid hzb
        have BL := Lib.hid hbl
        have DL := Lib.hid hdl
        have DF := Lib.hid hdf
        obtain ⟨a0, a1, a2, a3, a4, a5, a6, a7, a8⟩ := hbx.cells
        clear hh hqs hbx hzb hbl hdl hdf a0 a1 a2 a3 a4 a5 a7
        by_cases hkn : k < n
        · have f1 : decide ((k : Int) < (n : Int)) = true := by rw [decide_eq_true_eq]; omega
          have f1' : decide (k < n) = true := by rw [decide_eq_true_eq]; omega
          have f2 : (k : Int) < (n : Int) := by omega
          have gk : IntKind.i64.wrap ((k : Int) + 1) = (k : Int) + 1 := IntWalk.i64_in _ (by have := NP.out; omega)
          have hkr : k < rs.length := by have := HN.out; omega
          obtain ⟨g, c, e, hg, hgl, C, hC⟩ := owns_shape HH.out.row (by have := HN.out; omega) (by decide)
          simp only [Value.slice.injEq] at e
          obtain ⟨rfl, hnn, rfl⟩ := e
          clear hnn
          obtain ⟨h1, h2⟩ := half_at DL.out hkr
          have hro := HH.out.row
          rw [HN.out] at hro
          have hrx := hro.cellAt (k * 7 + 6) (mul_add_lt hkn (by decide))
          rw [DL.out, cellsW_at vPart_len _ k 6 h1 (by decide), h2 h1] at hrx
          have hfz := hro.frozenAt (k * 7 + 6)
          obtain ⟨⟨p, x⟩, hpx⟩ : ∃ p, rs[k] = p := ⟨_, rfl⟩
          have PX := Lib.hid (HPO.out _ (List.getElem_mem hkr))
          rw [hpx] at hrx PX
          simp only at hrx PX
          have hrx' : wr.cell? ⟨g, k * 7 + 6, none⟩ = some x := hrx
          obtain ⟨xa, xc, hxs⟩ := bks_slice PX.out.2
          have PM : Hid (p.bs.length ≤ 1000000) := Lib.hid (HM.out.b p (by rw [← HRS.out]; have := List.mem_map_of_mem (f := Prod.fst) (List.getElem_mem hkr); rw [hpx] at this; exact this))
          have HPX : Hid (∀ h : k < rs.length, rs[k]'h = (p, x)) := Lib.hid (fun h => hpx)
          have LB : Hid (B ≤ wr.heap.size) := Lib.hid (by have := BL.out.size; have := HB.out; omega)
          have CB := Lib.hid (fun W (hW : Below wr.heap.size wr W) => cloneB_any x p.bs W (PX.out.2.old ((by rw [HB.out]; exact BL.out : Below w.heap.size w wr).trans (hW.mono (by rw [HB.out]; exact LB.out)))) (by have := PM.out; omega))
          obtain ⟨xn, hxn⟩ : ∃ xn, p.bs.length = xn := ⟨_, rfl⟩
          rw [hxn] at hxs
          subst hxs
          have HKN := Lib.hid hkn
          have HXN := Lib.hid hxn
          have HROW := Lib.hid hro
          have C3OF : Hid (∀ X, Below wr.heap.size wr X → ∃ C, X.heap[g]? = some (.cells C 70 (0, 0))) := Lib.hid (fun X hX => ⟨C, by rw [hX.block g hgl]; exact hC⟩)
          have TK : Hid (P.parts.take (k + 1) = P.parts.take k ++ [p]) := Lib.hid (by
            have h1 : k < P.parts.length := by rw [← HRS.out]; simpa using hkr
            rw [List.take_succ_eq_append_getElem h1]
            have h2 : P.parts[k] = p := by
              have : P.parts[k]? = some p := by rw [← HRS.out, List.getElem?_map, List.getElem?_eq_getElem hkr, hpx]; rfl
              rw [List.getElem?_eq_getElem h1] at this
              exact Option.some.inj this
            rw [h2])
          clear hrx hpx hkn hxn hC hro
          go_upto_region 10 with (fail)
          go_region_with (go_at_call 60; refine (CB.out _ (Below.refl _ _).drew).mono ?_; rintro e x3 ⟨v3, rfl, ho3, hb3⟩; obtain ⟨va3, vc3, rfl⟩ := owns_any ho3.row; have hb4 : Below wr.heap.size wr x3 := ((Below.refl _ _).drew).trans (hb3.mono (Nat.le_refl _)); have z0 := cell_old hb4 hrx'; have z1 := (owns_below HROW.out hb4).frozenAt (k * 7 + 6); have z2 := cell_old hb4 a6)
          all_goals
            have hw4 : Below B w x3 := BL.out.trans (hb4.mono LB.out)
            have H4 := HH.out.old hb4
            have HX4 := HPX.out hkr
            have H5 := H4.step HN.out DL.out hkr (M := wr.heap.size) (x := .slice va3 p.bs.length vc3) (fun q hq b hb => ((HH.out.bk q hq).row.lt b hb).2) (by rw [HX4]; exact ho3) LB.out (by rw [HX4]; exact PX.out.1)
            rw [HX4] at H5
            obtain ⟨C3, hC3⟩ := C3OF.out _ hb4
            have Q5 := (QS.out.old hb4).set (j := k * 7 + 6) (u := .slice va3 p.bs.length vc3) hC3 (by decide)
            have X5 : PBox (x3.setCell ⟨g, k * 7 + 6, none⟩ (.slice va3 p.bs.length vc3)) B P (f 0) (f 1) (f 2) (f 3) (.slice (some ⟨g, 0, none⟩) n vc) kv := heap_other (BX.out.old hb4) hC3 (by decide)
            have Z5 : ZBox (x3.setCell ⟨g, k * 7 + 6, none⟩ (.slice va3 p.bs.length vc3)) (B + 1) := heap_other (ZB.out.old hb4) hC3 (by decide)
            have L5 : Below B w (x3.setCell ⟨g, k * 7 + 6, none⟩ (.slice va3 p.bs.length vc3)) := below_set hw4 hg
            have HH5 := Lib.hid H5
            have QQ5 := Lib.hid Q5
            have XX5 := Lib.hid X5
            have ZZ5 := Lib.hid Z5
            have LL5 := Lib.hid L5
            clear H4 H5 Q5 X5 Z5 L5 hw4 hC3 HX4 z0 z1 z2 hb3 hb4 ho3
            go_wp2_with fail
            go_roundw
            case rel => exact ⟨k + 1, done ++ [(p, .slice va3 p.bs.length vc3)], HKN.out, by go_num, by rw [List.length_append, DL.out]; rfl, by rw [List.map_append, DF.out, TK.out]; rfl, HH5.out, QQ5.out, XX5.out, ZZ5.out, LL5.out⟩
            case measure => simp [intOf]; have := HKN.out; omega
        · obtain rfl : k = n := by omega
          have PT : Hid (PtO B wr (.slice va k vc) done) := Lib.hid (HH.out.fin (by rw [DL.out, HN.out]))
          have DM : Hid (done.map (·.1) = P.parts) := Lib.hid (by rw [DF.out, List.take_of_length_le (by rw [← HRS.out]; have := HN.out; simp; omega)])
          have LB : Hid (B ≤ wr.heap.size) := Lib.hid (by have := BL.out.size; have := HB.out; omega)
          have NK := Lib.hid (HM.out.k)
          have CL := Lib.hid (cloneS_any kv _ _ wr (SlN.old HKR.out (by rw [HB.out]; exact BL.out)) (segs_one HKO.out) (by have := NK.out; omega))
          obtain ⟨a0, a1, a2, a3, a4, a5, a6, a7, a8⟩ := BX.out.cells
          clear HH hx2
          go_wp2_with fail
          refine CL.out.mono ?_
          rintro e x1 ⟨v1, rfl, ho1, hb1⟩
          obtain ⟨sa, sc, rfl⟩ := owns_any ho1
          have QS1 := Lib.hid (QS.out.old hb1)
          have BX1 := Lib.hid (BX.out.old hb1)
          have ZB1 := Lib.hid (ZB.out.old hb1)
          have BL1 := Lib.hid (BL.out.trans (hb1.mono LB.out))
          have PT1 := Lib.hid (PT.out.hi (keepHi_below hb1))
          have O1 := Lib.hid (World.ownsRow.mono ho1 LB.out)
          have c1 := BX1.out.cells.2.2.2.2.2.2.2.2
          have c2 := BX1.out.frozen 8
          clear ho1 hb1 a0 a1 a2 a3 a4 a5 a6 a7 a8
          obtain ⟨n, hn⟩ : ∃ n, P.kept.length = n := ⟨_, rfl⟩
          rw [hn] at O1 NK ⊢
          obtain ⟨x2, hx2⟩ : ∃ x2, x1.setCell ⟨B, 8, none⟩ (.slice sa n sc) = x2 := ⟨_, rfl⟩
          have QS2 : Hid (QsO B x2 P q0 q1 q2 q3 4 f) := Lib.hid (by rw [← hx2]; exact QS1.out.set BX1.out (by decide))
          have BX2 : Hid (PBox x2 B P (f 0) (f 1) (f 2) (f 3) (.slice va k vc) (.slice sa n sc)) := Lib.hid (by rw [← hx2]; exact pbox_setk BX1.out _)
          have ZB2 : Hid (ZBox x2 (B + 1)) := Lib.hid (by rw [← hx2]; exact ZB1.out.set (by omega))
          have BL2 : Hid (Below B w x2) := Lib.hid (by rw [← hx2]; exact below_set BL1.out (Nat.le_refl _))
          have PT2 : Hid (PtO B x2 (.slice va k vc) done) := Lib.hid (by rw [← hx2]; exact PT1.out.set BX1.out (by decide) (by decide))
          have HN2 : Hid (ss.length = n) := Lib.hid (by rw [← hn, ← HSS.out]; simp)
          have HS : Hid (HalfS B x2 (.slice sa n sc) ss []) := Lib.hid ⟨Nat.zero_le _, by
            rw [← hx2]
            have := owns_other (j := 8) (u := .slice sa n sc) O1.out BX1.out (by decide)
            simpa [HN2.out] using this, fun p hp => by simp at hp, fun p hp => by simp at hp, List.Pairwise.nil⟩
          obtain ⟨a0, a1, a2, a3, a4, a5, a6, a7, a8⟩ := BX2.out.cells
          clear O1 QS1 ZB1 BL1 QS BX ZB BL PT PT1 hn
          go_wp2_with fail
          go_loopw [49] (fun i W => ∃ (j : Nat) (dn : List ((Int × List UInt8) × Value)), j ≤ n ∧ i = .int .i64 (j : Nat) ∧ dn.length = j ∧ dn.map (·.1) = P.kept.take j ∧ HalfS B W (.slice sa n sc) ss dn ∧ PtO B W (.slice va k vc) done ∧ QsO B W P q0 q1 q2 q3 4 f ∧ PBox W B P (f 0) (f 1) (f 2) (f 3) (.slice va k vc) (.slice sa n sc) ∧ ZBox W (B + 1) ∧ Below B w W) (fun i _ => n - (intOf i).toNat)
          case atStart => exact ⟨0, [], Nat.zero_le _, rfl, rfl, rfl, HS.out, PT2.out, QS2.out, BX2.out, ZB2.out, BL2.out⟩
          case round =>
            obtain ⟨j, dn, hj, rfl, hdl, hdf, hh, hpt, hqs, hbx, hzb, hbl⟩ := hrel
            have HH := Lib.hid hh
            have PT := Lib.hid hpt
            have QS := Lib.hid hqs
            have BX := Lib.hid hbx
            have ZB := Lib.hid hzb
            have BL := Lib.hid hbl
            have DL := Lib.hid hdl
            have DF := Lib.hid hdf
            obtain ⟨a0, a1, a2, a3, a4, a5, a6, a7, a8⟩ := hbx.cells
            have LB : Hid (B ≤ wr.heap.size) := Lib.hid (by have := BL.out.size; have := HB.out; omega)
            clear hh hpt hqs hbx hzb hbl hdl hdf
            by_cases hjn : j < n
            · have f1 : decide ((j : Int) < (n : Int)) = true := by rw [decide_eq_true_eq]; omega
              have f1' : decide (j < n) = true := by rw [decide_eq_true_eq]; omega
              have f2 : (j : Int) < (n : Int) := by omega
              have gk : IntKind.i64.wrap ((j : Int) + 1) = (j : Int) + 1 := IntWalk.i64_in _ (by have := NK.out; omega)
              have hkr : j < ss.length := by have := HN2.out; omega
              obtain ⟨g, c, e, hg, hgl, C, hC⟩ := owns_shape HH.out.row (by have := HN2.out; omega) (by decide)
              simp only [Value.slice.injEq] at e
              obtain ⟨rfl, hnn, rfl⟩ := e
              clear hnn
              obtain ⟨h1, h2⟩ := half_at DL.out hkr
              have hro := HH.out.row
              rw [HN2.out] at hro
              have hrx := hro.cellAt (j * 2 + 1) (mul_add_lt hjn (by decide))
              rw [DL.out, cellsW_at vSeg_len _ j 1 h1 (by decide), h2 h1] at hrx
              have hfz := hro.frozenAt (j * 2 + 1)
              obtain ⟨⟨p, x⟩, hpx⟩ : ∃ p, ss[j] = p := ⟨_, rfl⟩
              have PX := Lib.hid (HKO.out _ (List.getElem_mem hkr))
              rw [hpx] at hrx PX
              simp only at hrx PX
              have hrx' : wr.cell? ⟨g, j * 2 + 1, none⟩ = some x := hrx
              obtain ⟨xa, xc, hxs⟩ := PX.out.2.2.len
              have PM : Hid (p.2.length ≤ 1000000000) := Lib.hid (HM.out.d p (by rw [← HSS.out]; have := List.mem_map_of_mem (f := Prod.fst) (List.getElem_mem hkr); rw [hpx] at this; exact this))
              have HPX : Hid (∀ h : j < ss.length, ss[j]'h = (p, x)) := Lib.hid (fun h => hpx)
              have CB := Lib.hid (fun W (hW : Below wr.heap.size wr W) => cloneY_any x p.2.length (vBs p.2) W (PX.out.2.2.old ((by rw [HB.out]; exact BL.out : Below w.heap.size w wr).trans (hW.mono (by rw [HB.out]; exact LB.out)))) (vBs_one _) (by have := PM.out; omega))
              obtain ⟨xn, hxn⟩ : ∃ xn, p.2.length = xn := ⟨_, rfl⟩
              rw [hxn] at hxs
              subst hxs
              have HKN := Lib.hid hjn
              have HXN := Lib.hid hxn
              have HROW := Lib.hid hro
              have C3OF : Hid (∀ X, Below wr.heap.size wr X → ∃ C, X.heap[g]? = some (.cells C 73 (0, 0))) := Lib.hid (fun X hX => ⟨C, by rw [hX.block g hgl]; exact hC⟩)
              have TK : Hid (P.kept.take (j + 1) = P.kept.take j ++ [p]) := Lib.hid (by
                have h1 : j < P.kept.length := by rw [← HSS.out]; simpa using hkr
                rw [List.take_succ_eq_append_getElem h1]
                have h2 : P.kept[j] = p := by
                  have : P.kept[j]? = some p := by rw [← HSS.out, List.getElem?_map, List.getElem?_eq_getElem hkr, hpx]; rfl
                  rw [List.getElem?_eq_getElem h1] at this
                  exact Option.some.inj this
                rw [h2])
              clear hrx hpx hjn hxn hC hro a0 a1 a2 a3 a4 a5 a6 a7 hx2
              go_upto_region 16 with (fail)
              go_region_with (go_at_call 62; refine (CB.out _ (Below.refl _ _).drew).mono ?_; rintro e x3 ⟨v3, rfl, ho3, hb3⟩; obtain ⟨va3, vc3, rfl⟩ := owns_any ho3; have hb4 : Below wr.heap.size wr x3 := ((Below.refl _ _).drew).trans (hb3.mono (Nat.le_refl _)); have z0 := cell_old hb4 hrx'; have z1 := (owns_below HROW.out hb4).frozenAt (j * 2 + 1); have z2 := cell_old hb4 a8)
              all_goals
                have hw4 : Below B w x3 := BL.out.trans (hb4.mono LB.out)
                have H4 := HH.out.old hb4
                have HX4 := HPX.out hkr
                have H5 := H4.step HN2.out DL.out hkr (M := wr.heap.size) (x := .slice va3 p.2.length vc3) (fun q hq b hb => ((HH.out.bk q hq).lt b hb).2) (by rw [HX4]; exact ho3) LB.out (by rw [HX4]; exact ⟨PX.out.1, PX.out.2.1⟩)
                rw [HX4] at H5
                obtain ⟨C3, hC3⟩ := C3OF.out _ hb4
                have Q5 := (QS.out.old hb4).set (j := j * 2 + 1) (u := .slice va3 p.2.length vc3) hC3 (by decide)
                have P5 := (PT.out.hi (keepHi_below hb4)).set (j := j * 2 + 1) (u := .slice va3 p.2.length vc3) hC3 (by decide) (by decide)
                have X5 : PBox (x3.setCell ⟨g, j * 2 + 1, none⟩ (.slice va3 p.2.length vc3)) B P (f 0) (f 1) (f 2) (f 3) (.slice va k vc) (.slice (some ⟨g, 0, none⟩) n sc) := heap_other (BX.out.old hb4) hC3 (by decide)
                have Z5 : ZBox (x3.setCell ⟨g, j * 2 + 1, none⟩ (.slice va3 p.2.length vc3)) (B + 1) := heap_other (ZB.out.old hb4) hC3 (by decide)
                have L5 : Below B w (x3.setCell ⟨g, j * 2 + 1, none⟩ (.slice va3 p.2.length vc3)) := below_set hw4 hg
                have HH5 := Lib.hid H5
                have QQ5 := Lib.hid Q5
                have PP5 := Lib.hid P5
                have XX5 := Lib.hid X5
                have ZZ5 := Lib.hid Z5
                have LL5 := Lib.hid L5
                clear H4 H5 Q5 P5 X5 Z5 L5 hw4 hC3 HX4 z0 z1 z2 hb3 hb4 ho3
                go_wp2_with fail
                go_roundw
                case rel => exact ⟨j + 1, dn ++ [(p, .slice va3 p.2.length vc3)], HKN.out, by go_num, by rw [List.length_append, DL.out]; rfl, by rw [List.map_append, DF.out, TK.out]; rfl, HH5.out, PP5.out, QQ5.out, XX5.out, ZZ5.out, LL5.out⟩
                case measure => simp [intOf]; have := HKN.out; omega
            · obtain rfl : j = n := by omega
              have f1 : decide ((j : Int) < (j : Int)) = false := by rw [decide_eq_false_iff_not]; omega
              have SG : Hid (SgO B wr (.slice sa j sc) dn) := Lib.hid (HH.out.fin (by rw [DL.out, HN2.out]))
              have DM2 : Hid (dn.map (·.1) = P.kept) := Lib.hid (by rw [DF.out, List.take_of_length_le (by rw [← HSS.out]; have := HN2.out; simp; omega)])
              obtain ⟨g0, hg0⟩ : ∃ z, f 0 = z := ⟨_, rfl⟩
              obtain ⟨g1, hg1⟩ : ∃ z, f 1 = z := ⟨_, rfl⟩
              obtain ⟨g2, hg2⟩ : ∃ z, f 2 = z := ⟨_, rfl⟩
              obtain ⟨g3, hg3⟩ : ∃ z, f 3 = z := ⟨_, rfl⟩
              have N0 := QS.out 0 (by decide)
              have N1 := QS.out 1 (by decide)
              have N2 := QS.out 2 (by decide)
              have N3 := QS.out 3 (by decide)
              rw [if_pos (by decide)] at N0 N1 N2 N3
              rw [hg0] at N0 a2
              rw [hg1] at N1 a3
              rw [hg2] at N2 a4
              rw [hg3] at N3 a5
              have PO : Hid (PicO B wr P g0 g1 g2 g3 (.slice va k vc) (.slice sa j sc)) := Lib.hid ⟨N0, N1, N2, N3, ⟨done, DM.out, PT.out⟩, ⟨dn, DM2.out, SG.out⟩⟩
              obtain ⟨b0, d0, rfl⟩ := owns_any N0
              obtain ⟨b1, d1, rfl⟩ := owns_any N1
              obtain ⟨b2, d2, rfl⟩ := owns_any N2
              obtain ⟨b3, d3, rfl⟩ := owns_any N3
              clear N0 N1 N2 N3 hg0 hg1 hg2 hg3
              obtain ⟨C, hC⟩ : ∃ C : Array Value, C = vPic P (.slice b0 (qL P 0).length d0) (.slice b1 (qL P 1).length d1) (.slice b2 (qL P 2).length d2) (.slice b3 (qL P 3).length d3) (.slice va k vc) (.slice sa j sc) := ⟨_, rfl⟩
              have HC := Lib.hid hC
              have H1 : Hid ((#[.int .i64 P.w, .int .i64 P.h, .slice b0 (qL P 0).length d0, .slice b1 (qL P 1).length d1, .slice b2 (qL P 2).length d2, .slice b3 (qL P 3).length d3, .slice va k vc, .int .i64 P.restart, .slice sa j sc] : Array Value).all (·.oneCell') = true) := Lib.hid (by kernel_rfl)
              have HI : Hid ((Try.prog.info? 36).map (·.size) = some 9) := Lib.hid (by kernel_rfl)
              go_wp2_with (refine wpList_store_row rfl _ _ _ rfl (B + 1) #[.int .i64 P.w, .int .i64 P.h, .slice b0 (qL P 0).length d0, .slice b1 (qL P 1).length d1, .slice b2 (qL P 2).length d2, .slice b3 (qL P 3).length d3, .slice va k vc, .int .i64 P.restart, .slice sa j sc] rfl rfl 36 _ ZB.out HI.out rfl H1.out ?_)
              obtain ⟨wE, hE⟩ : ∃ wE, wr.setRow (B + 1) #[.int .i64 P.w, .int .i64 P.h, .slice b0 (qL P 0).length d0, .slice b1 (qL P 1).length d1, .slice b2 (qL P 2).length d2, .slice b3 (qL P 3).length d3, .slice va k vc, .int .i64 P.restart, .slice sa j sc] = wE := ⟨_, rfl⟩
              have hwE : wE.heap[B + 1]? = some (.cells #[.int .i64 P.w, .int .i64 P.h, .slice b0 (qL P 0).length d0, .slice b1 (qL P 1).length d1, .slice b2 (qL P 2).length d2, .slice b3 (qL P 3).length d3, .slice va k vc, .int .i64 P.restart, .slice sa j sc] 36 (0, 0)) := by rw [← hE]; exact setRow_heap _ _ _ _ _ _ ZB.out
              have PE : Hid (PicO B wE P (.slice b0 (qL P 0).length d0) (.slice b1 (qL P 1).length d1) (.slice b2 (qL P 2).length d2) (.slice b3 (qL P 3).length d3) (.slice va k vc) (.slice sa j sc)) := Lib.hid (by rw [← hE]; exact PO.out.ty (keepTy_row ZB.out) (by decide) (by decide) (by decide) (by decide) (by decide))
              have BE : Hid (Below B w wE) := Lib.hid (by rw [← hE]; exact below_setRow BL.out (Nat.le_succ _) _)
              rw [hE]
              obtain ⟨r0, r1, r2, r3, r4, r5, r6, r7, r8⟩ := PBox.cells (P := P) hwE
              clear hE hwE
              refine bodyPost_ret (v := .agg #[.int .i64 P.w, .int .i64 P.h, .slice b0 (qL P 0).length d0, .slice b1 (qL P 1).length d1, .slice b2 (qL P 2).length d2, .slice b3 (qL P 3).length d3, .slice va k vc, .int .i64 P.restart, .slice sa j sc]) (by simp [results, Try.results36, go_sem, r0, r1, r2, r3, r4, r5, r6, r7, r8]; try rfl) rfl ⟨_, _, _, _, _, _, rfl, by rw [HB.out]; exact PE.out, by rw [HB.out]; exact BE.out⟩
end Go.Proofs.Ytnhalnjdlkdnkaa
