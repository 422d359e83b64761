/- turn.Turn walked. By an AI agent. -/
import Derived.Test.YtnhalnjdlkdnkaaZ19
import Derived.Test.YtnhalnjdlkdnkaaZ05
import Derived.Test.YtnhalnjdlkdnkaaZ25
namespace Go.Proofs.Ytnhalnjdlkdnkaa
open Go.RowKit Go.BigFrame
set_option linter.unusedVariables false
set_option linter.unusedSimpArgs false
set_option maxRecDepth 20000

/-- a picture under way, in its box; the way; the result's box; what lay before -/
structure TuS (w : World) (Mw Mx : Nat) (c f o : Bool) (X : PicL) (q0 q1 q2 q3 pv kv : Value) (W : World) : Prop where
  x : PBox W Mx X q0 q1 q2 q3 pv kv
  p : PicO w.heap.size W X q0 q1 q2 q3 pv kv
  wb : W.heap[Mw]? = some (.cells #[.bool c, .bool f, .bool o] 64 (0, 0))
  z : ZBox W (w.heap.size + 1)
  l : Below w.heap.size w W
  ne : w.heap.size + 1 < Mx
theorem TuS.old {w : World} {Mw Mx : Nat} {c f o : Bool} {X : PicL} {q0 q1 q2 q3 pv kv : Value} {W W' : World} (h : TuS w Mw Mx c f o X q0 q1 q2 q3 pv kv W) (hb : Below W.heap.size W W') : TuS w Mw Mx c f o X q0 q1 q2 q3 pv kv W' :=
  ⟨h.x.old hb, h.p.hi (keepHi_below hb), by rw [hb.block Mw (Array.getElem?_eq_some_iff.1 h.wb).1]; exact h.wb, h.z.old hb, h.l.trans (hb.mono h.l.size), h.ne⟩
theorem TuS.put {w : World} {Mw Mx : Nat} {c f o : Bool} {X Y : PicL} {q0 q1 q2 q3 pv kv r0 r1 r2 r3 rv sv : Value} {W W1 : World} (h : TuS w Mw Mx c f o X q0 q1 q2 q3 pv kv W) (hk : KeepN W W1) (hl : Below w.heap.size W W1) (hp : PicO w.heap.size W1 Y r0 r1 r2 r3 rv sv) :
    (∃ C, W1.heap[Mx]? = some (.cells C 36 (0, 0)) ∧ C.size = 9) ∧ TuS w Mw Mx c f o Y r0 r1 r2 r3 rv sv (W1.setRow Mx (vPic Y r0 r1 r2 r3 rv sv)) := by
  have hx := hk _ _ _ _ (by decide) (by decide) (by decide) h.x
  have hw := hk _ _ _ _ (by decide) (by decide) (by decide) h.wb
  have hz := hk _ _ _ _ (by decide) (by decide) (by decide) h.z
  refine ⟨⟨_, hx, rfl⟩, setRow_heap _ _ _ _ _ _ hx, hp.ty (keepTy_row hx) (by decide) (by decide) (by decide) (by decide) (by decide), ?_, ?_, below_setRow (h.l.trans hl) (by have := h.ne; omega) _, h.ne⟩
  · rw [setRow_other W1 Mx Mw _ (fun e => by rw [e, hx] at hw; simp at hw)]
    exact hw
  · unfold ZBox
    rw [setRow_other W1 Mx (w.heap.size + 1) _ (by have := h.ne; omega)]
    exact hz
theorem PicO.forms {base : Nat} {w : World} {P : PicL} {q0 q1 q2 q3 pv kv : Value} (h : PicO base w P q0 q1 q2 q3 pv kv) : ∃ e0 c0 e1 c1 e2 c2 e3 c3 e4 n4 c4 e5 n5 c5, q0 = .slice e0 P.q0.length c0 ∧ q1 = .slice e1 P.q1.length c1 ∧ q2 = .slice e2 P.q2.length c2 ∧ q3 = .slice e3 P.q3.length c3 ∧ pv = .slice e4 n4 c4 ∧ kv = .slice e5 n5 c5 := by
  obtain ⟨e0, c0, h0⟩ := owns_any h.q0
  obtain ⟨e1, c1, h1⟩ := owns_any h.q1
  obtain ⟨e2, c2, h2⟩ := owns_any h.q2
  obtain ⟨e3, c3, h3⟩ := owns_any h.q3
  obtain ⟨_, _, hp⟩ := h.parts
  obtain ⟨_, _, hk⟩ := h.kept
  obtain ⟨e4, c4, h4⟩ := owns_any hp.row
  obtain ⟨e5, c5, h5⟩ := owns_any hk.row
  exact ⟨e0, c0, e1, c1, e2, c2, e3, c3, e4, _, c4, e5, _, c5, h0, h1, h2, h3, h4, h5⟩
theorem TuS.way {w : World} {Mw Mx : Nat} {c f o : Bool} {X : PicL} {q0 q1 q2 q3 pv kv : Value} {W : World} (h : TuS w Mw Mx c f o X q0 q1 q2 q3 pv kv W) : W.cell? ⟨Mw, 0, none⟩ = some (.bool c) ∧ W.cell? ⟨Mw, 1, none⟩ = some (.bool f) ∧ W.cell? ⟨Mw, 2, none⟩ = some (.bool o) :=
  ⟨by rw [cell_of_row _ _ 0 _ _ _ h.wb]; rfl, by rw [cell_of_row _ _ 1 _ _ _ h.wb]; rfl, by rw [cell_of_row _ _ 2 _ _ _ h.wb]; rfl⟩
/-- in some values -/
def TuE (w : World) (Mw Mx : Nat) (c f o : Bool) (X : PicL) (W : World) : Prop := ∃ e0 c0 e1 c1 e2 c2 e3 c3 e4 m4 c4 e5 m5 c5, TuS w Mw Mx c f o X (.slice e0 X.q0.length c0) (.slice e1 X.q1.length c1) (.slice e2 X.q2.length c2) (.slice e3 X.q3.length c3) (.slice e4 m4 c4) (.slice e5 m5 c5) W
theorem TuS.e {w : World} {Mw Mx : Nat} {c f o : Bool} {X : PicL} {q0 q1 q2 q3 pv kv : Value} {W : World} (h : TuS w Mw Mx c f o X q0 q1 q2 q3 pv kv W) : TuE w Mw Mx c f o X W := by
  obtain ⟨e0, c0, e1, c1, e2, c2, e3, c3, e4, m4, c4, e5, m5, c5, rfl, rfl, rfl, rfl, rfl, rfl⟩ := h.p.forms
  exact ⟨_, _, _, _, _, _, _, _, _, _, _, _, _, _, h⟩
theorem vPic_ones {base : Nat} {w : World} {P : PicL} {q0 q1 q2 q3 pv kv : Value} (h : PicO base w P q0 q1 q2 q3 pv kv) : (vPic P q0 q1 q2 q3 pv kv).all (·.oneCell') = true := by
  obtain ⟨e0, c0, e1, c1, e2, c2, e3, c3, e4, n4, c4, e5, n5, c5, rfl, rfl, rfl, rfl, rfl, rfl⟩ := h.forms
  kernel_rfl

theorem side_fact (x a : Int) (hx : 1 ≤ x ∧ x ≤ 65535) (ha : 1 ≤ a ∧ a ≤ 32) : ∃ r d : Int, (x.tmod a = r ∧ wrap64 r = r ∧ IntKind.i64.wrap r = r) ∧ wrap64 (x - r) = d ∧ IntKind.i64.wrap (x - r) = d ∧ x - x % a = d ∧ (∀ f, tW f x a = if f then d else x) ∧ (a == 0) = false ∧ ¬ a = 0 := by
  have h1 := Int.emod_nonneg x (show a ≠ 0 by omega)
  have h2 := Int.emod_lt_of_pos x (show 0 < a by omega)
  have h3 := Int.mul_ediv_add_emod x a
  have h4 : 0 ≤ a * (x / a) := Int.mul_nonneg (by omega) (Int.ediv_nonneg (by omega) (by omega))
  refine ⟨x % a, x - x % a, ⟨Int.tmod_eq_emod_of_nonneg (by omega), (wrapZ _ (by omega)).1, (wrapZ _ (by omega)).2⟩, (wrapZ _ (by omega)).1, (wrapZ _ (by omega)).2, rfl, fun f => rfl, by rw [beq_eq_false_iff_ne]; omega, by omega⟩
theorem bad_cases (X : PicL) (wd hi : Int) (pf : Bool) : ((wd == 0) = true ∧ badT X wd hi pf = true) ∨ ((wd == 0) = false ∧ (hi == 0) = true ∧ badT X wd hi pf = true) ∨ ((wd == 0) = false ∧ (hi == 0) = false ∧ pf = false ∧ badT X wd hi pf = false) ∨
    ((wd == 0) = false ∧ (hi == 0) = false ∧ pf = true ∧ decide (wd < X.w) = true ∧ badT X wd hi pf = true) ∨ ((wd == 0) = false ∧ (hi == 0) = false ∧ pf = true ∧ decide (wd < X.w) = false ∧ decide (hi < X.h) = true ∧ badT X wd hi pf = true) ∨
    ((wd == 0) = false ∧ (hi == 0) = false ∧ pf = true ∧ decide (wd < X.w) = false ∧ decide (hi < X.h) = false ∧ badT X wd hi pf = false) := by
  unfold badT
  have e1 : (wd == 0) = decide (wd = 0) := by
    by_cases h : wd = 0
    · subst h; rfl
    · rw [decide_eq_false h, beq_eq_false_iff_ne]; exact h
  have e2 : (hi == 0) = decide (hi = 0) := by
    by_cases h : hi = 0
    · subst h; rfl
    · rw [decide_eq_false h, beq_eq_false_iff_ne]; exact h
  rw [e1, e2]
  generalize decide (wd = 0) = b1
  generalize decide (hi = 0) = b2
  generalize decide (wd < X.w) = b3
  generalize decide (hi < X.h) = b4
  cases b1 <;> cases b2 <;> cases pf <;> cases b3 <;> cases b4 <;> simp
set_option maxHeartbeats 16000000 in
theorem turn_any (P : PicL) (q0 q1 q2 q3 pv kv : Value) (t : Int) (pf : Bool) (w : World) (hp : PicC w P q0 q1 q2 q3 pv kv) (hB : PicB P) (hk : P.kept.length ≤ 1000) :
    Calls Try.prog 23 #[.agg (vPic P q0 q1 q2 q3 pv kv), .int .i64 t, .bool pf] w fun e w' => ∃ r0 r1 r2 r3 rv sv, e = .returned (.tuple #[.agg (vPic (turnL P t pf) r0 r1 r2 r3 rv sv), errV (turnE P t pf)]) ∧ PicO w.heap.size w' (turnL P t pf) r0 r1 r2 r3 rv sv ∧ Below w.heap.size w w' := by
  have HP := Lib.hid hp
  have HBB := Lib.hid hB
  have HK := Lib.hid hk
  obtain ⟨b0, d0, rfl⟩ := hp.q0.len
  obtain ⟨b1, d1, rfl⟩ := hp.q1.len
  obtain ⟨b2, d2, rfl⟩ := hp.q2.len
  obtain ⟨b3, d3, rfl⟩ := hp.q3.len
  obtain ⟨ba, da, rfl, _⟩ := hp.kept.len
  obtain ⟨bp, dp, rfl, _⟩ := hp.parts.len
  obtain ⟨n0, hn0⟩ : ∃ z, P.q0.length = z := ⟨_, rfl⟩
  obtain ⟨n1, hn1⟩ : ∃ z, P.q1.length = z := ⟨_, rfl⟩
  obtain ⟨n2, hn2⟩ : ∃ z, P.q2.length = z := ⟨_, rfl⟩
  obtain ⟨n3, hn3⟩ : ∃ z, P.q3.length = z := ⟨_, rfl⟩
  obtain ⟨na, hna⟩ : ∃ z, P.kept.length = z := ⟨_, rfl⟩
  obtain ⟨n, hn⟩ : ∃ z, P.parts.length = z := ⟨_, rfl⟩
  rw [hn0, hn1, hn2, hn3, hna, hn] at HP ⊢
  clear hn0 hn1 hn2 hn3 hna hn hp hB hk
  obtain ⟨w1, hw1⟩ : ∃ w1, (w.alloc (.cells (vPic P (.slice b0 n0 d0) (.slice b1 n1 d1) (.slice b2 n2 d2) (.slice b3 n3 d3) (.slice bp n dp) (.slice ba na da)) 36)).alloc (.cells zPic 36) = w1 := ⟨_, rfl⟩
  have B1 : Hid (Below w.heap.size w w1) := Lib.hid (by rw [← hw1]; exact ((Below.refl _ _).alloc (Nat.le_refl _) _).alloc (by simp) _)
  have X1 : Hid (PBox w1 w.heap.size P (.slice b0 n0 d0) (.slice b1 n1 d1) (.slice b2 n2 d2) (.slice b3 n3 d3) (.slice bp n dp) (.slice ba na da)) := Lib.hid (by rw [← hw1]; exact heap_old (heap_alloc_new _ _))
  have Z1 : Hid (ZBox w1 (w.heap.size + 1)) := Lib.hid (by
    rw [← hw1]
    have h := heap_alloc_new (w.alloc (.cells (vPic P (.slice b0 n0 d0) (.slice b1 n1 d1) (.slice b2 n2 d2) (.slice b3 n3 d3) (.slice bp n dp) (.slice ba na da)) 36)) (.cells zPic 36)
    rw [World.size_alloc] at h
    exact h)
  obtain ⟨B, hB⟩ : ∃ B, w.heap.size = B := ⟨_, rfl⟩
  have HB := Lib.hid hB
  rw [hB] at X1 Z1 B1
  have CK := Lib.hid (check_any P _ _ _ _ _ _ w1 (HP.out.old (by rw [HB.out]; exact B1.out)) HBB.out)
  have H1 : Hid ((zPic : Array Value).all (·.oneCell') = true) := Lib.hid (by kernel_rfl)
  have HI : Hid ((Try.prog.info? 36).map (·.size) = some 9) := Lib.hid (by kernel_rfl)
  -- a refusal: the result's box is noughts
  have NO_ : Hid (∀ (W : World) (c : Int), ZBox W (B + 1) → Below B w W → turnE P t pf = c → c ≠ 0 → (W.setRow (B + 1) zPic).heap[B + 1]? = some (.cells zPic 36 (0, 0)) ∧
      ∃ r0 r1 r2 r3 rv sv, Ending.returned (.tuple #[.agg zPic, .iface 47 (.int .i64 c)]) = Ending.returned (.tuple #[.agg (vPic (turnL P t pf) r0 r1 r2 r3 rv sv), errV (turnE P t pf)]) ∧ PicO w.heap.size (W.setRow (B + 1) zPic) (turnL P t pf) r0 r1 r2 r3 rv sv ∧ Below w.heap.size w (W.setRow (B + 1) zPic)) := Lib.hid (fun W c hz hb hc h0 => by
    refine ⟨setRow_heap _ _ _ _ _ _ hz, .slice none 0 0, .slice none 0 0, .slice none 0 0, .slice none 0 0, .slice none 0 0, .slice none 0 0, ?_, ?_, ?_⟩
    · rw [turn_zero (by rw [hc]; exact h0), hc, errV_some h0]
      rfl
    · rw [turn_zero (by rw [hc]; exact h0)]
      exact pic_zero _ _
    · rw [HB.out]
      exact below_setRow hb (Nat.le_succ _) _)
  unfold vPic zPic at hw1
  obtain ⟨a0, a1, a2, a3, a4, a5, a6, a7, a8⟩ := X1.out.cells
  go_enter Try.func23, Try.ntmps23
  unfold vPic
  go_wp2_with fail
  refine CK.out.mono ?_
  rintro e w2 ⟨rfl, hb2⟩
  have X2 := Lib.hid (X1.out.old hb2)
  have Z2 := Lib.hid (Z1.out.old hb2)
  have B2 : Hid (Below B w w2) := Lib.hid (B1.out.trans (hb2.mono (by have := (Array.getElem?_eq_some_iff.1 X1.out).1; omega)))
  clear hb2 a0 a1 a2 a3 a4 a5 a6 a7 a8 hw1 X1 Z1 B1 CK
  obtain ⟨a0, a1, a2, a3, a4, a5, a6, a7, a8⟩ := X2.out.cells
  unfold zPic at H1 NO_
  rcases hg : goodB P with _ | _
  · have CE : Hid (turnE P t pf = 6) := Lib.hid (by unfold turnE; rw [hg]; rfl)
    clear hg a0 a1 a2 a3 a4 a5 a6 a7 a8
    have e6 : errV (chkN false) = .iface 47 (.int .i64 6) := by kernel_rfl
    rw [e6]
    go_wp2_with (refine wpList_store_row rfl _ _ _ rfl (B + 1) #[.int .i64 0, .int .i64 0, .slice none 0 0, .slice none 0 0, .slice none 0 0, .slice none 0 0, .slice none 0 0, .int .i64 0, .slice none 0 0] rfl rfl 36 _ Z2.out HI.out rfl H1.out ?_)
    obtain ⟨hwE, hfin⟩ := NO_.out w2 6 Z2.out B2.out CE.out (by decide)
    have FIN := Lib.hid hfin
    obtain ⟨wE, hE⟩ : ∃ wE, w2.setRow (B + 1) #[.int .i64 0, .int .i64 0, .slice none 0 0, .slice none 0 0, .slice none 0 0, .slice none 0 0, .slice none 0 0, .int .i64 0, .slice none 0 0] = wE := ⟨_, rfl⟩
    rw [hE] at hwE FIN
    rw [hE]
    clear hfin hE
    obtain ⟨r0, r1, r2, r3, r4, r5, r6, r7, r8⟩ := PBox.cells (P := zeroP) hwE
    unfold zeroP at r0 r1 r7
    refine bodyPost_ret (v := .tuple #[.agg #[.int .i64 0, .int .i64 0, .slice none 0 0, .slice none 0 0, .slice none 0 0, .slice none 0 0, .slice none 0 0, .int .i64 0, .slice none 0 0], .iface 47 (.int .i64 6)]) (by simp [results, Try.results23, go_sem, r0, r1, r2, r3, r4, r5, r6, r7, r8]; try rfl) rfl FIN.out
  have GD := Lib.hid ((good_iff P).1 hg)
  have HG := Lib.hid hg
  have e0 : errV (chkN true) = .nilIface := by kernel_rfl
  rw [e0]
  clear hg e0
  by_cases hkn : 0 ≤ t ∧ t ≤ 7
  rotate_left
  · have CE : Hid (turnE P t pf = 6) := Lib.hid (by unfold turnE; rw [HG.out, decide_eq_false hkn]; rfl)
    have KN := Lib.hid (known_no t w2 hkn)
    clear hkn a0 a1 a2 a3 a4 a5 a6 a7 a8
    go_wp2_with fail
    refine KN.out.mono ?_
    rintro e w3 ⟨rfl, rfl⟩
    go_wp2_with (refine wpList_store_row rfl _ _ _ rfl (B + 1) #[.int .i64 0, .int .i64 0, .slice none 0 0, .slice none 0 0, .slice none 0 0, .slice none 0 0, .slice none 0 0, .int .i64 0, .slice none 0 0] rfl rfl 36 _ Z2.out HI.out rfl H1.out ?_)
    obtain ⟨hwE, hfin⟩ := NO_.out w2 6 Z2.out B2.out CE.out (by decide)
    have FIN := Lib.hid hfin
    obtain ⟨wE, hE⟩ : ∃ wE, w2.setRow (B + 1) #[.int .i64 0, .int .i64 0, .slice none 0 0, .slice none 0 0, .slice none 0 0, .slice none 0 0, .slice none 0 0, .int .i64 0, .slice none 0 0] = wE := ⟨_, rfl⟩
    rw [hE] at hwE FIN
    rw [hE]
    clear hfin hE
    obtain ⟨r0, r1, r2, r3, r4, r5, r6, r7, r8⟩ := PBox.cells (P := zeroP) hwE
    unfold zeroP at r0 r1 r7
    refine bodyPost_ret (v := .tuple #[.agg #[.int .i64 0, .int .i64 0, .slice none 0 0, .slice none 0 0, .slice none 0 0, .slice none 0 0, .slice none 0 0, .int .i64 0, .slice none 0 0], .iface 47 (.int .i64 6)]) (by simp [results, Try.results23, go_sem, r0, r1, r2, r3, r4, r5, r6, r7, r8]; try rfl) rfl FIN.out
  have KN := Lib.hid (known_yes t w2 hkn)
  have HKN := Lib.hid hkn
  have MOD := Lib.hid (good_mod GD.out HK.out)
  clear hkn
  go_wp2_with fail
  refine KN.out.mono ?_
  rintro e w3 ⟨rfl, rfl⟩
  go_wp2_with fail
  refine (of_any t w2).mono ?_
  rintro e w3 ⟨rfl, hb3⟩
  have X3 := Lib.hid (X2.out.old hb3)
  have Z3 := Lib.hid (Z2.out.old hb3)
  have B3 : Hid (Below B w w3) := Lib.hid (B2.out.trans (hb3.mono (by have := (Array.getElem?_eq_some_iff.1 X2.out).1; omega)))
  obtain ⟨c, hc⟩ : ∃ c, crossB t = c := ⟨_, rfl⟩
  obtain ⟨f, hf⟩ : ∃ f, flipB t = f := ⟨_, rfl⟩
  obtain ⟨o, ho⟩ : ∃ o, flopB t = o := ⟨_, rfl⟩
  rw [hc, hf, ho]
  have HC := Lib.hid hc
  have HF := Lib.hid hf
  have HO := Lib.hid ho
  unfold wayV
  obtain ⟨w4, hw4⟩ : ∃ w4, w3.alloc (.cells #[.bool c, .bool f, .bool o] 64) = w4 := ⟨_, rfl⟩
  have hb4 : Below w3.heap.size w3 w4 := by rw [← hw4]; exact (Below.refl _ _).alloc (Nat.le_refl _) _
  have X4 := Lib.hid (X3.out.old hb4)
  have Z4 := Lib.hid (Z3.out.old hb4)
  have B4 : Hid (Below B w w4) := Lib.hid (B3.out.trans (hb4.mono (by have := (Array.getElem?_eq_some_iff.1 X3.out).1; omega)))
  obtain ⟨Mw, hMw⟩ : ∃ Mw, w3.heap.size = Mw := ⟨_, rfl⟩
  have W4 : Hid (w4.heap[Mw]? = some (.cells #[.bool c, .bool f, .bool o] 64 (0, 0))) := Lib.hid (by rw [← hw4, ← hMw]; exact heap_alloc_new _ _)
  clear hb3 hb4 hc hf ho a0 a1 a2 a3 a4 a5 a6 a7 a8 X2 Z2 B2 X3 Z3 B3 KN
  obtain ⟨a0, a1, a2, a3, a4, a5, a6, a7, a8⟩ := X4.out.cells
  go_wp2_with fail
  refine (ownT_any P _ _ _ _ _ _ w4 (HP.out.old (by rw [HB.out]; exact B4.out)) MOD.out).mono ?_
  rintro e x1 ⟨s0, s1, s2, s3, sv, tv, rfl, hown, hb⟩
  have Z5 := Lib.hid (Z4.out.old hb)
  have BL : Hid (B + 1 < w4.heap.size) := Lib.hid (Array.getElem?_eq_some_iff.1 Z4.out).1
  have B5 : Hid (Below B w x1) := Lib.hid (B4.out.trans (hb.mono (by have := BL.out; omega)))
  have W5 : Hid (x1.heap[Mw]? = some (.cells #[.bool c, .bool f, .bool o] 64 (0, 0))) := Lib.hid (by rw [hb.block Mw (Array.getElem?_eq_some_iff.1 W4.out).1]; exact W4.out)
  have PO5 := Lib.hid (hown.mono (show B ≤ w4.heap.size by have := BL.out; omega))
  have BX5 : Hid (B + 1 < x1.heap.size) := Lib.hid (Nat.lt_of_lt_of_le BL.out hb.size)
  clear hown hb a0 a1 a2 a3 a4 a5 a6 a7 a8 X4 Z4 B4 W4 hw4
  obtain ⟨Mx, hMx⟩ : ∃ Mx, x1.heap.size = Mx := ⟨_, rfl⟩
  obtain ⟨w5, hw5⟩ : ∃ w5, x1.alloc (.cells (vPic P s0 s1 s2 s3 sv tv) 36) = w5 := ⟨_, rfl⟩
  have S5 : Hid (TuE w Mw Mx c f o P w5) := Lib.hid (by
    have hb5 : Below x1.heap.size x1 w5 := by rw [← hw5]; exact (Below.refl _ _).alloc (Nat.le_refl _) _
    have hz := Z5.out.old hb5
    have hp5 := PO5.out.hi (keepHi_below hb5)
    have hl5 := B5.out.trans (hb5.mono (by have := BX5.out; omega))
    have hx5 : PBox w5 Mx P s0 s1 s2 s3 sv tv := by rw [← hw5, ← hMx]; exact heap_alloc_new _ _
    rw [← HB.out] at hz hp5 hl5
    exact TuS.e ⟨hx5, hp5, by rw [hb5.block Mw (Array.getElem?_eq_some_iff.1 W5.out).1]; exact W5.out, hz, hl5, by have := BX5.out; have := HB.out; omega⟩)
  obtain ⟨e0, c0, e1, c1, e2, c2, e3, c3, e4, m4, c4, e5, m5, c5, rfl, rfl, rfl, rfl, rfl, rfl⟩ := PO5.out.forms
  unfold vPic at hw5 ⊢
  go_upto_region 5 with (fail)
  clear hw5 hMx
  obtain ⟨e0, c0, e1, c1, e2, c2, e3, c3, e4, m4, c4, e5, m5, c5, hs⟩ := S5.out
  have SS := Lib.hid hs
  obtain ⟨y0, y1, y2⟩ := hs.way
  obtain ⟨a0, a1, a2, a3, a4, a5, a6, a7, a8⟩ := hs.x.cells
  clear hs S5 Z5 W5 PO5
  go_upto_if 29 with (fail)
  go_cut [29] from 30 to 31 (fun v wx => v = .bool c ∧ TuE w Mw Mx c f o (tC c P) wx)
  case first =>
    cases c
    · go_wp2_with fail
      go_meet
      exact ⟨rfl, SS.out.e⟩
    · have CR := Lib.hid (cross_any w.heap.size P _ _ _ _ _ _ w5 SS.out.p SS.out.l.size GD.out.fit (good_tables GD.out))
      unfold vPic at CR
      go_wp2_with fail
      refine CR.out.mono ?_
      rintro e x2 ⟨r0, r1, r2, r3, rfl, hpo, hbl, hkn⟩
      have PP := SS.out.put hkn hbl hpo
      have H9 := Lib.hid (vPic_ones hpo)
      obtain ⟨⟨C9, hC9, hs9⟩, hfin⟩ := PP
      have C9' := Lib.hid hC9
      have S9 := Lib.hid hs9
      have FIN := Lib.hid hfin
      clear hC9 hs9 hfin hpo hbl hkn
      go_wp2_with (refine wpList_store_row rfl _ _ _ rfl Mx (vPic (crossP P) r0 r1 r2 r3 (.slice e4 m4 c4) (.slice e5 m5 c5)) rfl rfl 36 _ C9'.out HI.out S9.out H9.out ?_)
      go_meet
      exact ⟨rfl, FIN.out.e⟩
  case rest =>
  obtain ⟨rfl, hte⟩ := hcut
  obtain ⟨X, hX⟩ : ∃ X, tC c P = X := ⟨_, rfl⟩
  rw [hX] at hte
  have FX : Hid (Fit X) := Lib.hid (by rw [← hX]; exact tC_fit GD.out.fit c)
  have MX : Hid (Mod X) := Lib.hid (by rw [← hX]; exact tC_mod MOD.out c)
  have HX := Lib.hid hX
  clear hX a0 a1 a2 a3 a4 a5 a6 a7 a8 y0 y1 y2 SS
  obtain ⟨g0, c0, g1, c1, g2, c2, g3, c3, g4, m4, c4, g5, m5, c5, hs⟩ := hte
  have SS := Lib.hid hs
  obtain ⟨y0, y1, y2⟩ := hs.way
  obtain ⟨a0, a1, a2, a3, a4, a5, a6, a7, a8⟩ := hs.x.cells
  clear hs
  have UN := Lib.hid (unit_any X (.slice g0 X.q0.length c0) (.slice g1 X.q1.length c1) (.slice g2 X.q2.length c2) (.slice g3 X.q3.length c3) (.slice g4 m4 c4) (.slice g5 m5 c5) wc SS.out.p.pic.parts (by have := FX.out.n; omega) FX.out.fac)
  have MM := Lib.hid (max_of FX.out.fac FX.out.n.1)
  obtain ⟨ua, hua⟩ : ∃ z, 8 * maxH X.parts = z := ⟨_, rfl⟩
  obtain ⟨ub, hub⟩ : ∃ z, 8 * maxV X.parts = z := ⟨_, rfl⟩
  rw [hua, hub] at UN
  have HUA := Lib.hid hua
  have HUB := Lib.hid hub
  have UL : Hid ((1 ≤ ua ∧ ua ≤ 32) ∧ 1 ≤ ub ∧ ub ≤ 32) := Lib.hid (by have := MM.out; omega)
  clear hua hub MM
  unfold vPic at UN
  go_wp2_with fail
  refine UN.out.mono ?_
  rintro e x6 ⟨rfl, hb6⟩
  have S6 := Lib.hid (SS.out.old hb6)
  clear hb6 a0 a1 a2 a3 a4 a5 a6 a7 a8 y0 y1 y2 SS UN
  obtain ⟨y0, y1, y2⟩ := S6.out.way
  obtain ⟨a0, a1, a2, a3, a4, a5, a6, a7, a8⟩ := S6.out.x.cells
  go_upto_region 8 with (fail)
  go_region
  obtain ⟨x7, hx7⟩ : ∃ x7, x6.drew = x7 := ⟨_, rfl⟩
  rw [hx7]
  have S7 := Lib.hid (S6.out.old (show Below x6.heap.size x6 x7 by rw [← hx7]; exact (Below.refl _ _).drew))
  clear hx7 a0 a1 a2 a3 a4 a5 a6 a7 a8 y0 y1 y2 S6
  obtain ⟨y0, y1, y2⟩ := S7.out.way
  obtain ⟨a0, a1, a2, a3, a4, a5, a6, a7, a8⟩ := S7.out.x.cells
  have RF := Lib.hid (side_fact X.w ua FX.out.w UL.out.1)
  have SF := Lib.hid (side_fact X.h ub FX.out.h UL.out.2)
  go_upto_if 42 with (fail)
  go_cut [12] from 43 to 47 (fun v wx => v = .int .i64 (tW f X.w ua) ∧ x7 = wx)
  case first =>
    obtain ⟨r, d, ⟨m1, m1', m1''⟩, m2, m3, m4, m5, m6, m7⟩ := RF.out
    have M5 := Lib.hid m5
    clear m4 m5
    cases f
    · go_wp2_with fail
      go_meet
      exact ⟨by rw [M5.out]; rfl, rfl⟩
    · go_wp2_with fail
      go_meet
      exact ⟨by rw [M5.out]; rfl, rfl⟩
  case rest =>
  obtain ⟨rfl, rfl⟩ := hcut
  go_upto_if 49 with (fail)
  go_cut [13] from 50 to 54 (fun v wx => v = .int .i64 (tW o X.h ub) ∧ x7 = wx)
  case first =>
    obtain ⟨r, d, ⟨m1, m1', m1''⟩, m2, m3, m4, m5, m6, m7⟩ := SF.out
    have M5 := Lib.hid m5
    clear m4 m5
    cases o
    · go_wp2_with fail
      go_meet
      exact ⟨by rw [M5.out]; rfl, rfl⟩
    · go_wp2_with fail
      go_meet
      exact ⟨by rw [M5.out]; rfl, rfl⟩
  case rest =>
  obtain ⟨rfl, rfl⟩ := hcut
  obtain ⟨wd, hwd⟩ : ∃ z, tW f X.w ua = z := ⟨_, rfl⟩
  obtain ⟨hi, hhi⟩ : ∃ z, tW o X.h ub = z := ⟨_, rfl⟩
  rw [hwd, hhi]
  have HWD := Lib.hid hwd
  have HHI := Lib.hid hhi
  have BC := Lib.hid (bad_cases X wd hi pf)
  clear hwd hhi RF SF
  go_upto_region 13 with (fail)
  go_cut [75] from 55 to 75 (fun v wx => v = .bool (badT X wd hi pf) ∧ x7 = wx)
  case first =>
    rcases BC.out with ⟨d1, hr⟩ | ⟨d1, d2, hr⟩ | ⟨d1, d2, rfl, hr⟩ | ⟨d1, d2, rfl, d3, hr⟩ | ⟨d1, d2, rfl, d3, d4, hr⟩ | ⟨d1, d2, rfl, d3, d4, hr⟩
    all_goals
      have HR := Lib.hid hr
      clear hr
      go_wp2_with fail
      go_meet
      exact ⟨by rw [HR.out], rfl⟩
  case rest =>
  obtain ⟨rfl, rfl⟩ := hcut
  clear BC
  have ET : Hid (turnE P t pf = if badT X wd hi pf = true then 5 else 0) := Lib.hid (by
    unfold turnE turnWd turnHi
    rw [HG.out, decide_eq_true HKN.out, HC.out, HF.out, HO.out, HX.out, HUA.out, HUB.out, HWD.out, HHI.out]
    rfl)
  obtain ⟨bd, hbd⟩ : ∃ z, badT X wd hi pf = z := ⟨_, rfl⟩
  rw [hbd] at ET ⊢
  have HBD := Lib.hid hbd
  clear hbd
  cases bd with
  | true =>
    have CE : Hid (turnE P t pf = 5) := Lib.hid ET.out
    clear a0 a1 a2 a3 a4 a5 a6 a7 a8 y0 y1 y2
    obtain ⟨w9, hw9⟩ : ∃ z, x7 = z := ⟨_, rfl⟩
    have Z9 : Hid (ZBox w9 (B + 1)) := Lib.hid (by have h := S7.out.z; rw [HB.out, hw9] at h; exact h)
    have B9 : Hid (Below B w w9) := Lib.hid (by have h := S7.out.l; rw [HB.out, hw9] at h; exact h)
    rw [hw9]
    clear hw9
    go_wp2_with (refine wpList_store_row rfl _ _ _ rfl (B + 1) #[.int .i64 0, .int .i64 0, .slice none 0 0, .slice none 0 0, .slice none 0 0, .slice none 0 0, .slice none 0 0, .int .i64 0, .slice none 0 0] rfl rfl 36 _ Z9.out HI.out rfl H1.out ?_)
    obtain ⟨hwE, hfin⟩ := NO_.out w9 5 Z9.out B9.out CE.out (by decide)
    have FIN := Lib.hid hfin
    obtain ⟨wE, hE⟩ : ∃ wE, w9.setRow (B + 1) #[.int .i64 0, .int .i64 0, .slice none 0 0, .slice none 0 0, .slice none 0 0, .slice none 0 0, .slice none 0 0, .int .i64 0, .slice none 0 0] = wE := ⟨_, rfl⟩
    rw [hE] at hwE FIN
    rw [hE]
    clear hfin hE
    obtain ⟨r0, r1, r2, r3, r4, r5, r6, r7, r8⟩ := PBox.cells (P := zeroP) hwE
    unfold zeroP at r0 r1 r7
    refine bodyPost_ret (v := .tuple #[.agg #[.int .i64 0, .int .i64 0, .slice none 0 0, .slice none 0 0, .slice none 0 0, .slice none 0 0, .slice none 0 0, .int .i64 0, .slice none 0 0], .iface 47 (.int .i64 5)]) (by simp [results, Try.results23, go_sem, r0, r1, r2, r3, r4, r5, r6, r7, r8]; try rfl) rfl (by have h := FIN.out; rw [HB.out] at h; unfold vPic at h; exact h)
  | false =>
  have CE : Hid (turnE P t pf = 0) := Lib.hid ET.out
  have II : Hid (In X 0 0 wd hi) := Lib.hid (by
    have h := HBD.out
    have h2 := turn_in (X := X) FX.out (f := f) (o := o) (pf := pf)
    rw [HUA.out, HUB.out, HWD.out, HHI.out] at h2
    exact h2 h)
  have YE : Hid (turnL P t pf = tO o (tF f (cutL X 0 0 wd hi))) := Lib.hid (by
    unfold turnL turnIn turnWd turnHi
    rw [if_pos CE.out, HC.out, HF.out, HO.out, HX.out, HUA.out, HUB.out, HWD.out, HHI.out])
  have CU := Lib.hid (cut_any X (.slice g0 X.q0.length c0) (.slice g1 X.q1.length c1) (.slice g2 X.q2.length c2) (.slice g3 X.q3.length c3) (.slice g4 m4 c4) (.slice g5 m5 c5) 0 0 wd hi x7 S7.out.p.pic MX.out FX.out II.out)
  unfold vPic at CU
  obtain ⟨Y, hY⟩ : ∃ Y, cutL X 0 0 wd hi = Y := ⟨_, rfl⟩
  rw [hY] at CU YE
  have FY : Hid (Fit Y) := Lib.hid (by rw [← hY]; exact fit_cut FX.out II.out)
  have QY : Hid (Y.q0 = X.q0 ∧ Y.q1 = X.q1 ∧ Y.q2 = X.q2 ∧ Y.q3 = X.q3 ∧ Y.kept = X.kept) := Lib.hid (by rw [← hY]; exact ⟨rfl, rfl, rfl, rfl, rfl⟩)
  clear hY y0 y1 y2
  go_wp2_with fail
  refine CU.out.mono ?_
  rintro e x8 ⟨rv, rs', rfl, hrs, hpt, hb8⟩
  have PO8 : Hid (PicO w.heap.size x8 Y (.slice g0 X.q0.length c0) (.slice g1 X.q1.length c1) (.slice g2 X.q2.length c2) (.slice g3 X.q3.length c3) rv (.slice g5 m5 c5)) := Lib.hid (by
    have h := S7.out.p.hi (keepHi_below hb8)
    obtain ⟨y0, y1, y2, y3, y4⟩ := QY.out
    refine ⟨by rw [y0]; exact h.q0, by rw [y1]; exact h.q1, by rw [y2]; exact h.q2, by rw [y3]; exact h.q3, ⟨rs', hrs, hpt.mono S7.out.l.size⟩, by rw [y4]; exact h.kept⟩)
  obtain ⟨⟨C9, hC9, hs9⟩, hfin⟩ := S7.out.put (keepN_below hb8) (hb8.mono S7.out.l.size) PO8.out
  have H9 := Lib.hid (vPic_ones PO8.out)
  have C9' := Lib.hid hC9
  have S9 := Lib.hid hs9
  have FIN := Lib.hid hfin
  clear hC9 hs9 hfin hrs hpt hb8 a0 a1 a2 a3 a4 a5 a6 a7 a8 S7 CU
  unfold vPic at H9 FIN
  go_upto_region 16 with (refine wpList_store_row rfl _ _ _ rfl Mx #[.int .i64 Y.w, .int .i64 Y.h, .slice g0 X.q0.length c0, .slice g1 X.q1.length c1, .slice g2 X.q2.length c2, .slice g3 X.q3.length c3, rv, .int .i64 Y.restart, .slice g5 m5 c5] rfl rfl 36 _ C9'.out HI.out S9.out H9.out ?_)
  obtain ⟨x9, hx9⟩ : ∃ x9, x8.setRow Mx #[.int .i64 Y.w, .int .i64 Y.h, .slice g0 X.q0.length c0, .slice g1 X.q1.length c1, .slice g2 X.q2.length c2, .slice g3 X.q3.length c3, rv, .int .i64 Y.restart, .slice g5 m5 c5] = x9 := ⟨_, rfl⟩
  rw [hx9] at FIN ⊢
  have hte := FIN.out.e
  clear hx9 H9 C9' S9 FIN PO8
  obtain ⟨h0, d0', h1, d1', h2, d2', h3, d3', h4, l4, d4', h5, l5, d5', hs⟩ := hte
  have SS := Lib.hid hs
  obtain ⟨z0, z1, z2⟩ := hs.way
  obtain ⟨a0, a1, a2, a3, a4, a5, a6, a7, a8⟩ := hs.x.cells
  clear hs
  go_upto_if 83 with (fail)
  go_cut [83] from 84 to 85 (fun v wx => v = .bool f ∧ TuE w Mw Mx c f o (tF f Y) wx)
  case first =>
    cases f
    · go_wp2_with fail
      go_meet
      exact ⟨rfl, SS.out.e⟩
    · have CR := Lib.hid (flip_any w.heap.size Y _ _ _ _ _ _ x9 SS.out.p SS.out.l.size FY.out)
      unfold vPic at CR
      go_wp2_with fail
      refine CR.out.mono ?_
      rintro e y2 ⟨rfl, hpo, hbl, hkn⟩
      obtain ⟨⟨C9, hC9, hs9⟩, hfin⟩ := SS.out.put hkn hbl hpo
      have H9 := Lib.hid (vPic_ones hpo)
      have C9' := Lib.hid hC9
      have S9 := Lib.hid hs9
      have FIN := Lib.hid hfin
      clear hC9 hs9 hfin hpo hbl hkn
      unfold vPic at H9 FIN
      go_wp2_with (refine wpList_store_row rfl _ _ _ rfl Mx #[.int .i64 (flipP Y).w, .int .i64 (flipP Y).h, .slice h0 Y.q0.length d0', .slice h1 Y.q1.length d1', .slice h2 Y.q2.length d2', .slice h3 Y.q3.length d3', .slice h4 l4 d4', .int .i64 (flipP Y).restart, .slice h5 l5 d5'] rfl rfl 36 _ C9'.out HI.out S9.out H9.out ?_)
      go_meet
      exact ⟨rfl, FIN.out.e⟩
  case rest =>
  obtain ⟨rfl, hte⟩ := hcut
  clear a0 a1 a2 a3 a4 a5 a6 a7 a8 z0 z1 z2 SS
  obtain ⟨Y2, hY2⟩ : ∃ z, tF f Y = z := ⟨_, rfl⟩
  rw [hY2] at hte YE
  have FY2 : Hid (Fit Y2) := Lib.hid (by rw [← hY2]; exact tF_fit FY.out f)
  clear hY2
  obtain ⟨h0, d0', h1, d1', h2, d2', h3, d3', h4, l4, d4', h5, l5, d5', hs⟩ := hte
  have SS := Lib.hid hs
  obtain ⟨z0, z1, z2⟩ := hs.way
  obtain ⟨a0, a1, a2, a3, a4, a5, a6, a7, a8⟩ := hs.x.cells
  clear hs
  go_upto_if 87 with (fail)
  go_cut [87] from 88 to 89 (fun v wx => v = .bool o ∧ TuE w Mw Mx c f o (tO o Y2) wx)
  case first =>
    cases o
    · go_wp2_with fail
      go_meet
      exact ⟨rfl, SS.out.e⟩
    · have CR := Lib.hid (flop_any w.heap.size Y2 _ _ _ _ _ _ wc SS.out.p SS.out.l.size FY2.out)
      unfold vPic at CR
      go_wp2_with fail
      refine CR.out.mono ?_
      rintro e y2 ⟨rfl, hpo, hbl, hkn⟩
      obtain ⟨⟨C9, hC9, hs9⟩, hfin⟩ := SS.out.put hkn hbl hpo
      have H9 := Lib.hid (vPic_ones hpo)
      have C9' := Lib.hid hC9
      have S9 := Lib.hid hs9
      have FIN := Lib.hid hfin
      clear hC9 hs9 hfin hpo hbl hkn
      unfold vPic at H9 FIN
      go_wp2_with (refine wpList_store_row rfl _ _ _ rfl Mx #[.int .i64 (flopP Y2).w, .int .i64 (flopP Y2).h, .slice h0 Y2.q0.length d0', .slice h1 Y2.q1.length d1', .slice h2 Y2.q2.length d2', .slice h3 Y2.q3.length d3', .slice h4 l4 d4', .int .i64 (flopP Y2).restart, .slice h5 l5 d5'] rfl rfl 36 _ C9'.out HI.out S9.out H9.out ?_)
      go_meet
      exact ⟨rfl, FIN.out.e⟩
  case rest =>
  obtain ⟨rfl, hte⟩ := hcut
  clear a0 a1 a2 a3 a4 a5 a6 a7 a8 z0 z1 z2 SS
  obtain ⟨Z, hZ⟩ : ∃ z, tO o Y2 = z := ⟨_, rfl⟩
  rw [hZ] at hte YE
  clear hZ
  obtain ⟨h0, d0', h1, d1', h2, d2', h3, d3', h4, l4, d4', h5, l5, d5', hs⟩ := hte
  have SS := Lib.hid hs
  obtain ⟨z0, z1, z2⟩ := hs.way
  obtain ⟨a0, a1, a2, a3, a4, a5, a6, a7, a8⟩ := hs.x.cells
  clear hs
  have ZB : Hid (ZBox wc (B + 1)) := Lib.hid (by have h := SS.out.z; rw [HB.out] at h; exact h)
  have HZ1 := Lib.hid (vPic_ones SS.out.p)
  unfold vPic at HZ1
  go_wp2_with (refine wpList_store_row rfl _ _ _ rfl (B + 1) #[.int .i64 Z.w, .int .i64 Z.h, .slice h0 Z.q0.length d0', .slice h1 Z.q1.length d1', .slice h2 Z.q2.length d2', .slice h3 Z.q3.length d3', .slice h4 l4 d4', .int .i64 Z.restart, .slice h5 l5 d5'] rfl rfl 36 _ ZB.out HI.out rfl HZ1.out ?_)
  obtain ⟨wE, hE⟩ : ∃ wE, wc.setRow (B + 1) #[.int .i64 Z.w, .int .i64 Z.h, .slice h0 Z.q0.length d0', .slice h1 Z.q1.length d1', .slice h2 Z.q2.length d2', .slice h3 Z.q3.length d3', .slice h4 l4 d4', .int .i64 Z.restart, .slice h5 l5 d5'] = wE := ⟨_, rfl⟩
  have hwE : wE.heap[B + 1]? = some (.cells #[.int .i64 Z.w, .int .i64 Z.h, .slice h0 Z.q0.length d0', .slice h1 Z.q1.length d1', .slice h2 Z.q2.length d2', .slice h3 Z.q3.length d3', .slice h4 l4 d4', .int .i64 Z.restart, .slice h5 l5 d5'] 36 (0, 0)) := by rw [← hE]; exact setRow_heap _ _ _ _ _ _ ZB.out
  have PE := Lib.hid (show PicO w.heap.size wE Z (.slice h0 Z.q0.length d0') (.slice h1 Z.q1.length d1') (.slice h2 Z.q2.length d2') (.slice h3 Z.q3.length d3') (.slice h4 l4 d4') (.slice h5 l5 d5') by rw [← hE]; exact SS.out.p.ty (keepTy_row ZB.out) (by decide) (by decide) (by decide) (by decide) (by decide))
  have BE : Hid (Below w.heap.size w wE) := Lib.hid (by rw [← hE]; exact below_setRow SS.out.l (by rw [HB.out]; omega) _)
  rw [hE]
  clear hE a0 a1 a2 a3 a4 a5 a6 a7 a8 z0 z1 z2
  obtain ⟨r0, r1, r2, r3, r4, r5, r6, r7, r8⟩ := PBox.cells (P := Z) hwE
  have RE : Hid (∃ r0 r1 r2 r3 rv' sv', Ending.returned (.tuple #[.agg (vPic Z (.slice h0 Z.q0.length d0') (.slice h1 Z.q1.length d1') (.slice h2 Z.q2.length d2') (.slice h3 Z.q3.length d3') (.slice h4 l4 d4') (.slice h5 l5 d5')), .nilIface]) = Ending.returned (.tuple #[.agg (vPic (turnL P t pf) r0 r1 r2 r3 rv' sv'), errV (turnE P t pf)]) ∧ PicO w.heap.size wE (turnL P t pf) r0 r1 r2 r3 rv' sv' ∧ Below w.heap.size w wE) := Lib.hid (by
    rw [YE.out, CE.out, errV_zero]
    exact ⟨_, _, _, _, _, _, rfl, PE.out, BE.out⟩)
  clear hwE
  refine bodyPost_ret (v := .tuple #[.agg #[.int .i64 Z.w, .int .i64 Z.h, .slice h0 Z.q0.length d0', .slice h1 Z.q1.length d1', .slice h2 Z.q2.length d2', .slice h3 Z.q3.length d3', .slice h4 l4 d4', .int .i64 Z.restart, .slice h5 l5 d5'], .nilIface]) (by simp [results, Try.results23, go_sem, r0, r1, r2, r3, r4, r5, r6, r7, r8]; try rfl) rfl (by have h := RE.out; unfold vPic at h; exact h)
end Go.Proofs.Ytnhalnjdlkdnkaa
