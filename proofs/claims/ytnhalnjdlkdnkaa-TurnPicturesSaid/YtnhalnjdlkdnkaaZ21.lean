/- turn.cross walked: the walk. By an AI agent. -/
import Derived.Test.YtnhalnjdlkdnkaaZ19
import Derived.Test.YtnhalnjdlkdnkaaZ11
import Derived.Test.YtnhalnjdlkdnkaaZ20
namespace Go.Proofs.Ytnhalnjdlkdnkaa
open Go.RowKit Go.BigFrame
set_option linter.unusedVariables false
set_option linter.unusedSimpArgs false
set_option maxRecDepth 20000

def swapP (P : PicL) : PicL := { P with w := P.h, h := P.w }
def QcO (base : Nat) (W : World) (P : PicL) (q0 q1 q2 q3 : Value) (k : Nat) (f : Nat → Value) : Prop := ∀ j, j < 4 → if j < k then NO base W (f j) (crossQ (qL P j)) else f j = qV q0 q1 q2 q3 j
theorem owns_new {w : World} {base : Nat} {e : TypeId} {size : Nat} {v : Value} {n : Nat} {xs : List Value} (h : w.ownsRow base e size v n xs) {T : Nat} (hT : w.heap.size ≤ T) : v.ownBlock = none ∨ v.ownBlock ≠ some T := by
  cases hv : v.ownBlock with
  | none => exact .inl rfl
  | some b =>
    right
    intro e
    have := (h.lt b hv).2
    simp only [Option.some.injEq] at e
    omega
theorem keepHi_mono {b b' : Nat} {w w' : World} (h : KeepHi b w w') (hb : b ≤ b') : KeepHi b' w w' := ⟨h.1, fun k h1 h2 => h.2 k (by omega) h2⟩
theorem QcO.hi {base : Nat} {W W' : World} {P : PicL} {q0 q1 q2 q3 : Value} {k : Nat} {f : Nat → Value} (h : QcO base W P q0 q1 q2 q3 k f) (hb : KeepHi base W W') : QcO base W' P q0 q1 q2 q3 k f := fun j hj => by
  have := h j hj
  split
  · rename_i hjk; rw [if_pos hjk] at this; exact owns_hi this hb
  · rename_i hjk; rw [if_neg hjk] at this; exact this
theorem QcO.ty {base : Nat} {W W' : World} {P : PicL} {q0 q1 q2 q3 : Value} {k : Nat} {f : Nat → Value} (h : QcO base W P q0 q1 q2 q3 k f) {t : TypeId} (hb : KeepTy t W W') (ht : 3 ≠ t) : QcO base W' P q0 q1 q2 q3 k f := fun j hj => by
  have := h j hj
  split
  · rename_i hjk; rw [if_pos hjk] at this; exact owns_ty this hb ht
  · rename_i hjk; rw [if_neg hjk] at this; exact this
theorem QcO.step {base : Nat} {W : World} {P : PicL} {q0 q1 q2 q3 : Value} {k : Nat} {f : Nat → Value} (h : QcO base W P q0 q1 q2 q3 k f) {u : Value} (hu : NO base W u (crossQ (qL P k))) : QcO base W P q0 q1 q2 q3 (k + 1) (fun j => if j = k then u else f j) := fun j hj => by
  by_cases e : j = k
  · subst e
    rw [if_pos (by omega)]
    simp only [if_pos]
    exact hu
  · have := h j hj
    by_cases hjk : j < k
    · rw [if_pos hjk] at this
      rw [if_pos (by omega)]
      simp only [if_neg e]
      exact this
    · rw [if_neg hjk] at this
      rw [if_neg (by omega)]
      simp only [if_neg e]
      exact this
/-- blocks of one type alone turn where a row of that type grows -/
theorem keepTy_grown {w w' : World} {v : Value} {base : Nat} {e : TypeId} {size n : Nat} {xs : List Value} (hv : w.ownsRow base e size v n xs) (hg : w.grownBy w' v.ownBlock) : KeepTy e w w' := fun b C t fr ht hb => heap_grown hv hg hb ht
theorem KeepTy.trans {t : TypeId} {a b c : World} (h : KeepTy t a b) (k : KeepTy t b c) : KeepTy t a c := fun x C e fr he hx => k x C e fr he (h x C e fr he hx)
theorem keepTy_below {t : TypeId} {w w' : World} (h : Below w.heap.size w w') : KeepTy t w w' := fun b C e fr _ hb => by
  rw [h.block b (Array.getElem?_eq_some_iff.1 hb).1]; exact hb
/-- whatever holds no parts, no blocks, no rows of blocks stays -/
def KeepN (w W : World) : Prop := ∀ (b : Nat) (C : Array Value) (t : TypeId) (fr : Nat × Nat), t ≠ 70 → t ≠ 23 → t ≠ 68 → w.heap[b]? = some (.cells C t fr) → W.heap[b]? = some (.cells C t fr)
theorem keepN_below {w W : World} (h : Below w.heap.size w W) : KeepN w W := fun b C t fr _ _ _ hb => by rw [h.block b (Array.getElem?_eq_some_iff.1 hb).1]; exact hb
theorem KeepN.old {w W W' : World} (k : KeepN w W) (h : Below W.heap.size W W') : KeepN w W' := fun b C t fr h1 h2 h3 hb => by
  have e := k b C t fr h1 h2 h3 hb
  rw [h.block b (Array.getElem?_eq_some_iff.1 e).1]
  exact e
theorem KeepN.ty {w W W' : World} {t : TypeId} (k : KeepN w W) (h : KeepTy t W W') (ht : t = 70 ∨ t = 23 ∨ t = 68) : KeepN w W' := fun b C t' fr h1 h2 h3 hb => by
  refine h b C t' fr (fun e => ?_) (k b C t' fr h1 h2 h3 hb)
  rcases ht with ht | ht | ht
  · exact h1 (e.trans ht)
  · exact h2 (e.trans ht)
  · exact h3 (e.trans ht)
theorem KeepN.low {w W W' : World} {L : Nat} (k : KeepN w W) (h : Below L W W') (hL : w.heap.size ≤ L) : KeepN w W' := fun b C t fr h1 h2 h3 hb => by
  rw [h.block b (Nat.lt_of_lt_of_le (Array.getElem?_eq_some_iff.1 hb).1 hL)]
  exact k b C t fr h1 h2 h3 hb
theorem KeepN.row {w W : World} {B : Nat} {cs : Array Value} (k : KeepN w W) (hB : w.heap.size ≤ B) : KeepN w (W.setRow B cs) := fun b C t fr h1 h2 h3 hb => by
  have hl := (Array.getElem?_eq_some_iff.1 hb).1
  rw [setRow_other W B b cs (by omega)]
  exact k b C t fr h1 h2 h3 hb
/-- what stays while the parts of a picture are turned -/
structure CrI (base : Nat) (w : World) (B : Nat) (P Q : PicL) (q0 q1 q2 q3 : Value) (f : Nat → Value) (pv kv : Value) (ss : List ((Int × List UInt8) × Value)) (W : World) : Prop where
  qs : QcO base W P q0 q1 q2 q3 4 f
  box : PBox W B Q (f 0) (f 1) (f 2) (f 3) pv kv
  z : ZBox W (B + 1)
  sg : SgO base W kv ss
  l : Below base w W
  kp : KeepN w W
theorem CrI.lt {base : Nat} {w : World} {B : Nat} {P Q : PicL} {q0 q1 q2 q3 : Value} {f : Nat → Value} {pv kv : Value} {ss : List ((Int × List UInt8) × Value)} {W : World} (h : CrI base w B P Q q0 q1 q2 q3 f pv kv ss W) : B + 1 < W.heap.size := (Array.getElem?_eq_some_iff.1 h.z).1
theorem CrI.old {base : Nat} {w : World} {B : Nat} {P Q : PicL} {q0 q1 q2 q3 : Value} {f : Nat → Value} {pv kv : Value} {ss : List ((Int × List UInt8) × Value)} {W W' : World} (h : CrI base w B P Q q0 q1 q2 q3 f pv kv ss W) (hb : Below W.heap.size W W') (hB : base ≤ B) : CrI base w B P Q q0 q1 q2 q3 f pv kv ss W' :=
  ⟨h.qs.hi (keepHi_below hb), h.box.old hb, h.z.old hb, h.sg.hi (keepHi_below hb), h.l.trans (hb.mono (by have := h.lt; omega)), h.kp.old hb⟩
theorem CrI.ty {base : Nat} {w : World} {B : Nat} {P Q : PicL} {q0 q1 q2 q3 : Value} {f : Nat → Value} {pv kv : Value} {ss : List ((Int × List UInt8) × Value)} {W W' : World} (h : CrI base w B P Q q0 q1 q2 q3 f pv kv ss W) {t : TypeId} (k : KeepTy t W W') (hl : Below base W W') (h0 : 3 ≠ t) (h1 : 36 ≠ t) (h2 : 73 ≠ t) (h3 : 5 ≠ t ∧ (t = 70 ∨ t = 23 ∨ t = 68)) : CrI base w B P Q q0 q1 q2 q3 f pv kv ss W' :=
  ⟨h.qs.ty k h0, k _ _ _ _ h1 h.box, k _ _ _ _ h1 h.z, h.sg.ty k h2 h3.1, h.l.trans hl, h.kp.ty k h3.2⟩
theorem below_at {b : Nat} {w : World} {g j : Nat} {u : Value} (h : b ≤ g) : Below b w (w.setCell ⟨g, j, none⟩ u) := below_set (Below.refl _ _) h
theorem grown_below {b : Nat} {w w' : World} {row : Option Nat} (h : w.grownBy w' row) (hb : b ≤ w.heap.size) (hr : ∀ k, row = some k → b ≤ k) : Below b w w' := (Below.refl b w).grown h hb hr
theorem cross_idx (y wN hN xn : Nat) (hx : xn = wN * hN) (hy : y < xn) (h65 : xn ≤ 65536) : ∃ m q a E : Nat, ((y : Int).tmod (wN : Int) = (m : Int) ∧ wrap64 (m : Int) = (m : Int) ∧ IntKind.i64.wrap (m : Int) = (m : Int)) ∧ (wrap64 ((m : Int) * (hN : Int)) = (a : Int) ∧ IntKind.i64.wrap ((m : Int) * (hN : Int)) = (a : Int)) ∧ ((y : Int).tdiv (wN : Int) = (q : Int) ∧ wrap64 (q : Int) = (q : Int) ∧ IntKind.i64.wrap (q : Int) = (q : Int)) ∧
    (wrap64 ((a : Int) + (q : Int)) = (E : Int) ∧ IntKind.i64.wrap ((a : Int) + (q : Int)) = (E : Int)) ∧ E = y % wN * hN + y / wN ∧ (E : Int) < (xn : Int) ∧ E < xn ∧ ((wN : Int) == 0) = false ∧ ¬ (wN : Int) = 0 ∧ ¬ wN = 0 := by
  have hw : 0 < wN := by
    rcases Nat.eq_zero_or_pos wN with h0 | h0
    · subst h0; simp at hx; omega
    · exact h0
  have hq : y / wN < hN := Nat.div_lt_of_lt_mul (by omega)
  have hm : y % wN < wN := Nat.mod_lt _ hw
  have hE : y % wN * hN + y / wN < wN * hN := mul_add_lt hm hq
  have h1 : y % wN ≤ 1000000 := Nat.le_trans (Nat.mod_le _ _) (by omega)
  have h2 : y / wN ≤ 1000000 := Nat.le_trans (Nat.div_le_self _ _) (by omega)
  have h3 : y % wN * hN ≤ 1000000 := Nat.le_trans (Nat.le_trans (Nat.le_add_right _ (y / wN)) (Nat.le_of_lt hE)) (by rw [← hx]; omega)
  have h4 : y % wN * hN + y / wN ≤ 1000000 := by omega
  have h5 : y % wN * hN + y / wN < xn := by omega
  refine ⟨y % wN, y / wN, y % wN * hN, y % wN * hN + y / wN, ⟨?_, wrapN _ h1⟩, ?_, ⟨?_, wrapN _ h2⟩, ?_, rfl, Int.ofNat_lt.2 h5, h5, by rw [beq_eq_false_iff_ne]; omega, by omega, by omega⟩
  · rw [Int.tmod_eq_emod_of_nonneg (by omega), Int.natCast_emod]
  · have e : ((y % wN : Nat) : Int) * (hN : Int) = ((y % wN * hN : Nat) : Int) := by push_cast; rfl
    rw [e]
    exact wrapN _ h3
  · rw [Int.tdiv_eq_ediv_of_nonneg (by omega), Int.natCast_ediv]
  · have e : ((y % wN * hN : Nat) : Int) + ((y / wN : Nat) : Int) = ((y % wN * hN + y / wN : Nat) : Int) := by push_cast; rfl
    rw [e]
    exact wrapN _ h4
theorem blk_turned (t : Int) {b : List Int} (h : Blk64 b) : Blk64 (blockL t b) := ⟨blockL_len t b, in64_block t b h.in64⟩
set_option maxHeartbeats 16000000 in
theorem cross_any (base : Nat) (P : PicL) (q0 q1 q2 q3 pv kv : Value) (w : World) (hp : PicO base w P q0 q1 q2 q3 pv kv) (hbase : base ≤ w.heap.size) (F : Fit P) (HQ : ∀ j, j < 4 → (qL P j).length = 64 ∨ (qL P j).length = 0) :
    Calls Try.prog 46 #[.agg (vPic P q0 q1 q2 q3 pv kv)] w fun e w' => ∃ r0 r1 r2 r3, e = .returned (.agg (vPic (crossP P) r0 r1 r2 r3 pv kv)) ∧ PicO base w' (crossP P) r0 r1 r2 r3 pv kv ∧ Below base w w' ∧ KeepN w w' := by
  have HP := Lib.hid hp
  have FF := Lib.hid F
  have HQQ := Lib.hid HQ
  have BS := Lib.hid hbase
  obtain ⟨b0, d0, rfl⟩ := hp.pic.q0.len
  obtain ⟨b1, d1, rfl⟩ := hp.pic.q1.len
  obtain ⟨b2, d2, rfl⟩ := hp.pic.q2.len
  obtain ⟨b3, d3, rfl⟩ := hp.pic.q3.len
  obtain ⟨ba, da, rfl, _⟩ := hp.pic.kept.len
  obtain ⟨bp, dp, rfl, _⟩ := hp.pic.parts.len
  obtain ⟨n0, hn0⟩ : ∃ z, P.q0.length = z := ⟨_, rfl⟩
  obtain ⟨n1, hn1⟩ : ∃ z, P.q1.length = z := ⟨_, rfl⟩
  obtain ⟨n2, hn2⟩ : ∃ z, P.q2.length = z := ⟨_, rfl⟩
  obtain ⟨n3, hn3⟩ : ∃ z, P.q3.length = z := ⟨_, rfl⟩
  obtain ⟨na, hna⟩ : ∃ z, P.kept.length = z := ⟨_, rfl⟩
  obtain ⟨n, hn⟩ : ∃ z, P.parts.length = z := ⟨_, rfl⟩
  rw [hn0, hn1, hn2, hn3, hna, hn] at HP ⊢
  have N4 : Hid (1 ≤ n ∧ n ≤ 4) := Lib.hid (by rw [← hn]; exact F.n)
  have HNP := Lib.hid hn
  clear hn0 hn1 hn2 hn3 hna hn hp F HQ hbase
  obtain ⟨w1, hw1⟩ : ∃ w1, (w.alloc (.cells (vPic (swapP P) (.slice b0 n0 d0) (.slice b1 n1 d1) (.slice b2 n2 d2) (.slice b3 n3 d3) (.slice bp n dp) (.slice ba na da)) 36)).alloc (.cells zPic 36) = w1 := ⟨_, rfl⟩
  have B1 : Hid (Below w.heap.size w w1) := Lib.hid (by rw [← hw1]; exact ((Below.refl _ _).alloc (Nat.le_refl _) _).alloc (by simp) _)
  have X1 : Hid (PBox w1 w.heap.size (swapP P) (.slice b0 n0 d0) (.slice b1 n1 d1) (.slice b2 n2 d2) (.slice b3 n3 d3) (.slice bp n dp) (.slice ba na da)) := Lib.hid (by rw [← hw1]; exact heap_old (heap_alloc_new _ _))
  have Z1 : Hid (ZBox w1 (w.heap.size + 1)) := Lib.hid (by
    rw [← hw1]
    have h := heap_alloc_new (w.alloc (.cells (vPic (swapP P) (.slice b0 n0 d0) (.slice b1 n1 d1) (.slice b2 n2 d2) (.slice b3 n3 d3) (.slice bp n dp) (.slice ba na da)) 36)) (.cells zPic 36)
    rw [World.size_alloc] at h
    exact h)
  obtain ⟨B, hB⟩ : ∃ B, w.heap.size = B := ⟨_, rfl⟩
  have HB := Lib.hid hB
  rw [hB] at X1 Z1 B1
  unfold vPic zPic swapP at hw1
  go_enter Try.func46, Try.ntmps46
  unfold vPic
  obtain ⟨a0, a1, a2, a3, a4, a5, a6, a7, a8⟩ := X1.out.cells
  go_wp2_with fail
  clear a0 a1 a2 a3 a4 a5 a6 a7 a8
  go_loopw [18] (fun i W => ∃ (k : Nat) (f : Nat → Value), k ≤ 4 ∧ i = .int .i64 (k : Nat) ∧ QcO base W P (.slice b0 n0 d0) (.slice b1 n1 d1) (.slice b2 n2 d2) (.slice b3 n3 d3) k f ∧ PBox W B (swapP P) (f 0) (f 1) (f 2) (f 3) (.slice bp n dp) (.slice ba na da) ∧ ZBox W (B + 1) ∧ Below B w W) (fun i _ => 4 - (intOf i).toNat)
  case atStart => exact ⟨0, qV (.slice b0 n0 d0) (.slice b1 n1 d1) (.slice b2 n2 d2) (.slice b3 n3 d3), Nat.zero_le _, rfl, fun j _ => by rw [if_neg (Nat.not_lt_zero j)], X1.out, Z1.out, B1.out⟩
  case round =>
    clear X1 Z1 B1
    obtain ⟨k, f, hk, rfl, hqs, hbx, hzb, hbl⟩ := hrel
    have QS := Lib.hid hqs
    have BX := Lib.hid hbx
    have ZB := Lib.hid hzb
    have BL := Lib.hid hbl
    obtain ⟨a0, a1, a2, a3, a4, a5, a6, a7, a8⟩ := hbx.cells
    clear hqs hbx hzb hbl
    by_cases hk4 : k < 4
    · have f1 : decide ((k : Int) < 4) = true := by rw [decide_eq_true_eq]; omega
      have f1' : decide (k < 4) = true := by rw [decide_eq_true_eq]; omega
      have f2 : (k : Int) < 4 := by omega
      have gk : IntKind.i64.wrap ((k : Int) + 1) = (k : Int) + 1 := IntWalk.i64_in _ (by omega)
      have qi := fun W => qV_index (.slice b0 n0 d0) (.slice b1 n1 d1) (.slice b2 n2 d2) (.slice b3 n3 d3) k hk4 W
      have K4 := Lib.hid hk4
      have CL := Lib.hid (crossedQ_any (qV (.slice b0 n0 d0) (.slice b1 n1 d1) (.slice b2 n2 d2) (.slice b3 n3 d3) k) (qL P k) wr ((qV_ns HP.out.pic k).old (by rw [HB.out]; exact BL.out)) (HQQ.out k hk4))
      have LB : Hid (B ≤ wr.heap.size) := Lib.hid (by have := BL.out.size; have := HB.out; omega)
      have BB : Hid (base ≤ B) := Lib.hid (by rw [← HB.out]; exact BS.out)
      clear hk4
      go_wp2_with fail
      refine CL.out.mono ?_
      rintro e x1 ⟨v1, rfl, ho1, hb1⟩
      obtain ⟨va, vc, rfl⟩ := owns_any ho1
      have QS1 := Lib.hid (QS.out.hi (keepHi_below hb1))
      have BX1 := Lib.hid (BX.out.old hb1)
      have ZB1 := Lib.hid (ZB.out.old hb1)
      have BL1 := Lib.hid (BL.out.trans (hb1.mono LB.out))
      have O1 : Hid (NO base x1 _ (crossQ (qL P k))) := Lib.hid (World.ownsRow.mono ho1 (Nat.le_trans BB.out LB.out))
      have c1 := pbox_q3 BX1.out k K4.out
      have c2 := BX1.out.frozen (2 + k)
      clear ho1 hb1 a0 a1 a2 a3 a4 a5 a6 a7 a8
      go_wp2_with fail
      go_roundw
      case rel => exact ⟨k + 1, fun j => if j = k then .slice va (crossQ (qL P k)).length vc else f j, K4.out, by go_num, (QS1.out.ty (keepTy_set BX1.out) (by decide)).step (owns_other O1.out BX1.out (by decide)), pbox_setq f _ BX1.out k K4.out _ (fun _ => rfl), ZB1.out.set (by omega), below_set BL1.out (Nat.le_refl _)⟩
      case measure => simp [intOf]; have := K4.out; omega
    · obtain rfl : k = 4 := by omega
      rw [show ((4 : Nat) : Int) = 4 from rfl]
      have BB : Hid (base ≤ B) := Lib.hid (by rw [← HB.out]; exact BS.out)
      obtain ⟨rs, hrs, hpt⟩ := HP.out.parts
      obtain ⟨ss, hss, hsg⟩ := HP.out.kept
      have HRS := Lib.hid hrs
      have HSS := Lib.hid hss
      have KW : KeepHi base w wr := keepHi_mono (keepHi_below (by rw [HB.out]; exact BL.out)) (Nat.le_refl _)
      have PT0 := Lib.hid (hpt.hi KW)
      have CI0 : Hid (CrI base w B P (swapP P) (.slice b0 n0 d0) (.slice b1 n1 d1) (.slice b2 n2 d2) (.slice b3 n3 d3) f (.slice bp n dp) (.slice ba na da) ss wr) := Lib.hid ⟨QS.out, BX.out, ZB.out, hsg.hi KW, BL.out.mono BB.out, keepN_below (by rw [HB.out]; exact BL.out)⟩
      have HN : Hid (rs.length = n) := Lib.hid (by rw [← HNP.out, ← hrs]; simp)
      obtain ⟨g, gc, hge, hg1, hg2, C1, hC1⟩ := owns_shape PT0.out.row (by have := N4.out; have := HN.out; omega) (by decide)
      rw [HN.out] at hge
      simp only [Value.slice.injEq, true_and] at hge
      obtain ⟨rfl, rfl⟩ := hge
      clear hrs hss hpt hsg KW hg1 hg2 hC1 QS BX ZB BL
      go_wp2_with fail
      clear a0 a1 a2 a3 a4 a5 a6 a7 a8
      go_loopw [31] (fun i W => ∃ (k : Nat) (rs' : List (PartL × Value)), k ≤ n ∧ i = .int .i64 (k : Nat) ∧ rs'.map (·.1) = (P.parts.take k).map crossPt ++ P.parts.drop k ∧ PtO base W (.slice (some ⟨g, 0, none⟩) n dp) rs' ∧ CrI base w B P (swapP P) (.slice b0 n0 d0) (.slice b1 n1 d1) (.slice b2 n2 d2) (.slice b3 n3 d3) f (.slice (some ⟨g, 0, none⟩) n dp) (.slice ba na da) ss W) (fun i _ => n - (intOf i).toNat)
      case atStart => exact ⟨0, rs, Nat.zero_le _, rfl, by rw [HRS.out]; rfl, PT0.out, CI0.out⟩
      case round =>
        clear PT0 CI0
        obtain ⟨k, rs', hk, rfl, hmap, hpt, hci⟩ := hrel
        have PT := Lib.hid hpt
        have CI := Lib.hid hci
        have MP := Lib.hid hmap
        have HN2 : Hid (rs'.length = n) := Lib.hid (by
          have h := congrArg List.length hmap
          rw [List.length_map, List.length_append, List.length_map, List.length_take, List.length_drop, HNP.out] at h
          omega)
        obtain ⟨a0, a1, a2, a3, a4, a5, a6, a7, a8⟩ := hci.box.cells
        clear hpt hci hmap
        by_cases hkn : k < n
        · have f1 : decide ((k : Int) < (n : Int)) = true := by rw [decide_eq_true_eq]; omega
          have f1' : decide (k < n) = true := by rw [decide_eq_true_eq]; omega
          have f2 : (k : Int) < (n : Int) := by omega
          have GK := Lib.hid (step_wrap k n hkn (Nat.le_trans N4.out.2 (by decide)))
          have hkr : k < rs'.length := by rw [HN2.out]; exact hkn
          have hkP : k < P.parts.length := by rw [HNP.out]; exact hkn
          obtain ⟨⟨p, x0⟩, hpx⟩ : ∃ p, rs'[k] = p := ⟨_, rfl⟩
          have hpp : P.parts[k] = p := by
            have h : (rs'.map (·.1))[k]? = some p := by rw [List.getElem?_map, List.getElem?_eq_getElem hkr, hpx]; rfl
            rw [MP.out, List.getElem?_append_right (by rw [List.length_map, List.length_take]; omega), List.length_map, List.length_take, Nat.min_eq_left (by omega), Nat.sub_self, List.getElem?_drop, Nat.add_zero, List.getElem?_eq_getElem hkP] at h
            exact Option.some.inj h
          have BK := Lib.hid (PT.out.bk _ (List.getElem_mem hkr))
          have OKP := Lib.hid (PT.out.ok _ (List.getElem_mem hkr))
          obtain ⟨m0, m1, m2, m3, m4, m5, m6⟩ := PT.out.cellAt HN2.out k hkr
          rw [hpx] at BK OKP m0 m1 m2 m3 m4 m5 m6
          simp only at BK OKP m0 m1 m2 m3 m4 m5 m6
          have SZ := FF.out.pt k hkP
          rw [hpp] at SZ
          have FA := fac_at FF.out.fac k hkP
          obtain ⟨wN, hwN⟩ : ∃ wN : Nat, p.wide = (wN : Int) := ⟨p.wide.toNat, by rw [Int.toNat_of_nonneg (by have := szL_in P (k : Int); omega)]⟩
          obtain ⟨hN, hhN⟩ : ∃ hN : Nat, p.high = (hN : Int) := ⟨p.high.toNat, by rw [Int.toNat_of_nonneg (by have := szL_in P (k : Int); omega)]⟩
          have XL : Hid (p.bs.length = wN * hN) := Lib.hid (by
            have h : (p.bs.length : Int) = ((wN * hN : Nat) : Int) := by rw [SZ.2.2.1, ← SZ.1, ← SZ.2.1, hwN, hhN]; push_cast; rfl
            omega)
          have X65 : Hid (p.bs.length ≤ 65536) := Lib.hid (by have h1 := SZ.2.2.1; have h2 := SZ.2.2.2; omega)
          have XP : Hid (0 < p.bs.length) := Lib.hid (by
            have s := size_of FF.out.w FF.out.h FF.out.fac k hkP
            obtain ⟨u1, u2⟩ := max_of FF.out.fac FF.out.n.1
            have v1 := upI_pos FF.out.w.1 (show 0 < 8 * maxH P.parts by omega)
            have v2 := upI_pos FF.out.h.1 (show 0 < 8 * maxV P.parts by omega)
            have e1 : 1 * 1 ≤ (P.parts[k]).h * upI P.w (8 * maxH P.parts) := Int.mul_le_mul FA.1.1 v1 (by omega) (by omega)
            have e2 : 1 * 1 ≤ (P.parts[k]).v * upI P.h (8 * maxV P.parts) := Int.mul_le_mul FA.2.1 v2 (by omega) (by omega)
            have h1 : 1 ≤ (sizeL P (k : Int)).1 := by rw [s]; omega
            have h2 : 1 ≤ (sizeL P (k : Int)).2 := by rw [s]; omega
            have h3 : 1 * 1 ≤ (sizeL P (k : Int)).1 * (sizeL P (k : Int)).2 := Int.mul_le_mul h1 h2 (by omega) (by omega)
            have h4 := SZ.2.2.1
            omega)
          obtain ⟨xb, xc, rfl, hxb1, hxb2⟩ := BK.out.got XP.out
          rw [hwN] at m4
          rw [hhN] at m5
          obtain ⟨xn, hxn⟩ : ∃ z, p.bs.length = z := ⟨_, rfl⟩
          have HXN := Lib.hid hxn
          rw [hxn] at BK m6 XL X65 XP
          have HWN := Lib.hid hwN
          have HHN := Lib.hid hhN
          have HKR := Lib.hid hkr
          have HPX : Hid (∀ h : k < rs'.length, rs'[k]'h = (p, .slice (some ⟨xb, 0, none⟩) xn xc)) := Lib.hid (fun h => by rw [hpx, hxn])
          have HPP : Hid (∀ h : k < P.parts.length, P.parts[k]'h = p) := Lib.hid (fun h => hpp)
          have KN := Lib.hid hkn
          have z6 := PT.out.frozen (k * 7 + 6)
          obtain ⟨O, mk, mkO⟩ := mkBlkN xn (Nat.le_trans X65.out (by decide))
          have MKO := Lib.hid mkO
          have HG := Lib.hid PT.out.heap.1
          have BB2 : Hid (base ≤ wr.heap.size) := Lib.hid (by have := CI.out.lt; have := BB.out; omega)
          clear hkn hkr hkP hpx hpp SZ FA hwN hhN hxb1 hxb2 hxn mkO
          have hbO : Below wr.heap.size wr (wr.alloc O) := (Below.refl _ _).alloc (Nat.le_refl _) _
          have PO := Lib.hid (PT.out.hi (keepHi_below hbO))
          have CO := Lib.hid (CI.out.old hbO BB.out)
          have BO := Lib.hid (BK.out.old hbO)
          have s6 : (wr.alloc O).cell? ⟨g, k * 7 + 6, none⟩ = some (.slice (some ⟨xb, 0, none⟩) xn xc) := cell_old hbO m6
          have z7 := PO.out.frozen (k * 7 + 6)
          obtain ⟨M, hM⟩ : ∃ M, wr.heap.size = M := ⟨_, rfl⟩
          have FRESH : Hid (∀ q ∈ rs', (q.2.ownBlock = none ∨ q.2.ownBlock ≠ (Value.slice (some ⟨M, 0, none⟩) xn xn).ownBlock) ∧ ((Value.slice (some ⟨M, 0, none⟩) xn xn).ownBlock = none ∨ (Value.slice (some ⟨M, 0, none⟩) xn xn).ownBlock ≠ q.2.ownBlock)) := Lib.hid (fun q hq => by
            have h := owns_new (PT.out.bk q hq).row (T := M) (Nat.le_of_eq hM)
            refine ⟨h, .inr (fun e => ?_)⟩
            rcases h with h | h
            · rw [h] at e; simp [Value.ownBlock] at e
            · exact h e.symm)
          have NEW : Hid (BkO base (wr.alloc O) (.slice (some ⟨M, 0, none⟩) xn xn) (crTo wN hN p.bs 0)) := Lib.hid (by
            rw [crTo_zero, HXN.out, ← hM]
            exact (MKO.out wr).mono BB2.out)
          have XM : Hid (xb < M) := Lib.hid (by rw [← hM]; exact (BK.out.row.lt xb rfl).2)
          obtain ⟨C9, hC9⟩ := PO.out.heap.2.2
          obtain ⟨y1, hy1⟩ : ∃ y1, (wr.alloc O).setCell ⟨g, k * 7 + 6, none⟩ (.slice (some ⟨M, 0, none⟩) xn xn) = y1 := ⟨_, rfl⟩
          have P1 : Hid (PtO base y1 (.slice (some ⟨g, 0, none⟩) n dp) (rs'.set k ({ p with bs := crTo wN hN p.bs 0 }, .slice (some ⟨M, 0, none⟩) xn xn))) := Lib.hid (by
            rw [← hy1]
            have h := PO.out.setB HN2.out k HKR.out (.slice (some ⟨M, 0, none⟩) xn xn) (crTo wN hN p.bs 0) (by rw [crTo_len, HXN.out]; have := X65.out; omega) NEW.out FRESH.out
            rw [HPX.out HKR.out] at h
            exact h)
          have I1 : Hid (CrI base w B P (swapP P) (.slice b0 n0 d0) (.slice b1 n1 d1) (.slice b2 n2 d2) (.slice b3 n3 d3) f (.slice (some ⟨g, 0, none⟩) n dp) (.slice ba na da) ss y1) := Lib.hid (by
            rw [← hy1]
            exact CO.out.ty (keepTy_set hC9) (below_at HG.out) (by decide) (by decide) (by decide) (by decide))
          have V1 : Hid (BkO base y1 (.slice (some ⟨xb, 0, none⟩) xn xc) p.bs) := Lib.hid (by rw [← hy1]; exact BO.out.other hC9 (by decide))
          go_upto_region 13 with (fail)
          clear a0 a1 a2 a3 a4 a5 a6 a7 a8 m0 m1 m2 m3 m4 m5 m6 z6 z7 s6 hbO mk hM hC9 hy1 PT CI BK PO CO BO NEW
          go_wp2_with fail
          go_loopw [50] (fun i W => ∃ y : Nat, y ≤ xn ∧ i = .int .i64 (y : Nat) ∧ PtO base W (.slice (some ⟨g, 0, none⟩) n dp) (rs'.set k ({ p with bs := crTo wN hN p.bs y }, .slice (some ⟨M, 0, none⟩) xn xn)) ∧ CrI base w B P (swapP P) (.slice b0 n0 d0) (.slice b1 n1 d1) (.slice b2 n2 d2) (.slice b3 n3 d3) f (.slice (some ⟨g, 0, none⟩) n dp) (.slice ba na da) ss W ∧ BkO base W (.slice (some ⟨xb, 0, none⟩) xn xc) p.bs) (fun i _ => xn - (intOf i).toNat)
          case atStart => exact ⟨0, Nat.zero_le _, rfl, P1.out, I1.out, V1.out⟩
          case round =>
            clear P1 I1 V1
            obtain ⟨y, hy, rfl, hpt, hci, hbk⟩ := hrel
            have PT := Lib.hid hpt
            have CI := Lib.hid hci
            have BK := Lib.hid hbk
            clear hpt hci hbk
            have RL : Hid ((rs'.set k ({ p with bs := crTo wN hN p.bs y }, (.slice (some ⟨M, 0, none⟩) xn xn : Value))).length = n) := Lib.hid (by rw [List.length_set]; exact HN2.out)
            have RK : Hid (∀ h : k < (rs'.set k ({ p with bs := crTo wN hN p.bs y }, (.slice (some ⟨M, 0, none⟩) xn xn : Value))).length, (rs'.set k ({ p with bs := crTo wN hN p.bs y }, (.slice (some ⟨M, 0, none⟩) xn xn : Value)))[k]'h = ({ p with bs := crTo wN hN p.bs y }, .slice (some ⟨M, 0, none⟩) xn xn)) := Lib.hid (fun h => by rw [List.getElem_set_self])
            have RKL : Hid (k < (rs'.set k ({ p with bs := crTo wN hN p.bs y }, (.slice (some ⟨M, 0, none⟩) xn xn : Value))).length) := Lib.hid (by rw [List.length_set]; exact HKR.out)
            by_cases hyn : y < xn
            · have l1 : decide ((y : Int) < (xn : Int)) = true := by rw [decide_eq_true_eq]; omega
              have l1' : decide (y < xn) = true := by rw [decide_eq_true_eq]; omega
              have l2 : (y : Int) < (xn : Int) := by omega
              have GY := Lib.hid (step_wrap y xn hyn (Nat.le_trans X65.out (by decide)))
              have hyb : y < p.bs.length := by rw [HXN.out]; exact hyn
              have hrx := BK.out.range y hyb
              obtain ⟨cb, hcb⟩ : ∃ cb, p.bs[y] = cb := ⟨_, rfl⟩
              have CB : Hid (Blk64 cb) := Lib.hid (by rw [← hcb]; exact BK.out.all.at _ hyb)
              rw [hcb] at hrx
              have RX := Lib.hid hrx
              have STEP : Hid (crTo wN hN p.bs (y + 1) = (crTo wN hN p.bs y).set (y % wN * hN + y / wN) (blockL 4 cb)) := Lib.hid (by rw [← hcb]; exact crTo_succ wN hN p.bs (by rw [HXN.out]; exact XL.out) y hyb)
              have IX := Lib.hid (cross_idx y wN hN xn XL.out hyn X65.out)
              have HI : Hid ((Try.prog.info? 23).map (·.size) = some (vIs cb).length) := Lib.hid (by rw [vIs_length, CB.out.1]; kernel_rfl)
              have HIA : Hid ((Try.prog.info? 23).map (·.size) = some (vIs cb).toArray.size) := Lib.hid (by have := HI.out; simpa using this)
              have HOA : Hid ((vIs cb).toArray.all (·.oneCell') = true) := Lib.hid (all_oneCell_toArray (vIs_one cb))
              have HYN := Lib.hid hyn
              clear hrx hcb hyb hyn
              go_wp2_with (refine wpList_load_mid rfl _ _ rfl xb (y * 64) rfl (vIs cb) _ RX.out Try.underlying23 rfl HI.out ?_; refine stop ?_)
              refine unstop ?_
              go_wp2_with (refine wpList_store_row rfl _ _ _ rfl wr.heap.size (vIs cb).toArray rfl rfl 23 _ (heap_alloc_new _ _) HIA.out (by simp [vIs, CB.out.1]) HOA.out ?_; refine stop ?_)
              refine unstop ?_
              generalize hZ : World.setRow _ wr.heap.size (vIs cb).toArray = Z1
              have HZ1 : Hid (Z1.heap[wr.heap.size]? = some (.cells (vIs cb).toArray 23 (0, 0))) := Lib.hid (by rw [← hZ]; exact setRow_heap _ _ _ _ _ _ (heap_alloc_new _ _))
              have BZ1 : Hid (Below wr.heap.size wr Z1) := Lib.hid (by rw [← hZ]; exact below_setRow ((Below.refl _ _).alloc (Nat.le_refl _) _) (Nat.le_refl _) _)
              obtain ⟨N, hN2⟩ : ∃ N, wr.heap.size = N := ⟨_, rfl⟩
              have HNN := Lib.hid hN2
              rw [hN2] at HZ1
              rw [hN2]
              clear hZ
              go_upto_region 16 with (fail)
              have PTZ := Lib.hid (PT.out.hi (keepHi_below BZ1.out))
              have CIZ := Lib.hid (CI.out.old BZ1.out BB.out)
              have BKZ := Lib.hid (BK.out.old BZ1.out)
              have MC := PTZ.out.cellAt RL.out k RKL.out
              rw [RK.out RKL.out] at MC
              simp only at MC
              rw [HWN.out, HHN.out] at MC
              obtain ⟨-, -, -, -, m4, m5, m6⟩ := MC
              have hd := (Below.refl Z1.heap.size Z1).drew
              have CC0 : (fun X => X.cell? ⟨g, k * 7 + 6, none⟩ = some (.slice (some ⟨M, 0, none⟩) xn xn) ∧ X.cell? ⟨g, k * 7 + 4, none⟩ = some (.int .i64 (wN : Int)) ∧ X.cell? ⟨g, k * 7 + 5, none⟩ = some (.int .i64 (hN : Int)) ∧ X.rangeAt N 0 (vIs cb) ∧ Below Z1.heap.size Z1 X) Z1.drew := ⟨cell_old hd m6, cell_old hd m4, cell_old hd m5, fun j v hj => by rw [Nat.zero_add]; exact cell_old hd (by rw [cell_of_row _ _ j _ _ _ HZ1.out]; simpa using hj), hd⟩
              have COLD : Hid (∀ X Y : World, ((fun X => X.cell? ⟨g, k * 7 + 6, none⟩ = some (.slice (some ⟨M, 0, none⟩) xn xn) ∧ X.cell? ⟨g, k * 7 + 4, none⟩ = some (.int .i64 (wN : Int)) ∧ X.cell? ⟨g, k * 7 + 5, none⟩ = some (.int .i64 (hN : Int)) ∧ X.rangeAt N 0 (vIs cb) ∧ Below Z1.heap.size Z1 X) X) → Below X.heap.size X Y → ((fun X => X.cell? ⟨g, k * 7 + 6, none⟩ = some (.slice (some ⟨M, 0, none⟩) xn xn) ∧ X.cell? ⟨g, k * 7 + 4, none⟩ = some (.int .i64 (wN : Int)) ∧ X.cell? ⟨g, k * 7 + 5, none⟩ = some (.int .i64 (hN : Int)) ∧ X.rangeAt N 0 (vIs cb) ∧ Below Z1.heap.size Z1 X) Y)) := Lib.hid (fun X Y h hb => ⟨cell_old hb h.1, cell_old hb h.2.1, cell_old hb h.2.2.1, range_old hb h.2.2.2.1, h.2.2.2.2.trans (hb.mono h.2.2.2.2.size)⟩)
              obtain ⟨m, q, a, E, ⟨x1, x1', x1''⟩, ⟨x2, x2'⟩, ⟨x3, x3', x3''⟩, ⟨x4, x4'⟩, x5, x6, x7, x8, x9, x9'⟩ := IX.out
              have X5 := Lib.hid x5
              clear x5
              refine wp_region_last (fun X => X.cell? ⟨g, k * 7 + 6, none⟩ = some (.slice (some ⟨M, 0, none⟩) xn xn) ∧ X.cell? ⟨g, k * 7 + 4, none⟩ = some (.int .i64 (wN : Int)) ∧ X.cell? ⟨g, k * 7 + 5, none⟩ = some (.int .i64 (hN : Int)) ∧ X.rangeAt N 0 (vIs cb) ∧ Below Z1.heap.size Z1 X) 25 26 [(0, true), (1, true), (2, true), (3, true), (4, true), (5, true), (6, true), (7, true), (8, true), (9, true), (10, true), (11, true), (12, true), (13, true), (14, true), (15, true), (16, true), (17, true), (18, true), (19, true), (20, true), (21, true), (22, true), (23, false), (24, true)] (by kernel_rfl) (by kernel_rfl) CC0 (fun hC0 => ?_)
              clear CC0 hd m4 m5 m6
              have CCD := Lib.hid hC0
              clear hC0 hN2
              iterate 22
                (refine last_take rfl ?_
                 apply Exists.intro
                 refine ⟨Or.inl ⟨by rfl, fun X hX => ?_⟩, ?_⟩
                 · obtain ⟨y6, y4, y5, -, -⟩ := hX
                   go_simp
                   exact rfl
                 simp only [Act.put, List.setIfInBounds_toArray, List.set_cons_zero, List.set_cons_succ])
              refine last_take rfl ?_
              refine ⟨_, yieldsIf_load_mid (by rfl) _ _ rfl N 0 rfl (vIs cb) _ (fun X hX => hX.2.2.2.1) Try.underlying23 rfl HI.out, ?_⟩
              simp only [Act.put, List.setIfInBounds_toArray, List.set_cons_zero, List.set_cons_succ]
              have X67 := Lib.hid (And.intro x6 x7)
              clear x1 x1' x1'' x2 x2' x3 x3' x3'' x4 x4' x6 x7 x8 x9 x9'
              refine last_step rfl (fun K hK => ?_)
              rw [if_pos (by rfl)]
              go_wp2_with (go_at_call 10; refine (block_any cb 4 _ CB.out.1).mono ?_; rintro e w6 ⟨rfl, hb6⟩)
              have CC6 := Lib.hid (COLD.out _ _ CCD.out hb6)
              refine hK.out _ _ CC6.out (fun _ => ?_)
              clear hK K hb6
              try simp only [Act.put, List.setIfInBounds_toArray, List.set_cons_zero, List.set_cons_succ]
              have x6 := X67.out.1
              refine last_take rfl ?_
              apply Exists.intro
              refine ⟨Or.inl ⟨by rfl, fun X hX => ?_⟩, ?_⟩
              · obtain ⟨y6, y4, y5, -, -⟩ := hX
                go_simp
                exact rfl
              simp only [Act.put, List.setIfInBounds_toArray, List.set_cons_zero, List.set_cons_succ]
              have PT6 := Lib.hid (PTZ.out.hi (keepHi_below CC6.out.2.2.2.2))
              have CI6 := Lib.hid (CIZ.out.old CC6.out.2.2.2.2 BB.out)
              have BK6 := Lib.hid (BKZ.out.old CC6.out.2.2.2.2)
              have BM6 : Hid (BkO base w6 (.slice (some ⟨M, 0, none⟩) xn xn) (crTo wN hN p.bs y)) := Lib.hid (by
                have h := PT6.out.bk _ (List.getElem_mem RKL.out)
                rw [RK.out RKL.out] at h
                exact h)
              have EL : Hid (E < (crTo wN hN p.bs y).length) := Lib.hid (by rw [crTo_len, HXN.out]; exact X67.out.2)
              have B64 : Hid (Blk64 (blockL 4 cb)) := Lib.hid (blk_turned 4 CB.out)
              have TH := Lib.hid (BM6.out.there E EL.out)
              have HI6 : Hid ((Try.prog.info? 23).map (·.size) = some (vIs (blockL 4 cb)).toArray.size) := Lib.hid (info64 _ (blockL_len 4 cb))
              have TH2 : Hid (w6.there M (E * 64) (vIs (blockL 4 cb)).toArray.size) := Lib.hid (by
                have e : (vIs (blockL 4 cb)).toArray.size = 64 := by simp [vIs_length, blockL_len]
                rw [e]
                exact TH.out)
              have H16 : Hid ((vIs (blockL 4 cb)).toArray.all (·.oneCell') = true) := Lib.hid (all_oneCell_toArray (vIs_one _))
              refine last_done rfl (fun K hK => ?_)
              rw [if_pos (by rfl)]
              refine wp_store_mid _ _ _ rfl M (E * 64) (vIs (blockL 4 cb)).toArray rfl rfl TH2.out HI6.out H16.out ?_
              refine hK.out _ _ ?_
              clear hK K x6
              obtain ⟨W9, hW9⟩ : ∃ W9, w6.setCells M (E * 64) (vIs (blockL 4 cb)).toArray.toList = W9 := ⟨_, rfl⟩
              rw [hW9]
              have hst := BM6.out.stored E EL.out B64.out
              have hW9' : w6.setCells M (E * 64) (vIs (blockL 4 cb)) = W9 := hW9
              rw [hW9', X5.out, ← STEP.out] at hst
              have P9 : Hid (PtO base W9 (.slice (some ⟨g, 0, none⟩) n dp) (rs'.set k ({ p with bs := crTo wN hN p.bs (y + 1) }, .slice (some ⟨M, 0, none⟩) xn xn))) := Lib.hid (by
                have h := PT6.out.inPlace k RKL.out (crTo wN hN p.bs (y + 1)) (by rw [crTo_len, HXN.out]; have := X65.out; omega) (by rw [RK.out RKL.out]; exact hst.1) (by rw [RK.out RKL.out]; exact hst.2)
                rw [RK.out RKL.out, List.set_set] at h
                exact h)
              have I9 : Hid (CrI base w B P (swapP P) (.slice b0 n0 d0) (.slice b1 n1 d1) (.slice b2 n2 d2) (.slice b3 n3 d3) f (.slice (some ⟨g, 0, none⟩) n dp) (.slice ba na da) ss W9) := Lib.hid (CI6.out.ty (keepTy_grown BM6.out.row hst.2) (grown_below hst.2 (by have := CI6.out.lt; have := BB.out; omega) (fun b hb => by have := (BM6.out.row.lt b hb).1; omega)) (by decide) (by decide) (by decide) (by decide))
              have V9 : Hid (BkO base W9 (.slice (some ⟨xb, 0, none⟩) xn xc) p.bs) := Lib.hid ⟨BK6.out.row.kept hst.2 (.inr (by simp only [Value.ownBlock, ne_eq, Option.some.injEq]; have := XM.out; omega)), BK6.out.all⟩
              have gy := GY.out
              clear hst hW9 hW9'
              go_wp2_with fail
              go_roundw
              case rel => exact ⟨y + 1, HYN.out, by go_num, P9.out, I9.out, V9.out⟩
              case measure => simp [intOf]; have := HYN.out; omega
            · obtain rfl : y = xn := by omega
              have l1 : decide ((y : Int) < (y : Int)) = false := by rw [decide_eq_false_iff_not]; omega
              have PF : Hid (PtO base wr (.slice (some ⟨g, 0, none⟩) n dp) (rs'.set k ({ p with bs := crB wN hN p.bs }, .slice (some ⟨M, 0, none⟩) y y))) := Lib.hid (by
                have h := PT.out
                have e := crTo_full wN hN p.bs (by rw [HXN.out]; exact XL.out)
                rw [HXN.out] at e
                rw [e] at h
                exact h)
              clear PT BK RL RK RKL
              obtain ⟨rs1, hrs1⟩ : ∃ z, rs'.set k ({ p with bs := crB wN hN p.bs }, (.slice (some ⟨M, 0, none⟩) y y : Value)) = z := ⟨_, rfl⟩
              rw [hrs1] at PF
              have RL : Hid (rs1.length = n) := Lib.hid (by rw [← hrs1, List.length_set]; exact HN2.out)
              have RKL : Hid (k < rs1.length) := Lib.hid (by rw [RL.out]; exact KN.out)
              have RK : Hid (∀ h : k < rs1.length, rs1[k]'h = ({ p with bs := crB wN hN p.bs }, .slice (some ⟨M, 0, none⟩) y y)) := Lib.hid (fun h => by subst hrs1; rw [List.getElem_set_self])
              have MC := PF.out.cellAt RL.out k RKL.out
              rw [RK.out RKL.out] at MC
              simp only at MC
              rw [HWN.out, HHN.out] at MC
              obtain ⟨-, m1, m2, -, m4, m5, -⟩ := MC
              have z1 := PF.out.frozen (k * 7 + 1)
              have z2 := PF.out.frozen (k * 7 + 2)
              have HRS1 := Lib.hid hrs1
              clear hrs1
              go_upto_region 18 with (fail)
              go_region
              obtain ⟨C2, hC2⟩ := PF.out.heap.2.2
              have T1 := PF.out.setN RL.out k 1 RKL.out (by decide) (.int .i64 p.v) { p with bs := crB wN hN p.bs, h := p.v } (by rw [RK.out RKL.out]; rfl) (by rw [RK.out RKL.out]) ⟨OKP.out.id, OKP.out.v, OKP.out.v, OKP.out.tq, OKP.out.wide, OKP.out.high, by rw [crB_len, HXN.out]; have := X65.out; omega⟩
              rw [RK.out RKL.out] at T1
              have J1 : CrI base w B P (swapP P) (.slice b0 n0 d0) (.slice b1 n1 d1) (.slice b2 n2 d2) (.slice b3 n3 d3) f (.slice (some ⟨g, 0, none⟩) n dp) (.slice ba na da) ss (wr.setCell ⟨g, k * 7 + 1, none⟩ (.int .i64 p.v)) := CI.out.ty (keepTy_set hC2) (below_at HG.out) (by decide) (by decide) (by decide) (by decide)
              obtain ⟨C3, hC3⟩ := T1.heap.2.2
              have T2 := T1.setN (by rw [List.length_set]; exact RL.out) k 2 (by rw [List.length_set]; exact RKL.out) (by decide) (.int .i64 p.h) { p with bs := crB wN hN p.bs, h := p.v, v := p.h } (by rw [List.getElem_set_self]; rfl) (by rw [List.getElem_set_self]) ⟨OKP.out.id, OKP.out.v, OKP.out.h, OKP.out.tq, OKP.out.wide, OKP.out.high, by rw [crB_len, HXN.out]; have := X65.out; omega⟩
              rw [List.getElem_set_self, List.set_set] at T2
              have J2 := J1.ty (keepTy_set (j := k * 7 + 2) (u := .int .i64 p.h) hC3) (below_at HG.out) (by decide) (by decide) (by decide) (by decide)
              obtain ⟨y2, hy2⟩ : ∃ y2, ((wr.setCell ⟨g, k * 7 + 1, none⟩ (.int .i64 p.v)).setCell ⟨g, k * 7 + 2, none⟩ (.int .i64 p.h)).drew = y2 := ⟨_, rfl⟩
              have hd2 : Below ((wr.setCell ⟨g, k * 7 + 1, none⟩ (.int .i64 p.v)).setCell ⟨g, k * 7 + 2, none⟩ (.int .i64 p.h)).heap.size ((wr.setCell ⟨g, k * 7 + 1, none⟩ (.int .i64 p.v)).setCell ⟨g, k * 7 + 2, none⟩ (.int .i64 p.h)) y2 := by rw [← hy2]; exact (Below.refl _ _).drew
              have PF2 := Lib.hid (T2.hi (keepHi_below hd2))
              have CI2 := Lib.hid (J2.old hd2 BB.out)
              rw [hy2]
              clear T1 T2 J1 J2 hd2 hC2 hC3 hy2 PF CI m1 m2 m4 m5 z1 z2 RL RKL RK
              obtain ⟨rs2, hrs2⟩ : ∃ z, rs1.set k ({ p with bs := crB wN hN p.bs, h := p.v, v := p.h }, (.slice (some ⟨M, 0, none⟩) y y : Value)) = z := ⟨_, rfl⟩
              rw [hrs2] at PF2
              have RL : Hid (rs2.length = n) := Lib.hid (by rw [← hrs2, List.length_set, ← HRS1.out, List.length_set]; exact HN2.out)
              have RKL : Hid (k < rs2.length) := Lib.hid (by rw [RL.out]; exact KN.out)
              have RK : Hid (∀ h : k < rs2.length, rs2[k]'h = ({ p with bs := crB wN hN p.bs, h := p.v, v := p.h }, .slice (some ⟨M, 0, none⟩) y y)) := Lib.hid (fun h => by subst hrs2; rw [List.getElem_set_self])
              have HRS2 : Hid (rs2 = rs'.set k ({ p with bs := crB wN hN p.bs, h := p.v, v := p.h }, (.slice (some ⟨M, 0, none⟩) y y : Value))) := Lib.hid (by rw [← hrs2, ← HRS1.out, List.set_set])
              have MC := PF2.out.cellAt RL.out k RKL.out
              rw [RK.out RKL.out] at MC
              simp only at MC
              rw [HWN.out, HHN.out] at MC
              obtain ⟨-, -, -, -, m4, m5, -⟩ := MC
              have z4 := PF2.out.frozen (k * 7 + 4)
              have z5 := PF2.out.frozen (k * 7 + 5)
              clear hrs2
              go_upto_region 19 with (fail)
              go_region
              obtain ⟨C2, hC2⟩ := PF2.out.heap.2.2
              have T1 := PF2.out.setN RL.out k 4 RKL.out (by decide) (.int .i64 (hN : Int)) { p with bs := crB wN hN p.bs, h := p.v, v := p.h, wide := (hN : Int) } (by rw [RK.out RKL.out]; rfl) (by rw [RK.out RKL.out]) ⟨OKP.out.id, OKP.out.v, OKP.out.h, OKP.out.tq, by rw [← HHN.out]; exact OKP.out.high, OKP.out.high, by rw [crB_len, HXN.out]; have := X65.out; omega⟩
              rw [RK.out RKL.out] at T1
              have J1 : CrI base w B P (swapP P) (.slice b0 n0 d0) (.slice b1 n1 d1) (.slice b2 n2 d2) (.slice b3 n3 d3) f (.slice (some ⟨g, 0, none⟩) n dp) (.slice ba na da) ss (y2.setCell ⟨g, k * 7 + 4, none⟩ (.int .i64 (hN : Int))) := CI2.out.ty (keepTy_set hC2) (below_at HG.out) (by decide) (by decide) (by decide) (by decide)
              obtain ⟨C3, hC3⟩ := T1.heap.2.2
              have T2 := T1.setN (by rw [List.length_set]; exact RL.out) k 5 (by rw [List.length_set]; exact RKL.out) (by decide) (.int .i64 (wN : Int)) { p with bs := crB wN hN p.bs, h := p.v, v := p.h, wide := (hN : Int), high := (wN : Int) } (by rw [List.getElem_set_self]; rfl) (by rw [List.getElem_set_self]) ⟨OKP.out.id, OKP.out.v, OKP.out.h, OKP.out.tq, by rw [← HHN.out]; exact OKP.out.high, by rw [← HWN.out]; exact OKP.out.wide, by rw [crB_len, HXN.out]; have := X65.out; omega⟩
              rw [List.getElem_set_self, List.set_set] at T2
              have J2 := J1.ty (keepTy_set (j := k * 7 + 5) (u := .int .i64 (wN : Int)) hC3) (below_at HG.out) (by decide) (by decide) (by decide) (by decide)
              obtain ⟨y3, hy3⟩ : ∃ y3, ((y2.setCell ⟨g, k * 7 + 4, none⟩ (.int .i64 (hN : Int))).setCell ⟨g, k * 7 + 5, none⟩ (.int .i64 (wN : Int))).drew = y3 := ⟨_, rfl⟩
              have hd2 : Below ((y2.setCell ⟨g, k * 7 + 4, none⟩ (.int .i64 (hN : Int))).setCell ⟨g, k * 7 + 5, none⟩ (.int .i64 (wN : Int))).heap.size ((y2.setCell ⟨g, k * 7 + 4, none⟩ (.int .i64 (hN : Int))).setCell ⟨g, k * 7 + 5, none⟩ (.int .i64 (wN : Int))) y3 := by rw [← hy3]; exact (Below.refl _ _).drew
              have PF3 := Lib.hid (T2.hi (keepHi_below hd2))
              have CI3 := Lib.hid (J2.old hd2 BB.out)
              rw [hy3]
              have EQ : Hid (({ p with bs := crB wN hN p.bs, h := p.v, v := p.h, wide := (hN : Int), high := (wN : Int) } : PartL) = crossPt p) := Lib.hid (by
                unfold crossPt
                rw [HWN.out, HHN.out, Int.toNat_natCast, Int.toNat_natCast])
              rw [EQ.out, HRS2.out, List.set_set] at PF3
              have MAP : Hid ((rs'.set k (crossPt p, (.slice (some ⟨M, 0, none⟩) y y : Value))).map (·.1) = (P.parts.take (k + 1)).map crossPt ++ P.parts.drop (k + 1)) := Lib.hid (by
                have hkP : k < P.parts.length := by rw [HNP.out]; exact KN.out
                rw [List.map_set, MP.out, List.set_append_right _ _ (by rw [List.length_map, List.length_take]; omega), List.length_map, List.length_take, Nat.min_eq_left (by omega), Nat.sub_self, List.drop_eq_getElem_cons hkP, List.take_succ_eq_append_getElem hkP, List.map_append, HPP.out hkP, List.append_assoc]
                rfl)
              have gk := GK.out
              clear T1 T2 J1 J2 hd2 hC2 hC3 hy3 PF2 CI2 m4 m5 z4 z5
              go_wp2_with fail
              go_roundw
              case rel => exact ⟨k + 1, _, KN.out, by go_num, MAP.out, PF3.out, CI3.out⟩
              case measure => simp [intOf]; have := KN.out; omega
        · obtain rfl : k = n := by omega
          have f1 : decide ((k : Int) < (k : Int)) = false := by rw [decide_eq_false_iff_not]; omega
          have DM : Hid (rs'.map (·.1) = (crossP P).parts) := Lib.hid (by
            rw [MP.out, List.take_of_length_le (by rw [HNP.out]; exact Nat.le_refl _), List.drop_of_length_le (by rw [HNP.out]; exact Nat.le_refl _), List.append_nil]
            rfl)
          obtain ⟨g0, hg0⟩ : ∃ z, f 0 = z := ⟨_, rfl⟩
          obtain ⟨g1, hg1⟩ : ∃ z, f 1 = z := ⟨_, rfl⟩
          obtain ⟨g2, hg2⟩ : ∃ z, f 2 = z := ⟨_, rfl⟩
          obtain ⟨g3, hg3⟩ : ∃ z, f 3 = z := ⟨_, rfl⟩
          have N0 := CI.out.qs 0 (by decide)
          have N1 := CI.out.qs 1 (by decide)
          have N2 := CI.out.qs 2 (by decide)
          have N3 := CI.out.qs 3 (by decide)
          rw [if_pos (by decide)] at N0 N1 N2 N3
          have BX := CI.out.box
          rw [hg0, hg1, hg2, hg3] at BX
          rw [hg0] at N0
          rw [hg1] at N1
          rw [hg2] at N2
          rw [hg3] at N3
          have PO : Hid (PicO base wr (crossP P) g0 g1 g2 g3 (.slice (some ⟨g, 0, none⟩) k dp) (.slice ba na da)) := Lib.hid ⟨N0, N1, N2, N3, ⟨rs', DM.out, PT.out⟩, ⟨ss, HSS.out, CI.out.sg⟩⟩
          obtain ⟨e0, c0, rfl⟩ := owns_any N0
          obtain ⟨e1, c1, rfl⟩ := owns_any N1
          obtain ⟨e2, c2, rfl⟩ := owns_any N2
          obtain ⟨e3, c3, rfl⟩ := owns_any N3
          have ZB := Lib.hid CI.out.z
          have LL := Lib.hid CI.out.l
          have LK := Lib.hid CI.out.kp
          clear N0 N1 N2 N3 hg0 hg1 hg2 hg3 a0 a1 a2 a3 a4 a5 a6 a7 a8
          obtain ⟨a0, a1, a2, a3, a4, a5, a6, a7, a8⟩ := BX.cells
          have a0 : wr.cell? ⟨B, 0, none⟩ = some (.int .i64 P.h) := a0
          have a1 : wr.cell? ⟨B, 1, none⟩ = some (.int .i64 P.w) := a1
          have a7 : wr.cell? ⟨B, 7, none⟩ = some (.int .i64 P.restart) := a7
          have H1 : Hid ((#[.int .i64 P.h, .int .i64 P.w, .slice e0 (crossQ (qL P 0)).length c0, .slice e1 (crossQ (qL P 1)).length c1, .slice e2 (crossQ (qL P 2)).length c2, .slice e3 (crossQ (qL P 3)).length c3, .slice (some ⟨g, 0, none⟩) k dp, .int .i64 P.restart, .slice ba na da] : Array Value).all (·.oneCell') = true) := Lib.hid (by kernel_rfl)
          have HI : Hid ((Try.prog.info? 36).map (·.size) = some 9) := Lib.hid (by kernel_rfl)
          clear BX
          go_wp2_with (refine wpList_store_row rfl _ _ _ rfl (B + 1) #[.int .i64 P.h, .int .i64 P.w, .slice e0 (crossQ (qL P 0)).length c0, .slice e1 (crossQ (qL P 1)).length c1, .slice e2 (crossQ (qL P 2)).length c2, .slice e3 (crossQ (qL P 3)).length c3, .slice (some ⟨g, 0, none⟩) k dp, .int .i64 P.restart, .slice ba na da] rfl rfl 36 _ ZB.out HI.out rfl H1.out ?_)
          obtain ⟨wE, hE⟩ : ∃ wE, wr.setRow (B + 1) #[.int .i64 P.h, .int .i64 P.w, .slice e0 (crossQ (qL P 0)).length c0, .slice e1 (crossQ (qL P 1)).length c1, .slice e2 (crossQ (qL P 2)).length c2, .slice e3 (crossQ (qL P 3)).length c3, .slice (some ⟨g, 0, none⟩) k dp, .int .i64 P.restart, .slice ba na da] = wE := ⟨_, rfl⟩
          have hwE : wE.heap[B + 1]? = some (.cells #[.int .i64 P.h, .int .i64 P.w, .slice e0 (crossQ (qL P 0)).length c0, .slice e1 (crossQ (qL P 1)).length c1, .slice e2 (crossQ (qL P 2)).length c2, .slice e3 (crossQ (qL P 3)).length c3, .slice (some ⟨g, 0, none⟩) k dp, .int .i64 P.restart, .slice ba na da] 36 (0, 0)) := by rw [← hE]; exact setRow_heap _ _ _ _ _ _ ZB.out
          have PE := Lib.hid (show PicO base wE (crossP P) _ _ _ _ _ _ by rw [← hE]; exact PO.out.ty (keepTy_row ZB.out) (by decide) (by decide) (by decide) (by decide) (by decide))
          have KE : Hid (KeepN w wE) := Lib.hid (by rw [← hE]; exact LK.out.row (by have := HB.out; omega))
          have BE : Hid (Below base w wE) := Lib.hid (by rw [← hE]; exact below_setRow LL.out (by have := BB.out; omega) _)
          rw [hE]
          obtain ⟨r0, r1, r2, r3, r4, r5, r6, r7, r8⟩ := PBox.cells (P := swapP P) hwE
          have r0 : wE.cell? ⟨B + 1, 0, none⟩ = some (.int .i64 P.h) := r0
          have r1 : wE.cell? ⟨B + 1, 1, none⟩ = some (.int .i64 P.w) := r1
          have r7 : wE.cell? ⟨B + 1, 7, none⟩ = some (.int .i64 P.restart) := r7
          clear hE hwE
          refine bodyPost_ret (v := .agg #[.int .i64 P.h, .int .i64 P.w, .slice e0 (crossQ (qL P 0)).length c0, .slice e1 (crossQ (qL P 1)).length c1, .slice e2 (crossQ (qL P 2)).length c2, .slice e3 (crossQ (qL P 3)).length c3, .slice (some ⟨g, 0, none⟩) k dp, .int .i64 P.restart, .slice ba na da]) (by simp [results, Try.results46, go_sem, r0, r1, r2, r3, r4, r5, r6, r7, r8]; try rfl) rfl ⟨_, _, _, _, rfl, PE.out, BE.out, KE.out⟩
end Go.Proofs.Ytnhalnjdlkdnkaa
