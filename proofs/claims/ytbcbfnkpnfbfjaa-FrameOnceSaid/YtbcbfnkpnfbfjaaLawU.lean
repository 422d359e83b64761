/- The law FrameUnits walked. By an AI agent. -/
import Derived.Test.YtbcbfnkpnfbfjaaUnitR
import Derived.Test.YtbcbfnkpnfbfjaaAliveU
namespace Go.Proofs.Ytbcbfnkpnfbfjaa
open Go.RowKit Go.BigFrame
set_option linter.unusedVariables false
set_option linter.unusedSimpArgs false
attribute [local go_sem] Oper.semAt_some

theorem vUnit_at (u : List (Int × Int)) (i : Nat) (h : i < u.length) : (vUnit u)[i * 2]? = some (.int .i64 u[i].1) ∧ (vUnit u)[i * 2 + 1]? = some (.int .i64 u[i].2) := by
  induction u generalizing i with
  | nil => simp at h
  | cons c t ih =>
    cases i with
    | zero => exact ⟨rfl, rfl⟩
    | succ i =>
      have := ih i (by simpa using h)
      have e : (i + 1) * 2 = i * 2 + 2 := by omega
      rw [e]
      exact this
theorem unitV_at {W : World} {x : Value} {u : List (Int × Int)} (h : UnitV W x u) : ∃ a c, x = .slice a u.length c ∧ ∀ i (hi : i < u.length), ∃ b o, a = some ⟨b, o, none⟩ ∧ W.cell? ⟨b, o + i * 2, none⟩ = some (.int .i64 u[i].1) ∧ W.cell? ⟨b, o + i * 2 + 1, none⟩ = some (.int .i64 u[i].2) := by
  rcases h.2 with ⟨a, c, h, h0⟩ | ⟨b, o, c, h, _, _, hx⟩
  · exact ⟨a, c, h, fun i hi => by omega⟩
  · exact ⟨_, c, h, fun i hi => ⟨b, o, rfl, hx _ _ (vUnit_at u i hi).1, hx _ _ (vUnit_at u i hi).2⟩⟩
theorem same_cell {l : Nat} {X V : World} {p : Addr} {v : Value} (hs : SameBut l X V) (hl : ∃ r, X.heap[l]? = some (.loop r)) (h : X.cell? p = some v) : V.cell? p = some v := by
  by_cases e : p.block = l
  · obtain ⟨r, hr⟩ := hl
    exfalso
    unfold World.cell? at h
    rw [e, hr] at h
    simp at h
  · rw [World.cell?_of_block (hs.block _ e)]; exact h
/-- most, between 1 and 200 -/
theorem most200 (k : Int) : ∃ m : Nat, 1 ≤ m ∧ m ≤ 200 ∧ wrap64 (1 + wrap64 ((IntKind.u64.wrap k).tmod 200)) = (m : Int) := by
  have h0 : 0 ≤ IntKind.u64.wrap k := by simp [IntKind.wrap, IntKind.signed, IntKind.bits]; omega
  refine ⟨(1 + IntKind.u64.wrap k % 200).toNat, by omega, by omega, ?_⟩
  rw [Int.tmod_eq_emod_of_nonneg h0, IntWalk.wrap64_in (IntKind.u64.wrap k % 200) (by omega), IntWalk.wrap64_in _ (by omega)]
  omega

def bigSide (x : Int) : Bool := decide (400 < x) && decide (x ≤ 65535)
theorem bigSide_false {x : Int} (h : bigSide x = false) : x ≤ 400 ∨ 65535 < x := by
  simp only [bigSide, Bool.and_eq_false_iff, decide_eq_false_iff_not] at h
  omega
theorem unitsF_len {P : PicL} {ps : List Int} {q : Nat} (h : q < unitsN P ps) : (unitsF P ps q).length ≤ 16 * ps.length + 1 := by
  have hok : unitsOk P ps = true := by
    by_cases h2 : unitsOk P ps = true
    · exact h2
    · unfold unitsN at h; rw [if_neg h2] at h; omega
  have hall : ∀ k ∈ ps, partN P k ≤ 16 := fun k hk => by
    unfold unitsOk at hok
    have := List.all_eq_true.1 hok k hk
    obtain ⟨_, _, h⟩ := partOk_of (P := P) (k := k) (by simpa using this)
    exact h.n16
  have h2 : ∀ c r l, (unitAt P c r l ps).length ≤ 16 * ps.length + 1 := fun c r l => Nat.le_succ_of_le (unitAt_len P c r l ps hall)
  unfold unitsF
  split
  · simp [singleF]
  · exact h2 _ _ _
/-- where the loop stands -/
structure LuI (K : Nat) (w w8 : World) (n : Nat) (V : World) : Prop where
  low : Low K w8 V
  kb : Boxed V K 3 (.int .i64 ((n : Nat) : Int))
  size : w8.heap.size ≤ V.heap.size
  below : Below w.heap.size w V
theorem LuI.since {K : Nat} {w w8 : World} {n : Nat} {X Y : World} {s : Nat} (h : LuI K w w8 n X) (hb : Below s X Y) (hs : K < s) (hw : w.heap.size ≤ K) : LuI K w w8 n Y :=
  ⟨h.low.trans (Low.below hb (by omega)), boxed_low h.kb hb hs, Nat.le_trans h.size hb.size, h.below.trans (hb.mono (by omega))⟩

set_option maxRecDepth 100000 in
set_option maxHeartbeats 16000000 in
theorem lawUnits_any (P : PicL) (q0 q1 q2 q3 pv kv psv : Value) (ps : List Int) (M : Int) (w : World) (hp : PicC w P q0 q1 q2 q3 pv kv) (hB : PicB P) (hps : Ns w psv ps) (hpl : ps.length ≤ 140737488351232) (hM : -9223372036854775808 ≤ M ∧ M ≤ 9223372036854775807) :
    Calls Try.prog 3 #[.agg (vPic P q0 q1 q2 q3 pv kv), psv, .int .i64 M] w fun e w' => e = .returned (.bool true) ∧ Below w.heap.size w w' := by
  have hl := hB.parts
  obtain ⟨pa, pc, rfl, _⟩ := Els.len hp.parts
  obtain ⟨sa, sc, rfl, _⟩ := hps.read
  have HPT := Lib.hid hp.parts
  have HPS := Lib.hid hps
  clear hp hB hps
  refine (callsIn_wide (n := 6)).1 ?_
  refine callsIn_of_wp_marks Try.func3 rfl trivial ?_ rfl
  simp only [Try.ntmps3, List.size_toArray, List.length_cons, List.length_nil, Nat.reduceAdd, Nat.reduceSub, Array.replicate_succ, Array.replicate_zero, List.push_toArray, List.append_toArray, List.nil_append, List.cons_append]
  refine wpIn_wide.2 ?_
  unfold vPic
  go_wp2_with fail
  refine (alive_any _).mono ?_; rintro e w1 ⟨rfl, hb1⟩
  obtain ⟨R, hR⟩ : ∃ R, w.heap.size = R := ⟨_, rfl⟩
  rw [hR]
  have q0' : PBox w1 R P q0 q1 q2 q3 (.slice pa P.parts.length pc) kv := by rw [← hR]; exact PBox.old (PBox.old (PBox.old (heap_alloc_new _ _) ((Below.refl _ _).alloc (Nat.le_refl _) _)) ((Below.refl _ _).alloc (Nat.le_refl _) _)) hb1
  have q1' : Boxed w1 (R + 1) 3 (.int .i64 M) := by
    rw [← hR]
    have h := Boxed.new (w.alloc (.cells #[.int .i64 P.w, .int .i64 P.h, q0, q1, q2, q3, .slice pa P.parts.length pc, .int .i64 P.restart, kv] 27)) 3 (.int .i64 M)
    rw [World.size_alloc] at h
    exact boxed_below (h.alloc _) hb1
  have q2' : Boxed w1 (R + 1 + 1) 4 (.bool false) := by
    rw [← hR]
    have h := Boxed.new ((w.alloc (.cells #[.int .i64 P.w, .int .i64 P.h, q0, q1, q2, q3, .slice pa P.parts.length pc, .int .i64 P.restart, kv] 27)).alloc (.cells #[.int .i64 M] 3)) 4 (.bool false)
    simp only [World.size_alloc] at h
    exact boxed_below h hb1
  have bb : Below R w w1 := by rw [← hR]; exact ((((Below.refl _ _).alloc (Nat.le_refl _) _).alloc (by simp) _).alloc (by simp; omega) _).trans (hb1.mono (by simp; omega))
  have s1 : R + 3 ≤ w1.heap.size := by have := hb1.size; simp at this; omega
  have HR := Lib.hid hR
  have Q0 := Lib.hid q0'
  have Q1 := Lib.hid q1'
  have Q2 := Lib.hid q2'
  have B1 := Lib.hid bb
  have S1 := Lib.hid s1
  obtain ⟨a0, a1, a2, a3, a4, a5, a6, a7, a8⟩ := q0'.cells
  have x1 := q1'.cell
  have x2 := q1'.frozen
  have y1 := q2'.cell
  have y2 := q2'.frozen
  have RET : Hid (Below w.heap.size w (w1.setCell ⟨R + 1 + 1, 0, none⟩ (.bool true)) ∧ (w1.setCell ⟨R + 1 + 1, 0, none⟩ (.bool true)).cell? ⟨R + 1 + 1, 0, none⟩ = some (.bool true)) := Lib.hid ⟨by rw [HR.out]; exact B1.out.setCell (p := ⟨R + 1 + 1, 0, none⟩) (by simp only; omega) _, (Boxed.set (.bool true) Q2.out).cell⟩
  clear hb1 hR q0' q1' q2' bb s1
  by_cases hbig : 20 < P.parts.length
  · have d1 : decide ((20 : Int) < (P.parts.length : Int)) = true := by rw [decide_eq_true_eq]; omega
    have d1' : decide (20 < P.parts.length) = true := by rw [decide_eq_true_eq]; omega
    clear hbig
    go_wp2_with fail
    have r := RET.out.2
    exact ⟨.bool true, by simp [results, Try.f3, go_sem, r], rfl, RET.out.1⟩
  have d1 : decide ((20 : Int) < (P.parts.length : Int)) = false := by rw [decide_eq_false_iff_not]; omega
  have d1' : decide (20 < P.parts.length) = false := by rw [decide_eq_false_iff_not]; omega
  by_cases hbig2 : 20 < ps.length
  · have d2 : decide ((20 : Int) < (ps.length : Int)) = true := by rw [decide_eq_true_eq]; omega
    have d2' : decide (20 < ps.length) = true := by rw [decide_eq_true_eq]; omega
    clear hbig2 hbig
    go_wp2_with fail
    have r := RET.out.2
    exact ⟨.bool true, by simp [results, Try.f3, go_sem, r], rfl, RET.out.1⟩
  have d2 : decide ((20 : Int) < (ps.length : Int)) = false := by rw [decide_eq_false_iff_not]; omega
  have d2' : decide (20 < ps.length) = false := by rw [decide_eq_false_iff_not]; omega
  have PL := Lib.hid hbig2
  clear hbig hbig2
  obtain ⟨big, hbg⟩ : ∃ b, (bigSide P.w || bigSide P.h) = b := ⟨_, rfl⟩
  have BG := Lib.hid hbg
  clear hbg
  go_upto_region 3 with (fail)
  go_cut [42] from 14 to 42 (fun c wx => c = .bool big ∧ w1 = wx)
  case first =>
    rcases h3 : decide ((400 : Int) < P.w) with _ | _ <;> rcases h4 : decide (P.w ≤ (65535 : Int)) with _ | _ <;> rcases h5 : decide ((400 : Int) < P.h) with _ | _ <;> rcases h6 : decide (P.h ≤ (65535 : Int)) with _ | _
    all_goals
      have hbb := BG.out
      unfold bigSide at hbb
      rw [h3, h4, h5, h6] at hbb
      have HBB := Lib.hid hbb
      clear hbb
      go_wp2_with fail
      go_meet
      exact ⟨by rw [← HBB.out]; rfl, rfl⟩
  case rest =>
  obtain ⟨rfl, rfl⟩ := hcut
  cases big with
  | true =>
    go_wp2_with fail
    have r := RET.out.2
    exact ⟨.bool true, by simp [results, Try.f3, go_sem, r], rfl, RET.out.1⟩
  | false =>
  obtain ⟨m, m1, m2, hme⟩ := most200 M
  have HMM : Hid (1 ≤ m ∧ m ≤ 200) := Lib.hid ⟨m1, m2⟩
  clear m1 m2
  obtain ⟨w2, hw2⟩ : ∃ w2, w1.setCell ⟨R + 1, 0, none⟩ (.int .i64 (m : Int)) = w2 := ⟨_, rfl⟩
  have B2 : Hid (Below R w w2 ∧ R + 3 ≤ w2.heap.size) := Lib.hid (by rw [← hw2]; exact ⟨B1.out.setCell (p := ⟨R + 1, 0, none⟩) (by simp only; omega) _, by have := S1.out; simpa using this⟩)
  have P2 : Hid (PBox w2 R P q0 q1 q2 q3 (.slice pa P.parts.length pc) kv) := Lib.hid (by rw [← hw2]; unfold PBox; rw [Go.Deep.blk_setCell_other _ _ _ _ (by simp only; omega)]; exact Q0.out)
  have M2 : Hid (Boxed w2 (R + 1) 3 (.int .i64 (m : Int))) := Lib.hid (by rw [← hw2]; exact Boxed.set _ Q1.out)
  have R2 : Hid (Boxed w2 (R + 1 + 1) 4 (.bool false)) := Lib.hid (by rw [← hw2]; exact Boxed.other Q2.out (by omega) _)
  clear y1 y2 RET d1 d1' d2 d2' a0 a1 a2 a3 a4 a5 a6 a7 a8
  obtain ⟨a0, a1, a2, a3, a4, a5, a6, a7, a8⟩ := P2.out.cells
  go_wp2_with fail
  refine (refUnits_any P q0 q1 q2 q3 _ kv _ ps w2 (HPT.out.old (by rw [HR.out]; exact B2.out.1)) (HPS.out.old (by rw [HR.out]; exact B2.out.1)) hl (by have := PL.out; omega) (by
    have h := BG.out
    rw [Bool.or_eq_false_iff] at h
    exact ⟨bigSide_false h.1, bigSide_false h.2⟩)).mono ?_
  rintro e w3 ⟨uv, us, rfl, hus, hue, hb3⟩
  obtain ⟨wa, wc, rfl, hux⟩ := hus.read
  have UE := Lib.hid hue
  have UR := Lib.hid hux
  have B3 : Hid (Below R w w3) := Lib.hid (B2.out.1.trans (hb3.mono (by have := B2.out.2; omega)))
  have P3 := Lib.hid (P2.out.old hb3)
  have M3 := Lib.hid (boxed_below M2.out hb3)
  have R3 := Lib.hid (boxed_below R2.out hb3)
  have S3 : Hid (R + 3 ≤ w3.heap.size) := Lib.hid (Nat.le_trans B2.out.2 hb3.size)
  clear hus hue hux hb3 hw2 hme x1 x2 a0 a1 a2 a3 a4 a5 a6 a7 a8
  obtain ⟨un, hun⟩ : ∃ un, us.length = un := ⟨_, rfl⟩
  rw [hun]
  have NN : Hid (un = unitsN P ps) := Lib.hid (by
    have h := congrArg List.length UE.out
    rw [List.length_map, hun] at h
    rw [h]; simp [unitsL])
  have UN := Lib.hid hun
  clear hun
  go_upto_region 8 with (fail)
  obtain ⟨S, hS⟩ : ∃ S, w3.heap.size = S := ⟨_, rfl⟩
  obtain ⟨w4, hw4⟩ : ∃ w4, (w3.alloc (.cells #[.slice wa un wc] 30)).alloc (.cells #[.int .i64 0] 3) = w4 := ⟨_, rfl⟩
  rw [hw4, hS]
  have b34 : Below w3.heap.size w3 w4 := by rw [← hw4]; exact ((Below.refl _ _).alloc (Nat.le_refl _) _).alloc (by simp) _
  have W4 : Hid (Boxed w4 S 30 (.slice wa un wc)) := Lib.hid (by rw [← hw4, ← hS]; exact (Boxed.new _ _ _).alloc _)
  have K4 : Hid (Boxed w4 (S + 1) 3 (.int .i64 0)) := Lib.hid (by
    rw [← hw4, ← hS]
    have h := Boxed.new (w3.alloc (.cells #[.slice wa un wc] 30)) 3 (.int .i64 0)
    rw [World.size_alloc] at h
    exact h)
  have S4 : Hid (w4.heap.size = S + 2 ∧ R + 3 ≤ S) := Lib.hid (by rw [← hw4, ← hS]; have := S3.out; simp; omega)
  have B4 : Hid (Below R w w4) := Lib.hid (B3.out.trans (b34.mono (by have := S3.out; omega)))
  have P4 := Lib.hid (P3.out.old b34)
  have M4 := Lib.hid (boxed_below M3.out b34)
  have R4 := Lib.hid (boxed_below R3.out b34)
  obtain ⟨a0, a1, a2, a3, a4, a5, a6, a7, a8⟩ := P4.out.cells
  have U4 : Hid (∀ i (hi : i < us.length), ∃ b o ya yc, wa = some ⟨b, o, none⟩ ∧ b < S ∧ w4.cell? ⟨b, o + i, none⟩ = some (.slice ya us[i].1.length yc) ∧
      ∀ j (hj : j < us[i].1.length), ∃ yb yo, ya = some ⟨yb, yo, none⟩ ∧ yb < S ∧ w4.cell? ⟨yb, yo + j * 2, none⟩ = some (.int .i64 us[i].1[j].1) ∧ w4.cell? ⟨yb, yo + j * 2 + 1, none⟩ = some (.int .i64 us[i].1[j].2)) := Lib.hid (fun i hi => by
    obtain ⟨b, o, h1, h2, h3⟩ := UR.out i hi
    obtain ⟨ya, yc, h4, h5⟩ := unitV_at h3
    rw [h4] at h2
    refine ⟨b, o, ya, yc, h1, by have := World.block_lt_of_cell? _ _ h2; simp only at this; omega, cell_old b34 h2, fun j hj => ?_⟩
    obtain ⟨yb, yo, g1, g2, g3⟩ := h5 j hj
    exact ⟨yb, yo, g1, by have := World.block_lt_of_cell? _ _ g2; simp only at this; omega, cell_old b34 g2, cell_old b34 g3⟩)
  have HS := Lib.hid hS
  clear b34 B3 P3 M3 R3 S3 UR hw4 hS
  go_wp2_with fail
  refine (units_any P q0 q1 q2 q3 _ kv sa ps.length sc w4).mono ?_
  rintro e w8 ⟨rfl, hw8⟩
  go_wp2_with fail
  rw [← vPic.eq_def P q0 q1 q2 q3 (.slice pa P.parts.length pc) kv, ← hw8]
  have sz8 : w8.heap.size = S + 4 := by rw [hw8]; have := S4.out; simp; omega
  have b48 : Below w4.heap.size w4 w8 := by rw [hw8]; exact ((Below.refl _ _).alloc (Nat.le_refl _) _).alloc (by simp) _
  have x1 : PBox w8 (S + 2) P q0 q1 q2 q3 (.slice pa P.parts.length pc) kv := by
    rw [hw8, ← S4.out.1]; exact heap_low (heap_alloc_new _ _) ((Below.refl _ _).alloc (Nat.le_refl _) _)
  have x2 : Boxed w8 (S + 2 + 1) 22 (.slice sa ps.length sc) := by
    rw [hw8, ← S4.out.1]
    have h := Boxed.new (w4.alloc (.cells (vPic P q0 q1 q2 q3 (.slice pa P.parts.length pc) kv) 27)) 22 (.slice sa ps.length sc)
    rw [World.size_alloc] at h
    exact h
  have hRw := HR.out
  have B8 : Below w.heap.size w w8 := by rw [hRw]; exact B4.out.trans (b48.mono (by have := S4.out; omega))
  have dw : Low w.heap.size w w8 ∧ w.heap.size ≤ w8.heap.size := ⟨Low.below B8 (Nat.le_refl _), B8.size⟩
  have hbs8 : ∀ b ∈ List.range w.heap.size, b < w8.heap.size := fun b hb => by have := List.mem_range.1 hb; have := B8.size; omega
  have hRS : R + 3 ≤ S := S4.out.2
  have I0 : LuI (S + 1) w w4 0 w8 := ⟨Low.below b48 (by have := S4.out; omega), boxed_below K4.out b48, b48.size, B8⟩
  have HMS := HMM.out
  rw [S4.out.1]
  refine wpIn_wide.1 (rangeU (n := 6) (by omega) (gf := 24) (lb := #[.pointer (some ⟨S + 2 + 1, 0, none⟩), .pointer (some ⟨S + 2, 0, none⟩)]) rfl (enters_of Try.func24 (by kernel_rfl) rfl)
    (units_seq (6 - 1) (S + 2 + 1) (S + 2) (List.range w.heap.size) P _ _ _ _ _ _ _ ps (fun W => Low w.heap.size w W ∧ w.heap.size ≤ W.heap.size) w8 (fun U => dataU_low HPT.out HPS.out (fun b hb => List.mem_range.2 hb)) dw hl (by have := PL.out; omega) x2.cell x1) (Below.refl _ _) (fun _ => rfl) hbs8
    (fun pre V => LuI (S + 1) w w4 pre.length V ∧ pre.length < m) (fun c pre V => c = .exit 0 ∧ LuI (S + 1) w w4 pre.length V ∧ pre.length = m ∧ m ≤ unitsN P ps)
    (fun s X Y h hb => ⟨h.1.since hb (by omega) (by omega), h.2⟩) (fun c s X Y h hb => ⟨h.1, h.2.1.since hb (by omega) (by omega), h.2.2⟩) ⟨I0, by simp; omega⟩ ?round ?done ?stop)
  case round =>
    rintro ll pre x X hl hlX hloop ⟨hI, hlt⟩ ⟨hqn, hU⟩
    rw [sz8] at hl
    obtain ⟨xa, xc, rfl, hux⟩ := unitV_at hU
    obtain ⟨q, hq⟩ : ∃ q, pre.length = q := ⟨_, rfl⟩
    rw [hq] at hI hlt hqn hux ⊢
    have HQ := Lib.hid hq
    have hqu : q < un := by rw [NN.out]; exact hqn
    have hqs : q < us.length := by rw [UN.out]; exact hqu
    have hue : us[q].1 = unitsF P ps q := by
      have h := congrArg (fun l => l[q]?) UE.out
      simpa [unitsL, hqs, hqn] using h
    obtain ⟨wb, wo, ya, yc, hwa, wbS, hwc, hyx⟩ := U4.out q hqs
    rw [hue] at hwc
    have HYX : Hid (∀ j (hj : j < (unitsF P ps q).length), ∃ yb yo, ya = some ⟨yb, yo, none⟩ ∧ yb < S ∧ w4.cell? ⟨yb, yo + j * 2, none⟩ = some (.int .i64 (unitsF P ps q)[j].1) ∧ w4.cell? ⟨yb, yo + j * 2 + 1, none⟩ = some (.int .i64 (unitsF P ps q)[j].2)) := Lib.hid (by rw [← hue]; exact hyx)
    subst hwa
    obtain ⟨u, hu⟩ : ∃ u, unitsF P ps q = u := ⟨_, rfl⟩
    have UL : Hid (u.length ≤ 16 * ps.length + 1) := Lib.hid (by rw [← hu]; exact unitsF_len hqn)
    rw [hu] at hwc HYX hux ⊢
    have HUX := Lib.hid hux
    have HLP := Lib.hid hloop
    have HI := Lib.hid hI
    have HLT := Lib.hid hlt
    have HQN := Lib.hid hqn
    have HQU := Lib.hid hqu
    obtain ⟨n, hn⟩ : ∃ n, u.length = n := ⟨_, rfl⟩
    rw [hn] at hwc ⊢
    have HNU := Lib.hid hn
    clear hI hU hux hq hue hyx hu hqs hn a0 a1 a2 a3 a4 a5 a6 a7 a8 x1 x2 hloop hlt hqn
    gi_wp2
    refine ⟨KeepsFrom.refl _ _, fun V hV => ?_⟩
    have LV : Hid (Low (S + 1) w4 V) := Lib.hid (fun b hb => (hV.block b (by omega)).trans (HI.out.low b hb))
    have hKV : Boxed V (S + 1) 3 (.int .i64 (q : Int)) := boxed_put HI.out.kb hV (by omega)
    have k1 := hKV.cell
    have k2 := hKV.frozen
    have e7 : V.cell? ⟨S, 0, none⟩ = some (.slice (some ⟨wb, wo, none⟩) un wc) := by rw [World.cell?_of_block (LV.out S (by omega))]; exact W4.out.cell
    have e8 : V.cell? ⟨wb, wo + q, none⟩ = some (.slice ya n yc) := by rw [World.cell?_of_block (LV.out wb (by omega))]; exact hwc
    have g1 : decide ((un : Int) ≤ (q : Int)) = false := by rw [decide_eq_false_iff_not]; omega
    have g1' : decide (un ≤ q) = false := by rw [decide_eq_false_iff_not]; omega
    have g2 : ((n : Int) != (n : Int)) = false := by rw [bne_eq_false_iff_eq]
    have g3 : (q : Int) < (un : Int) := by omega
    have HV := Lib.hid hV
    have HKV := Lib.hid hKV
    have HWC := Lib.hid hwc
    have HWB := Lib.hid wbS
    clear hwc hKV hV
    gi_wp2_with fail
    clear k1 k2 e7 e8 g1 g1' g2
    have NB : Hid (n ≤ 100000000) := Lib.hid (by
      rw [← HNU.out]
      have h := UL.out
      have := PL.out
      omega)
    gi_loopw [71] (fun i Z => ∃ j : Nat, i = .int .i64 (j : Nat) ∧ j ≤ n ∧ Below V.heap.size V Z) (fun i _ => n - (intOf i).toNat)
    case atStart => exact ⟨0, rfl, Nat.zero_le _, Below.refl _ _⟩
    case round =>
      obtain ⟨j, rfl, hj, hbz⟩ := hrel
      have BZ := Lib.hid hbz
      clear hbz
      have e7 : wr.cell? ⟨S, 0, none⟩ = some (.slice (some ⟨wb, wo, none⟩) un wc) := cell_old BZ.out (by rw [World.cell?_of_block (LV.out S (by omega))]; exact W4.out.cell)
      have e8 : wr.cell? ⟨wb, wo + q, none⟩ = some (.slice ya n yc) := cell_old BZ.out (by rw [World.cell?_of_block (LV.out wb (by have := HWB.out; omega))]; exact HWC.out)
      have e9 : wr.cell? ⟨S + 1, 0, none⟩ = some (.int .i64 (q : Int)) := cell_old BZ.out HKV.out.cell
      by_cases hjl : j < n
      · have f1 : decide ((j : Int) < (n : Int)) = true := by rw [decide_eq_true_eq]; omega
        have f1' : decide (j < n) = true := by rw [decide_eq_true_eq]; omega
        have f2 : (j : Int) < (n : Int) := by omega
        have hju : j < u.length := by rw [HNU.out]; exact hjl
        obtain ⟨xb, xo, rfl, x1, x2⟩ := HUX.out j hju
        obtain ⟨yb, yo, rfl, hyS, y1, y2⟩ := HYX.out j hju
        have x1' := cell_old BZ.out (same_cell HV.out HLP.out x1)
        have x2' := cell_old BZ.out (same_cell HV.out HLP.out x2)
        have y1' : wr.cell? ⟨yb, yo + j * 2, none⟩ = some (.int .i64 u[j].1) := cell_old BZ.out (by rw [World.cell?_of_block (LV.out yb (by omega))]; exact y1)
        have y2' : wr.cell? ⟨yb, yo + j * 2 + 1, none⟩ = some (.int .i64 u[j].2) := cell_old BZ.out (by rw [World.cell?_of_block (LV.out yb (by omega))]; exact y2)
        obtain ⟨c1, hc1⟩ : ∃ c, u[j].1 = c := ⟨_, rfl⟩
        obtain ⟨c2, hc2⟩ : ∃ c, u[j].2 = c := ⟨_, rfl⟩
        rw [hc1] at x1' y1'
        rw [hc2] at x2' y2'
        have g4 : (c1 != c1) = false := by rw [bne_eq_false_iff_eq]
        have g5 : (c2 != c2) = false := by rw [bne_eq_false_iff_eq]
        have gj : IntKind.i64.wrap ((j : Int) + 1) = (j : Int) + 1 := IntWalk.i64_in _ (by have := NB.out; omega)
        clear x1 x2 y1 y2 hc1 hc2
        obtain ⟨Z1, hZ1⟩ : ∃ Z1, wr.alloc (.cells #[.int .i64 c1, .int .i64 c2] 38) = Z1 := ⟨_, rfl⟩
        have bz1 : Below wr.heap.size wr Z1 := by rw [← hZ1]; exact (Below.refl _ _).alloc (Nat.le_refl _) _
        have hbx : Z1.heap[wr.heap.size]? = some (.cells #[.int .i64 c1, .int .i64 c2] 38 (0, 0)) := by rw [← hZ1]; exact heap_alloc_new _ _
        have b1 : Z1.cell? ⟨wr.heap.size, 0, none⟩ = some (.int .i64 c1) := by rw [cell_of_row _ _ 0 _ _ _ hbx]; rfl
        have b2 : Z1.cell? ⟨wr.heap.size, 1, none⟩ = some (.int .i64 c2) := by rw [cell_of_row _ _ 1 _ _ _ hbx]; rfl
        have CC : Z1.drew.cell? ⟨wr.heap.size, 0, none⟩ = some (.int .i64 c1) ∧ Z1.drew.cell? ⟨wr.heap.size, 1, none⟩ = some (.int .i64 c2) ∧ Z1.drew.cell? ⟨S, 0, none⟩ = some (.slice (some ⟨wb, wo, none⟩) un wc) ∧ Z1.drew.cell? ⟨S + 1, 0, none⟩ = some (.int .i64 (q : Int)) ∧ Z1.drew.cell? ⟨wb, wo + q, none⟩ = some (.slice (some ⟨yb, yo, none⟩) n yc) ∧ Z1.drew.cell? ⟨yb, yo + j * 2, none⟩ = some (.int .i64 c1) ∧ Z1.drew.cell? ⟨yb, yo + j * 2 + 1, none⟩ = some (.int .i64 c2) ∧ Below wr.heap.size wr Z1.drew :=
          ⟨cell_old (Below.refl _ _).drew b1, cell_old (Below.refl _ _).drew b2, cell_old (bz1.drew) e7, cell_old (bz1.drew) e9, cell_old (bz1.drew) e8, cell_old (bz1.drew) y1', cell_old (bz1.drew) y2', bz1.drew⟩
        have HCC := Lib.hid CC
        clear CC b1 b2 hbx bz1 e7 e8 e9 y1' y2'
        gi_wp2_with fail
        refine wpIn_region_q (fun Y => Y.cell? ⟨wr.heap.size, 0, none⟩ = some (.int .i64 c1) ∧ Y.cell? ⟨wr.heap.size, 1, none⟩ = some (.int .i64 c2) ∧ Y.cell? ⟨S, 0, none⟩ = some (.slice (some ⟨wb, wo, none⟩) un wc) ∧ Y.cell? ⟨S + 1, 0, none⟩ = some (.int .i64 (q : Int)) ∧ Y.cell? ⟨wb, wo + q, none⟩ = some (.slice (some ⟨yb, yo, none⟩) n yc) ∧ Y.cell? ⟨yb, yo + j * 2, none⟩ = some (.int .i64 c1) ∧ Y.cell? ⟨yb, yo + j * 2 + 1, none⟩ = some (.int .i64 c2) ∧ Below wr.heap.size wr Y) (by kernel_rfl) (by kernel_rfl) (by kernel_rfl) (fun _ _ h => h) HCC.out ?_
        clear HCC x1' x2'
        repeat
          first
          | go_big_quiet_skip
          | (go_big_quiet_want
             first
             | (go_big_quiet_op; go_big_quiet_on)
             | (apply Exists.intro
                refine ⟨fun X hX => ?_, ?_⟩
                · obtain ⟨e1, e2, e3, e4, e5, e6, e7, eZ⟩ := hX
                  clear eZ
                  unfold Oper.quietAt
                  go_simp
                  first
                  | exact ⟨rfl, rfl⟩
                  | exact rfl
                go_big_quiet_on
                try simp only [Act.put, List.setIfInBounds_toArray, List.set_cons_zero, List.set_cons_succ]))
        refine wpQuiet_nil ?_
        rintro Y ⟨-, -, -, -, -, -, -, hbY⟩
        have BY := Lib.hid (BZ.out.trans (hbY.mono BZ.out.size))
        clear hbY f1 f1' g4 g5 hZ1
        gi_wp2_with fail
        go_roundw
        case rel => exact ⟨j + 1, by go_num, hjl, BY.out⟩
        case measure => simp [intOf]; omega
      · obtain rfl : j = n := by omega
        have f1 : decide ((j : Int) < (j : Int)) = false := by rw [decide_eq_false_iff_not]; omega
        have gq : IntKind.i64.wrap ((q : Int) + 1) = (q : Int) + 1 := IntWalk.i64_in _ (by have := HLT.out; have := HMM.out; omega)
        have BK := Lib.hid (boxed_below HKV.out BZ.out)
        have mV : Boxed V (R + 1) 3 (.int .i64 (m : Int)) := (LV.out (R + 1) (by omega)).trans M4.out
        have r5 := (boxed_below mV BZ.out).cell
        have k2 := BK.out.frozen
        have RLT : R < V.heap.size := Nat.lt_of_succ_lt mV.lt
        clear e7 e8 hjl mV
        have POST : Hid (LuI (S + 1) w w4 (pre ++ [Value.slice xa j xc]).length (wr.setCell ⟨S + 1, 0, none⟩ (.int .i64 ((q : Int) + 1)))) := Lib.hid (by
          have e : (((pre ++ [Value.slice xa j xc]).length : Nat) : Int) = (q : Int) + 1 := by rw [List.length_append, HQ.out]; simp
          have bv : Below w.heap.size X V := HV.out.below (by omega)
          have vs : V.heap.size = X.heap.size := HV.out.size
          refine ⟨fun b hb => ?_, ?_, ?_, ?_⟩
          · rw [Go.Deep.blk_setCell_other _ _ _ _ (by simp only; omega), BZ.out.block b (by have := HI.out.size; have := S4.out; omega)]
            exact LV.out b hb
          · rw [e]; exact Boxed.set _ BK.out
          · have := HI.out.size; have := BZ.out.size; simp; omega
          · exact ((HI.out.below.trans bv).trans (BZ.out.mono (by have := HI.out.size; have := S4.out; omega))).setCell (p := ⟨S + 1, 0, none⟩) (by simp only; omega) _)
        have KF : Hid (KeepsFrom w8.heap.size V (wr.setCell ⟨S + 1, 0, none⟩ (.int .i64 ((q : Int) + 1)))) := Lib.hid ((keepsFrom_below BZ.out).trans (keepsFrom_set _ _ _))
        have KU : Hid (KeepU (List.range w.heap.size) (w8.heap.size + 2) X (wr.setCell ⟨S + 1, 0, none⟩ (.int .i64 ((q : Int) + 1)))) := Lib.hid (by
          refine KeepU.trans (KeepU.trans ⟨by have := HV.out.size; omega, fun k hk hlt => HV.out.block k ?_⟩ (KeepU.below BZ.out)) (keepU_set _ _ wr (S + 1) _ (by omega) (fun h => by have := List.mem_range.1 h; omega))
          rcases hk with hk | hk
          · have := List.mem_range.1 hk; omega
          · omega)
        by_cases hjm : q + 1 = m
        · have e1 : ((q : Int) + 1 == (m : Int)) = true := by rw [beq_iff_eq]; omega
          have e2 : (q + 1 == m) = true := by rw [beq_iff_eq]; exact hjm
          have HJM := Lib.hid hjm
          clear hjm
          gi_wp2_with fail
          exact ⟨KF.out, KU.out, rfl, POST.out, by have := HJM.out; have := HQ.out; simp; omega, by have := HJM.out; have := HQN.out; omega⟩
        · have e1 : ((q : Int) + 1 == (m : Int)) = false := by rw [beq_eq_false_iff_ne]; omega
          have e2 : (q + 1 == m) = false := by rw [beq_eq_false_iff_ne]; exact hjm
          gi_wp2_with fail
          exact ⟨KF.out, KU.out, POST.out, by have := HQ.out; have := HLT.out; simp; omega⟩
  case done =>
    rintro D pre X hD hDX hfin ⟨hI, hlt⟩ hK
    have hlen : pre.length = un := hfin.trans NN.out.symm
    rw [hlen] at hI hlt
    have k0 := hI.kb.cell
    have lw := fun b (hb : b < S + 1) => hI.low b hb
    have m0 : X.cell? ⟨R + 1, 0, none⟩ = some (.int .i64 (m : Int)) := by rw [World.cell?_of_block (lw (R + 1) (by omega))]; exact M4.out.cell
    have w0 : X.cell? ⟨S, 0, none⟩ = some (.slice wa un wc) := by rw [World.cell?_of_block (lw S (by omega))]; exact W4.out.cell
    have RB : Boxed X (R + 1 + 1) 4 (.bool false) := (lw (R + 1 + 1) (by omega)).trans R4.out
    have r0 := RB.cell
    have r1 := RB.frozen
    have e1 : min (m : Int) (un : Int) = (un : Int) := by omega
    have e2 : min m un = un := by omega
    have e3 : decide ((m : Int) ≤ (un : Int)) = false := by rw [decide_eq_false_iff_not]; omega
    have e3' : decide (m ≤ un) = false := by rw [decide_eq_false_iff_not]; omega
    have e4 : decide ((un : Int) < (m : Int)) = true := by rw [decide_eq_true_eq]; omega
    have e4' : decide (un < m) = true := by rw [decide_eq_true_eq]; omega
    have e5 : decide ((m : Int) < (un : Int)) = false := by rw [decide_eq_false_iff_not]; omega
    have e5' : decide (m < un) = false := by rw [decide_eq_false_iff_not]; omega
    have RS := Lib.hid (Boxed.set (.bool true) RB)
    have BX := Lib.hid (hI.below.setCell (p := ⟨R + 1 + 1, 0, none⟩) (by simp only; omega) (.bool true))
    have K2 : Hid ((X.setCell ⟨R + 1 + 1, 0, none⟩ (.bool true)).heap[D]? = some (.deferred (some []))) := Lib.hid ((KeepsOthers.setCell _ _ _).same D _ hK rfl)
    clear hlen hI hK lw RB hfin a0 a1 a2 a3 a4 a5 a6 a7 a8 x1 x2
    go_wp2_with fail
    obtain ⟨Y, hY⟩ : ∃ Y, X.setCell ⟨R + 1 + 1, 0, none⟩ (.bool true) = Y := ⟨_, rfl⟩
    rw [hY] at RS BX K2 ⊢
    have r2 : (Y.putObj D (.deferred none)).cell? ⟨R + 1 + 1, 0, none⟩ = some (.bool true) := Boxed.cell (t := 4) ((World.putObj_heap_other (by omega)).trans RS.out)
    refine ⟨by simp, .inl ⟨_, _, rfl, run_takeDeferred K2.out, ?_⟩⟩
    refine ⟨.bool true, by simp [results, Try.f3, go_sem, r2], rfl, ?_⟩
    exact BX.out.trans ((sameBut_put _ _ _).below (by omega))
  case stop =>
    rintro D c pre X hD hDX ⟨rfl, hI, hlt, hle⟩ hK
    rw [← NN.out] at hle
    rw [hlt] at hI
    have k0 := hI.kb.cell
    have lw := fun b (hb : b < S + 1) => hI.low b hb
    have m0 : X.cell? ⟨R + 1, 0, none⟩ = some (.int .i64 (m : Int)) := by rw [World.cell?_of_block (lw (R + 1) (by omega))]; exact M4.out.cell
    have w0 : X.cell? ⟨S, 0, none⟩ = some (.slice wa un wc) := by rw [World.cell?_of_block (lw S (by omega))]; exact W4.out.cell
    have RB : Boxed X (R + 1 + 1) 4 (.bool false) := (lw (R + 1 + 1) (by omega)).trans R4.out
    have r0 := RB.cell
    have r1 := RB.frozen
    have hn : ¬ un < m := by omega
    have e1 : min (m : Int) (un : Int) = (m : Int) := by omega
    have e2 : min m un = m := by omega
    have e4 : decide ((un : Int) < (m : Int)) = false := by rw [decide_eq_false_iff_not]; omega
    have e4' : decide (un < m) = false := by rw [decide_eq_false_iff_not]; omega
    have RS := Lib.hid (Boxed.set (.bool true) RB)
    have BX := Lib.hid (hI.below.setCell (p := ⟨R + 1 + 1, 0, none⟩) (by simp only; omega) (.bool true))
    have K2 : Hid ((X.setCell ⟨R + 1 + 1, 0, none⟩ (.bool true)).heap[D]? = some (.deferred (some []))) := Lib.hid ((KeepsOthers.setCell _ _ _).same D _ hK rfl)
    clear hlt hI hK lw RB hle a0 a1 a2 a3 a4 a5 a6 a7 a8 x1 x2
    refine wpIn_exit ?_
    go_wp2_with fail
    obtain ⟨Y, hY⟩ : ∃ Y, X.setCell ⟨R + 1 + 1, 0, none⟩ (.bool true) = Y := ⟨_, rfl⟩
    rw [hY] at RS BX K2 ⊢
    have r2 : (Y.putObj D (.deferred none)).cell? ⟨R + 1 + 1, 0, none⟩ = some (.bool true) := Boxed.cell (t := 4) ((World.putObj_heap_other (by omega)).trans RS.out)
    refine ⟨by simp, .inl ⟨_, _, rfl, run_takeDeferred K2.out, ?_⟩⟩
    refine ⟨.bool true, by simp [results, Try.f3, go_sem, r2], rfl, ?_⟩
    exact BX.out.trans ((sameBut_put _ _ _).below (by omega))
end Go.Proofs.Ytbcbfnkpnfbfjaa
