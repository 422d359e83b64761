/- The law FrameOnce walked. By an AI agent. -/
import Derived.Test.YtbcbfnkpnfbfjaaOncP
import Derived.Test.YtbcbfnkpnfbfjaaDataU
import Derived.Test.YtbcbfnkpnfbfjaaKeyI
import Derived.Test.YtbcbfnkpnfbfjaaLawU
namespace Go.Proofs.Ytbcbfnkpnfbfjaa
open Go.RowKit Go.BigFrame
set_option linter.unusedVariables false
set_option linter.unusedSimpArgs false
attribute [local go_sem] Oper.semAt_some

def bigO (n : Nat) (W H : Int) : Bool := decide ((n : Int) < 1) || decide ((4 : Int) < (n : Int)) || decide ((200 : Int) < W) || decide ((200 : Int) < H)
theorem bigO_false {n : Nat} {W H : Int} (h : bigO n W H = false) : (1 ≤ n ∧ n ≤ 4) ∧ W ≤ 200 ∧ H ≤ 200 := by
  simp only [bigO, Bool.or_eq_false_iff, decide_eq_false_iff_not] at h
  omega
theorem tyIO : ElemTy Try.prog 22 3 (.int .i64 0) 1 8 := elemTy Try.underlying22 (by kernel_rfl) rfl (by decide)
theorem owns_sliceO {w : World} {base n size : Nat} {e : TypeId} {v : Value} {xs : List Value} (h : w.ownsRow base e size v (n + 1) xs) : ∃ a c, v = .slice a (n + 1) c := by
  rcases h.2 with ⟨_, h0⟩ | ⟨g, cap, cur, rfl, _⟩
  · omega
  · exact ⟨_, _, rfl⟩
theorem KeyI.same {w w' : World} {b : Nat} {ks : List Int} (h : KeyI w b ks) (e : w'.heap[b]? = w.heap[b]?) : KeyI w' b ks :=
  let ⟨D, ⟨es, clock, h1, h2⟩, h3⟩ := h
  ⟨D, ⟨es, clock, e.trans h1, h2⟩, h3⟩
/-- where a loop that fills a set stands -/
structure OnI (M : Nat) (w w9 : World) (ks : List Int) (V : World) : Prop where
  low : ∀ b, b < w9.heap.size → b ≠ M → V.heap[b]? = w9.heap[b]?
  key : KeyI V M ks
  size : w9.heap.size ≤ V.heap.size
  below : Below w.heap.size w V
theorem OnI.since {M : Nat} {w w9 X Y : World} {ks : List Int} {s : Nat} (h : OnI M w w9 ks X) (hb : Below s X Y) (hs : w9.heap.size ≤ s) (hM : M < w9.heap.size) (hw : w.heap.size ≤ w9.heap.size) : OnI M w w9 ks Y :=
  ⟨fun b hb' hne => (hb.block b (by omega)).trans (h.low b hb' hne), h.key.same (hb.block M (by omega)), Nat.le_trans h.size hb.size, h.below.trans (hb.mono (by omega))⟩
theorem OnI.put {M : Nat} {w w9 X Y : World} {ks ks' : List Int} (h : OnI M w w9 ks X) (hk : KeyI Y M ks') (hg : X.grownBy Y (some M)) (hw : w.heap.size ≤ M) : OnI M w w9 ks' Y :=
  ⟨fun b hb hne => (hg.block b (by have := h.size; omega) (fun e => hne (Option.some.inj e))).trans (h.low b hb hne), hk, Nat.le_trans h.size hg.size, h.below.grown hg (by have := h.below.size; omega) fun j hj => by cases hj; exact hw⟩
theorem OnI.boxed {M : Nat} {w w9 V : World} {ks : List Int} (h : OnI M w w9 ks V) {b : Nat} {t : TypeId} {v : Value} (hb : Boxed w9 b t v) (hne : b ≠ M) : Boxed V b t v := (h.low b hb.lt hne).trans hb
/-- which part is asked for -/
theorem partO (M : Int) (n : Nat) (hn : 1 ≤ n ∧ n ≤ 4) : ∃ k : Nat, k < n ∧ wrap64 ((IntKind.u64.wrap M).tmod (IntKind.u64.wrap (n : Int))) = (k : Int) := by
  have h0 : 0 ≤ IntKind.u64.wrap M := by simp [IntKind.wrap, IntKind.signed, IntKind.bits]; omega
  have h1 : IntKind.u64.wrap (n : Int) = (n : Int) := by simp [IntKind.wrap, IntKind.signed, IntKind.bits]; omega
  rw [h1]
  have h2 := Int.emod_nonneg (IntKind.u64.wrap M) (show (n : Int) ≠ 0 by omega)
  have h3 := Int.emod_lt_of_pos (IntKind.u64.wrap M) (show (0 : Int) < (n : Int) by omega)
  refine ⟨(IntKind.u64.wrap M % (n : Int)).toNat, by omega, ?_⟩
  rw [Int.tmod_eq_emod_of_nonneg h0, IntWalk.wrap64_in _ (by omega)]
  omega
set_option maxRecDepth 100000 in
set_option maxHeartbeats 16000000 in
theorem lawOnce_any (P : PicL) (q0 q1 q2 q3 pv kv : Value) (M : Int) (w : World) (hp : PicC w P q0 q1 q2 q3 pv kv) (hB : PicB P) (hM : -9223372036854775808 ≤ M ∧ M ≤ 9223372036854775807) :
    Calls Try.prog 4 #[.agg (vPic P q0 q1 q2 q3 pv kv), .int .i64 M] w fun e w' => e = .returned (.bool true) ∧ Below w.heap.size w w' := by
  have hl := hB.parts
  obtain ⟨pa, pc, rfl, _⟩ := Els.len hp.parts
  have HPT := Lib.hid hp.parts
  clear hp hB
  obtain ⟨n, hn⟩ : ∃ n, P.parts.length = n := ⟨_, rfl⟩
  rw [hn] at HPT hl ⊢
  have HN := Lib.hid hn
  clear hn
  refine (callsIn_wide (n := 6)).1 ?_
  refine callsIn_of_wp_marks Try.func4 rfl trivial ?_ rfl
  simp only [Try.ntmps4, List.size_toArray, List.length_cons, List.length_nil, Nat.reduceAdd, Nat.reduceSub, Array.replicate_succ, Array.replicate_zero, List.push_toArray, List.append_toArray, List.nil_append, List.cons_append]
  refine wpIn_wide.2 ?_
  unfold vPic
  go_wp2_with fail
  refine (alive_any _).mono ?_; rintro e w1 ⟨rfl, hb1⟩
  obtain ⟨R, hR⟩ : ∃ R, w.heap.size = R := ⟨_, rfl⟩
  rw [hR]
  have q0' : PBox w1 R P q0 q1 q2 q3 (.slice pa n pc) kv := by rw [← hR]; exact PBox.old (PBox.old (heap_alloc_new _ _) ((Below.refl _ _).alloc (Nat.le_refl _) _)) hb1
  have q2' : Boxed w1 (R + 1) 4 (.bool false) := by
    rw [← hR]
    have h := Boxed.new (w.alloc (.cells #[.int .i64 P.w, .int .i64 P.h, q0, q1, q2, q3, .slice pa n pc, .int .i64 P.restart, kv] 27)) 4 (.bool false)
    simp only [World.size_alloc] at h
    exact boxed_below h hb1
  have bb : Below R w w1 := by rw [← hR]; exact (((Below.refl _ _).alloc (Nat.le_refl _) _).alloc (by simp) _).trans (hb1.mono (by simp; omega))
  have s1 : R + 2 ≤ w1.heap.size := by have := hb1.size; simp at this; omega
  have HR := Lib.hid hR
  have Q0 := Lib.hid q0'
  have Q2 := Lib.hid q2'
  have B1 := Lib.hid bb
  have S1 := Lib.hid s1
  obtain ⟨a0, a1, a2, a3, a4, a5, a6, a7, a8⟩ := q0'.cells
  have y1 := q2'.cell
  have y2 := q2'.frozen
  have RET : Hid (Below w.heap.size w (w1.setCell ⟨R + 1, 0, none⟩ (.bool true)) ∧ (w1.setCell ⟨R + 1, 0, none⟩ (.bool true)).cell? ⟨R + 1, 0, none⟩ = some (.bool true)) := Lib.hid ⟨by rw [HR.out]; exact B1.out.setCell (p := ⟨R + 1, 0, none⟩) (by simp only; omega) _, (Boxed.set (.bool true) Q2.out).cell⟩
  clear hb1 hR q0' q2' bb s1
  obtain ⟨big, hbg⟩ : ∃ b, bigO n P.w P.h = b := ⟨_, rfl⟩
  have BG := Lib.hid hbg
  clear hbg
  go_upto_region 3 with (fail)
  go_cut [39] from 20 to 39 (fun c wx => c = .bool big ∧ w1 = wx)
  case first =>
    have c1 : (decide ((n : Int) < 1) = true ∧ decide (n < 1) = true) ∨ (decide ((n : Int) < 1) = false ∧ decide (n < 1) = false) := by
      simp only [decide_eq_true_eq, decide_eq_false_iff_not]; omega
    have c2 : (decide ((4 : Int) < (n : Int)) = true ∧ decide (4 < n) = true) ∨ (decide ((4 : Int) < (n : Int)) = false ∧ decide (4 < n) = false) := by
      simp only [decide_eq_true_eq, decide_eq_false_iff_not]; omega
    rcases c1 with ⟨h3, h3'⟩ | ⟨h3, h3'⟩ <;> rcases c2 with ⟨h4, h4'⟩ | ⟨h4, h4'⟩ <;> rcases h5 : decide ((200 : Int) < P.w) with _ | _ <;> rcases h6 : decide ((200 : Int) < P.h) with _ | _
    all_goals
      have hbb := BG.out
      unfold bigO at hbb
      rw [h3, h4, h5, h6] at hbb
      have HBB := Lib.hid hbb
      clear hbb
      go_wp2_with fail
      go_meet
      exact ⟨by rw [← HBB.out]; rfl, rfl⟩
  case rest =>
  obtain ⟨rfl, rfl⟩ := hcut
  cases big with
  | true =>
    go_wp2_with fail
    have r := RET.out.2
    exact ⟨.bool true, by simp [results, Try.f4, go_sem, r], rfl, RET.out.1⟩
  | false =>
  have HNB : Hid ((1 ≤ n ∧ n ≤ 4) ∧ P.w ≤ 200 ∧ P.h ≤ 200) := Lib.hid (bigO_false BG.out)
  clear y1 y2 RET BG
  obtain ⟨S, hS⟩ : ∃ S, w1.heap.size = S := ⟨_, rfl⟩
  obtain ⟨w2, hw2⟩ : ∃ w2, w1.alloc (.cells #[] 3) = w2 := ⟨_, rfl⟩
  have b12 : Below w1.heap.size w1 w2 := by rw [← hw2]; exact (Below.refl _ _).alloc (Nat.le_refl _) _
  have O2 : Hid (w2.ownsRow S 3 1 (.slice (some ⟨S, 0, none⟩) 0 0) 0 []) := Lib.hid (by rw [← hw2, ← hS]; exact own0 _ _)
  have P2 := Lib.hid (Q0.out.old b12)
  have R2 := Lib.hid (boxed_below Q2.out b12)
  have SS : Hid (R + 2 ≤ S ∧ S ≤ w2.heap.size) := Lib.hid ⟨by rw [← hS]; exact S1.out, by rw [← hS]; exact b12.size⟩
  have B2 : Hid (Below R w w2) := Lib.hid (B1.out.trans (b12.mono (by have := S1.out; omega)))
  clear b12
  clear a0 a1 a2 a3 a4 a5 a6 a7 a8
  obtain ⟨a0, a1, a2, a3, a4, a5, a6, a7, a8⟩ := P2.out.cells
  go_upto_region 7 with (fail)
  try rw [hS]
  clear a0 a1 a2 a3 a4 a5 a6 a7 a8 hw2 hS
  have HNB1 := HNB.out.1
  -- the parts' numbers
  go_loopw [5, 44] (fun v i W => ∃ k : Nat, k ≤ n ∧ i = .int .i64 (k : Nat) ∧ W.ownsRow S 3 1 v k (vIs (numsO k)) ∧ Below S w2 W) (fun _ i _ => n - (intOf i).toNat)
  case atStart => exact ⟨0, Nat.zero_le _, rfl, O2.out, Below.refl _ _⟩
  case round =>
    obtain ⟨k, hk, rfl, hown, hb⟩ := hrel
    have OW := Lib.hid hown
    have BB := Lib.hid hb
    clear hown hb
    by_cases hkn : k < n
    · have f1 : decide ((k : Int) < (n : Int)) = true := by rw [decide_eq_true_eq]; omega
      have f1' : decide (k < n) = true := by rw [decide_eq_true_eq]; omega
      have gk : IntKind.i64.wrap ((k : Int) + 1) = (k : Int) + 1 := IntWalk.i64_in _ (by omega)
      have HKN := Lib.hid hkn
      go_wp2_with (at_builtin; refine stop ?_)
      refine unstop (wpList_app tyIO rfl _ _ rfl S _ k _ rfl (OW.out.alloc _) _ 1 [.int .i64 (k : Int)] rfl (sl_lit wr [.int .i64 (k : Int)] _ 1 rfl (by omega)) (by intro u hu; simp at hu; subst hu; rfl) (by omega) (by omega) (by have := BB.out.size; have := SS.out; simp; omega) ?_)
      intro v' w3 hown3 hg3 _
      have B3 : Hid (Below S w2 w3) := Lib.hid (by
        have hs : S ≤ wr.heap.size := Nat.le_trans SS.out.2 BB.out.size
        exact (BB.out.alloc hs _).grown hg3 (by simp; omega) fun j hj => (OW.out.lt j hj).1)
      obtain ⟨sa, sc, rfl⟩ := owns_sliceO hown3
      have O3 : Hid (w3.ownsRow S 3 1 (.slice sa (k + 1) sc) (k + 1) (vIs (numsO (k + 1)))) := Lib.hid (by
        rw [numsO_succ]
        exact hown3)
      clear hown3 hg3
      go_wp2_with fail
      go_roundw
      case rel => exact ⟨k + 1, HKN.out, by go_num, O3.out, B3.out⟩
      case measure => simp [intOf]; have := HKN.out; omega
    · obtain rfl : k = n := by omega
      have f1 : decide ((k : Int) < (k : Int)) = false := by rw [decide_eq_false_iff_not]; omega
      obtain ⟨kp, hkp, hke⟩ := partO M k HNB1
      have KP := Lib.hid hkp
      have PZ : Hid (PBox wr R P q0 q1 q2 q3 (.slice pa k pc) kv) := Lib.hid (by unfold PBox; rw [BB.out.block R (by have := SS.out; omega)]; exact P2.out)
      have RZ : Hid (Boxed wr (R + 1) 4 (.bool false)) := Lib.hid ((BB.out.block (R + 1) (by have := SS.out; omega)).trans R2.out)
      have BZ : Hid (Below R w wr ∧ S ≤ wr.heap.size) := Lib.hid ⟨B2.out.trans (BB.out.mono (by have := SS.out; omega)), Nat.le_trans SS.out.2 BB.out.size⟩
      have hz : ((k : Int) == 0) = false := by rw [beq_eq_false_iff_ne]; omega
      have hz' : (k == 0) = false := by rw [beq_eq_false_iff_ne]; omega
      have hw : IntKind.u64.wrap (k : Int) = (k : Int) := by simp [IntKind.wrap, IntKind.signed, IntKind.bits]; omega
      rw [hw] at hke
      obtain ⟨T, hT⟩ : ∃ T, wr.heap.size = T := ⟨_, rfl⟩
      obtain ⟨w3, hw3⟩ : ∃ w3, wr.alloc (.cells #[.int .i64 (kp : Int)] 3) = w3 := ⟨_, rfl⟩
      have b3 : Below wr.heap.size wr w3 := by rw [← hw3]; exact (Below.refl _ _).alloc (Nat.le_refl _) _
      have K3 : Hid (Boxed w3 T 3 (.int .i64 (kp : Int))) := Lib.hid (by rw [← hw3, ← hT]; exact Boxed.new _ _ _)
      have P3 := Lib.hid (PZ.out.old b3)
      have R3 := Lib.hid (boxed_below RZ.out b3)
      have O3 := Lib.hid (owns_below OW.out b3)
      have B3 : Hid (Below R w w3) := Lib.hid (BZ.out.1.trans (b3.mono (by have := BZ.out.2; have := SS.out; omega)))
      have TS : Hid (R + 2 ≤ T ∧ S ≤ T ∧ T < w3.heap.size) := Lib.hid ⟨by have := BZ.out.2; have := SS.out; omega, by have := BZ.out.2; omega, K3.out.lt⟩
      obtain ⟨a0, a1, a2, a3, a4, a5, a6, a7, a8⟩ := PZ.out.cells
      clear hkp hkn b3
      go_upto_region 12 with (fail)
      try rw [hT]
      clear a0 a1 a2 a3 a4 a5 a6 a7 a8 hw3 hT hke hw hz hz' f1 BB PZ RZ BZ OW
      obtain ⟨a0, a1, a2, a3, a4, a5, a6, a7, a8⟩ := P3.out.cells
      have k3 := K3.out.cell
      go_wp2_with fail
      refine (size_any P q0 q1 q2 q3 _ kv (kp : Int) w3 (HPT.out.old (by rw [HR.out]; exact B3.out)) (by have := HN.out; omega)).mono ?_
      rintro e w4 ⟨rfl, hb4⟩
      have K4 := Lib.hid (boxed_below K3.out hb4)
      have P4 := Lib.hid (P3.out.old hb4)
      have R4 := Lib.hid (boxed_below R3.out hb4)
      have O4 := Lib.hid (owns_below O3.out hb4)
      have B4 : Hid (Below R w w4) := Lib.hid (B3.out.trans (hb4.mono (by have := TS.out; omega)))
      have S4 : Hid (T < w4.heap.size) := Lib.hid K4.out.lt
      clear hb4 a0 a1 a2 a3 a4 a5 a6 a7 a8 k3 K3 P3 R3 O3 B3
      obtain ⟨sw, hsw⟩ : ∃ z, (sizeL P (kp : Int)).1 = z := ⟨_, rfl⟩
      obtain ⟨sh, hsh⟩ : ∃ z, (sizeL P (kp : Int)).2 = z := ⟨_, rfl⟩
      have HSW := Lib.hid hsw
      have HSH := Lib.hid hsh
      rw [hsw, hsh]
      clear hsw hsh
      obtain ⟨T2, hT2⟩ : ∃ T, w4.heap.size = T := ⟨_, rfl⟩
      obtain ⟨w5, hw5⟩ : ∃ w5, (w4.alloc (.cells #[.int .i64 sw] 3)).alloc (.cells #[.int .i64 sh] 3) = w5 := ⟨_, rfl⟩
      have b5 : Below w4.heap.size w4 w5 := by rw [← hw5]; exact ((Below.refl _ _).alloc (Nat.le_refl _) _).alloc (by simp) _
      have W5 : Hid (Boxed w5 T2 3 (.int .i64 sw)) := Lib.hid (by rw [← hw5, ← hT2]; exact (Boxed.new _ _ _).alloc _)
      have H5 : Hid (Boxed w5 (T2 + 1) 3 (.int .i64 sh)) := Lib.hid (by
        rw [← hw5, ← hT2]
        have h := Boxed.new (w4.alloc (.cells #[.int .i64 sw] 3)) 3 (.int .i64 sh)
        rw [World.size_alloc] at h
        exact h)
      have K5 := Lib.hid (boxed_below K4.out b5)
      have P5 := Lib.hid (P4.out.old b5)
      have R5 := Lib.hid (boxed_below R4.out b5)
      have O5 := Lib.hid (owns_below O4.out b5)
      have B5 : Hid (Below R w w5) := Lib.hid (B4.out.trans (b5.mono (by have := TS.out; have := S4.out; omega)))
      have TS2 : Hid (T < T2 ∧ T2 + 1 < w5.heap.size) := Lib.hid ⟨by rw [← hT2]; exact S4.out, H5.out.lt⟩
      clear b5
      go_upto_region 13 with (fail)
      try rw [hT2]
      clear hw5 hT2 K4 P4 R4 O4 B4 S4
      obtain ⟨a0, a1, a2, a3, a4, a5, a6, a7, a8⟩ := P5.out.cells
      have k5 := K5.out.cell
      go_wp2_with fail
      refine (own_any P q0 q1 q2 q3 _ kv (kp : Int) w5 (HPT.out.old (by rw [HR.out]; exact B5.out)) (by have := HN.out; omega)).mono ?_
      rintro e w6 ⟨rfl, hb6⟩
      have K6 := Lib.hid (boxed_below K5.out hb6)
      have P6 := Lib.hid (P5.out.old hb6)
      have R6 := Lib.hid (boxed_below R5.out hb6)
      have O6 := Lib.hid (owns_below O5.out hb6)
      have W6 := Lib.hid (boxed_below W5.out hb6)
      have H6 := Lib.hid (boxed_below H5.out hb6)
      have B6 : Hid (Below R w w6) := Lib.hid (B5.out.trans (hb6.mono (by have := TS.out; have := TS2.out; omega)))
      have S6 : Hid (T2 + 1 < w6.heap.size) := Lib.hid H6.out.lt
      clear hb6 a0 a1 a2 a3 a4 a5 a6 a7 a8 k5 K5 P5 R5 O5 B5 W5 H5
      obtain ⟨ow, how⟩ : ∃ z, (ownL P (kp : Int)).1 = z := ⟨_, rfl⟩
      obtain ⟨oh, hoh⟩ : ∃ z, (ownL P (kp : Int)).2 = z := ⟨_, rfl⟩
      have HOW := Lib.hid how
      have HOH := Lib.hid hoh
      rw [how, hoh]
      clear how hoh
      obtain ⟨T3, hT3⟩ : ∃ T, w6.heap.size = T := ⟨_, rfl⟩
      obtain ⟨w7, hw7⟩ : ∃ w7, (w6.alloc (.cells #[.int .i64 ow] 3)).alloc (.cells #[.int .i64 oh] 3) = w7 := ⟨_, rfl⟩
      have b7 : Below w6.heap.size w6 w7 := by rw [← hw7]; exact ((Below.refl _ _).alloc (Nat.le_refl _) _).alloc (by simp) _
      have A7 : Hid (Boxed w7 T3 3 (.int .i64 ow)) := Lib.hid (by rw [← hw7, ← hT3]; exact (Boxed.new _ _ _).alloc _)
      have C7 : Hid (Boxed w7 (T3 + 1) 3 (.int .i64 oh)) := Lib.hid (by
        rw [← hw7, ← hT3]
        have h := Boxed.new (w6.alloc (.cells #[.int .i64 ow] 3)) 3 (.int .i64 oh)
        rw [World.size_alloc] at h
        exact h)
      have K7 := Lib.hid (boxed_below K6.out b7)
      have P7 := Lib.hid (P6.out.old b7)
      have R7 := Lib.hid (boxed_below R6.out b7)
      have O7 := Lib.hid (owns_below O6.out b7)
      have W7 := Lib.hid (boxed_below W6.out b7)
      have H7 := Lib.hid (boxed_below H6.out b7)
      have B7 : Hid (Below R w w7) := Lib.hid (B6.out.trans (b7.mono (by have := TS.out; have := TS2.out; have := S6.out; omega)))
      have TS3 : Hid (T2 + 1 < T3 ∧ w7.heap.size = T3 + 2) := Lib.hid ⟨by rw [← hT3]; exact S6.out, by rw [← hw7, ← hT3]; simp⟩
      clear b7
      go_upto_region 14 with (fail)
      try rw [hT3]
      clear hw7 hT3 K6 P6 R6 O6 B6 S6 W6 H6
      have hmm := @run_makeMap Try.prog
      have z7 := TS3.out.2
      obtain ⟨w8, hw8⟩ : ∃ w8, (w7.alloc (.map #[] 0)).alloc (.cells #[.map (some (T3 + 2))] 43) = w8 := ⟨_, rfl⟩
      have b8 : Below w7.heap.size w7 w8 := by rw [← hw8]; exact ((Below.refl _ _).alloc (Nat.le_refl _) _).alloc (by simp) _
      have M8 : Hid (KeyI w8 (T3 + 2) []) := Lib.hid (by
        rw [← hw8, ← z7]
        exact (KeyI.made w7).kept (row := none) ⟨rfl, rfl, rfl, by simp, fun i hi _ => by have hi' : i < (w7.heap.push (Obj.map #[] 0)).size := hi; simp only [World.alloc, Array.getElem?_push]; rw [if_neg (by omega)]⟩ (by simp))
      have N8 : Hid (Boxed w8 (T3 + 3) 43 (.map (some (T3 + 2)))) := Lib.hid (by
        rw [← hw8]
        have h := Boxed.new (w7.alloc (.map #[] 0)) 43 (.map (some (T3 + 2)))
        rw [World.size_alloc, z7] at h
        exact h)
      have K8 := Lib.hid (boxed_below K7.out b8)
      have P8 := Lib.hid (P7.out.old b8)
      have R8 := Lib.hid (boxed_below R7.out b8)
      have O8 := Lib.hid (owns_below O7.out b8)
      have W8 := Lib.hid (boxed_below W7.out b8)
      have H8 := Lib.hid (boxed_below H7.out b8)
      have A8 := Lib.hid (boxed_below A7.out b8)
      have C8 := Lib.hid (boxed_below C7.out b8)
      have B8 : Hid (Below R w w8) := Lib.hid (B7.out.trans (b8.mono (by have := TS.out; have := TS2.out; have := TS3.out; omega)))
      have S8 : Hid (w8.heap.size = T3 + 4) := Lib.hid (by rw [← hw8]; simp [z7])
      clear b8
      go_upto_region 15 with (fail)
      clear hw8 K7 P7 R7 O7 B7 W7 H7 A7 C7 z7 hmm
      obtain ⟨a0, a1, a2, a3, a4, a5, a6, a7, a8⟩ := P8.out.cells
      have k8 := K8.out.cell
      have z8 := S8.out
      go_wp2_with fail
      refine (units_any P q0 q1 q2 q3 _ kv _ 1 _ _).mono ?_
      rintro e w9 ⟨rfl, hw9⟩
      have z9 : (w8.alloc (.cells #[.int .i64 (kp : Int)] 3)).heap.size = T3 + 5 := by simp [S8.out]
      have s9 : w9.heap.size = T3 + 7 := by rw [hw9]; simp [S8.out]
      have b9 : Below w8.heap.size w8 w9 := by rw [hw9]; exact (((Below.refl _ _).alloc (Nat.le_refl _) _).alloc (by simp) _).alloc (by simp; omega) _
      have x1 : PBox w9 (T3 + 5) P q0 q1 q2 q3 (.slice pa k pc) kv := by
        rw [hw9, ← z9]; exact heap_low (heap_alloc_new _ _) ((Below.refl _ _).alloc (Nat.le_refl _) _)
      have x2 : Boxed w9 (T3 + 6) 22 (.slice (some ⟨T3 + 4, 0, none⟩) 1 1) := by
        rw [hw9]
        have h := Boxed.new ((w8.alloc (.cells #[.int .i64 (kp : Int)] 3)).alloc (.cells (vPic P q0 q1 q2 q3 (.slice pa k pc) kv) 27)) 22 (.slice (some ⟨T3 + 4, 0, none⟩) 1 1)
        rw [World.size_alloc, z9] at h
        exact h
      rw [z9]
      go_wp2_with fail
      try rw [← vPic.eq_def P q0 q1 q2 q3 (.slice pa k pc) kv]
      rw [← hw9]
      have M9 : Hid (KeyI w9 (T3 + 2) []) := Lib.hid (M8.out.same (b9.block _ (by rw [S8.out]; omega)))
      have N9 := Lib.hid (boxed_below N8.out b9)
      have K9 := Lib.hid (boxed_below K8.out b9)
      have P9 := Lib.hid (P8.out.old b9)
      have R9 := Lib.hid (boxed_below R8.out b9)
      have O9 := Lib.hid (owns_below O8.out b9)
      have W9 := Lib.hid (boxed_below W8.out b9)
      have H9 := Lib.hid (boxed_below H8.out b9)
      have A9 := Lib.hid (boxed_below A8.out b9)
      have C9 := Lib.hid (boxed_below C8.out b9)
      have B9 : Hid (Below w.heap.size w w9) := Lib.hid (by rw [HR.out]; exact B8.out.trans (b9.mono (by have := TS.out; have := TS2.out; have := TS3.out; have := S8.out; omega)))
      have L9 : Hid (w9.ownsRow w.heap.size 3 1 (.slice (some ⟨T3 + 4, 0, none⟩) 1 1) 1 (vIs [(kp : Int)])) := Lib.hid ⟨rfl, .inr ⟨T3 + 4, 1, #[.int .i64 (kp : Int)], rfl, by rw [HR.out]; have := TS.out; have := TS2.out; have := TS3.out; omega, by
        have h := heap_alloc_new w8 (.cells #[.int .i64 (kp : Int)] 3)
        rw [S8.out] at h
        rw [hw9]
        exact heap_low (heap_low h ((Below.refl _ _).alloc (Nat.le_refl _) _)) ((Below.refl _ _).alloc (Nat.le_refl _) _), Nat.le_refl _, by decide, rfl, rfl⟩⟩
      have TT : Hid (w.heap.size = R ∧ R + 2 ≤ S ∧ S ≤ T ∧ T < T2 ∧ T2 + 1 < T3 ∧ w9.heap.size = T3 + 7) := Lib.hid ⟨HR.out, SS.out.1, TS.out.2.1, TS2.out.1, TS3.out.1, s9⟩
      clear b9 hw9 z9 B8 M8 N8 K8 P8 R8 O8 W8 H8 A8 C8 S8 k8 z8 a0 a1 a2 a3 a4 a5 a6 a7 a8 TS TS2 TS3 SS B2 P2 R2 O2
      have tt := TT.out
      have hbs9 : ∀ b ∈ List.range w.heap.size ++ [T3 + 4], b < w9.heap.size := fun b hb => by
        rcases List.mem_append.1 hb with h | h
        · have := List.mem_range.1 h; omega
        · simp only [List.mem_singleton] at h; omega
      have dw : (Low w.heap.size w w9 ∧ w.heap.size ≤ w9.heap.size) ∧ w9.ownsRow w.heap.size 3 1 (.slice (some ⟨T3 + 4, 0, none⟩) 1 1) [(kp : Int)].length (vIs [(kp : Int)]) := ⟨⟨Low.below B9.out (Nat.le_refl _), B9.out.size⟩, L9.out⟩
      refine wpIn_wide.1 (rangeU (n := 6) (by omega) (gf := 24) (lb := #[.pointer (some ⟨T3 + 6, 0, none⟩), .pointer (some ⟨T3 + 5, 0, none⟩)]) rfl (enters_of Try.func24 (by kernel_rfl) rfl)
        (units_seq (6 - 1) (T3 + 6) (T3 + 5) (List.range w.heap.size ++ [T3 + 4]) P _ _ _ _ _ _ (.slice (some ⟨T3 + 4, 0, none⟩) 1 1) [(kp : Int)] _ w9 (fun U => dataU_own (base := w.heap.size) HPT.out (fun b hb => List.mem_append.2 (.inl (List.mem_range.2 hb))) (fun g hg => by cases hg; simp)) dw (by have := HN.out; omega) (by simp) x2.cell x1) (Below.refl _ _) (fun _ => rfl) hbs9
        (fun pre V => ∃ ks : List Int, ks.length = pre.length ∧ (∀ z ∈ ks, ∃ q', q' < pre.length ∧ z = ((placeS (sizeL P (kp : Int)).1.toNat (ownW P (kp : Int)) q' : Nat) : Int)) ∧ OnI (T3 + 2) w w9 ks V) (fun c pre V => False)
        (fun s X Y h hb => by obtain ⟨ks, h1, h2, h3⟩ := h; exact ⟨ks, h1, h2, h3.since hb (Nat.le_refl _) (by omega) (by omega)⟩) (fun c s X Y h hb => h) ⟨[], rfl, by simp, ⟨fun b _ _ => rfl, M9.out, Nat.le_refl _, B9.out⟩⟩ ?round ?done ?stop)
      case round =>
        -- [q1
        rintro ll pre x X hl hlX hloop ⟨ks, hkl, hks, hI⟩ ⟨hqn, hU⟩
        rw [s9] at hl
        obtain ⟨q, hq⟩ : ∃ q, pre.length = q := ⟨_, rfl⟩
        rw [hq] at hkl hks hqn hU
        obtain ⟨p, hup, hpp, ho0, hos, hpb, hs0, ⟨hm0, hm1⟩, hd0, hd1⟩ := single_place P (kp : Int) q hqn
        have hU' := hU
        obtain ⟨xa, xc, rfl, hux⟩ := unitV_at hU
        rw [hup] at hux ⊢
        obtain ⟨xb, xo, rfl, x1', x2'⟩ := hux 0 (by simp)
        simp only [List.getElem_cons_zero, Nat.zero_mul, Nat.add_zero] at x1' x2'
        have e1 : ([((kp : Int), (p : Int))] : List (Int × Int)).length = 1 := rfl
        rw [e1]
        rw [HSW.out] at hm0 hm1 hd0 hd1 hs0
        rw [HOW.out] at hm1
        rw [HOH.out] at hd1
        obtain ⟨mr, hmr⟩ : ∃ z, (p : Int) % sw = z := ⟨_, rfl⟩
        obtain ⟨dq, hdq⟩ : ∃ z, (p : Int) / sw = z := ⟨_, rfl⟩
        have t1 : (p : Int).tmod sw = mr := by rw [← hmr]; exact Int.tmod_eq_emod_of_nonneg (by omega)
        have t2 : (p : Int).tdiv sw = dq := by rw [← hdq]; exact Int.tdiv_eq_ediv_of_nonneg (by omega)
        rw [hmr] at hm0 hm1
        rw [hdq] at hd0 hd1
        have OWI : Hid (ow ≤ 262140 ∧ oh ≤ 262140) := Lib.hid (by
          have o := ownL_in P (kp : Int)
          rw [HOW.out, HOH.out] at o
          exact ⟨o.1.2, o.2.2⟩)
        have t5 : IntKind.i64.wrap mr = mr := IntWalk.i64_in _ (by have := OWI.out; omega)
        have t6 : IntKind.i64.wrap dq = dq := IntWalk.i64_in _ (by have := OWI.out; omega)
        have zz : (sw == 0) = false := by rw [beq_eq_false_iff_ne]; omega
        have zz2 : ¬ sw = 0 := by omega
        have v1 : decide (ow ≤ mr) = false := decide_eq_false (by omega)
        have v2 : decide (oh ≤ dq) = false := decide_eq_false (by omega)
        have FR : Hid ((p : Int) ∉ ks) := Lib.hid (by
          rw [hpp]
          exact fresh_single ho0 hos hks)
        have KL : Hid (ks.length = q) := Lib.hid hkl
        have KS := Lib.hid hks
        have HPP := Lib.hid hpp
        have HQ := Lib.hid hq
        have HI := Lib.hid hI
        have HPB := Lib.hid hpb
        have QB : Hid (q < 68717379600) := Lib.hid (Nat.lt_of_lt_of_le hqn (own_units_le P _))
        have HLP := Lib.hid hloop
        have X1 := Lib.hid x1'
        have X2 := Lib.hid x2'
        clear hU hU' hup hpp ho0 hos hpb hm0 hm1 hd0 hd1 hs0 hmr hdq hkl hks hq hI hloop hqn x1 x2 x1' x2' hux
        gi_wp2
        refine ⟨KeepsFrom.refl _ _, fun V hV => ?_⟩
        have HV := Lib.hid hV
        have hM : T3 + 2 ≠ ll := by omega
        have IV : Hid (OnI (T3 + 2) w w9 ks V) := Lib.hid ⟨fun b hb hne => (hV.block b (by omega)).trans (HI.out.low b hb hne), HI.out.key.same (hV.block _ hM), by rw [hV.size]; exact HI.out.size, HI.out.below.trans (hV.below (by have := HI.out.below.size; omega))⟩
        have x1 := same_cell hV HLP.out X1.out
        have x2 := same_cell hV HLP.out X2.out
        have k1 := (IV.out.boxed K9.out (by omega)).cell
        have k2 := (IV.out.boxed W9.out (by omega)).cell
        have k3 := (IV.out.boxed A9.out (by omega)).cell
        have k4 := (IV.out.boxed C9.out (by omega)).cell
        have k5 := (IV.out.boxed N9.out (by omega)).cell
        clear hV X1 X2
        gi_wp2_with fail
        refine wpIn_region_q (fun Y => Y.cell? ⟨xb, xo, none⟩ = some (.int .i64 (kp : Int)) ∧ Y.cell? ⟨xb, xo + 1, none⟩ = some (.int .i64 (p : Int)) ∧ Y.cell? ⟨T, 0, none⟩ = some (.int .i64 (kp : Int)) ∧ Y.cell? ⟨T2, 0, none⟩ = some (.int .i64 sw) ∧ Y.cell? ⟨T3, 0, none⟩ = some (.int .i64 ow) ∧ Y.cell? ⟨T3 + 1, 0, none⟩ = some (.int .i64 oh) ∧ Below V.heap.size V Y) (by kernel_rfl) (by kernel_rfl) (by kernel_rfl) (fun _ _ h => h) ⟨cell_old (Below.refl _ _).drew x1, cell_old (Below.refl _ _).drew x2, cell_old (Below.refl _ _).drew k1, cell_old (Below.refl _ _).drew k2, cell_old (Below.refl _ _).drew k3, cell_old (Below.refl _ _).drew k4, (Below.refl _ _).drew⟩ ?_
        have X2 := Lib.hid x2
        have N5 := Lib.hid k5
        clear x1 x2 k1 k2 k3 k4 k5 hM
        repeat
          first
          | go_big_quiet_skip
          | (go_big_quiet_want
             first
             | (go_big_quiet_op; go_big_quiet_on)
             | (apply Exists.intro
                refine ⟨fun X hX => ?_, ?_⟩
                · obtain ⟨e1, e2, e3, e4, e5, e6, eZ⟩ := hX
                  clear eZ
                  unfold Oper.quietAt
                  go_simp
                  first
                  | exact ⟨rfl, rfl⟩
                  | exact rfl
                go_big_quiet_on
                try simp only [Act.put, List.setIfInBounds_toArray, List.set_cons_zero, List.set_cons_succ]))
        refine wpQuiet_nil ?_
        rintro Y ⟨-, -, -, -, -, -, hbY⟩
        have x2 := cell_old hbY X2.out
        have k5 := cell_old hbY N5.out
        have IY : Hid (OnI (T3 + 2) w w9 ks Y) := Lib.hid (IV.out.since hbY IV.out.size (by omega) (by omega))
        have BY : Hid (Below V.heap.size V Y) := Lib.hid hbY
        have RP : Hid (R64 (p : Int)) := Lib.hid (by unfold R64; have := HPB.out; omega)
        have lk : (Instr.lookup 43 (.map (some (T3 + 2))) (.int .i64 (p : Int)) false).run Try.prog Y.drew = .ok (.int .i64 0) Y.drew := by
          have h := (IY.out.key.same (w' := Y.drew) rfl).look RP.out
          rw [if_neg FR.out] at h
          exact h
        have LK := Lib.hid lk
        clear hbY lk t1 t2 t5 t6 zz zz2 v1 v2 X2 N5
        gi_wp2_with fail
        refine wpIn_region_qt (fun Z => Z.cell? ⟨T3 + 3, 0, none⟩ = some (.map (some (T3 + 2))) ∧ Z.cell? ⟨xb, xo + 1, none⟩ = some (.int .i64 (p : Int)) ∧ (Instr.lookup 43 (.map (some (T3 + 2))) (.int .i64 (p : Int)) false).run Try.prog Z = .ok (.int .i64 0) Z ∧ Below Y.heap.size Y Z) 7 (by kernel_rfl) (by kernel_rfl) (by kernel_rfl) (fun _ _ h => h) ⟨cell_old (Below.refl _ _).drew k5, cell_old (Below.refl _ _).drew x2, LK.out, (Below.refl _ _).drew⟩ ?_
        simp only [List.take_succ_cons, List.take_zero, List.drop_succ_cons, List.drop_zero]
        clear x2 k5 LK
        repeat
          first
          | go_big_quiet_skip
          | (go_big_quiet_want
             first
             | (go_big_quiet_op; go_big_quiet_on)
             | (apply Exists.intro
                refine ⟨fun X hX => ?_, ?_⟩
                · obtain ⟨e1, e2, e3, eZ⟩ := hX
                  clear eZ
                  unfold Oper.quietAt
                  go_simp
                  first
                  | exact ⟨rfl, rfl⟩
                  | exact rfl
                go_big_quiet_on
                try simp only [Act.put, List.setIfInBounds_toArray, List.set_cons_zero, List.set_cons_succ]))
        refine wpQuiet_nil ?_
        rintro Z ⟨-, -, -, hbZ⟩
        have IZ : Hid (OnI (T3 + 2) w w9 ks Z) := Lib.hid (IY.out.since hbZ IY.out.size (by omega) (by omega))
        have BZ : Hid (Below V.heap.size V Z) := Lib.hid (BY.out.trans (hbZ.mono BY.out.size))
        obtain ⟨Z2, hup, hK2, hg2⟩ := IZ.out.key.add (by unfold maxLen; have := KL.out; have := QB.out; omega) RP.out FR.out
        have I2 : Hid (OnI (T3 + 2) w w9 ((p : Int) :: ks) Z2) := Lib.hid (IZ.out.put hK2 hg2 (by omega))
        have KF : Hid (KeepsFrom w9.heap.size V Z2) := Lib.hid ((keepsFrom_below BZ.out).trans (KeepsFrom.of_grownBy hg2 fun j hj => by cases hj; omega))
        have KU : Hid (KeepU (List.range w.heap.size ++ [T3 + 4]) (w9.heap.size + 2) X Z2) := Lib.hid (by
          have hvs : V.heap.size = X.heap.size := HV.out.size
          refine KeepU.trans (KeepU.trans ⟨by omega, fun b hb hlt => HV.out.block b ?_⟩ (KeepU.below BZ.out)) ⟨hg2.size, fun b hb hlt => hg2.block b hlt fun e => ?_⟩
          · rcases hb with hb | hb
            · have := hbs9 b hb; omega
            · omega
          · have e' : b = T3 + 2 := Option.some.inj e
            rcases hb with hb | hb
            · rcases List.mem_append.1 hb with h | h
              · have := List.mem_range.1 h; omega
              · simp only [List.mem_singleton] at h; omega
            · omega)
        clear hbZ hK2 hg2
        go_wp2_with fail
        rw [hup]
        simp only [Result.andThen_ok, Act.put]
        go_wp2_with fail
        gi_wp2_with fail
        refine ⟨KF.out, KU.out, _, ?_, ?_, I2.out⟩
        · have := KL.out; have := HQ.out; simp; omega
        · intro z hz
          rcases List.mem_cons.1 hz with rfl | hz
          · exact ⟨q, by have := HQ.out; simp; omega, by rw [← HPP.out]⟩
          · obtain ⟨q', h1, h2⟩ := KS.out z hz
            exact ⟨q', by have := HQ.out; simp; omega, h2⟩
        -- q]
      case done =>
        rintro D pre X hD hDX hfin ⟨ks, hkl, hks, hI⟩ hK
        have hfin' : pre.length = unitsN P [(kp : Int)] := hfin
        obtain ⟨un, hun⟩ : ∃ un, unitsN P [(kp : Int)] = un := ⟨_, rfl⟩
        have UB : Hid (un ≤ 68717379600) := Lib.hid (by rw [← hun]; exact own_units_le P _)
        have pr := own_units P (kp : Int)
        rw [HOW.out, HOH.out, hun] at pr
        rw [hfin', hun] at hkl
        have e1 : wrap64 (ow * oh) = (un : Int) := by rw [pr]; exact IntWalk.wrap64_in _ (by have := UB.out; omega)
        have e2 : IntKind.i64.wrap (ow * oh) = (un : Int) := by rw [pr]; exact IntWalk.i64_in _ (by have := UB.out; omega)
        have e3 : ((un : Int) != (un : Int)) = false := by rw [bne_eq_false_iff_eq]
        have e4 : (un != un) = false := by rw [bne_eq_false_iff_eq]
        have ln : (Builtin.len_ #[43] 3 #[.map (some (T3 + 2))]).run Try.prog X = .ok (.int .i64 (un : Int)) X := by
          have h := hI.key.len 3
          rw [hkl] at h
          exact h
        obtain ⟨va, vc, rfl⟩ := owns_len O9.out
        have HI := Lib.hid hI
        have HK := Lib.hid hK
        have HD : Hid (w9.heap.size ≤ D ∧ D < X.heap.size) := Lib.hid ⟨hD, hDX⟩
        have k1 := (hI.boxed K9.out (by omega)).cell
        have k2 := (hI.boxed W9.out (by omega)).cell
        have k3 := (hI.boxed A9.out (by omega)).cell
        have k4 := (hI.boxed C9.out (by omega)).cell
        have k5 := (hI.boxed N9.out (by omega)).cell
        have k6 := (hI.boxed H9.out (by omega)).cell
        have RB : Boxed X (R + 1) 4 (.bool false) := hI.boxed R9.out (by omega)
        obtain ⟨l1, l2⟩ := own_le_size P (kp : Int)
        rw [HOW.out, HSW.out] at l1
        rw [HOH.out, HSH.out] at l2
        have d1 : decide (ow ≤ sw) = true := decide_eq_true l1
        have d2 : decide (oh ≤ sh) = true := decide_eq_true l2
        have LE : Hid (ow ≤ sw ∧ oh ≤ sh) := Lib.hid ⟨l1, l2⟩
        clear hfin hfin' hks hI hK hD hDX x1 x2 hun pr hkl l1 l2
        by_cases hk1 : k = 1
        · subst hk1
          have r0 := RB.cell
          have r1 := RB.frozen
          have RS := Lib.hid (Boxed.set (.bool true) RB)
          have BX := Lib.hid (HI.out.below.setCell (p := ⟨R + 1, 0, none⟩) (by simp only; omega) (.bool true))
          have K2 : Hid ((X.setCell ⟨R + 1, 0, none⟩ (.bool true)).heap[D]? = some (.deferred (some []))) := Lib.hid ((KeepsOthers.setCell _ _ _).same D _ HK.out rfl)
          have hd := HD.out.1
          clear RB
          go_wp2_with fail
          obtain ⟨Y, hY⟩ : ∃ Y, X.setCell ⟨R + 1, 0, none⟩ (.bool true) = Y := ⟨_, rfl⟩
          rw [hY] at RS BX K2 ⊢
          have r2 : (Y.putObj D (.deferred none)).cell? ⟨R + 1, 0, none⟩ = some (.bool true) := Boxed.cell (t := 4) ((World.putObj_heap_other (by omega)).trans RS.out)
          refine ⟨by simp, .inl ⟨_, _, rfl, run_takeDeferred K2.out, ?_⟩⟩
          refine ⟨.bool true, by simp [results, Try.f4, go_sem, r2], rfl, ?_⟩
          exact BX.out.trans ((sameBut_put _ _ _).below (by omega))
        have z1 : ((k : Int) == 1) = false := by rw [beq_eq_false_iff_ne]; omega
        have z2 : (k == 1) = false := by rw [beq_eq_false_iff_ne]; exact hk1
        have HK2 : Hid (2 ≤ k) := Lib.hid (by omega)
        obtain ⟨g, hg⟩ : ∃ g, va = some ⟨g, 0, none⟩ := by
          rcases O9.out.2 with ⟨h1, h2⟩ | ⟨g, cap, cur, h1, _⟩
          · omega
          · exact ⟨g, by cases h1; rfl⟩
        subst hg
        have HG : Hid (S ≤ g ∧ g < w9.heap.size ∧ g ≠ T3 + 2) := Lib.hid (by
          obtain ⟨h1, h2⟩ := O9.out.lt g rfl
          refine ⟨h1, h2, ?_⟩
          rintro rfl
          obtain ⟨Dm, ⟨es, clock, hm, _⟩, _⟩ := M9.out
          rcases O9.out.2 with ⟨h1, _⟩ | ⟨g', cap, cur, h1, _, h3, _⟩
          · cases h1
          · cases h1
            rw [hm] at h3
            cases h3)
        obtain ⟨Sx, hSx⟩ : ∃ Sx, X.heap.size = Sx := ⟨_, rfl⟩
        obtain ⟨w10, hw10⟩ : ∃ w10, (X.alloc (.map #[] 0)).alloc (.cells #[.map (some Sx)] 43) = w10 := ⟨_, rfl⟩
        have b10 : Below X.heap.size X w10 := by rw [← hw10]; exact ((Below.refl _ _).alloc (Nat.le_refl _) _).alloc (by simp) _
        have s10 : w10.heap.size = Sx + 2 := by rw [← hw10, ← hSx]; simp
        have M10 : Hid (KeyI w10 Sx []) := Lib.hid (by
          rw [← hw10, ← hSx]
          exact (KeyI.made X).same (by
            have h := ((Below.refl (X.alloc (.map #[] 0)).heap.size (X.alloc (.map #[] 0))).alloc (Nat.le_refl _) (.cells #[.map (some X.heap.size)] 43)).block X.heap.size (by simp)
            exact h))
        have N10 : Hid (Boxed w10 (Sx + 1) 43 (.map (some Sx))) := Lib.hid (by
          rw [← hw10, ← hSx]
          have h := Boxed.new (X.alloc (.map #[] 0)) 43 (.map (some X.heap.size))
          rw [World.size_alloc] at h
          exact h)
        have HX : Hid (T3 + 7 ≤ Sx ∧ D < Sx ∧ w9.heap.size ≤ D) := Lib.hid (by have := HI.out.size; have := HD.out; omega)
        have PX : Hid (PBox X R P q0 q1 q2 q3 (.slice pa k pc) kv) := Lib.hid (by unfold PBox; rw [HI.out.low R (by omega) (by omega)]; exact P9.out)
        have P10 := Lib.hid (PX.out.old b10)
        obtain ⟨a0, a1, a2, a3, a4, a5, a6, a7, a8⟩ := P10.out.cells
        have hmm := @run_makeMap Try.prog
        clear RB
        go_upto_region 25 with (fail)
        try rw [hSx]
        try rw [hw10]
        clear k1 k2 k3 k4 k5 k6 hmm e1 e2 e3 e4 ln z1 z2 d1 d2
        go_wp2_with fail
        refine (units_any P q0 q1 q2 q3 _ kv _ k _ _).mono ?_
        rintro e w11 ⟨rfl, hw11⟩
        have s11 : w11.heap.size = Sx + 4 := by rw [hw11]; simp [s10]
        have b11 : Below X.heap.size X w11 := by rw [hw11]; exact (b10.alloc (by rw [s10, hSx]; omega) _).alloc (by simp [s10]; omega) _
        have x1 : PBox w11 (Sx + 2) P q0 q1 q2 q3 (.slice pa k pc) kv := by
          rw [hw11, ← s10]; exact heap_low (heap_alloc_new _ _) ((Below.refl _ _).alloc (Nat.le_refl _) _)
        have x2 : Boxed w11 (Sx + 3) 22 (.slice (some ⟨g, 0, none⟩) k vc) := by
          rw [hw11]
          have h := Boxed.new (w10.alloc (.cells (vPic P q0 q1 q2 q3 (.slice pa k pc) kv) 27)) 22 (.slice (some ⟨g, 0, none⟩) k vc)
          rw [World.size_alloc, s10] at h
          exact h
        have bx : Below w10.heap.size w10 w11 := by rw [hw11]; exact ((Below.refl _ _).alloc (Nat.le_refl _) _).alloc (by simp) _
        have M11 : Hid (KeyI w11 Sx []) := Lib.hid (M10.out.same (bx.block _ (by rw [s10]; omega)))
        have N11 := Lib.hid (boxed_below N10.out bx)
        rw [s10]
        go_wp2_with fail
        try rw [← vPic.eq_def P q0 q1 q2 q3 (.slice pa k pc) kv]
        rw [← hw11]
        have K11 := Lib.hid (boxed_below (HI.out.boxed K9.out (by omega)) b11)
        have W11 := Lib.hid (boxed_below (HI.out.boxed W9.out (by omega)) b11)
        have H11 := Lib.hid (boxed_below (HI.out.boxed H9.out (by omega)) b11)
        have A11 := Lib.hid (boxed_below (HI.out.boxed A9.out (by omega)) b11)
        have C11 := Lib.hid (boxed_below (HI.out.boxed C9.out (by omega)) b11)
        have R11 := Lib.hid (boxed_below (HI.out.boxed R9.out (by omega)) b11)
        have D11 : Hid (w11.heap[D]? = some (.deferred (some []))) := Lib.hid ((b11.block D (by have := HD.out; omega)).trans HK.out)
        have B11 : Hid (Below w.heap.size w w11) := Lib.hid (HI.out.below.trans (b11.mono (by have := HI.out.size; omega)))
        have O11 : Hid (w11.ownsRow S 3 1 (.slice (some ⟨g, 0, none⟩) k vc) (numsO k).length (vIs (numsO k))) := Lib.hid (by
          rw [numsO_length]
          refine owns_below (owns_same O9.out fun g' hg' => ?_) b11
          cases hg'
          exact HI.out.low g HG.out.2.1 HG.out.2.2)
        have ss11 : Hid (w11.heap.size = Sx + 4) := Lib.hid s11
        have hX := HX.out
        have hG := HG.out
        clear hw10 hw11 b10 b11 bx s10 a0 a1 a2 a3 a4 a5 a6 a7 a8 M10 N10 P10 PX M9 K9 W9 H9 A9 C9 R9 N9 P9 L9 dw hbs9
        have hbs11 : ∀ b ∈ List.range w.heap.size ++ [g], b < w11.heap.size := fun b hb => by
          rcases List.mem_append.1 hb with h | h
          · have := List.mem_range.1 h; omega
          · simp only [List.mem_singleton] at h; omega
        have dw2 : (Low w.heap.size w w11 ∧ w.heap.size ≤ w11.heap.size) ∧ w11.ownsRow S 3 1 (.slice (some ⟨g, 0, none⟩) k vc) (numsO k).length (vIs (numsO k)) := ⟨⟨Low.below B11.out (Nat.le_refl _), B11.out.size⟩, O11.out⟩
        refine wpIn_wide.1 (rangeU (n := 6) (by omega) (gf := 24) (lb := #[.pointer (some ⟨Sx + 3, 0, none⟩), .pointer (some ⟨Sx + 2, 0, none⟩)]) rfl (enters_of Try.func24 (by kernel_rfl) rfl)
          (units_seq (6 - 1) (Sx + 3) (Sx + 2) (List.range w.heap.size ++ [g]) P _ _ _ _ _ _ (.slice (some ⟨g, 0, none⟩) k vc) (numsO k) _ w11 (fun U => dataU_own (base := S) HPT.out (fun b hb => List.mem_append.2 (.inl (List.mem_range.2 hb))) (fun g' hg' => by cases hg'; simp)) dw2 (by have := HN.out; omega) (by rw [numsO_length]; omega) x2.cell x1) (Below.refl _ _) (fun _ => rfl) hbs11
          (fun pre V => ∃ ks : List Int, PlK P (kp : Int) pre.length 0 ks ∧ OnI Sx w w11 ks V) (fun c pre V => False)
          (fun s X Y h hb => by obtain ⟨ks, h1, h3⟩ := h; exact ⟨ks, h1, h3.since hb (Nat.le_refl _) (by omega) (by omega)⟩) (fun c s X Y h hb => h) ⟨[], PlK.zero P _, ⟨fun b _ _ => rfl, M11.out, Nat.le_refl _, B11.out⟩⟩ ?round2 ?done2 ?stop2)
        case round2 =>
          -- [q2
          rintro ll pre x X' hl hlX hloop ⟨ks0, hks, hI⟩ ⟨hqn, hU⟩
          rw [ss11.out] at hl
          obtain ⟨q, hq⟩ : ∃ q, pre.length = q := ⟨_, rfl⟩
          rw [hq] at hks hqn hU
          obtain ⟨u, hu⟩ : ∃ u, unitsF P (numsO k) q = u := ⟨_, rfl⟩
          rw [hu] at hU
          obtain ⟨xa, xc, rfl, hux⟩ := unitV_at hU
          have UL : Hid (u.length ≤ 65) := Lib.hid (by
            rw [← hu]
            have h := unitsF_len hqn
            rw [numsO_length] at h
            omega)
          obtain ⟨n, hn⟩ : ∃ n, u.length = n := ⟨_, rfl⟩
          rw [hn] at UL ⊢
          obtain ⟨tot, htot⟩ : ∃ t, unitsN P (numsO k) * partN P (kp : Int) = t := ⟨_, rfl⟩
          have pr : sw * sh = (tot : Int) := by
            have h := size_units P k kp HK2.out KP.out HN.out
            rw [HSW.out, HSH.out, htot] at h
            exact h
          have TB : Hid (tot ≤ 68717379600) := Lib.hid (by rw [← htot]; exact size_units_le P k kp HK2.out KP.out HN.out)
          have e1 : wrap64 (sw * sh) = (tot : Int) := by rw [pr]; exact IntWalk.wrap64_in _ (by have := TB.out; omega)
          have e2 : IntKind.i64.wrap (sw * sh) = (tot : Int) := by rw [pr]; exact IntWalk.i64_in _ (by have := TB.out; omega)
          have HTOT := Lib.hid htot
          have HNU := Lib.hid hn
          have HU := Lib.hid hu
          have HQ := Lib.hid hq
          have HQN := Lib.hid hqn
          have HKS := Lib.hid hks
          have HI2 := Lib.hid hI
          have HLP := Lib.hid hloop
          have HUX : Hid (∀ i (hi : i < u.length), ∃ b o, xa = some ⟨b, o, none⟩ ∧ X'.cell? ⟨b, o + i * 2, none⟩ = some (.int .i64 u[i].1) ∧ X'.cell? ⟨b, o + i * 2 + 1, none⟩ = some (.int .i64 u[i].2)) := Lib.hid hux
          clear hU hux hu hn htot pr hq hqn hks hI hloop x1 x2
          gi_wp2
          refine ⟨KeepsFrom.refl _ _, fun V hV => ?_⟩
          have HV := Lib.hid hV
          have hM : Sx ≠ ll := by omega
          have IV : Hid (OnI Sx w w11 ks0 V) := Lib.hid ⟨fun b hb hne => (hV.block b (by omega)).trans (HI2.out.low b hb hne), HI2.out.key.same (hV.block _ hM), by rw [hV.size]; exact HI2.out.size, HI2.out.below.trans (hV.below (by have := HI2.out.below.size; omega))⟩
          clear hV
          gi_wp2_with fail
          gi_loopw [140] (fun i Z => ∃ (j : Nat) (ks : List Int), i = .int .i64 (j : Nat) ∧ j ≤ n ∧ PlK P (kp : Int) q (cntK (kp : Int) (u.take j)) ks ∧ OnI Sx w w11 ks Z ∧ V.heap.size ≤ Z.heap.size ∧ ∀ b, b < V.heap.size → b ≠ Sx → Z.heap[b]? = V.heap[b]?) (fun i _ => n - (intOf i).toNat)
          case atStart => exact ⟨0, ks0, rfl, Nat.zero_le _, by rw [cntK_zero]; exact HKS.out, IV.out, Nat.le_refl _, fun _ _ _ => rfl⟩
          case round =>
            obtain ⟨j, ks, rfl, hj, hks, hIz, hsz, hlz⟩ := hrel
            have IZ := Lib.hid hIz
            have KS := Lib.hid hks
            have LZ := Lib.hid hlz
            have SZ := Lib.hid hsz
            clear hks hIz hlz hsz
            have k1 := (IZ.out.boxed K11.out (by omega)).cell
            have k2 := (IZ.out.boxed W11.out (by omega)).cell
            have k3 := (IZ.out.boxed H11.out (by omega)).cell
            have k4 := (IZ.out.boxed N11.out (by omega)).cell
            by_cases hjl : j < n
            · have f1 : decide ((j : Int) < (n : Int)) = true := by rw [decide_eq_true_eq]; omega
              have f1' : decide (j < n) = true := by rw [decide_eq_true_eq]; omega
              have f2 : (j : Int) < (n : Int) := by omega
              have hju : j < u.length := by rw [HNU.out]; exact hjl
              obtain ⟨xb, xo, rfl, y1, y2⟩ := HUX.out j hju
              have gj : IntKind.i64.wrap ((j : Int) + 1) = (j : Int) + 1 := IntWalk.i64_in _ (by have := UL.out; omega)
              have hxl : xb < V.heap.size := by
                have := World.block_lt_of_cell? _ _ y1
                have h2 : V.heap.size = X'.heap.size := HV.out.size
                simp only at this
                omega
              have hxs : xb ≠ Sx := by
                rintro rfl
                obtain ⟨Dm, ⟨es, clock, hm, _⟩, _⟩ := HI2.out.key
                unfold World.cell? at y1
                simp only [hm] at y1
                cases y1
              have x1 : wr.cell? ⟨xb, xo + j * 2, none⟩ = some (.int .i64 u[j].1) := by rw [World.cell?_of_block (LZ.out xb hxl hxs)]; exact same_cell HV.out HLP.out y1
              have x2 : wr.cell? ⟨xb, xo + j * 2 + 1, none⟩ = some (.int .i64 u[j].2) := by rw [World.cell?_of_block (LZ.out xb hxl hxs)]; exact same_cell HV.out HLP.out y2
              have CELL := Lib.hid (PlK.cell HK2.out KP.out HN.out HQN.out HU.out KS.out hju)
              have SKIP := Lib.hid (KS.out.skip hju)
              obtain ⟨c1, hc1⟩ : ∃ c, u[j].1 = c := ⟨_, rfl⟩
              obtain ⟨c2, hc2⟩ : ∃ c, u[j].2 = c := ⟨_, rfl⟩
              rw [hc1] at x1 CELL SKIP
              rw [hc2] at x2 CELL
              have HJL := Lib.hid hjl
              have HJU := Lib.hid hju
              obtain ⟨W1, hW1⟩ : ∃ W1, wr.alloc (.cells #[.int .i64 c1, .int .i64 c2] 38) = W1 := ⟨_, rfl⟩
              have bw : Below wr.heap.size wr W1 := by rw [← hW1]; exact (Below.refl _ _).alloc (Nat.le_refl _) _
              have hbx : W1.heap[wr.heap.size]? = some (.cells #[.int .i64 c1, .int .i64 c2] 38 (0, 0)) := by rw [← hW1]; exact heap_alloc_new _ _
              obtain ⟨Bz, hBz⟩ : ∃ Bz, wr.heap.size = Bz := ⟨_, rfl⟩
              have BW := Lib.hid bw
              rw [hBz] at hbx
              have b1 : W1.cell? ⟨Bz, 0, none⟩ = some (.int .i64 c1) := by rw [cell_of_row _ _ 0 _ _ _ hbx]; rfl
              have b2 : W1.cell? ⟨Bz, 1, none⟩ = some (.int .i64 c2) := by rw [cell_of_row _ _ 1 _ _ _ hbx]; rfl
              have I1 : Hid (OnI Sx w w11 ks W1) := Lib.hid (IZ.out.since bw IZ.out.size (by omega) (by omega))
              have L1 : Hid (V.heap.size ≤ W1.heap.size ∧ ∀ b, b < V.heap.size → b ≠ Sx → W1.heap[b]? = V.heap[b]?) := Lib.hid ⟨Nat.le_trans SZ.out bw.size, fun b hb hne => (bw.block b (by have := SZ.out; omega)).trans (LZ.out b hb hne)⟩
              have m1 := cell_old bw k1
              have m2 := cell_old bw k2
              have m3 := cell_old bw k3
              have m4 := cell_old bw k4
              have HB1 := Lib.hid hbx
              clear y1 y2 bw hbx hc1 hc2 hjl hju k2 k3 k4
              by_cases hck : c1 = (kp : Int)
              · obtain ⟨p, hp2, hpt, hpn, hkl, hpk⟩ := CELL.out hck
                subst hck
                subst hp2
                rw [HTOT.out] at hpt hkl
                have PK := Lib.hid hpk
                have g1 : ((kp : Int) == (kp : Int)) = true := by rw [beq_iff_eq]
                have RP : Hid (R64 (p : Int)) := Lib.hid (by unfold R64; have := TB.out; omega)
                have lk := I1.out.key.look RP.out
                rw [if_neg hpn] at lk
                obtain ⟨W2, hup, hK2, hg2⟩ := I1.out.key.add (by unfold maxLen; have := TB.out; omega) RP.out hpn
                have lk2 := hK2.look RP.out
                rw [if_pos (by simp)] at lk2
                have I2 : Hid (OnI Sx w w11 ((p : Int) :: ks) W2) := Lib.hid (I1.out.put hK2 hg2 (by omega))
                have L2 : Hid (V.heap.size ≤ W2.heap.size ∧ ∀ b, b < V.heap.size → b ≠ Sx → W2.heap[b]? = V.heap[b]?) := Lib.hid ⟨Nat.le_trans L1.out.1 hg2.size, fun b hb hne => (hg2.block b (by have := L1.out.1; omega) (fun e => hne (Option.some.inj e))).trans (L1.out.2 b hb hne)⟩
                have n2 := hg2.cell m2 (fun e => by have := Option.some.inj e; simp only at this; omega)
                have n3 := hg2.cell m3 (fun e => by have := Option.some.inj e; simp only at this; omega)
                have n4 := hg2.cell m4 (fun e => by have := Option.some.inj e; simp only at this; omega)
                have hBs : Bz ≠ Sx := by have := IZ.out.size; omega
                have c1' := hg2.cell b1 (fun e => hBs (Option.some.inj e))
                have c2' := hg2.cell b2 (fun e => hBs (Option.some.inj e))
                have g2 : decide ((p : Int) < 0) = false := by rw [decide_eq_false_iff_not]; omega
                have g3 : decide ((tot : Int) ≤ (p : Int)) = false := by rw [decide_eq_false_iff_not]; omega
                have g3' : decide (tot ≤ p) = false := by rw [decide_eq_false_iff_not]; omega
                clear hK2 hg2 hpk hkl hpt hpn
                gi_wp2_with fail
                go_roundw
                case rel => exact ⟨j + 1, _, by go_num, HJL.out, PK.out, I2.out, L2.out⟩
                case measure => simp [intOf]; have := HJL.out; omega
              · have g1 : (c1 == (kp : Int)) = false := by rw [beq_eq_false_iff_ne]; exact hck
                have SK := Lib.hid (SKIP.out hck)
                clear hck
                gi_wp2_with fail
                go_roundw
                case rel => exact ⟨j + 1, _, by go_num, HJL.out, SK.out, I1.out, L1.out⟩
                case measure => simp [intOf]; have := HJL.out; omega
            · obtain rfl : j = n := by omega
              have f1 : decide ((j : Int) < (j : Int)) = false := by rw [decide_eq_false_iff_not]; omega
              have NX := Lib.hid (PlK.unit HK2.out KP.out HU.out (by rw [HNU.out]; exact KS.out))
              have KF : Hid (KeepsFrom w11.heap.size V wr) := Lib.hid ⟨SZ.out, fun b o hb ho _ => by
                have hlt := (Array.getElem?_eq_some_iff.1 ho).1
                rw [LZ.out b hlt (by omega)]
                exact ho⟩
              have KU : Hid (KeepU (List.range w.heap.size ++ [g]) (w11.heap.size + 2) X' wr) := Lib.hid (by
                have hvs : V.heap.size = X'.heap.size := HV.out.size
                refine ⟨by have := SZ.out; omega, fun b hb hlt => (LZ.out b (by omega) ?_).trans (HV.out.block b ?_)⟩
                · rcases hb with hb | hb
                  · rcases List.mem_append.1 hb with h | h
                    · have := List.mem_range.1 h; omega
                    · simp only [List.mem_singleton] at h; omega
                  · omega
                · rcases hb with hb | hb
                  · have := hbs11 b hb; omega
                  · omega)
              clear k1 k2 k3 k4 hjl
              gi_wp2_with fail
              refine ⟨KF.out, KU.out, ks, ?_, IZ.out⟩
              rw [List.length_append, HQ.out]
              exact NX.out
        -- q]
        case done2 =>
          rintro D2 pre Z hD2 hDZ hfin ⟨ks, hks, hI⟩ hK
          have hfin' : pre.length = unitsN P (numsO k) := hfin
          obtain ⟨tot, htot⟩ : ∃ t, unitsN P (numsO k) * partN P (kp : Int) = t := ⟨_, rfl⟩
          have pr : sw * sh = (tot : Int) := by
            have h := size_units P k kp HK2.out KP.out HN.out
            rw [HSW.out, HSH.out, htot] at h
            exact h
          have TB : Hid (tot ≤ 68717379600) := Lib.hid (by rw [← htot]; exact size_units_le P k kp HK2.out KP.out HN.out)
          have hkl : ks.length = tot := by rw [hks.1, hfin', htot]; rfl
          have e1 : wrap64 (sw * sh) = (tot : Int) := by rw [pr]; exact IntWalk.wrap64_in _ (by have := TB.out; omega)
          have e2 : IntKind.i64.wrap (sw * sh) = (tot : Int) := by rw [pr]; exact IntWalk.i64_in _ (by have := TB.out; omega)
          have e3 : ((tot : Int) == (tot : Int)) = true := by rw [beq_iff_eq]
          have ln : (Builtin.len_ #[43] 3 #[.map (some Sx)]).run Try.prog Z = .ok (.int .i64 (tot : Int)) Z := by
            have h := hI.key.len 3
            rw [hkl] at h
            exact h
          have d1 : decide (ow ≤ sw) = true := decide_eq_true LE.out.1
          have d2 : decide (oh ≤ sh) = true := decide_eq_true LE.out.2
          have k2 := (hI.boxed W11.out (by omega)).cell
          have k3 := (hI.boxed H11.out (by omega)).cell
          have k4 := (hI.boxed A11.out (by omega)).cell
          have k5 := (hI.boxed C11.out (by omega)).cell
          have k6 := (hI.boxed N11.out (by omega)).cell
          have RB : Boxed Z (R + 1) 4 (.bool false) := hI.boxed R11.out (by omega)
          have r0 := RB.cell
          have r1 := RB.frozen
          have RS := Lib.hid (Boxed.set (.bool true) RB)
          have BX := Lib.hid (hI.below.setCell (p := ⟨R + 1, 0, none⟩) (by simp only; omega) (.bool true))
          have K2 : Hid ((Z.setCell ⟨R + 1, 0, none⟩ (.bool true)).heap[D2]? = some (.deferred (some []))) := Lib.hid ((KeepsOthers.setCell _ _ _).same D2 _ hK rfl)
          have K1 : Hid ((Z.setCell ⟨R + 1, 0, none⟩ (.bool true)).heap[D]? = some (.deferred (some []))) := Lib.hid ((KeepsOthers.setCell _ _ _).same D _ ((hI.low D (by omega) (by omega)).trans D11.out) rfl)
          have D12 : D ≠ D2 := by omega
          clear RB hI hK hks hfin hfin' htot pr hkl x1 x2
          go_wp2_with fail
          obtain ⟨Y, hY⟩ : ∃ Y, Z.setCell ⟨R + 1, 0, none⟩ (.bool true) = Y := ⟨_, rfl⟩
          rw [hY] at RS BX K2 K1 ⊢
          have K1' : (Y.putObj D2 (.deferred none)).heap[D]? = some (.deferred (some [])) := (World.putObj_heap_other D12).trans K1.out
          refine ⟨by simp, .inl ⟨_, _, rfl, run_takeDeferred K2.out, by simp, .inl ⟨_, _, rfl, run_takeDeferred K1', ?_⟩⟩⟩
          have r2 : ((Y.putObj D2 (.deferred none)).putObj D (.deferred none)).cell? ⟨R + 1, 0, none⟩ = some (.bool true) := Boxed.cell (t := 4) ((World.putObj_heap_other (by omega)).trans ((World.putObj_heap_other (by omega)).trans RS.out))
          refine ⟨.bool true, by simp [results, Try.f4, go_sem, r2], rfl, ?_⟩
          exact (BX.out.trans ((sameBut_put _ _ _).below (by omega))).trans ((sameBut_put _ _ _).below (by omega))
        case stop2 => exact fun _ _ _ _ _ _ h _ => h.elim
      case stop => exact fun _ _ _ _ _ _ h _ => h.elim
end Go.Proofs.Ytbcbfnkpnfbfjaa
