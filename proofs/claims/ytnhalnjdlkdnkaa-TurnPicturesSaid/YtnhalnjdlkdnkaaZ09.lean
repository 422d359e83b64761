/- Is a picture in form? frame.Check. By an AI agent. -/
import Derived.Test.YtnhalnjdlkdnkaaZ07
import Derived.Test.YtnhalnjdlkdnkaaZ08
namespace Go.Proofs.Ytnhalnjdlkdnkaa
open Go.RowKit Go.BigFrame
set_option linter.unusedVariables false
set_option linter.unusedSimpArgs false
set_option maxRecDepth 20000

def qL (P : PicL) : Nat → List Int
  | 0 => P.q0
  | 1 => P.q1
  | 2 => P.q2
  | _ => P.q3
def quantB (P : PicL) (k : Nat) : Bool := if usedB P.parts (k : Int) then tableB (qL P k) else decide ((qL P k).length = 0)
def segB (s : Int × List UInt8) : Bool := keptB s.1 && decide (s.2.length ≤ 65533)
def topB (P : PicL) : Bool := decide (1 ≤ P.parts.length) && decide (P.parts.length ≤ 4) && sidedB P.w && sidedB P.h && decide (0 ≤ P.restart) && decide (P.restart ≤ 65535) && !tooB P
def partsB (P : PicL) (n : Nat) : Bool := (List.range n).all fun k => partB P (k : Int)
def quantsB (P : PicL) (n : Nat) : Bool := (List.range n).all (quantB P)
def goodB (P : PicL) : Bool := topB P && partsB P P.parts.length && quantsB P 4 && P.kept.all segB
theorem range_all_succ (f : Nat → Bool) (n : Nat) : (List.range (n + 1)).all f = ((List.range n).all f && f n) := by
  rw [List.range_succ, List.all_append]; simp
theorem range_all_false {f : Nat → Bool} {n k : Nat} (hk : k < n) (h : f k = false) : (List.range n).all f = false := by
  rw [List.all_eq_false]; exact ⟨k, List.mem_range.2 hk, by simp [h]⟩
/-- the tables as values -/
def qV (q0 q1 q2 q3 : Value) : Nat → Value
  | 0 => q0
  | 1 => q1
  | 2 => q2
  | _ => q3
theorem qV_ns {w : World} {P : PicL} {q0 q1 q2 q3 pv kv : Value} (h : PicC w P q0 q1 q2 q3 pv kv) (k : Nat) : Ns w (qV q0 q1 q2 q3 k) (qL P k) := by
  unfold qV qL
  split
  · exact h.q0
  · exact h.q1
  · exact h.q2
  · exact h.q3
theorem qV_index (q0 q1 q2 q3 : Value) (k : Nat) (hk : k < 4) (w : World) : (Instr.index 32 (.agg #[q0, q1, q2, q3]) (.int .i64 (k : Int))).run Try.prog w = .ok (qV q0 q1 q2 q3 k) w := by
  rcases (show k = 0 ∨ k = 1 ∨ k = 2 ∨ k = 3 by omega) with rfl | rfl | rfl | rfl
  · kernel_rfl
  · kernel_rfl
  · kernel_rfl
  · kernel_rfl
/-- the head, test by test -/
theorem top_cases (n : Nat) (s1 s2 tb : Bool) (r : Int) (tp : Bool) (he : tp = (decide (1 ≤ n) && decide (n ≤ 4) && s1 && s2 && decide (0 ≤ r) && decide (r ≤ 65535) && !tb)) :
    ((decide ((n : Int) < 1) = true ∧ decide (n < 1) = true) ∧ tp = false) ∨
    ((decide ((n : Int) < 1) = false ∧ decide (n < 1) = false) ∧ (decide (4 < (n : Int)) = true ∧ decide (4 < n) = true) ∧ tp = false) ∨
    ((decide ((n : Int) < 1) = false ∧ decide (n < 1) = false) ∧ (decide (4 < (n : Int)) = false ∧ decide (4 < n) = false) ∧ s1 = false ∧ tp = false) ∨
    ((decide ((n : Int) < 1) = false ∧ decide (n < 1) = false) ∧ (decide (4 < (n : Int)) = false ∧ decide (4 < n) = false) ∧ s1 = true ∧ s2 = false ∧ tp = false) ∨
    ((decide ((n : Int) < 1) = false ∧ decide (n < 1) = false) ∧ (decide (4 < (n : Int)) = false ∧ decide (4 < n) = false) ∧ s1 = true ∧ s2 = true ∧ decide (r < 0) = true ∧ tp = false) ∨
    ((decide ((n : Int) < 1) = false ∧ decide (n < 1) = false) ∧ (decide (4 < (n : Int)) = false ∧ decide (4 < n) = false) ∧ s1 = true ∧ s2 = true ∧ decide (r < 0) = false ∧ decide (65535 < r) = true ∧ tp = false) ∨
    ((decide ((n : Int) < 1) = false ∧ decide (n < 1) = false) ∧ (decide (4 < (n : Int)) = false ∧ decide (4 < n) = false) ∧ s1 = true ∧ s2 = true ∧ decide (r < 0) = false ∧ decide (65535 < r) = false ∧ n ≤ 4 ∧ tp = !tb) := by
  subst he
  by_cases h1 : n < 1
  · left; simp [h1]; omega
  by_cases h2 : 4 < n
  · right; left; simp [h1, h2]; omega
  cases s1 with
  | false => right; right; left; simp [h1, h2]; omega
  | true =>
  cases s2 with
  | false => right; right; right; left; simp [h1, h2]; omega
  | true =>
  by_cases h3 : r < 0
  · right; right; right; right; left; simp [h1, h2, h3]; omega
  by_cases h4 : 65535 < r
  · right; right; right; right; right; left; simp [h1, h2, h3, h4]; omega
  · right; right; right; right; right; right
    simp [h1, h2, h3, h4]
    refine ⟨by omega, by omega, by omega, fun _ => ⟨⟨⟨by omega, by omega⟩, by omega⟩, by omega⟩⟩
theorem qL_len {P : PicL} (h : PicB P) (k : Nat) : (qL P k).length ≤ 140737488351232 := by
  unfold qL
  split
  · exact h.q0
  · exact h.q1
  · exact h.q2
  · exact h.q3
/-- what a segment's cells say -/
theorem sgs_at {w : World} {v : Value} {ks : List (Int × List UInt8)} (h : Sgs w v ks) : ∃ a cap, v = .slice a ks.length cap ∧ ks.length ≤ cap ∧ ∀ i (hi : i < ks.length), ∃ b off xa xc, a = some ⟨b, off, none⟩ ∧ ks[i].2.length ≤ 140737488351232 ∧ Bs w (.slice xa ks[i].2.length xc) ks[i].2 ∧
    w.cell? ⟨b, off + i * 2, none⟩ = some (.int .i64 ks[i].1) ∧ w.cell? ⟨b, off + i * 2 + 1, none⟩ = some (.slice xa ks[i].2.length xc) := by
  obtain ⟨a, cap, hv, hc, hx⟩ := h
  refine ⟨a, cap, hv, hc, fun i hi => ?_⟩
  obtain ⟨b, off, cs, ha, hl, hcell, x, rfl, hR, hL, hK⟩ := hx i hi
  obtain ⟨xa, xc, rfl⟩ := hK.len
  exact ⟨b, off, xa, xc, ha, hL, hK, hcell 0 _ rfl, hcell 1 _ rfl⟩
set_option maxRecDepth 20000 in
set_option maxHeartbeats 16000000 in
theorem check_any (P : PicL) (q0 q1 q2 q3 pv kv : Value) (w : World) (hp : PicC w P q0 q1 q2 q3 pv kv) (hB : PicB P) :
    Calls Try.prog 33 #[.agg (vPic P q0 q1 q2 q3 pv kv)] w fun e w' => e = .returned (errV (chkN (goodB P))) ∧ Below w.heap.size w w' := by
  have hl := hB.parts
  have hkl := hB.kept
  obtain ⟨pa, pc, rfl, _⟩ := Els.len hp.parts
  obtain ⟨sa, sc, rfl, _, hsx⟩ := sgs_at hp.kept
  have HC := Lib.hid hp.parts
  have HSX := Lib.hid hsx
  have HQ := Lib.hid (fun k => qV_ns hp k)
  have HQL := Lib.hid (fun k => qL_len hB k)
  obtain ⟨n, hn⟩ : ∃ n, P.parts.length = n := ⟨_, rfl⟩
  obtain ⟨sn, hsn⟩ : ∃ n, P.kept.length = n := ⟨_, rfl⟩
  rw [hn] at HC hl ⊢
  rw [hsn] at hkl ⊢
  have HN := Lib.hid hn
  have HSN := Lib.hid hsn
  obtain ⟨w1, hw1⟩ : ∃ w1, w.alloc (.cells (vPic P q0 q1 q2 q3 (.slice pa n pc) (.slice sa sn sc)) 36) = w1 := ⟨_, rfl⟩
  have hb1 : Below w.heap.size w w1 := by rw [← hw1]; exact (Below.refl _ _).alloc (Nat.le_refl _) _
  obtain ⟨B, hBB⟩ : ∃ B, w.heap.size = B := ⟨_, rfl⟩
  have hbox : PBox w1 B P q0 q1 q2 q3 (.slice pa n pc) (.slice sa sn sc) := by rw [← hw1, ← hBB]; exact heap_alloc_new _ _
  have B1 := Lib.hid hb1
  have BX1 := Lib.hid hbox
  have HBB := Lib.hid hBB
  obtain ⟨a0, a1, a2, a3, a4, a5, a6, a7, a8⟩ := hbox.cells
  unfold vPic at hw1
  obtain ⟨tp, htp⟩ : ∃ tp, topB P = tp := ⟨_, rfl⟩
  have TP := Lib.hid htp
  have GB : Hid (goodB P = (tp && partsB P n && quantsB P 4 && P.kept.all segB)) := Lib.hid (by unfold goodB; rw [htp, hn])
  clear hp hB hb1 hbox hsx htp hn hsn
  unfold vPic
  go_enter Try.func33, Try.ntmps33
  go_upto_region 2 with (fail)
  clear a0 a1 a2 a3 a4 a5 a6 a7 a8 hw1
  go_cut [44] from 12 to 44 (fun c wx => c = .bool (!tp) ∧ Below w.heap.size w wx ∧ PBox wx B P q0 q1 q2 q3 (.slice pa n pc) (.slice sa sn sc))
  case first =>
    obtain ⟨s1, hs1⟩ : ∃ s, sidedB P.w = s := ⟨_, rfl⟩
    obtain ⟨s2, hs2⟩ : ∃ s, sidedB P.h = s := ⟨_, rfl⟩
    have SW : Hid (∀ X, Calls Try.prog 50 #[.int .i64 P.w] X fun e w' => e = .returned (.bool s1) ∧ X = w') := Lib.hid (fun X => by rw [← hs1]; exact sided_any P.w X)
    have SH : Hid (∀ X, Calls Try.prog 50 #[.int .i64 P.h] X fun e w' => e = .returned (.bool s2) ∧ X = w') := Lib.hid (fun X => by rw [← hs2]; exact sided_any P.h X)
    have HS1 := Lib.hid hs1
    have HS2 := Lib.hid hs2
    have TE : tp = (decide (1 ≤ n) && decide (n ≤ 4) && s1 && s2 && decide (0 ≤ P.restart) && decide (P.restart ≤ 65535) && !tooB P) := by rw [← TP.out, ← HN.out, ← hs1, ← hs2]; rfl
    clear hs1 hs2
    obtain ⟨a0, a1, a2, a3, a4, a5, a6, a7, a8⟩ := BX1.out.cells
    rcases top_cases n s1 s2 (tooB P) P.restart tp TE with ⟨⟨v1, v1'⟩, o⟩ | ⟨⟨v1, v1'⟩, ⟨v2, v2'⟩, o⟩ | ⟨⟨v1, v1'⟩, ⟨v2, v2'⟩, rfl, o⟩ | ⟨⟨v1, v1'⟩, ⟨v2, v2'⟩, rfl, rfl, o⟩ | ⟨⟨v1, v1'⟩, ⟨v2, v2'⟩, rfl, rfl, v3, o⟩ | ⟨⟨v1, v1'⟩, ⟨v2, v2'⟩, rfl, rfl, v3, v4, o⟩ | ⟨⟨v1, v1'⟩, ⟨v2, v2'⟩, rfl, rfl, v3, v4, v5, o⟩
    · have HO := Lib.hid o
      clear o TE
      go_wp2_with fail
      go_meet
      exact ⟨by rw [HO.out]; rfl, B1.out, BX1.out⟩
    · have HO := Lib.hid o
      clear o TE
      go_wp2_with fail
      go_meet
      exact ⟨by rw [HO.out]; rfl, B1.out, BX1.out⟩
    · have HO := Lib.hid o
      clear o TE
      go_wp2_with fail
      refine (SW.out _).mono ?_
      rintro e x1 ⟨rfl, rfl⟩
      go_wp2_with fail
      go_meet
      exact ⟨by rw [HO.out]; rfl, B1.out, BX1.out⟩
    · have HO := Lib.hid o
      clear o TE
      go_wp2_with fail
      refine (SW.out _).mono ?_
      rintro e x1 ⟨rfl, rfl⟩
      go_wp2_with fail
      refine (SH.out _).mono ?_
      rintro e x1 ⟨rfl, rfl⟩
      go_wp2_with fail
      go_meet
      exact ⟨by rw [HO.out]; rfl, B1.out, BX1.out⟩
    · have HO := Lib.hid o
      clear o TE
      go_wp2_with fail
      refine (SW.out _).mono ?_
      rintro e x1 ⟨rfl, rfl⟩
      go_wp2_with fail
      refine (SH.out _).mono ?_
      rintro e x1 ⟨rfl, rfl⟩
      go_wp2_with fail
      go_meet
      exact ⟨by rw [HO.out]; rfl, B1.out, BX1.out⟩
    · have HO := Lib.hid o
      clear o TE
      go_wp2_with fail
      refine (SW.out _).mono ?_
      rintro e x1 ⟨rfl, rfl⟩
      go_wp2_with fail
      refine (SH.out _).mono ?_
      rintro e x1 ⟨rfl, rfl⟩
      go_wp2_with fail
      go_meet
      exact ⟨by rw [HO.out]; rfl, B1.out, BX1.out⟩
    · have HO := Lib.hid o
      have N4 := Lib.hid v5
      clear o TE v5
      go_wp2_with fail
      refine (SW.out _).mono ?_
      rintro e x1 ⟨rfl, rfl⟩
      go_wp2_with fail
      refine (SH.out _).mono ?_
      rintro e x1 ⟨rfl, rfl⟩
      go_wp2_with fail
      have w65 := HS1.out
      have h65 := HS2.out
      simp only [sidedB, Bool.and_eq_true, decide_eq_true_eq] at w65 h65
      refine (fcheck_any P q0 q1 q2 q3 _ _ w1 (HC.out.old B1.out) (by rw [HN.out]; have := N4.out; omega) w65 h65).mono ?_
      rintro e x1 ⟨rfl, hb9⟩
      have B9 := Lib.hid (B1.out.trans (hb9.mono B1.out.size))
      have BX9 := Lib.hid (BX1.out.old hb9)
      clear hb9 w65 h65 a0 a1 a2 a3 a4 a5 a6 a7 a8
      obtain ⟨tb, htb⟩ : ∃ tb, tooB P = tb := ⟨_, rfl⟩
      rw [htb] at HO ⊢
      clear htb
      cases tb with
      | true =>
        have e0 : errV (chk4 true) = .iface 47 (.int .i64 4) := rfl
        rw [e0]
        go_wp2_with fail
        go_meet
        exact ⟨by rw [HO.out]; rfl, B9.out, BX9.out⟩
      | false =>
        have e0 : errV (chk4 false) = .nilIface := rfl
        rw [e0]
        go_wp2_with fail
        go_meet
        exact ⟨by rw [HO.out]; rfl, B9.out, BX9.out⟩
  case rest =>
  obtain ⟨rfl, hb2, hx2⟩ := hcut
  have B2 := Lib.hid hb2
  have BX2 := Lib.hid hx2
  clear hb2 hx2 B1 BX1 hBB
  cases tp with
  | false =>
    have RE : Hid (goodB P = false) := Lib.hid (by rw [GB.out]; rfl)
    go_wp2_with fail
    go_ret
    exact ⟨by rw [RE.out]; rfl, B2.out⟩
  | true =>
  rw [Bool.not_true]
  have N4 : Hid (n ≤ 4) := Lib.hid (by
    have h := TP.out
    unfold topB at h
    simp only [Bool.and_eq_true, decide_eq_true_eq] at h
    have := HN.out
    omega)
  obtain ⟨a0, a1, a2, a3, a4, a5, a6, a7, a8⟩ := BX2.out.cells
  go_wp2_with fail
  clear a0 a1 a2 a3 a4 a5 a6 a7 a8
  -- the parts
  go_loopw [49] (fun i W => ∃ k : Nat, k ≤ n ∧ i = .int .i64 (k : Nat) ∧ partsB P k = true ∧ Below w.heap.size w W ∧ PBox W B P q0 q1 q2 q3 (.slice pa n pc) (.slice sa sn sc)) (fun i _ => n - (intOf i).toNat)
  case atStart => exact ⟨0, Nat.zero_le _, rfl, rfl, B2.out, BX2.out⟩
  case round =>
    clear B2 BX2
    obtain ⟨k, hk, rfl, hpk, hb, hx⟩ := hrel
    have PK := Lib.hid hpk
    have BB := Lib.hid hb
    have BX := Lib.hid hx
    obtain ⟨a0, a1, a2, a3, a4, a5, a6, a7, a8⟩ := hx.cells
    clear hpk hb hx
    by_cases hkn : k < n
    · have f1 : decide ((k : Int) < (n : Int)) = true := by rw [decide_eq_true_eq]; omega
      have f1' : decide (k < n) = true := by rw [decide_eq_true_eq]; omega
      have gk : IntKind.i64.wrap ((k : Int) + 1) = (k : Int) + 1 := IntWalk.i64_in _ (by have := N4.out; omega)
      have HKN := Lib.hid hkn
      have SC : Hid (partsB P (k + 1) = (partsB P k && partB P (k : Int))) := Lib.hid (range_all_succ _ _)
      have FA : Hid (partB P (k : Int) = false → partsB P n = false) := Lib.hid (range_all_false (f := fun k : Nat => partB P (k : Int)) hkn)
      go_wp2_with fail
      refine (fpart_any P q0 q1 q2 q3 _ _ k wr (HC.out.old BB.out) (by have := HN.out; omega) (by have := HN.out; omega)).mono ?_
      rintro e x1 ⟨rfl, hb3⟩
      have B3 := Lib.hid (BB.out.trans (hb3.mono BB.out.size))
      have BX3 := Lib.hid (BX.out.old hb3)
      clear hb3 a0 a1 a2 a3 a4 a5 a6 a7 a8 hkn
      obtain ⟨pk, hpk⟩ : ∃ q, partB P (k : Int) = q := ⟨_, rfl⟩
      rw [hpk] at SC FA ⊢
      clear hpk
      cases pk with
      | false =>
        have RE : Hid (goodB P = false) := Lib.hid (by rw [GB.out, FA.out rfl]; rfl)
        go_wp2_with fail
        go_ret
        exact ⟨by rw [RE.out]; rfl, B3.out⟩
      | true =>
        clear FA
        go_wp2_with fail
        go_roundw
        case rel => exact ⟨k + 1, HKN.out, by go_num, by rw [SC.out, PK.out]; rfl, B3.out, BX3.out⟩
        case measure => simp [intOf]; have := HKN.out; omega
    · obtain rfl : k = n := by omega
      have f1 : decide ((k : Int) < (k : Int)) = false := by rw [decide_eq_false_iff_not]; omega
      have GB2 : Hid (goodB P = (quantsB P 4 && P.kept.all segB)) := Lib.hid (by rw [GB.out, PK.out]; rfl)
      clear GB hkn
      go_wp2_with fail
      clear a0 a1 a2 a3 a4 a5 a6 a7 a8 f1
      -- the tables
      go_loopw [60] (fun i W => ∃ j : Nat, j ≤ 4 ∧ i = .int .i64 (j : Nat) ∧ quantsB P j = true ∧ Below w.heap.size w W ∧ PBox W B P q0 q1 q2 q3 (.slice pa k pc) (.slice sa sn sc)) (fun i _ => 4 - (intOf i).toNat)
      case atStart => exact ⟨0, Nat.zero_le _, rfl, rfl, BB.out, BX.out⟩
      case round =>
        clear BB BX
        obtain ⟨j, hj, rfl, hqj, hb, hx⟩ := hrel
        have QK := Lib.hid hqj
        have BB := Lib.hid hb
        have BX := Lib.hid hx
        obtain ⟨a0, a1, a2, a3, a4, a5, a6, a7, a8⟩ := hx.cells
        clear hqj hb hx
        by_cases hjn : j < 4
        · have f1 : decide ((j : Int) < 4) = true := by rw [decide_eq_true_eq]; omega
          have f1' : decide (j < 4) = true := by rw [decide_eq_true_eq]; omega
          have gj : IntKind.i64.wrap ((j : Int) + 1) = (j : Int) + 1 := IntWalk.i64_in _ (by omega)
          have HJN := Lib.hid hjn
          have SC : Hid (quantsB P (j + 1) = (quantsB P j && quantB P j)) := Lib.hid (range_all_succ _ _)
          have FA : Hid (quantB P j = false → quantsB P 4 = false) := Lib.hid (range_all_false (f := quantB P) hjn)
          have IX := qV_index q0 q1 q2 q3 j hjn
          have NQ := HQ.out j
          have LQ := HQL.out j
          obtain ⟨ql, hql⟩ : ∃ ql, qL P j = ql := ⟨_, rfl⟩
          obtain ⟨qv, hqv⟩ : ∃ qv, qV q0 q1 q2 q3 j = qv := ⟨_, rfl⟩
          rw [hql] at NQ LQ
          simp only [hqv] at IX NQ
          obtain ⟨u, hu⟩ : ∃ u, usedB P.parts (j : Int) = u := ⟨_, rfl⟩
          obtain ⟨tv, htv⟩ : ∃ t, tableB ql = t := ⟨_, rfl⟩
          have QE : Hid (quantB P j = if u then tv else decide (ql.length = 0)) := Lib.hid (by unfold quantB; rw [hu, hql, htv])
          have UA : Hid (∀ X, Below w.heap.size w X → Calls Try.prog 53 #[.agg #[.int .i64 P.w, .int .i64 P.h, q0, q1, q2, q3, .slice pa k pc, .int .i64 P.restart, .slice sa sn sc], .int .i64 (j : Int)] X fun e w' => e = .returned (.bool u) ∧ Below X.heap.size X w') := Lib.hid (fun X hX => by
            rw [← hu]
            exact used_any P q0 q1 q2 q3 _ _ (j : Int) X (HC.out.old hX) (by have := HN.out; omega))
          have T64 : Hid (tv = true → ql.length = 64) := Lib.hid (fun h => by
            rw [← htv] at h
            unfold tableB at h
            simp only [Bool.and_eq_true, decide_eq_true_eq] at h
            exact h.1)
          obtain ⟨qa, qc, rfl, _⟩ := NQ.read
          obtain ⟨ln, hln⟩ : ∃ ln, ql.length = ln := ⟨_, rfl⟩
          have NQH := Lib.hid NQ
          have TA : Hid (∀ X, Below w.heap.size w X → Calls Try.prog 54 #[.slice qa ln qc] X fun e w' => e = .returned (.bool tv) ∧ X = w') := Lib.hid (fun X hX => by
            rw [← htv, ← hln]
            exact table_any _ ql X (NQH.out.old hX) (by omega))
          rw [hln] at QE T64 IX
          clear NQ hln LQ htv hu hql hqv hjn
          go_wp2_with fail
          refine (UA.out _ BB.out).mono ?_
          rintro e x1 ⟨rfl, hb3⟩
          have B3 := Lib.hid (BB.out.trans (hb3.mono BB.out.size))
          have BX3 := Lib.hid (BX.out.old hb3)
          clear hb3 a0 a1 a2 a3 a4 a5 a6 a7 a8
          obtain ⟨a0, a1, a2, a3, a4, a5, a6, a7, a8⟩ := BX3.out.cells
          go_wp2_with fail
          refine (TA.out _ B3.out).mono ?_
          rintro e x2 ⟨rfl, rfl⟩
          cases u with
          | true =>
            cases tv with
            | false =>
              have RE : Hid (goodB P = false) := Lib.hid (by rw [GB2.out, FA.out (by rw [QE.out]; rfl)]; rfl)
              go_wp2_with fail
              go_ret
              exact ⟨by rw [RE.out]; rfl, B3.out⟩
            | true =>
              have OKJ : Hid (quantB P j = true) := Lib.hid (by rw [QE.out]; rfl)
              clear FA QE T64
              go_wp2_with fail
              refine (UA.out _ B3.out).mono ?_
              rintro e x4 ⟨rfl, hb5⟩
              have B5 := Lib.hid (B3.out.trans (hb5.mono B3.out.size))
              have BX5 := Lib.hid (BX3.out.old hb5)
              clear hb5 a0 a1 a2 a3 a4 a5 a6 a7 a8
              go_wp2_with fail
              go_roundw
              case rel => first | exact ⟨j + 1, HJN.out, by go_num, by rw [SC.out, QK.out, OKJ.out]; rfl, B5.out, BX5.out⟩ | ((repeat apply Exists.intro); exact ⟨⟨j + 1, HJN.out, by go_num, by rw [SC.out, QK.out, OKJ.out]; rfl, B5.out, BX5.out⟩, rfl⟩)
              case measure => simp [intOf]; have := HJN.out; omega
          | false =>
            cases tv with
            | true =>
              have RE : Hid (goodB P = false) := Lib.hid (by
                have h64 := T64.out rfl
                rw [GB2.out, FA.out (by rw [QE.out, h64]; rfl)]; rfl)
              go_wp2_with fail
              go_ret
              exact ⟨by rw [RE.out]; rfl, B3.out⟩
            | false =>
              by_cases h0 : 0 < ln
              · have d1 : decide ((0 : Int) < (ln : Int)) = true := by rw [decide_eq_true_eq]; omega
                have d1' : decide (0 < ln) = true := decide_eq_true h0
                have RE : Hid (goodB P = false) := Lib.hid (by
                  have hq : quantB P j = false := by rw [QE.out]; simp; omega
                  rw [GB2.out, FA.out hq]; rfl)
                clear FA QE T64 h0
                go_wp2_with fail
                refine (UA.out _ B3.out).mono ?_
                rintro e x4 ⟨rfl, hb5⟩
                have B5 := Lib.hid (B3.out.trans (hb5.mono B3.out.size))
                clear hb5 a0 a1 a2 a3 a4 a5 a6 a7 a8
                go_wp2_with fail
                go_ret
                exact ⟨by rw [RE.out]; rfl, B5.out⟩
              · have d1 : decide ((0 : Int) < (ln : Int)) = false := by rw [decide_eq_false_iff_not]; omega
                have d1' : decide (0 < ln) = false := decide_eq_false h0
                have OKJ : Hid (quantB P j = true) := Lib.hid (by rw [QE.out]; simp; omega)
                clear FA QE T64 h0
                go_wp2_with fail
                refine (UA.out _ B3.out).mono ?_
                rintro e x4 ⟨rfl, hb5⟩
                have B5 := Lib.hid (B3.out.trans (hb5.mono B3.out.size))
                have BX5 := Lib.hid (BX3.out.old hb5)
                clear hb5 a0 a1 a2 a3 a4 a5 a6 a7 a8
                go_wp2_with fail
                go_roundw
                case rel => first | exact ⟨j + 1, HJN.out, by go_num, by rw [SC.out, QK.out, OKJ.out]; rfl, B5.out, BX5.out⟩ | ((repeat apply Exists.intro); exact ⟨⟨j + 1, HJN.out, by go_num, by rw [SC.out, QK.out, OKJ.out]; rfl, B5.out, BX5.out⟩, rfl⟩)
                case measure => simp [intOf]; have := HJN.out; omega
        · obtain rfl : j = 4 := by omega
          have GB3 : Hid (goodB P = P.kept.all segB) := Lib.hid (by rw [GB2.out, QK.out]; rfl)
          clear GB2 hjn
          rw [show ((4 : Nat) : Int) = 4 from rfl]
          go_wp2_with fail
          clear a0 a1 a2 a3 a4 a5 a6 a7 a8
          -- the segments
          go_loopw [86] (fun i W => ∃ m : Nat, m ≤ sn ∧ i = .int .i64 (m : Nat) ∧ (P.kept.take m).all segB = true ∧ Below w.heap.size w W) (fun i _ => sn - (intOf i).toNat)
          case atStart => exact ⟨0, Nat.zero_le _, rfl, by simp, BB.out⟩
          case round =>
            clear BB BX
            obtain ⟨m, hm, rfl, hsm, hb⟩ := hrel
            have SM := Lib.hid hsm
            have BB := Lib.hid hb
            clear hsm hb
            by_cases hmn : m < sn
            · have f1 : decide ((m : Int) < (sn : Int)) = true := by rw [decide_eq_true_eq]; omega
              have f1' : decide (m < sn) = true := by rw [decide_eq_true_eq]; omega
              have f2 : (m : Int) < (sn : Int) := by omega
              have gm : IntKind.i64.wrap ((m : Int) + 1) = (m : Int) + 1 := IntWalk.i64_in _ (by omega)
              have hml : m < P.kept.length := by rw [HSN.out]; exact hmn
              obtain ⟨b, off, xa, xc, rfl, -, -, c0, c1⟩ := HSX.out m hml
              have d0 := cell_old BB.out c0
              have d1 := cell_old BB.out c1
              have SC := Lib.hid (all_take_succ P.kept segB m hml)
              have FA := Lib.hid (all_false_at P.kept segB m hml)
              obtain ⟨sg, hsg⟩ : ∃ sg, P.kept[m]'hml = sg := ⟨_, rfl⟩
              rw [hsg] at d0 d1 SC FA
              obtain ⟨dn, hdn⟩ : ∃ dn, sg.2.length = dn := ⟨_, rfl⟩
              rw [hdn] at d1
              obtain ⟨mk, hmk⟩ : ∃ mk, sg.1 = mk := ⟨_, rfl⟩
              rw [hmk] at d0
              have SE : Hid (segB sg = (keptB mk && decide (dn ≤ 65533))) := Lib.hid (by unfold segB; rw [hdn, hmk])
              have HMN := Lib.hid hmn
              clear c0 c1 hsg hdn hmk hmn hml
              go_wp2_with fail
              refine (kept_any mk _).mono ?_
              rintro e x1 ⟨rfl, rfl⟩
              obtain ⟨kk, hkk⟩ : ∃ q, keptB mk = q := ⟨_, rfl⟩
              rw [hkk] at SE ⊢
              clear hkk d0 d1
              have BA : Hid (Below w.heap.size w (wr.alloc (.cells #[.int .i64 mk, .slice xa dn xc] 73))) := Lib.hid (BB.out.alloc BB.out.size _)
              cases kk with
              | false =>
                have RE : Hid (goodB P = false) := Lib.hid (by rw [GB3.out, FA.out (by rw [SE.out]; rfl)])
                go_wp2_with fail
                go_ret
                exact ⟨by rw [RE.out]; rfl, BA.out⟩
              | true =>
                by_cases hd : 65533 < dn
                · have d1 : decide ((65533 : Int) < (dn : Int)) = true := by rw [decide_eq_true_eq]; omega
                  have d1' : decide (65533 < dn) = true := decide_eq_true hd
                  have RE : Hid (goodB P = false) := Lib.hid (by rw [GB3.out, FA.out (by rw [SE.out]; simp; omega)])
                  clear hd FA SE
                  go_wp2_with fail
                  go_ret
                  exact ⟨by rw [RE.out]; rfl, BA.out⟩
                · have d1 : decide ((65533 : Int) < (dn : Int)) = false := by rw [decide_eq_false_iff_not]; omega
                  have d1' : decide (65533 < dn) = false := decide_eq_false hd
                  have OKS : Hid (segB sg = true) := Lib.hid (by rw [SE.out]; simp; omega)
                  clear hd FA SE
                  go_wp2_with fail
                  go_roundw
                  case rel => exact ⟨m + 1, HMN.out, by go_num, by rw [SC.out, SM.out, OKS.out]; rfl, BA.out⟩
                  case measure => simp [intOf]; have := HMN.out; omega
            · obtain rfl : m = sn := by omega
              have f1 : decide ((m : Int) < (m : Int)) = false := by rw [decide_eq_false_iff_not]; omega
              have RE : Hid (goodB P = true) := Lib.hid (by
                have h := SM.out
                rw [← HSN.out, List.take_length] at h
                rw [GB3.out, h])
              go_wp2_with fail
              go_ret
              exact ⟨by rw [RE.out]; rfl, BB.out⟩
end Go.Proofs.Ytnhalnjdlkdnkaa
