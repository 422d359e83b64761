/- The greatest sampling factors: frame.most, burnishref23.Factors. By an AI agent. -/
import Derived.Test.YtnhalnjdlkdnkaaPicS
import Derived.Handy
namespace Go.Proofs.Ytnhalnjdlkdnkaa
open Go.RowKit Go.BigFrame
set_option linter.unusedVariables false
set_option linter.unusedSimpArgs false

def facOk (p : PartL) : Bool := factorB p.h && factorB p.v
def maxH (ps : List PartL) : Int := ps.foldl (fun m p => if m < p.h then p.h else m) 0
def maxV (ps : List PartL) : Int := ps.foldl (fun m p => if m < p.v then p.v else m) 0
theorem maxH_app (ps : List PartL) (p : PartL) : maxH (ps ++ [p]) = if maxH ps < p.h then p.h else maxH ps := by unfold maxH; rw [List.foldl_append]; rfl
theorem maxV_app (ps : List PartL) (p : PartL) : maxV (ps ++ [p]) = if maxV ps < p.v then p.v else maxV ps := by unfold maxV; rw [List.foldl_append]; rfl
/-- may a part of this number have sizes, but for the factors? -/
def headOk (P : PicL) (k : Int) : Bool := !decide (k < 0) && !decide ((P.parts.length : Int) ≤ k) && sidedB P.w && sidedB P.h
def mostL (P : PicL) (k : Int) : Option (Int × Int) := if headOk P k && P.parts.all facOk then some (maxH P.parts, maxV P.parts) else none
theorem fac_in {p : PartL} (h : facOk p = true) : 1 ≤ p.h ∧ p.h ≤ 4 ∧ 1 ≤ p.v ∧ p.v ≤ 4 := by
  simp only [facOk, factorB, Bool.and_eq_true, decide_eq_true_eq] at h
  omega
theorem max_in : ∀ (n : Nat) (ps : List PartL), ps.length = n → ps.all facOk = true → 0 ≤ maxH ps ∧ maxH ps ≤ 4 ∧ 0 ≤ maxV ps ∧ maxV ps ≤ 4 ∧ (ps ≠ [] → 1 ≤ maxH ps ∧ 1 ≤ maxV ps) ∧ ∀ p ∈ ps, p.h ≤ maxH ps ∧ p.v ≤ maxV ps := by
  intro n
  induction n with
  | zero =>
    intro ps h _
    obtain rfl := List.eq_nil_of_length_eq_zero h
    simp [maxH, maxV]
  | succ n ih =>
    intro ps h hf
    have hne : ps ≠ [] := by rintro rfl; simp at h
    obtain ⟨qs, p, rfl⟩ : ∃ qs p, ps = qs ++ [p] := ⟨ps.dropLast, ps.getLast hne, (List.dropLast_concat_getLast hne).symm⟩
    rw [List.all_append, Bool.and_eq_true] at hf
    have hp := fac_in (p := p) (by simpa using hf.2)
    obtain ⟨h1, h2, h3, h4, _, h6⟩ := ih qs (by simpa using h) hf.1
    rw [maxH_app, maxV_app]
    refine ⟨by split <;> omega, by split <;> omega, by split <;> omega, by split <;> omega, fun _ => ⟨by split <;> omega, by split <;> omega⟩, fun x hx => ?_⟩
    rcases List.mem_append.1 hx with hx | hx
    · have := h6 x hx
      constructor
      · split <;> omega
      · split <;> omega
    · obtain rfl : x = p := by simpa using hx
      constructor
      · split <;> omega
      · split <;> omega
theorem mostL_some {P : PicL} {k h v : Int} (e : mostL P k = some (h, v)) : (0 ≤ k ∧ k < P.parts.length) ∧ (1 ≤ P.w ∧ P.w ≤ 65535) ∧ (1 ≤ P.h ∧ P.h ≤ 65535) ∧ (∀ p ∈ P.parts, (1 ≤ p.h ∧ p.h ≤ h) ∧ 1 ≤ p.v ∧ p.v ≤ v) ∧ (1 ≤ h ∧ h ≤ 4) ∧ 1 ≤ v ∧ v ≤ 4 := by
  unfold mostL at e
  split at e
  · rename_i hc
    simp only [Option.some.injEq, Prod.mk.injEq] at e
    obtain ⟨rfl, rfl⟩ := e
    simp only [headOk, sidedB, Bool.and_eq_true, Bool.not_eq_true', decide_eq_false_iff_not, decide_eq_true_eq] at hc
    obtain ⟨⟨⟨⟨h1, h2⟩, h3⟩, h4⟩, h5⟩ := hc
    have hne : P.parts ≠ [] := by intro e0; rw [e0] at h2; simp at h2; omega
    obtain ⟨m1, m2, m3, m4, m5, m6⟩ := max_in _ P.parts rfl h5
    have := m5 hne
    exact ⟨by omega, by omega, by omega, fun p hp => by
      have := fac_in (List.all_eq_true.1 h5 p hp)
      have := m6 p hp
      omega, by omega, by omega, by omega⟩
  · cases e

/-- what a picture's box and a part's cells say -/
theorem pts_at {w : World} {v : Value} {ps : List PartL} (h : Pts w v ps) : ∃ a cap, v = .slice a ps.length cap ∧ ps.length ≤ cap ∧ ∀ i (hi : i < ps.length), ∃ b off x, a = some ⟨b, off, none⟩ ∧ PartB ps[i] ∧ Bks w x ps[i].bs ∧
    w.cell? ⟨b, off + i * 7, none⟩ = some (.int .i64 ps[i].id) ∧ w.cell? ⟨b, off + i * 7 + 1, none⟩ = some (.int .i64 ps[i].h) ∧ w.cell? ⟨b, off + i * 7 + 2, none⟩ = some (.int .i64 ps[i].v) ∧ w.cell? ⟨b, off + i * 7 + 3, none⟩ = some (.int .i64 ps[i].tq) ∧
    w.cell? ⟨b, off + i * 7 + 4, none⟩ = some (.int .i64 ps[i].wide) ∧ w.cell? ⟨b, off + i * 7 + 5, none⟩ = some (.int .i64 ps[i].high) ∧ w.cell? ⟨b, off + i * 7 + 6, none⟩ = some x := by
  obtain ⟨a, cap, hv, hc, hx⟩ := h
  refine ⟨a, cap, hv, hc, fun i hi => ?_⟩
  obtain ⟨b, off, cs, ha, hl, hcell, x, rfl, hB, hK⟩ := hx i hi
  exact ⟨b, off, x, ha, hB, hK, hcell 0 _ rfl, hcell 1 _ rfl, hcell 2 _ rfl, hcell 3 _ rfl, hcell 4 _ rfl, hcell 5 _ rfl, hcell 6 _ rfl⟩
/-- a picture's box -/
def PBox (w : World) (B : Nat) (P : PicL) (q0 q1 q2 q3 pv kv : Value) : Prop := w.heap[B]? = some (.cells (vPic P q0 q1 q2 q3 pv kv) 36 (0, 0))
theorem PBox.old {w w' : World} {B : Nat} {P : PicL} {q0 q1 q2 q3 pv kv : Value} (h : PBox w B P q0 q1 q2 q3 pv kv) (hb : Below w.heap.size w w') : PBox w' B P q0 q1 q2 q3 pv kv := by
  unfold PBox; rw [hb.block B (Array.getElem?_eq_some_iff.1 h).1]; exact h
theorem PBox.cells {w : World} {B : Nat} {P : PicL} {q0 q1 q2 q3 pv kv : Value} (h : PBox w B P q0 q1 q2 q3 pv kv) :
    w.cell? ⟨B, 0, none⟩ = some (.int .i64 P.w) ∧ w.cell? ⟨B, 1, none⟩ = some (.int .i64 P.h) ∧ w.cell? ⟨B, 2, none⟩ = some q0 ∧ w.cell? ⟨B, 3, none⟩ = some q1 ∧ w.cell? ⟨B, 4, none⟩ = some q2 ∧ w.cell? ⟨B, 5, none⟩ = some q3 ∧ w.cell? ⟨B, 6, none⟩ = some pv ∧ w.cell? ⟨B, 7, none⟩ = some (.int .i64 P.restart) ∧ w.cell? ⟨B, 8, none⟩ = some kv :=
  ⟨by rw [cell_of_row _ _ 0 _ _ _ h]; rfl, by rw [cell_of_row _ _ 1 _ _ _ h]; rfl, by rw [cell_of_row _ _ 2 _ _ _ h]; rfl, by rw [cell_of_row _ _ 3 _ _ _ h]; rfl, by rw [cell_of_row _ _ 4 _ _ _ h]; rfl, by rw [cell_of_row _ _ 5 _ _ _ h]; rfl, by rw [cell_of_row _ _ 6 _ _ _ h]; rfl, by rw [cell_of_row _ _ 7 _ _ _ h]; rfl, by rw [cell_of_row _ _ 8 _ _ _ h]; rfl⟩
/-- what most answers -/
def mostV : Option (Int × Int) → Value
  | none => .tuple #[.int .i64 0, .int .i64 0, .bool false]
  | some (h, v) => .tuple #[.int .i64 h, .int .i64 v, .bool true]
set_option maxHeartbeats 4000000 in
theorem most_any (P : PicL) (q0 q1 q2 q3 pv kv : Value) (k : Int) (w : World) (hc : Pts w pv P.parts) (hl : P.parts.length ≤ 140737488351232) :
    Calls Try.prog 79 #[.agg (vPic P q0 q1 q2 q3 pv kv), .int .i64 k] w fun e w' => e = .returned (mostV (mostL P k)) ∧ Below w.heap.size w w' := by
  obtain ⟨pa, pc, rfl, _, hx⟩ := pts_at hc
  have HX := Lib.hid hx
  clear hx hc
  unfold vPic
  obtain ⟨B, hB⟩ : ∃ B, w.heap.size = B := ⟨_, rfl⟩
  have HB := Lib.hid hB
  have BA : Hid (Below B w (w.alloc (.cells #[.int .i64 P.w, .int .i64 P.h, q0, q1, q2, q3, .slice pa P.parts.length pc, .int .i64 P.restart, kv] 36))) := Lib.hid (by rw [← hB]; exact (Below.refl _ _).alloc (Nat.le_refl _) _)
  clear hB
  cases h1 : decide (k < (0 : Int)) with
  | true =>
    have MN : Hid (mostL P k = none) := Lib.hid (by unfold mostL headOk; rw [h1]; rfl)
    go_enter Try.func79, Try.ntmps79
    go_wp2_with fail
    go_returns
    exact ⟨by rw [MN.out]; rfl, by rw [HB.out]; exact BA.out⟩
  | false =>
  cases h2 : decide ((P.parts.length : Int) ≤ k) with
  | true =>
    have MN : Hid (mostL P k = none) := Lib.hid (by unfold mostL headOk; rw [h1, h2]; rfl)
    go_enter Try.func79, Try.ntmps79
    go_wp2_with fail
    go_returns
    exact ⟨by rw [MN.out]; rfl, by rw [HB.out]; exact BA.out⟩
  | false =>
  cases h3 : sidedB P.w with
  | false =>
    have MN : Hid (mostL P k = none) := Lib.hid (by unfold mostL headOk; rw [h1, h2, h3]; rfl)
    go_enter Try.func79, Try.ntmps79
    go_wp2_with fail
    refine (sided_any P.w _).mono ?_
    rintro e w1 ⟨rfl, rfl⟩
    rw [h3]
    go_wp2_with fail
    go_returns
    exact ⟨by rw [MN.out]; rfl, by rw [HB.out]; exact BA.out⟩
  | true =>
  cases h4 : sidedB P.h with
  | false =>
    have MN : Hid (mostL P k = none) := Lib.hid (by unfold mostL headOk; rw [h1, h2, h3, h4]; rfl)
    go_enter Try.func79, Try.ntmps79
    go_wp2_with fail
    refine (sided_any P.w _).mono ?_
    rintro e w1 ⟨rfl, rfl⟩
    rw [h3]
    go_wp2_with fail
    refine (sided_any P.h _).mono ?_
    rintro e w1 ⟨rfl, rfl⟩
    rw [h4]
    go_wp2_with fail
    go_returns
    exact ⟨by rw [MN.out]; rfl, by rw [HB.out]; exact BA.out⟩
  | true =>
    have MM : Hid (mostL P k = if P.parts.all facOk then some (maxH P.parts, maxV P.parts) else none) := Lib.hid (by unfold mostL headOk; rw [h1, h2, h3, h4]; rfl)
    go_enter Try.func79, Try.ntmps79
    go_wp2_with fail
    refine (sided_any P.w _).mono ?_
    rintro e w1 ⟨rfl, rfl⟩
    rw [h3]
    go_wp2_with fail
    refine (sided_any P.h _).mono ?_
    rintro e w1 ⟨rfl, rfl⟩
    rw [h4]
    go_wp2_with fail
    go_loopw [7, 8, 10, 35] (fun h v _ j w' => ∃ n : Nat, n ≤ P.parts.length ∧ j = .int .i64 (n : Int) ∧ h = .int .i64 (maxH (P.parts.take n)) ∧ v = .int .i64 (maxV (P.parts.take n)) ∧ (P.parts.take n).all facOk = true ∧ Below B w w') (fun _ _ _ j _ => P.parts.length - (intOf j).toNat)
    case atStart => exact ⟨0, Nat.zero_le _, rfl, rfl, rfl, rfl, BA.out⟩
    case round =>
      obtain ⟨n, hn, rfl, rfl, rfl, hall, hbl⟩ := hrel
      have HA := Lib.hid hall
      have HBL := Lib.hid hbl
      clear hall hbl
      by_cases hnl : n < P.parts.length
      · have f1 : decide ((n : Int) < (P.parts.length : Int)) = true := by rw [decide_eq_true_eq]; omega
        have f2 : decide (n < P.parts.length) = true := by rw [decide_eq_true_eq]; omega
        obtain ⟨b, off, x, rfl, hPB, hBK, c0, c1, c2, c3, c4, c5, c6⟩ := HX.out n hnl
        obtain ⟨xa, xc, rfl, _⟩ := Els.len hBK
        obtain ⟨xn, hxn⟩ : ∃ xn, P.parts[n].bs.length = xn := ⟨_, rfl⟩
        rw [hxn] at c6
        clear hBK hxn
        have hbw : Below w.heap.size w wr := by rw [HB.out]; exact HBL.out
        have d0 := cell_old hbw c0
        have d1 := cell_old hbw c1
        have d2 := cell_old hbw c2
        have d3 := cell_old hbw c3
        have d4 := cell_old hbw c4
        have d5 := cell_old hbw c5
        have d6 := cell_old hbw c6
        have TK := Lib.hid (show P.parts.take (n + 1) = P.parts.take n ++ [P.parts[n]] from List.take_succ_eq_append_getElem hnl)
        have ALL : Hid (facOk P.parts[n] = false → P.parts.all facOk = false) := Lib.hid (fun h => by
          rw [List.all_eq_false]; exact ⟨_, List.getElem_mem hnl, by simp [h]⟩)
        obtain ⟨p, hp⟩ : ∃ p, P.parts[n] = p := ⟨_, rfl⟩
        rw [hp] at d0 d1 d2 d3 d4 d5 TK ALL
        have hBw : B ≤ wr.heap.size := by have := HBL.out.size; have := HB.out; omega
        have HBW := Lib.hid hBw
        clear c0 c1 c2 c3 c4 c5 c6 hbw hp hPB hBw
        cases g1 : factorB p.h with
        | false =>
          have MN : Hid (mostL P k = none) := Lib.hid (by rw [MM.out, ALL.out (by unfold facOk; rw [g1]; rfl)]; rfl)
          go_wp2_with fail
          refine (factor_any p.h _).mono ?_
          rintro e w1 ⟨rfl, rfl⟩
          rw [g1]
          go_wp2_with fail
          go_returns
          exact ⟨by rw [MN.out]; rfl, by rw [HB.out]; exact HBL.out.alloc HBW.out _⟩
        | true =>
        cases g2 : factorB p.v with
        | false =>
          have MN : Hid (mostL P k = none) := Lib.hid (by rw [MM.out, ALL.out (by unfold facOk; rw [g1, g2]; rfl)]; rfl)
          go_wp2_with fail
          refine (factor_any p.h _).mono ?_
          rintro e w1 ⟨rfl, rfl⟩
          rw [g1]
          go_wp2_with fail
          refine (factor_any p.v _).mono ?_
          rintro e w1 ⟨rfl, rfl⟩
          rw [g2]
          go_wp2_with fail
          go_returns
          exact ⟨by rw [MN.out]; rfl, by rw [HB.out]; exact HBL.out.alloc HBW.out _⟩
        | true =>
          go_wp2_with fail
          refine (factor_any p.h _).mono ?_
          rintro e w1 ⟨rfl, rfl⟩
          rw [g1]
          go_wp2_with fail
          refine (factor_any p.v _).mono ?_
          rintro e w1 ⟨rfl, rfl⟩
          rw [g2]
          have AL2 : Hid ((P.parts.take (n + 1)).all facOk = true) := Lib.hid (by rw [TK.out, List.all_append, HA.out]; simp [facOk, g1, g2])
          have MH : Hid (maxH (P.parts.take (n + 1)) = if maxH (P.parts.take n) < p.h then p.h else maxH (P.parts.take n)) := Lib.hid (by rw [TK.out, maxH_app])
          have MV : Hid (maxV (P.parts.take (n + 1)) = if maxV (P.parts.take n) < p.v then p.v else maxV (P.parts.take n)) := Lib.hid (by rw [TK.out, maxV_app])
          obtain ⟨mh, hmh⟩ : ∃ m, maxH (P.parts.take n) = m := ⟨_, rfl⟩
          obtain ⟨mv, hmv⟩ : ∃ m, maxV (P.parts.take n) = m := ⟨_, rfl⟩
          rw [hmh] at MH ⊢
          rw [hmv] at MV ⊢
          clear hmh hmv
          go_wp2_with fail
          obtain ⟨nh, hnh⟩ : ∃ nh, (if mh < p.h then p.h else mh) = nh := ⟨_, rfl⟩
          obtain ⟨nv, hnv⟩ : ∃ nv, (if mv < p.v then p.v else mv) = nv := ⟨_, rfl⟩
          rw [hnh] at MH
          rw [hnv] at MV
          go_region
          clear hnh hnv
          go_wp2_with fail
          go_roundw
          case rel => exact ⟨n + 1, by omega, by go_num, by rw [MH.out], by rw [MV.out], AL2.out, (HBL.out.alloc HBW.out _).drew⟩
          case measure => simp [intOf]; omega
      · obtain rfl : n = P.parts.length := by omega
        have f1 : decide ((P.parts.length : Int) < (P.parts.length : Int)) = false := by rw [decide_eq_false_iff_not]; omega
        have ME : Hid (mostL P k = some (maxH P.parts, maxV P.parts)) := Lib.hid (by
          have := HA.out
          rw [List.take_length] at this
          rw [MM.out, this]; rfl)
        rw [List.take_length]
        go_wp2_with fail
        go_returns
        exact ⟨by rw [ME.out]; rfl, by rw [HB.out]; exact HBL.out⟩
end Go.Proofs.Ytnhalnjdlkdnkaa
