/- Is a part in form? frame.part. By an AI agent. -/
import Derived.Test.YtnhalnjdlkdnkaaZ05
import Derived.Test.YtnhalnjdlkdnkaaZ06
namespace Go.Proofs.Ytnhalnjdlkdnkaa
open Go.RowKit Go.BigFrame
set_option linter.unusedVariables false
set_option linter.unusedSimpArgs false
set_option maxRecDepth 20000

def headB (P : PicL) (k : Int) : Bool := !decide ((sizeL P k).1 = 0) && decide (0 ≤ (partAt P k).id) && decide ((partAt P k).id ≤ 255) && decide (0 ≤ (partAt P k).tq) && decide ((partAt P k).tq ≤ 3) && decide ((partAt P k).wide = (sizeL P k).1) && decide ((partAt P k).high = (sizeL P k).2) && decide (((partAt P k).bs.length : Int) = (sizeL P k).1 * (sizeL P k).2)
def otherId (p y : PartL) : Bool := !decide (p.id = y.id)
def idB (P : PicL) (k : Int) : Bool := (P.parts.take k.toNat).all (otherId (partAt P k))
def partB (P : PicL) (k : Int) : Bool := headB P k && idB P k && (partAt P k).bs.all blkB && decide ((partAt P k).bs = shownL P k)
/-- the part's head, test by test -/
theorem head_cases (sw sh id tq wd hg : Int) (n : Nat) (pr : Int) (hd : Bool) (he : hd = (!decide (sw = 0) && decide (0 ≤ id) && decide (id ≤ 255) && decide (0 ≤ tq) && decide (tq ≤ 3) && decide (wd = sw) && decide (hg = sh) && decide ((n : Int) = pr))) :
    ((sw == 0) = true ∧ hd = false) ∨
    ((sw == 0) = false ∧ decide (id < 0) = true ∧ hd = false) ∨
    ((sw == 0) = false ∧ decide (id < 0) = false ∧ decide (255 < id) = true ∧ hd = false) ∨
    ((sw == 0) = false ∧ decide (id < 0) = false ∧ decide (255 < id) = false ∧ decide (tq < 0) = true ∧ hd = false) ∨
    ((sw == 0) = false ∧ decide (id < 0) = false ∧ decide (255 < id) = false ∧ decide (tq < 0) = false ∧ (decide (4 ≤ tq) = true ∧ decide (3 < tq) = true) ∧ hd = false) ∨
    ((sw == 0) = false ∧ decide (id < 0) = false ∧ decide (255 < id) = false ∧ decide (tq < 0) = false ∧ (decide (4 ≤ tq) = false ∧ decide (3 < tq) = false) ∧ (wd != sw) = true ∧ hd = false) ∨
    ((sw == 0) = false ∧ decide (id < 0) = false ∧ decide (255 < id) = false ∧ decide (tq < 0) = false ∧ (decide (4 ≤ tq) = false ∧ decide (3 < tq) = false) ∧ (wd != sw) = false ∧ (hg != sh) = true ∧ hd = false) ∨
    ((sw == 0) = false ∧ decide (id < 0) = false ∧ decide (255 < id) = false ∧ decide (tq < 0) = false ∧ (decide (4 ≤ tq) = false ∧ decide (3 < tq) = false) ∧ (wd != sw) = false ∧ (hg != sh) = false ∧ ((n : Int) != pr) = true ∧ hd = false) ∨
    ((sw == 0) = false ∧ decide (id < 0) = false ∧ decide (255 < id) = false ∧ decide (tq < 0) = false ∧ (decide (4 ≤ tq) = false ∧ decide (3 < tq) = false) ∧ (wd != sw) = false ∧ (hg != sh) = false ∧ ((n : Int) != pr) = false ∧ hd = true) := by
  subst he
  by_cases h1 : sw = 0
  · left; subst h1; simp
  by_cases h2 : id < 0
  · right; left; simp [h1, h2]; omega
  by_cases h3 : 255 < id
  · right; right; left; simp [h1, h2, h3]; omega
  by_cases h4 : tq < 0
  · right; right; right; left; simp [h1, h2, h3, h4]; omega
  by_cases h5 : 3 < tq
  · right; right; right; right; left; simp [h1, h2, h3, h4, h5]; omega
  by_cases h6 : wd = sw
  · by_cases h7 : hg = sh
    · by_cases h8 : (n : Int) = pr
      · right; right; right; right; right; right; right; right
        simp [h1, h2, h3, h4, h5, h6, h7, h8]; omega
      · right; right; right; right; right; right; right; left
        simp [h1, h2, h3, h4, h5, h6, h7, h8]; omega
    · right; right; right; right; right; right; left
      simp [h1, h2, h3, h4, h5, h6, h7]; omega
  · right; right; right; right; right; left
    simp [h1, h2, h3, h4, h5, h6]; omega
/-- a part's box, at one place -/
def PtB (W : World) (Q : Nat) (p : PartL) (x : Value) : Prop := W.heap[Q]? = some (.cells #[.int .i64 p.id, .int .i64 p.h, .int .i64 p.v, .int .i64 p.tq, .int .i64 p.wide, .int .i64 p.high, x] 70 (0, 0))
theorem PtB.old {w w' : World} {Q : Nat} {p : PartL} {x : Value} (h : PtB w Q p x) (hb : Below w.heap.size w w') : PtB w' Q p x := by
  unfold PtB; rw [hb.block Q (Array.getElem?_eq_some_iff.1 h).1]; exact h
theorem PtB.cells {w : World} {Q : Nat} {p : PartL} {x : Value} (h : PtB w Q p x) : w.cell? ⟨Q, 0, none⟩ = some (.int .i64 p.id) ∧ w.cell? ⟨Q, 1, none⟩ = some (.int .i64 p.h) ∧ w.cell? ⟨Q, 2, none⟩ = some (.int .i64 p.v) ∧ w.cell? ⟨Q, 3, none⟩ = some (.int .i64 p.tq) ∧ w.cell? ⟨Q, 4, none⟩ = some (.int .i64 p.wide) ∧ w.cell? ⟨Q, 5, none⟩ = some (.int .i64 p.high) ∧ w.cell? ⟨Q, 6, none⟩ = some x :=
  ⟨by rw [cell_of_row _ _ 0 _ _ _ h]; rfl, by rw [cell_of_row _ _ 1 _ _ _ h]; rfl, by rw [cell_of_row _ _ 2 _ _ _ h]; rfl, by rw [cell_of_row _ _ 3 _ _ _ h]; rfl, by rw [cell_of_row _ _ 4 _ _ _ h]; rfl, by rw [cell_of_row _ _ 5 _ _ _ h]; rfl, by rw [cell_of_row _ _ 6 _ _ _ h]; rfl⟩
set_option maxRecDepth 20000 in
set_option maxHeartbeats 8000000 in
theorem fpart_any (P : PicL) (q0 q1 q2 q3 pv kv : Value) (kn : Nat) (w : World) (hc : Pts w pv P.parts) (hl : P.parts.length ≤ 140737488351232) (hkn : kn < P.parts.length) :
    Calls Try.prog 52 #[.agg (vPic P q0 q1 q2 q3 pv kv), .int .i64 (kn : Int)] w fun e w' => e = .returned (.bool (partB P (kn : Int))) ∧ Below w.heap.size w w' := by
  obtain ⟨pa, pc, rfl, hcap, hx⟩ := pts_at hc
  have HX := Lib.hid hx
  have HC := Lib.hid hc
  obtain ⟨b, off, x, rfl, -, hBK, c0, c1, c2, c3, c4, c5, c6⟩ := hx kn hkn
  have hpa : P.parts[kn] = partAt P (kn : Int) := by unfold partAt; rw [List.getD_eq_getElem?_getD, Int.toNat_natCast, List.getElem?_eq_getElem hkn]; rfl
  rw [hpa] at hBK c0 c1 c2 c3 c4 c5
  obtain ⟨p, hp⟩ : ∃ p, partAt P (kn : Int) = p := ⟨_, rfl⟩
  rw [hp] at hBK c0 c1 c2 c3 c4 c5
  have HP := Lib.hid hp
  obtain ⟨bs, hbs⟩ : ∃ bs, p.bs = bs := ⟨_, rfl⟩
  rw [hbs] at hBK
  have HBS := Lib.hid hbs
  obtain ⟨xa, xc, rfl, -⟩ := Els.len hBK
  obtain ⟨n, hn⟩ : ∃ n, bs.length = n := ⟨_, rfl⟩
  rw [hn] at hBK c6
  have HN := Lib.hid hn
  have HK := Lib.hid hBK
  obtain ⟨w1, hw1⟩ : ∃ w1, w.alloc (.cells (vPic P q0 q1 q2 q3 (.slice (some ⟨b, off, none⟩) P.parts.length pc) kv) 36) = w1 := ⟨_, rfl⟩
  have hb1 : Below w.heap.size w w1 := by rw [← hw1]; exact (Below.refl _ _).alloc (Nat.le_refl _) _
  obtain ⟨B, hB⟩ : ∃ B, w.heap.size = B := ⟨_, rfl⟩
  have hbox : PBox w1 B P q0 q1 q2 q3 (.slice (some ⟨b, off, none⟩) P.parts.length pc) kv := by rw [← hw1, ← hB]; exact heap_alloc_new _ _
  obtain ⟨w2, hw2⟩ : ∃ w2, w1.alloc (.cells #[.int .i64 p.id, .int .i64 p.h, .int .i64 p.v, .int .i64 p.tq, .int .i64 p.wide, .int .i64 p.high, .slice xa n xc] 70) = w2 := ⟨_, rfl⟩
  have hb2 : Below w1.heap.size w1 w2 := by rw [← hw2]; exact (Below.refl _ _).alloc (Nat.le_refl _) _
  obtain ⟨Q, hQ⟩ : ∃ Q, w1.heap.size = Q := ⟨_, rfl⟩
  have hptb : PtB w2 Q p (.slice xa n xc) := by rw [← hw2, ← hQ]; exact heap_alloc_new _ _
  have B2 := Lib.hid (hb1.trans (hb2.mono hb1.size))
  have BX1 := Lib.hid hbox
  have BX2 : Hid (PBox w2 B P q0 q1 q2 q3 (.slice (some ⟨b, off, none⟩) P.parts.length pc) kv) := Lib.hid (hbox.old hb2)
  have PB2 := Lib.hid hptb
  have HB := Lib.hid hB
  have HQ := Lib.hid hQ
  obtain ⟨a0, a1, a2, a3, a4, a5, a6, a7, a8⟩ := hbox.cells
  have d0 := cell_old hb1 c0
  have d1 := cell_old hb1 c1
  have d2 := cell_old hb1 c2
  have d3 := cell_old hb1 c3
  have d4 := cell_old hb1 c4
  have d5 := cell_old hb1 c5
  have d6 := cell_old hb1 c6
  unfold vPic at hw1
  have i1 : decide ((kn : Int) < (P.parts.length : Int)) = true := by rw [decide_eq_true_eq]; omega
  have i2 : kn < P.parts.length := hkn
  have i3 : (0 : Int) ≤ (kn : Int) := by omega
  have i4 : (kn : Int) < (P.parts.length : Int) := by omega
  have i5 : decide (kn < P.parts.length) = true := by rw [decide_eq_true_eq]; exact hkn
  clear hbox hb1 hb2 hptb hx hc hBK c0 c1 c2 c3 c4 c5 c6 hpa hbs hn hp
  unfold vPic
  go_enter Try.func52, Try.ntmps52
  go_upto_region 2 with (fail)
  clear d0 d1 d2 d3 d4 d5 d6 a0 a1 a2 a3 a4 a5 a6 a7 a8
  obtain ⟨a0, a1, a2, a3, a4, a5, a6, a7, a8⟩ := BX2.out.cells
  go_wp2_with fail
  refine (size_any P q0 q1 q2 q3 _ kv (kn : Int) w2 (HC.out.old B2.out) hl).mono ?_
  rintro e w3 ⟨rfl, hb3⟩
  have B3 := Lib.hid (B2.out.trans (hb3.mono B2.out.size))
  have BX3 := Lib.hid (BX2.out.old hb3)
  have PB3 := Lib.hid (PB2.out.old hb3)
  clear hb3 a0 a1 a2 a3 a4 a5 a6 a7 a8 hw1 hw2 hB hQ
  have SI := szL_in P (kn : Int)
  obtain ⟨sw, hsw⟩ : ∃ z, (sizeL P (kn : Int)).1 = z := ⟨_, rfl⟩
  obtain ⟨sh, hsh⟩ : ∃ z, (sizeL P (kn : Int)).2 = z := ⟨_, rfl⟩
  rw [hsw, hsh] at SI ⊢
  have HSI := Lib.hid SI
  have HSW := Lib.hid hsw
  have HSH := Lib.hid hsh
  have mm := mul_in (a := sw) (b := sh) (m := 262140) (n := 262140) SI.1 SI.2
  obtain ⟨pr, hpr⟩ : ∃ pr, sw * sh = pr := ⟨_, rfl⟩
  have HPR := Lib.hid hpr
  rw [hpr] at mm
  have g1 : wrap64 (sw * sh) = pr := by rw [hpr]; exact IntWalk.wrap64_in _ (by omega)
  obtain ⟨hd, hhd⟩ : ∃ hd, headB P (kn : Int) = hd := ⟨_, rfl⟩
  have HD := Lib.hid hhd
  have HE : Hid (hd = (!decide (sw = 0) && decide (0 ≤ p.id) && decide (p.id ≤ 255) && decide (0 ≤ p.tq) && decide (p.tq ≤ 3) && decide (p.wide = sw) && decide (p.high = sh) && decide ((n : Int) = pr))) := Lib.hid (by rw [← hhd]; unfold headB; rw [HP.out, HBS.out, HN.out, HSW.out, HSH.out, HPR.out])
  clear mm hpr hsw hsh SI hhd
  go_upto_region 3 with (fail)
  go_cut [64] from 22 to 64 (fun c wx => c = .bool (!hd) ∧ w3 = wx)
  case first =>
    obtain ⟨e0, e1, e2, e3, e4, e5, e6⟩ := PB3.out.cells
    rcases head_cases sw sh p.id p.tq p.wide p.high n pr hd HE.out with ⟨v1, o⟩ | ⟨v1, v2, o⟩ | ⟨v1, v2, v3, o⟩ | ⟨v1, v2, v3, v4, o⟩ | ⟨v1, v2, v3, v4, ⟨v5, v5'⟩, o⟩ | ⟨v1, v2, v3, v4, ⟨v5, v5'⟩, v6, o⟩ | ⟨v1, v2, v3, v4, ⟨v5, v5'⟩, v6, v7, o⟩ | ⟨v1, v2, v3, v4, ⟨v5, v5'⟩, v6, v7, v8, o⟩ | ⟨v1, v2, v3, v4, ⟨v5, v5'⟩, v6, v7, v8, o⟩
    all_goals
      have HO := Lib.hid o
      clear o
      go_wp2_with fail
      go_meet
      exact ⟨by rw [HO.out]; rfl, rfl⟩
  case rest =>
  obtain ⟨rfl, rfl⟩ := hcut
  cases hd with
  | false =>
    have RE : Hid (partB P (kn : Int) = false) := Lib.hid (by unfold partB; rw [HD.out]; rfl)
    go_wp2_with fail
    go_ret
    exact ⟨by rw [RE.out]; rfl, B3.out⟩
  | true =>
  obtain ⟨a0, a1, a2, a3, a4, a5, a6, a7, a8⟩ := BX3.out.cells
  have j1 : kn ≤ pc := by omega
  have j2 : (kn : Int) ≤ (pc : Int) := by omega
  clear i1 i2 i4 i5 g1
  go_wp2_with fail
  clear a0 a1 a2 a3 a4 a5 a6 a7 a8
  go_loopw [70] (fun i W => ∃ j : Nat, j ≤ kn ∧ i = .int .i64 (j : Nat) ∧ (P.parts.take j).all (otherId p) = true ∧ Below w3.heap.size w3 W) (fun i _ => kn - (intOf i).toNat)
  case atStart => exact ⟨0, Nat.zero_le _, rfl, by simp, Below.refl _ _⟩
  case round =>
    obtain ⟨j, hj, rfl, ha, hb⟩ := hrel
    have HA := Lib.hid ha
    have BB := Lib.hid hb
    have BX := Lib.hid (BX3.out.old hb)
    have PB := Lib.hid (PB3.out.old hb)
    have BW := Lib.hid (B3.out.trans (hb.mono B3.out.size))
    clear ha hb
    by_cases hjn : j < kn
    · have f1 : decide ((j : Int) < (kn : Int)) = true := by rw [decide_eq_true_eq]; omega
      have f1' : decide (j < kn) = true := by rw [decide_eq_true_eq]; omega
      have f2 : (j : Int) < (kn : Int) := by omega
      have hjl : j < P.parts.length := by omega
      obtain ⟨b', off', x', he, -, hBK', c0, c1, c2, c3, c4, c5, c6⟩ := HX.out j hjl
      simp only [Option.some.injEq, Addr.mk.injEq, and_true] at he
      obtain ⟨rfl, rfl⟩ := he
      obtain ⟨ya, yc, rfl, -⟩ := Els.len hBK'
      obtain ⟨yn, hyn⟩ : ∃ yn, (P.parts[j]'hjl).bs.length = yn := ⟨_, rfl⟩
      rw [hyn] at c6
      clear hBK' hyn
      have hs := Lib.hid (all_take_succ P.parts (otherId p) j hjl)
      have hne : Hid (otherId p (P.parts[j]'hjl) = false → idB P (kn : Int) = false) := Lib.hid (fun h => by
        unfold idB
        rw [HP.out, Int.toNat_natCast]
        exact all_false_at _ _ j (by rw [List.length_take]; omega) (by rw [List.getElem_take]; exact h))
      obtain ⟨y, hy⟩ : ∃ y, P.parts[j]'hjl = y := ⟨_, rfl⟩
      rw [hy] at c0 c1 c2 c3 c4 c5 hs hne
      have d0 := cell_old BW.out c0
      have d1 := cell_old BW.out c1
      have d2 := cell_old BW.out c2
      have d3 := cell_old BW.out c3
      have d4 := cell_old BW.out c4
      have d5 := cell_old BW.out c5
      have d6 := cell_old BW.out c6
      obtain ⟨e0, e1, e2, e3, e4, e5, e6⟩ := PB.out.cells
      have OI : Hid (otherId p y = !decide (p.id = y.id)) := Lib.hid rfl
      have gj : IntKind.i64.wrap ((j : Int) + 1) = (j : Int) + 1 := IntWalk.i64_in _ (by omega)
      have HJN := Lib.hid hjn
      have HJL := Lib.hid hjl
      clear hy c0 c1 c2 c3 c4 c5 c6 hjl
      obtain ⟨W9, hW9⟩ : ∃ W9, wr.alloc (.cells #[.int .i64 y.id, .int .i64 y.h, .int .i64 y.v, .int .i64 y.tq, .int .i64 y.wide, .int .i64 y.high, .slice ya yn yc] 70) = W9 := ⟨_, rfl⟩
      obtain ⟨Z, hZ⟩ : ∃ Z, wr.heap.size = Z := ⟨_, rfl⟩
      have hb9 : Below wr.heap.size wr W9 := by rw [← hW9]; exact (Below.refl _ _).alloc (Nat.le_refl _) _
      have h9 : W9.cell? ⟨Z, 0, none⟩ = some (.int .i64 y.id) := by rw [← hW9, ← hZ, cell_of_row _ _ 0 _ _ _ (heap_alloc_new _ _)]; rfl
      have z0 := cell_old hb9 e0
      have B9 := Lib.hid (BB.out.trans (hb9.mono BB.out.size))
      have B9W := Lib.hid (BW.out.trans (hb9.mono BW.out.size))
      clear hb9 e0 e1 e2 e3 e4 e5 e6
      by_cases hid : p.id = y.id
      · have v1 : (p.id == y.id) = true := by rw [beq_iff_eq]; exact hid
        have NO : Hid (partB P (kn : Int) = false) := Lib.hid (by
          have := hne.out (by rw [OI.out, decide_eq_true hid]; rfl)
          unfold partB
          rw [this, Bool.and_false]; rfl)
        clear hid
        go_wp2_with fail
        go_ret
        exact ⟨by rw [NO.out]; rfl, B9W.out⟩
      · have v1 : (p.id == y.id) = false := by rw [beq_eq_false_iff_ne]; exact hid
        have YES : Hid ((P.parts.take (j + 1)).all (otherId p) = true) := Lib.hid (by rw [hs.out, HA.out, OI.out, decide_eq_false hid]; rfl)
        clear hid
        go_wp2_with fail
        go_roundw
        case rel => exact ⟨j + 1, HJN.out, by go_num, YES.out, B9.out⟩
        case measure => simp [intOf]; have := HJN.out; omega
    · obtain rfl : j = kn := by omega
      have f1 : decide ((j : Int) < (j : Int)) = false := by rw [decide_eq_false_iff_not]; omega
      have IB : Hid (idB P (j : Int) = true) := Lib.hid (by unfold idB; rw [HP.out, Int.toNat_natCast]; exact HA.out)
      have PE : Hid (partB P (j : Int) = (bs.all blkB && decide (bs = shownL P (j : Int)))) := Lib.hid (by unfold partB; rw [HD.out, IB.out, HP.out, HBS.out]; rfl)
      have CC : PBox wr.drew B P q0 q1 q2 q3 (.slice (some ⟨b, off, none⟩) P.parts.length pc) kv ∧ PtB wr.drew Q p (.slice xa n xc) ∧ Below wr.heap.size wr wr.drew := ⟨BX.out.old (Below.refl _ _).drew, PB.out.old (Below.refl _ _).drew, (Below.refl _ _).drew⟩
      have HCC := Lib.hid CC
      have BKW := Lib.hid (HK.out.old BW.out)
      have NLN : Hid (bs.length ≤ 100000000000) := Lib.hid (by
        have h := HE.out
        rw [eq_comm, Bool.and_eq_true, decide_eq_true_eq] at h
        have h2 := h.2
        have SI := HSI.out
        have mm := mul_in (a := sw) (b := sh) (m := 262140) (n := 262140) SI.1 SI.2
        rw [HPR.out] at mm
        have := HN.out
        omega)
      clear CC hjn
      go_upto_region 12 with (fail)
      clear f1
      obtain ⟨qa, hqa⟩ : ∃ qa, bs.all blkB = qa := ⟨_, rfl⟩
      have HQA := Lib.hid hqa
      rw [hqa] at PE
      clear hqa
      have CB : Hid (∀ X, (PBox X B P q0 q1 q2 q3 (.slice (some ⟨b, off, none⟩) P.parts.length pc) kv ∧ PtB X Q p (.slice xa n xc) ∧ Below wr.heap.size wr X) → Calls Try.prog 73 #[.slice xa n xc, .func (.func 71) #[] #[]] X fun e w' => e = .returned (.bool (!qa)) ∧ (PBox w' B P q0 q1 q2 q3 (.slice (some ⟨b, off, none⟩) P.parts.length pc) kv ∧ PtB w' Q p (.slice xa n xc) ∧ Below wr.heap.size wr w')) := Lib.hid (fun X hX => by
        refine (containsBlk _ bs X (BKW.out.old hX.2.2) (by have := NLN.out; omega)).mono ?_
        rintro e W' ⟨h1, h2⟩
        exact ⟨by rw [h1, HQA.out], hX.1.old h2, hX.2.1.old h2, hX.2.2.trans (h2.mono hX.2.2.size)⟩)
      cases qa with
      | false =>
        refine wp_region_q (fun X => PBox X B P q0 q1 q2 q3 (.slice (some ⟨b, off, none⟩) P.parts.length pc) kv ∧ PtB X Q p (.slice xa n xc) ∧ Below wr.heap.size wr X) (by kernel_rfl) (by kernel_rfl) HCC.out ?_
        repeat
          first
          | go_big_quiet_skip
          | (go_big_quiet_want
             first
             | (go_big_quiet_op; go_big_quiet_on)
             | (apply Exists.intro
                refine ⟨fun X hX => ?_, ?_⟩
                · have hXX := Lib.hid hX
                  obtain ⟨hbx, hpb, eZ⟩ := hX
                  obtain ⟨a0, a1, a2, a3, a4, a5, a6, a7, a8⟩ := hbx.cells
                  obtain ⟨e0, e1, e2, e3, e4, e5, e6⟩ := hpb.cells
                  clear hbx hpb eZ
                  unfold Oper.quietAt
                  go_simp
                  first
                  | exact ⟨rfl, hXX.out⟩
                  | exact ⟨rfl, rfl⟩
                  | exact rfl
                  | (go_at_call 73; exact CB.out _ hXX.out)
                go_big_quiet_on
                try simp only [Act.put, List.setIfInBounds_toArray, List.set_cons_zero, List.set_cons_succ]))
        refine wpQuiet_nil ?_
        rintro Y ⟨-, -, hbY⟩
        have BY := Lib.hid (BW.out.trans (hbY.mono BW.out.size))
        clear hbY
        go_wp2_with fail
        go_ret
        exact ⟨by rw [PE.out]; rfl, BY.out⟩
      | true =>
        refine wp_region_mix (fun X => PBox X B P q0 q1 q2 q3 (.slice (some ⟨b, off, none⟩) P.parts.length pc) kv ∧ PtB X Q p (.slice xa n xc) ∧ Below wr.heap.size wr X) [true, true, true, false, true, true, true, true, true, true, false, false, true, true] (by kernel_rfl) (by kernel_rfl) HCC.out (fun hC0 => ?_)
        repeat
          (refine mix_take ?_
           apply Exists.intro
           refine ⟨Or.inl ⟨by rfl, fun X hX => ?_⟩, ?_⟩
           · obtain ⟨hbx, hpb, eZ⟩ := hX
             obtain ⟨a0, a1, a2, a3, a4, a5, a6, a7, a8⟩ := hbx.cells
             obtain ⟨e0, e1, e2, e3, e4, e5, e6⟩ := hpb.cells
             clear hbx hpb eZ
             go_simp
             exact rfl
           simp only [Act.put, List.setIfInBounds_toArray, List.set_cons_zero, List.set_cons_succ])
        have C0 := Lib.hid hC0
        clear hC0
        refine mix_step (fun K hK => ?_)
        rw [if_pos (by rfl)]
        go_wp2_with (go_at_call 73; refine (CB.out _ C0.out).mono ?_; rintro e x1 ⟨rfl, hc1⟩)
        refine hK.out _ _ hc1 (fun _ => ?_)
        have C1 := Lib.hid hc1
        clear hK K hc1
        try simp only [Act.put, List.setIfInBounds_toArray, List.set_cons_zero, List.set_cons_succ]
        repeat
          (refine mix_take ?_
           apply Exists.intro
           refine ⟨Or.inl ⟨by rfl, fun X hX => ?_⟩, ?_⟩
           · obtain ⟨hbx, hpb, eZ⟩ := hX
             obtain ⟨a0, a1, a2, a3, a4, a5, a6, a7, a8⟩ := hbx.cells
             obtain ⟨e0, e1, e2, e3, e4, e5, e6⟩ := hpb.cells
             clear hbx hpb eZ
             go_simp
             exact rfl
           simp only [Act.put, List.setIfInBounds_toArray, List.set_cons_zero, List.set_cons_succ])
        refine mix_step (fun K hK => ?_)
        rw [if_pos (by rfl)]
        go_wp2_with (go_at_call 58; refine (shown_any P q0 q1 q2 q3 _ kv (j : Int) x1 (HC.out.old (BW.out.trans (C1.out.2.2.mono BW.out.size))) hl).mono ?_; rintro e x2 ⟨v4, rfl, ho4, hb4⟩)
        have C2 : Hid (PBox x2 B P q0 q1 q2 q3 (.slice (some ⟨b, off, none⟩) P.parts.length pc) kv ∧ PtB x2 Q p (.slice xa n xc) ∧ Below wr.heap.size wr x2) := Lib.hid ⟨C1.out.1.old hb4, C1.out.2.1.old hb4, C1.out.2.2.trans (hb4.mono C1.out.2.2.size)⟩
        have O4 := Lib.hid ho4.bks
        refine hK.out _ _ C2.out (fun _ => ?_)
        clear hK K ho4 hb4
        try simp only [Act.put, List.setIfInBounds_toArray, List.set_cons_zero, List.set_cons_succ]
        refine mix_step (fun K hK => ?_)
        rw [if_pos (by rfl)]
        go_wp2_with (go_at_call 74; refine (eqBlocks_any _ _ bs (shownL P (j : Int)) x2 (BKW.out.old C2.out.2.2) O4.out (by have := NLN.out; omega)).mono ?_; rintro e x3 ⟨rfl, hb5⟩)
        have C3 : Hid (PBox x3 B P q0 q1 q2 q3 (.slice (some ⟨b, off, none⟩) P.parts.length pc) kv ∧ PtB x3 Q p (.slice xa n xc) ∧ Below wr.heap.size wr x3) := Lib.hid ⟨C2.out.1.old hb5, C2.out.2.1.old hb5, C2.out.2.2.trans (hb5.mono C2.out.2.2.size)⟩
        refine hK.out _ _ C3.out (fun _ => ?_)
        clear hK K hb5
        obtain ⟨qe, hqe⟩ : ∃ qe, decide (bs = shownL P (j : Int)) = qe := ⟨_, rfl⟩
        rw [hqe] at PE ⊢
        clear hqe
        try simp only [Act.put, List.setIfInBounds_toArray, List.set_cons_zero, List.set_cons_succ]
        repeat
          (refine mix_take ?_
           apply Exists.intro
           refine ⟨Or.inl ⟨by rfl, fun X hX => ?_⟩, ?_⟩
           · obtain ⟨hbx, hpb, eZ⟩ := hX
             obtain ⟨a0, a1, a2, a3, a4, a5, a6, a7, a8⟩ := hbx.cells
             obtain ⟨e0, e1, e2, e3, e4, e5, e6⟩ := hpb.cells
             clear hbx hpb eZ
             go_simp
             exact rfl
           simp only [Act.put, List.setIfInBounds_toArray, List.set_cons_zero, List.set_cons_succ])
        refine mix_done ?_
        go_wp2_with fail
        go_ret
        exact ⟨by rw [PE.out]; rfl, BW.out.trans (C3.out.2.2.mono BW.out.size)⟩
end Go.Proofs.Ytnhalnjdlkdnkaa
