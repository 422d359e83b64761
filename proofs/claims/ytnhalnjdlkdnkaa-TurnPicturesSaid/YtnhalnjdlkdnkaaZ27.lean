/- Is a picture in form, by the document: burnishref23.Good. By an AI agent. -/
import Derived.Test.YtnhalnjdlkdnkaaZ09
namespace Go.Proofs.Ytnhalnjdlkdnkaa
open Go.RowKit Go.BigFrame
set_option linter.unusedVariables false
set_option linter.unusedSimpArgs false
set_option maxRecDepth 20000

theorem wpList_wtd {P : Program} {w : World} {ops : Array Oper} {rest : List Oper} {o : Oper} {a : Act} {Q : Exit → Act → World → Prop} (hw : Region.wanted o (yielded ops a.tmps) = true)
    (h : ∀ K : Act → World → Prop, (∀ a w, wpList P ops Q rest a w → K a w) → o.wp P a w K Q) : wpList P ops Q (o :: rest) a w := by
  unfold wpList
  rw [if_pos hw]
  exact .inl (h _ (fun _ _ h => h))
theorem wp_aggB {P : Program} {w : World} {o : Oper} {a : Act} {K : Act → World → Prop} {Q : Exit → Act → World → Prop} (t : TypeId) (parts : Array (Nat × Operand)) (ho : o.op = .build t parts) (ps : List (Nat × Value)) (cells : Array Value) (hp : (parts.map fun (i, x) => (i, a.eval x)).toList = ps) (hb : P.built t ps = some cells)
    (h : K (a.put o.dst (.agg cells)) w) : o.wp P a w K Q := by
  refine wp_build t parts ho (by rw [hp, hb]; rfl) ?_
  rw [hp, hb]
  exact h
theorem zero_lit : (vIs zero64).toArray = #[.int .i64 0, .int .i64 0, .int .i64 0, .int .i64 0, .int .i64 0, .int .i64 0, .int .i64 0, .int .i64 0, .int .i64 0, .int .i64 0, .int .i64 0, .int .i64 0, .int .i64 0, .int .i64 0, .int .i64 0, .int .i64 0, .int .i64 0, .int .i64 0, .int .i64 0, .int .i64 0, .int .i64 0, .int .i64 0, .int .i64 0, .int .i64 0, .int .i64 0, .int .i64 0, .int .i64 0, .int .i64 0, .int .i64 0, .int .i64 0, .int .i64 0, .int .i64 0, .int .i64 0, .int .i64 0, .int .i64 0, .int .i64 0, .int .i64 0, .int .i64 0, .int .i64 0, .int .i64 0, .int .i64 0, .int .i64 0, .int .i64 0, .int .i64 0, .int .i64 0, .int .i64 0, .int .i64 0, .int .i64 0, .int .i64 0, .int .i64 0, .int .i64 0, .int .i64 0, .int .i64 0, .int .i64 0, .int .i64 0, .int .i64 0, .int .i64 0, .int .i64 0, .int .i64 0, .int .i64 0, .int .i64 0, .int .i64 0, .int .i64 0, .int .i64 0] := rfl
/-! ## plain -/
def cntTo (P : PicL) (k : Nat) (t : Nat) : Int := (((P.parts.take k).countP fun p => decide (p.tq = (t : Int)) : Nat) : Int)
theorem cntTo_zero (P : PicL) (t : Nat) : cntTo P 0 t = 0 := rfl
theorem cntTo_succ (P : PicL) (k t : Nat) (hk : k < P.parts.length) : cntTo P (k + 1) t = if P.parts[k].tq = (t : Int) then cntTo P k t + 1 else cntTo P k t := by
  unfold cntTo
  rw [List.take_succ_eq_append_getElem hk, List.countP_append]
  by_cases h : P.parts[k].tq = (t : Int)
  · simp [h]
  · simp [h]
theorem cntTo_in (P : PicL) (k t : Nat) : 0 ≤ cntTo P k t ∧ cntTo P k t ≤ k := by
  unfold cntTo
  have h := List.countP_le_length (p := fun p : PartL => decide (p.tq = (t : Int))) (l := P.parts.take k)
  have h2 := List.length_take_le k P.parts
  omega
theorem cntTo_used (P : PicL) (t : Nat) : (cntTo P P.parts.length t == 0) = !usedB P.parts (t : Int) := by
  unfold cntTo usedB
  rw [List.take_length]
  rcases Nat.eq_zero_or_pos (P.parts.countP fun p => decide (p.tq = (t : Int))) with h | h
  · rw [h]
    have : P.parts.any (fun p => decide (p.tq = (t : Int))) = false := by
      rw [List.any_eq_false]
      exact fun p hp => List.countP_eq_zero.1 h p hp
    rw [this]; rfl
  · have h2 : P.parts.any (fun p => decide (p.tq = (t : Int))) = true := by
      obtain ⟨p, hp, hq⟩ := List.countP_pos_iff.1 h
      exact List.any_eq_true.2 ⟨p, hp, hq⟩
    rw [h2, Bool.not_true, beq_eq_false_iff_ne]
    omega
/-- the counters' box -/
def UsT (W : World) (U : Nat) (f : Nat → Int) : Prop := W.heap[U]? = some (.cells #[.int .i64 (f 0), .int .i64 (f 1), .int .i64 (f 2), .int .i64 (f 3)] 76 (0, 0))
theorem UsT.old {w w' : World} {U : Nat} {f : Nat → Int} (h : UsT w U f) (hb : Below w.heap.size w w') : UsT w' U f := by
  unfold UsT; rw [hb.block U (Array.getElem?_eq_some_iff.1 h).1]; exact h
theorem UsT.cell {w : World} {U : Nat} {f : Nat → Int} (h : UsT w U f) (t : Nat) (ht : t < 4) : w.cell? ⟨U, t, none⟩ = some (.int .i64 (f t)) := by
  rw [cell_of_row _ _ t _ _ _ h]
  rcases (show t = 0 ∨ t = 1 ∨ t = 2 ∨ t = 3 by omega) with rfl | rfl | rfl | rfl <;> rfl
theorem UsT.frozen {w : World} {U : Nat} {f : Nat → Int} (h : UsT w U f) (t : Nat) : w.frozen? ⟨U, t, none⟩ = false := frozen_of_row w U t _ _ h
theorem UsT.inc {w : World} {U : Nat} {f g : Nat → Int} (h : UsT w U f) (t : Nat) (ht : t < 4) (hg : ∀ s, s < 4 → g s = if s = t then f t + 1 else f s) : UsT (w.setCell ⟨U, t, none⟩ (.int .i64 (f t + 1))) U g := by
  unfold UsT at *
  rw [heap_setCell_same w U t _ _ _ h]
  have g0 := hg 0 (by omega)
  have g1 := hg 1 (by omega)
  have g2 := hg 2 (by omega)
  have g3 := hg 3 (by omega)
  rcases (show t = 0 ∨ t = 1 ∨ t = 2 ∨ t = 3 by omega) with rfl | rfl | rfl | rfl <;> simp_all
theorem pbox_q {w : World} {B : Nat} {P : PicL} {q0 q1 q2 q3 pv kv : Value} (h : PBox w B P q0 q1 q2 q3 pv kv) (j : Nat) (hj : j < 4) : w.cell? ⟨B, 2 + j, none⟩ = some (qV q0 q1 q2 q3 j) := by
  obtain ⟨a0, a1, a2, a3, a4, a5, a6, a7, a8⟩ := h.cells
  rcases (show j = 0 ∨ j = 1 ∨ j = 2 ∨ j = 3 by omega) with rfl | rfl | rfl | rfl
  · exact a2
  · exact a3
  · exact a4
  · exact a5
/-- a part's blocks, one by one -/
def okAt (sw ow oh : Int) (bs : List (List Int)) (i : Nat) : Bool := blkB (bs.getD i []) && decide (shB sw ow oh i (bs.getD i []) = bs.getD i [])
theorem okAt_all (sw ow oh : Int) (bs : List (List Int)) : (List.range bs.length).all (okAt sw ow oh bs) = (bs.all blkB && decide (bs = shTo sw ow oh bs bs.length)) := by
  have gd : ∀ i (h : i < bs.length), bs.getD i [] = bs[i] := fun i h => by rw [List.getD_eq_getElem?_getD, List.getElem?_eq_getElem h]; rfl
  rw [Bool.eq_iff_iff, Bool.and_eq_true, decide_eq_true_eq, List.all_eq_true, List.all_eq_true]
  constructor
  · intro h
    refine ⟨fun b hb => ?_, ?_⟩
    · obtain ⟨i, hi, rfl⟩ := List.mem_iff_getElem.1 hb
      have := h i (List.mem_range.2 hi)
      unfold okAt at this
      rw [gd i hi, Bool.and_eq_true] at this
      exact this.1
    · apply List.ext_getElem (by rw [shTo_length])
      intro i h1 h2
      rw [shTo_at _ _ _ _ _ _ h1, if_pos h1]
      have := h i (List.mem_range.2 h1)
      unfold okAt at this
      rw [gd i h1, Bool.and_eq_true, decide_eq_true_eq] at this
      exact this.2.symm
  · rintro ⟨h1, h2⟩ i hi
    have hi' := List.mem_range.1 hi
    unfold okAt
    rw [gd i hi', Bool.and_eq_true, decide_eq_true_eq]
    refine ⟨h1 _ (List.getElem_mem hi'), ?_⟩
    have h3 : (shTo sw ow oh bs bs.length)[i]? = bs[i]? := by rw [← h2]
    rw [List.getElem?_eq_getElem (by rw [shTo_length]; exact hi'), List.getElem?_eq_getElem hi', shTo_at _ _ _ _ _ _ hi', if_pos hi'] at h3
    simpa using h3
theorem partB_ok {P : PicL} {k : Int} (h : headB P k = true) : partB P k = (idB P k && (List.range (partAt P k).bs.length).all (okAt (sizeL P k).1 (ownL P k).1 (ownL P k).2 (partAt P k).bs)) := by
  have hf : fullB P k = true := by
    unfold headB at h
    simp only [Bool.and_eq_true] at h
    unfold fullB
    rw [h.2]
    simpa using h.1.1.1.1.1.1.1
  rw [okAt_all]
  unfold partB shownL
  rw [h, hf, if_pos rfl, Bool.true_and, Bool.and_assoc]
theorem head_tq {P : PicL} {k : Int} (h : headB P k = true) : 0 ≤ (partAt P k).tq ∧ (partAt P k).tq ≤ 3 := by
  unfold headB at h
  simp only [Bool.and_eq_true, decide_eq_true_eq] at h
  omega
/-- the head, test by test, as the document has it -/
theorem rtop_cases (n : Nat) (W H r : Int) (tb tp : Bool) (he : tp = (decide (1 ≤ n) && decide (n ≤ 4) && sidedB W && sidedB H && decide (0 ≤ r) && decide (r ≤ 65535) && !tb)) :
    ((decide ((n : Int) < 1) = true ∧ decide (n < 1) = true) ∧ tp = false) ∨
    ((decide ((n : Int) < 1) = false ∧ decide (n < 1) = false) ∧ (decide (4 < (n : Int)) = true ∧ decide (4 < n) = true) ∧ tp = false) ∨
    ((decide ((n : Int) < 1) = false ∧ decide (n < 1) = false) ∧ (decide (4 < (n : Int)) = false ∧ decide (4 < n) = false) ∧ decide (W < 1) = true ∧ tp = false) ∨
    ((decide ((n : Int) < 1) = false ∧ decide (n < 1) = false) ∧ (decide (4 < (n : Int)) = false ∧ decide (4 < n) = false) ∧ decide (W < 1) = false ∧ decide (H < 1) = true ∧ tp = false) ∨
    ((decide ((n : Int) < 1) = false ∧ decide (n < 1) = false) ∧ (decide (4 < (n : Int)) = false ∧ decide (4 < n) = false) ∧ decide (W < 1) = false ∧ decide (H < 1) = false ∧ decide (r < 0) = true ∧ tp = false) ∨
    ((decide ((n : Int) < 1) = false ∧ decide (n < 1) = false) ∧ (decide (4 < (n : Int)) = false ∧ decide (4 < n) = false) ∧ decide (W < 1) = false ∧ decide (H < 1) = false ∧ decide (r < 0) = false ∧ decide (65535 < r) = true ∧ tp = false) ∨
    ((decide ((n : Int) < 1) = false ∧ decide (n < 1) = false) ∧ (decide (4 < (n : Int)) = false ∧ decide (4 < n) = false) ∧ decide (W < 1) = false ∧ decide (H < 1) = false ∧ decide (r < 0) = false ∧ decide (65535 < r) = false ∧ (n ≤ 4 ∧ 1 ≤ W ∧ 1 ≤ H) ∧ tp = !(decide (65535 < W) || decide (65535 < H) || tb)) := by
  subst he
  by_cases h1 : n < 1
  · left; simp [h1]; omega
  by_cases h2 : 4 < n
  · right; left; simp [h1, h2]; omega
  by_cases h5 : W < 1
  · right; right; left; simp [h1, h2, h5, sidedB]; omega
  by_cases h6 : H < 1
  · right; right; right; left; simp [h1, h2, h5, h6, sidedB]; omega
  by_cases h3 : r < 0
  · right; right; right; right; left; simp [h1, h2, h3, h5, h6]; omega
  by_cases h4 : 65535 < r
  · right; right; right; right; right; left; simp [h1, h2, h3, h4, h5, h6]; omega
  · right; right; right; right; right; right
    refine ⟨⟨by simp; omega, by simp; omega⟩, ⟨by simp; omega, by simp; omega⟩, by simp; omega, by simp; omega, by simp; omega, by simp; omega, by omega, ?_⟩
    rw [Bool.eq_iff_iff]
    simp only [sidedB, Bool.and_eq_true, Bool.not_eq_true', Bool.or_eq_false_iff, decide_eq_true_eq, decide_eq_false_iff_not]
    constructor
    · rintro ⟨⟨⟨⟨⟨⟨a, b⟩, c⟩, d⟩, e⟩, f⟩, g⟩; exact ⟨⟨by omega, by omega⟩, g⟩
    · rintro ⟨⟨a, b⟩, g⟩; exact ⟨⟨⟨⟨⟨⟨by omega, by omega⟩, by omega, by omega⟩, by omega, by omega⟩, by omega⟩, by omega⟩, g⟩
set_option maxRecDepth 20000 in
set_option maxHeartbeats 16000000 in
theorem refGood_any (P : PicL) (q0 q1 q2 q3 pv kv : Value) (w : World) (hp : PicC w P q0 q1 q2 q3 pv kv) (hB : PicB P) :
    Calls Try.prog 17 #[.agg (vPic P q0 q1 q2 q3 pv kv)] w fun e w' => e = .returned (.bool (goodB P)) ∧ Below w.heap.size w w' := by
  have hl := hB.parts
  have hkl := hB.kept
  obtain ⟨pa, pc, rfl, _, hxp⟩ := pts_at hp.parts
  obtain ⟨sa, sc, rfl, _, hsx⟩ := sgs_at hp.kept
  have HC := Lib.hid hp.parts
  have HXP := Lib.hid hxp
  have HSX := Lib.hid hsx
  have HQ := Lib.hid (fun k => qV_ns hp k)
  have HQL := Lib.hid (fun k => qL_len hB k)
  obtain ⟨n, hn⟩ : ∃ n, P.parts.length = n := ⟨_, rfl⟩
  obtain ⟨sn, hsn⟩ : ∃ n, P.kept.length = n := ⟨_, rfl⟩
  rw [hn] at HC hl ⊢
  rw [hsn] at hkl ⊢
  have HN := Lib.hid hn
  have HSN := Lib.hid hsn
  obtain ⟨w1, hw1⟩ : ∃ w1, w.alloc (.cells (vPic P q0 q1 q2 q3 (.slice pa n pc) (.slice sa sn sc)) 36) = w1 := ⟨_, rfl⟩
  have hb1 : Below w.heap.size w w1 := by rw [← hw1]; exact (Below.refl _ _).alloc (Nat.le_refl _) _
  obtain ⟨B, hBB⟩ : ∃ B, w.heap.size = B := ⟨_, rfl⟩
  have hbox : PBox w1 B P q0 q1 q2 q3 (.slice pa n pc) (.slice sa sn sc) := by rw [← hw1, ← hBB]; exact heap_alloc_new _ _
  have B1 := Lib.hid hb1
  have BX1 := Lib.hid hbox
  have HBB := Lib.hid hBB
  obtain ⟨tp, htp⟩ : ∃ tp, topB P = tp := ⟨_, rfl⟩
  have TP := Lib.hid htp
  have GB : Hid (goodB P = (tp && partsB P n && quantsB P 4 && P.kept.all segB)) := Lib.hid (by unfold goodB; rw [htp, hn])
  unfold vPic at hw1
  clear hp hB hb1 hbox hsx htp hn hsn hxp
  unfold vPic
  go_enter Try.func17, Try.ntmps17
  go_upto_region 1 with (fail)
  clear hw1 hBB
  go_cut [49] from 16 to 49 (fun c wx => c = .bool (!tp) ∧ Below w.heap.size w wx ∧ PBox wx B P q0 q1 q2 q3 (.slice pa n pc) (.slice sa sn sc))
  case first =>
    have TE : tp = (decide (1 ≤ n) && decide (n ≤ 4) && sidedB P.w && sidedB P.h && decide (0 ≤ P.restart) && decide (P.restart ≤ 65535) && !tooB P) := by rw [← TP.out, ← HN.out]; rfl
    obtain ⟨a0, a1, a2, a3, a4, a5, a6, a7, a8⟩ := BX1.out.cells
    rcases rtop_cases n P.w P.h P.restart (tooB P) tp TE with ⟨⟨v1, v1'⟩, o⟩ | ⟨⟨v1, v1'⟩, ⟨v2, v2'⟩, o⟩ | ⟨⟨v1, v1'⟩, ⟨v2, v2'⟩, v5, o⟩ | ⟨⟨v1, v1'⟩, ⟨v2, v2'⟩, v5, v6, o⟩ | ⟨⟨v1, v1'⟩, ⟨v2, v2'⟩, v5, v6, v3, o⟩ | ⟨⟨v1, v1'⟩, ⟨v2, v2'⟩, v5, v6, v3, v4, o⟩ | ⟨⟨v1, v1'⟩, ⟨v2, v2'⟩, v5, v6, v3, v4, v7, o⟩
    case inr.inr.inr.inr.inr.inr =>
      have HO := Lib.hid o
      have H7 := Lib.hid v7
      clear o TE v7
      go_wp2_with fail
      refine (tooLarge_any P q0 q1 q2 q3 _ _ w1 (HC.out.old B1.out) (by rw [HN.out]; have := H7.out; omega) H7.out.2.1 H7.out.2.2).mono ?_
      rintro e x1 ⟨rfl, hb9⟩
      have B9 := Lib.hid (B1.out.trans (hb9.mono B1.out.size))
      have BX9 := Lib.hid (BX1.out.old hb9)
      clear hb9 a0 a1 a2 a3 a4 a5 a6 a7 a8
      obtain ⟨tb, htb⟩ : ∃ tb, (decide (65535 < P.w) || decide (65535 < P.h) || tooB P) = tb := ⟨_, rfl⟩
      rw [htb] at HO ⊢
      clear htb
      go_wp2_with fail
      go_meet
      exact ⟨by rw [HO.out, Bool.not_not], B9.out, BX9.out⟩
    all_goals
      have HO := Lib.hid o
      clear o TE
      go_wp2_with fail
      go_meet
      exact ⟨by rw [HO.out]; rfl, B1.out, BX1.out⟩
  case rest =>
  obtain ⟨rfl, hb2, hx2⟩ := hcut
  have B2 := Lib.hid hb2
  have BX2 := Lib.hid hx2
  clear hb2 hx2 B1 BX1
  cases tp with
  | false =>
    have RE : Hid (goodB P = false) := Lib.hid (by rw [GB.out]; rfl)
    go_wp2_with fail
    go_ret
    exact ⟨by rw [RE.out]; rfl, B2.out⟩
  | true =>
  rw [Bool.not_true]
  have N4 : Hid (n ≤ 4) := Lib.hid (by
    have h := TP.out
    unfold topB at h
    simp only [Bool.and_eq_true, decide_eq_true_eq] at h
    have := HN.out
    omega)
  obtain ⟨U, hU⟩ : ∃ U, wc.heap.size = U := ⟨_, rfl⟩
  obtain ⟨w3, hw3⟩ : ∃ w3, wc.alloc (.cells #[.int .i64 0, .int .i64 0, .int .i64 0, .int .i64 0] 76) = w3 := ⟨_, rfl⟩
  have hb3 : Below wc.heap.size wc w3 := by rw [← hw3]; exact (Below.refl _ _).alloc (Nat.le_refl _) _
  have U3 : Hid (UsT w3 U (cntTo P 0)) := Lib.hid (by rw [← hw3, ← hU]; exact heap_alloc_new _ _)
  have B3 := Lib.hid (B2.out.trans (hb3.mono B2.out.size))
  have BX3 := Lib.hid (BX2.out.old hb3)
  have UB : Hid (B < U ∧ w.heap.size ≤ U) := Lib.hid (by
    have h1 := (Array.getElem?_eq_some_iff.1 BX2.out).1
    have h2 := B2.out.size
    omega)
  clear hb3
  go_wp2_with fail
  clear hw3 hU
  go_loopw [4] (fun i W => ∃ k : Nat, k ≤ n ∧ i = .int .i64 (k : Nat) ∧ partsB P k = true ∧ Below w.heap.size w W ∧ PBox W B P q0 q1 q2 q3 (.slice pa n pc) (.slice sa sn sc) ∧ UsT W U (cntTo P k)) (fun i _ => n - (intOf i).toNat)
  case atStart => exact ⟨0, Nat.zero_le _, rfl, rfl, B3.out, BX3.out, U3.out⟩
  case round =>
    clear B2 BX2 B3 BX3 U3
    obtain ⟨k, hk, rfl, hpk, hb, hx, hu⟩ := hrel
    have PK := Lib.hid hpk
    have BB := Lib.hid hb
    have BX := Lib.hid hx
    have UU := Lib.hid hu
    obtain ⟨a0, a1, a2, a3, a4, a5, a6, a7, a8⟩ := hx.cells
    clear hpk hb hx hu
    by_cases hkn : k < n
    · have f1 : decide ((k : Int) < (n : Int)) = true := by rw [decide_eq_true_eq]; omega
      have f1' : decide (k < n) = true := by rw [decide_eq_true_eq]; omega
      have f2 : (k : Int) < (n : Int) := by omega
      have gk : IntKind.i64.wrap ((k : Int) + 1) = (k : Int) + 1 := IntWalk.i64_in _ (by have := N4.out; omega)
      have HKN := Lib.hid hkn
      have SC : Hid (partsB P (k + 1) = (partsB P k && partB P (k : Int))) := Lib.hid (range_all_succ _ _)
      have FA : Hid (partB P (k : Int) = false → goodB P = false) := Lib.hid (fun h => by
        have h2 : partsB P n = false := range_all_false (f := fun k : Nat => partB P (k : Int)) hkn h
        rw [GB.out, h2]; rfl)
      have hkp : k < P.parts.length := by rw [HN.out]; exact hkn
      obtain ⟨b, off, x, rfl, -, hBK, c0, c1, c2, c3, c4, c5, c6⟩ := HXP.out k hkp
      have hpa : P.parts[k]'hkp = partAt P (k : Int) := by unfold partAt; rw [List.getD_eq_getElem?_getD, Int.toNat_natCast, List.getElem?_eq_getElem hkp]; rfl
      have CNT := Lib.hid (fun t => cntTo_succ P k t hkp)
      rw [hpa] at hBK c0 c1 c2 c3 c4 c5 CNT
      obtain ⟨p, hp⟩ : ∃ p, partAt P (k : Int) = p := ⟨_, rfl⟩
      rw [hp] at hBK c0 c1 c2 c3 c4 c5 CNT
      have HP := Lib.hid hp
      obtain ⟨bs, hbs⟩ : ∃ bs, p.bs = bs := ⟨_, rfl⟩
      rw [hbs] at hBK
      have HBS := Lib.hid hbs
      obtain ⟨xa, xc, rfl, -⟩ := Els.len hBK
      obtain ⟨ln, hln⟩ : ∃ n, bs.length = n := ⟨_, rfl⟩
      rw [hln] at hBK c6
      have HLN := Lib.hid hln
      have HK := Lib.hid hBK
      obtain ⟨w4, hw4⟩ : ∃ w4, wr.alloc (.cells #[.int .i64 p.id, .int .i64 p.h, .int .i64 p.v, .int .i64 p.tq, .int .i64 p.wide, .int .i64 p.high, .slice xa ln xc] 70) = w4 := ⟨_, rfl⟩
      have hb4 : Below wr.heap.size wr w4 := by rw [← hw4]; exact (Below.refl _ _).alloc (Nat.le_refl _) _
      obtain ⟨Q, hQ⟩ : ∃ Q, wr.heap.size = Q := ⟨_, rfl⟩
      have PB4 : Hid (PtB w4 Q p (.slice xa ln xc)) := Lib.hid (by rw [← hw4, ← hQ]; exact heap_alloc_new _ _)
      have B4 := Lib.hid (BB.out.trans (hb4.mono BB.out.size))
      have BX4 := Lib.hid (BX.out.old hb4)
      have U4 := Lib.hid (UU.out.old hb4)
      have HQ' : Hid (U < Q) := Lib.hid (by have := (Array.getElem?_eq_some_iff.1 UU.out).1; omega)
      have d0 := cell_old BB.out c0
      have d1 := cell_old BB.out c1
      have d2 := cell_old BB.out c2
      have d3 := cell_old BB.out c3
      have d4 := cell_old BB.out c4
      have d5 := cell_old BB.out c5
      have d6 := cell_old BB.out c6
      clear hb4 c0 c1 c2 c3 c4 c5 c6 hpa hBK hp hbs hln hkn hkp
      go_upto_region 8 with (fail)
      clear d0 d1 d2 d3 d4 d5 d6 a0 a1 a2 a3 a4 a5 a6 a7 a8 BB BX UU
      obtain ⟨a0, a1, a2, a3, a4, a5, a6, a7, a8⟩ := BX4.out.cells
      go_wp2_with fail
      refine (refSize_any P q0 q1 q2 q3 _ _ (k : Int) w4 (HC.out.old B4.out) (by have := HN.out; omega)).mono ?_
      rintro e w5 ⟨rfl, hb5⟩
      have B5 := Lib.hid (B4.out.trans (hb5.mono B4.out.size))
      have BX5 := Lib.hid (BX4.out.old hb5)
      have PB5 := Lib.hid (PB4.out.old hb5)
      have U5 := Lib.hid (U4.out.old hb5)
      clear hb5 a0 a1 a2 a3 a4 a5 a6 a7 a8 hw4 hQ B4 BX4 PB4 U4
      have SI := szL_in P (k : Int)
      obtain ⟨sw, hsw⟩ : ∃ z, (sizeL P (k : Int)).1 = z := ⟨_, rfl⟩
      obtain ⟨sh, hsh⟩ : ∃ z, (sizeL P (k : Int)).2 = z := ⟨_, rfl⟩
      rw [hsw, hsh] at SI ⊢
      have HSI := Lib.hid SI
      have HSW := Lib.hid hsw
      have HSH := Lib.hid hsh
      have mm := mul_in (a := sw) (b := sh) (m := 262140) (n := 262140) SI.1 SI.2
      obtain ⟨pr, hpr⟩ : ∃ pr, sw * sh = pr := ⟨_, rfl⟩
      have HPR := Lib.hid hpr
      rw [hpr] at mm
      have g1 : wrap64 (sw * sh) = pr := by rw [hpr]; exact IntWalk.wrap64_in _ (by omega)
      obtain ⟨hd, hhd⟩ : ∃ hd, headB P (k : Int) = hd := ⟨_, rfl⟩
      have HD := Lib.hid hhd
      have HE : Hid (hd = (!decide (sw = 0) && decide (0 ≤ p.id) && decide (p.id ≤ 255) && decide (0 ≤ p.tq) && decide (p.tq ≤ 3) && decide (p.wide = sw) && decide (p.high = sh) && decide ((ln : Int) = pr))) := Lib.hid (by rw [← hhd]; unfold headB; rw [HP.out, HBS.out, HLN.out, HSW.out, HSH.out, HPR.out])
      clear mm hpr hsw hsh SI hhd
      go_upto_region 9 with (fail)
      go_cut [110] from 68 to 110 (fun c wx => c = .bool (!hd) ∧ w5 = wx)
      case first =>
        obtain ⟨e0, e1, e2, e3, e4, e5, e6⟩ := PB5.out.cells
        rcases head_cases sw sh p.id p.tq p.wide p.high ln pr hd HE.out with ⟨v1, o⟩ | ⟨v1, v2, o⟩ | ⟨v1, v2, v3, o⟩ | ⟨v1, v2, v3, v4, o⟩ | ⟨v1, v2, v3, v4, ⟨v5, v5'⟩, o⟩ | ⟨v1, v2, v3, v4, ⟨v5, v5'⟩, v6, o⟩ | ⟨v1, v2, v3, v4, ⟨v5, v5'⟩, v6, v7, o⟩ | ⟨v1, v2, v3, v4, ⟨v5, v5'⟩, v6, v7, v8, o⟩ | ⟨v1, v2, v3, v4, ⟨v5, v5'⟩, v6, v7, v8, o⟩
        all_goals
          have HO := Lib.hid o
          clear o
          go_wp2_with fail
          go_meet
          exact ⟨by rw [HO.out]; rfl, rfl⟩
      case rest =>
      obtain ⟨rfl, rfl⟩ := hcut
      cases hd with
      | false =>
        have RE : Hid (goodB P = false) := Lib.hid (FA.out (by unfold partB; rw [HD.out]; rfl))
        go_wp2_with fail
        go_ret
        exact ⟨by rw [RE.out]; rfl, B5.out⟩
      | true =>
      rw [Bool.not_true]
      have PE : Hid (partB P (k : Int) = (idB P (k : Int) && (List.range ln).all (okAt sw (ownL P (k : Int)).1 (ownL P (k : Int)).2 bs))) := Lib.hid (by rw [partB_ok HD.out, HP.out, HBS.out, HLN.out, HSW.out])
      have NLN : Hid (ln ≤ 100000000000 ∧ 1 ≤ sw) := Lib.hid (by
        have h := HE.out
        rw [eq_comm] at h
        simp only [Bool.and_eq_true, decide_eq_true_eq, Bool.not_eq_true', decide_eq_false_iff_not] at h
        have h2 := h.2
        have SI := HSI.out
        have mm := mul_in (a := sw) (b := sh) (m := 262140) (n := 262140) SI.1 SI.2
        rw [HPR.out] at mm
        omega)
      -- the counter
      obtain ⟨tn, htn, htn4⟩ : ∃ tn : Nat, p.tq = (tn : Int) ∧ tn < 4 := ⟨p.tq.toNat, by
        have h := head_tq HD.out
        rw [HP.out] at h
        omega, by
        have h := head_tq HD.out
        rw [HP.out] at h
        omega⟩
      have cin := cntTo_in P k tn
      have uc := U5.out.cell tn htn4
      have uf := U5.out.frozen tn
      obtain ⟨cv, hcv⟩ : ∃ cv, cntTo P k tn = cv := ⟨_, rfl⟩
      rw [hcv] at uc cin
      have gc : IntKind.i64.wrap (cv + 1) = cv + 1 := IntWalk.i64_in _ (by have := HKN.out; have := N4.out; omega)
      obtain ⟨w6, hw6⟩ : ∃ w6, w5.setCell ⟨U, tn, none⟩ (.int .i64 (cv + 1)) = w6 := ⟨_, rfl⟩
      have U6 : Hid (UsT w6 U (cntTo P (k + 1))) := Lib.hid (by
        rw [← hw6, ← hcv]
        refine U5.out.inc tn htn4 (fun s hs => ?_)
        rw [CNT.out s, htn]
        by_cases e : s = tn
        · subst e; simp
        · rw [if_neg (by omega), if_neg e])
      have B6 : Hid (Below w.heap.size w w6) := Lib.hid (by rw [← hw6]; exact B5.out.setCell (p := ⟨U, tn, none⟩) (by have := UB.out; simp only; omega) _)
      have BX6 : Hid (PBox w6 B P q0 q1 q2 q3 (.slice (some ⟨b, off, none⟩) n pc) (.slice sa sn sc)) := Lib.hid (by
        unfold PBox
        rw [← hw6, Go.Deep.blk_setCell_other _ _ _ _ (by have := UB.out; simp only; omega)]
        exact BX5.out)
      have PB6 : Hid (PtB w6 Q p (.slice xa ln xc)) := Lib.hid (by
        unfold PtB
        rw [← hw6, Go.Deep.blk_setCell_other _ _ _ _ (by have := HQ'.out; simp only; omega)]
        exact PB5.out)
      obtain ⟨e0, e1, e2, e3, e4, e5, e6⟩ := PB5.out.cells
      rw [htn] at e3
      have j4 : (tn : Int) < 4 := by omega
      have j0 : (0 : Int) ≤ (tn : Int) := by omega
      clear hcv cin g1
      go_wp2_with fail
      clear e0 e1 e2 e3 e4 e5 e6 hw6 uc uf gc j4 j0 B5 BX5 PB5 U5
      clear htn HE
      go_loopw [8] (fun i W => ∃ j : Nat, j ≤ k ∧ i = .int .i64 (j : Nat) ∧ (P.parts.take j).all (otherId p) = true ∧ Below w6.heap.size w6 W) (fun i _ => k - (intOf i).toNat)
      case atStart => exact ⟨0, Nat.zero_le _, rfl, by simp, Below.refl _ _⟩
      case round =>
        obtain ⟨j, hj, rfl, ha, hb⟩ := hrel
        have HA := Lib.hid ha
        have BZ := Lib.hid hb
        have BX := Lib.hid (BX6.out.old hb)
        have PB := Lib.hid (PB6.out.old hb)
        have UZ := Lib.hid (U6.out.old hb)
        have BW := Lib.hid (B6.out.trans (hb.mono B6.out.size))
        clear ha hb
        by_cases hjn : j < k
        · have f3 : decide ((j : Int) < (k : Int)) = true := by rw [decide_eq_true_eq]; omega
          have f3' : decide (j < k) = true := by rw [decide_eq_true_eq]; omega
          have f4 : (j : Int) < (n : Int) := by omega
          have hjl : j < P.parts.length := by have := HN.out; omega
          obtain ⟨b', off', x', he, -, -, c0, -⟩ := HXP.out j hjl
          simp only [Option.some.injEq, Addr.mk.injEq, and_true] at he
          obtain ⟨rfl, rfl⟩ := he
          have hs := Lib.hid (all_take_succ P.parts (otherId p) j hjl)
          have hne : Hid (otherId p (P.parts[j]'hjl) = false → goodB P = false) := Lib.hid (fun h => by
            refine FA.out ?_
            have : idB P (k : Int) = false := by
              unfold idB
              rw [HP.out, Int.toNat_natCast]
              exact all_false_at _ _ j (by rw [List.length_take]; omega) (by rw [List.getElem_take]; exact h)
            rw [PE.out, this]; rfl)
          obtain ⟨y, hy⟩ : ∃ y, P.parts[j]'hjl = y := ⟨_, rfl⟩
          rw [hy] at c0 hs hne
          have d0 := cell_old BW.out c0
          have OI : Hid (otherId p y = !decide (p.id = y.id)) := Lib.hid rfl
          have gj : IntKind.i64.wrap ((j : Int) + 1) = (j : Int) + 1 := IntWalk.i64_in _ (by have := N4.out; omega)
          have HJN := Lib.hid hjn
          have CC : PBox wr.drew B P q0 q1 q2 q3 (.slice (some ⟨b, off, none⟩) n pc) (.slice sa sn sc) ∧ PtB wr.drew Q p (.slice xa ln xc) ∧ wr.drew.cell? ⟨b, off + j * 7, none⟩ = some (.int .i64 y.id) ∧ Below wr.heap.size wr wr.drew := ⟨BX.out.old (Below.refl _ _).drew, PB.out.old (Below.refl _ _).drew, cell_old (Below.refl _ _).drew d0, (Below.refl _ _).drew⟩
          have HCC := Lib.hid CC
          clear hy c0 hjl CC d0 hjn
          go_wp2_with fail
          refine wp_region_q (fun X => PBox X B P q0 q1 q2 q3 (.slice (some ⟨b, off, none⟩) n pc) (.slice sa sn sc) ∧ PtB X Q p (.slice xa ln xc) ∧ X.cell? ⟨b, off + j * 7, none⟩ = some (.int .i64 y.id) ∧ Below wr.heap.size wr X) (by kernel_rfl) (by kernel_rfl) HCC.out ?_
          repeat
            first
            | go_big_quiet_skip
            | (go_big_quiet_want
               first
               | (go_big_quiet_op; go_big_quiet_on)
               | (apply Exists.intro
                  refine ⟨fun X hX => ?_, ?_⟩
                  · obtain ⟨hbx, hpb, ey, eZ⟩ := hX
                    obtain ⟨a0, a1, a2, a3, a4, a5, a6, a7, a8⟩ := hbx.cells
                    obtain ⟨e0, e1, e2, e3, e4, e5, e6⟩ := hpb.cells
                    clear hbx hpb eZ
                    unfold Oper.quietAt
                    go_simp
                    first
                    | exact ⟨rfl, rfl⟩
                    | exact rfl
                  go_big_quiet_on
                  try simp only [Act.put, List.setIfInBounds_toArray, List.set_cons_zero, List.set_cons_succ]))
          refine wpQuiet_nil ?_
          rintro Y ⟨-, -, -, hbY⟩
          have BY := Lib.hid (BZ.out.trans (hbY.mono BZ.out.size))
          have BYW := Lib.hid (BW.out.trans (hbY.mono BW.out.size))
          clear hbY f3 f3' HCC
          by_cases hid : y.id = p.id
          · have v1 : (y.id == p.id) = true := by rw [beq_iff_eq]; exact hid
            have NO : Hid (goodB P = false) := Lib.hid (hne.out (by rw [OI.out, decide_eq_true hid.symm]; rfl))
            clear hid
            go_wp2_with fail
            go_ret
            exact ⟨by rw [NO.out]; rfl, BYW.out⟩
          · have v1 : (y.id == p.id) = false := by rw [beq_eq_false_iff_ne]; exact hid
            have YES : Hid ((P.parts.take (j + 1)).all (otherId p) = true) := Lib.hid (by rw [hs.out, HA.out, OI.out, decide_eq_false (fun e => hid e.symm)]; rfl)
            clear hid
            go_wp2_with fail
            go_roundw
            case rel => exact ⟨j + 1, HJN.out, by go_num, YES.out, BY.out⟩
            case measure => simp [intOf]; have := HJN.out; omega
        · obtain rfl : j = k := by omega
          have f3 : decide ((j : Int) < (j : Int)) = false := by rw [decide_eq_false_iff_not]; omega
          have IB : Hid (idB P (j : Int) = true) := Lib.hid (by unfold idB; rw [HP.out, Int.toNat_natCast]; exact HA.out)
          have PE2 : Hid (partB P (j : Int) = (List.range ln).all (okAt sw (ownL P (j : Int)).1 (ownL P (j : Int)).2 bs)) := Lib.hid (by rw [PE.out, IB.out, Bool.true_and])
          obtain ⟨a0, a1, a2, a3, a4, a5, a6, a7, a8⟩ := BX.out.cells
          clear PE hjn
          go_wp2_with fail
          refine (refOwn_any P q0 q1 q2 q3 _ _ (j : Int) wr (HC.out.old BW.out) (by have := HN.out; omega)).mono ?_
          rintro e w7 ⟨rfl, hb7⟩
          have B7 := Lib.hid (BW.out.trans (hb7.mono BW.out.size))
          have BX7 := Lib.hid (BX.out.old hb7)
          have PB7 := Lib.hid (PB.out.old hb7)
          have U7 := Lib.hid (UZ.out.old hb7)
          have K7 := Lib.hid (HK.out.old B7.out)
          clear hb7 a0 a1 a2 a3 a4 a5 a6 a7 a8 f3
          obtain ⟨ow, how⟩ : ∃ z, (ownL P (j : Int)).1 = z := ⟨_, rfl⟩
          obtain ⟨oh, hoh⟩ : ∃ z, (ownL P (j : Int)).2 = z := ⟨_, rfl⟩
          rw [how, hoh] at PE2 ⊢
          clear how hoh
          go_wp2_with fail
          go_loopw [11] (fun t W => ∃ i : Nat, i ≤ ln ∧ t = .int .i64 (i : Nat) ∧ (List.range i).all (okAt sw ow oh bs) = true ∧ Below w7.heap.size w7 W) (fun t _ => ln - (intOf t).toNat)
          case atStart => exact ⟨0, Nat.zero_le _, rfl, rfl, Below.refl _ _⟩
          case round =>
            clear BZ BX PB UZ BW
            obtain ⟨i, hi, rfl, hok, hb⟩ := hrel
            have OKA := Lib.hid hok
            have BZ := Lib.hid hb
            have PB := Lib.hid (PB7.out.old hb)
            obtain ⟨e0, e1, e2, e3, e4, e5, e6⟩ := PB.out.cells
            clear hok hb
            by_cases hil : i < ln
            · have l1 : decide ((i : Int) < (ln : Int)) = true := by rw [decide_eq_true_eq]; omega
              have l2 : decide (i < ln) = true := by rw [decide_eq_true_eq]; omega
              have l3 : (i : Int) < (ln : Int) := by omega
              obtain ⟨m0, m1, q0', q1'⟩ := place_q i NLN.out.2
              have zz : (sw == 0) = false := by rw [beq_eq_false_iff_ne]; have := NLN.out; omega
              have zz2 : ¬ sw = 0 := by have := NLN.out; omega
              have gi : IntKind.i64.wrap ((i : Int) + 1) = (i : Int) + 1 := IntWalk.i64_in _ (by have := NLN.out; omega)
              obtain ⟨mr, hmr⟩ : ∃ z, (i : Int) % sw = z := ⟨_, rfl⟩
              obtain ⟨dq, hdq⟩ : ∃ z, (i : Int) / sw = z := ⟨_, rfl⟩
              have t1 : (i : Int).tmod sw = mr := by rw [← hmr]; exact Int.tmod_eq_emod_of_nonneg (by omega)
              have t2 : (i : Int).tdiv sw = dq := by rw [← hdq]; exact Int.tdiv_eq_ediv_of_nonneg (by omega)
              rw [hmr] at m0 m1
              rw [hdq] at q0' q1'
              have t3 : wrap64 mr = mr := IntWalk.wrap64_in _ (by have := HSI.out; omega)
              have t4 : wrap64 dq = dq := IntWalk.wrap64_in _ (by have := NLN.out; omega)
              have t5 : IntKind.i64.wrap mr = mr := IntWalk.i64_in _ (by have := HSI.out; omega)
              have t6 : IntKind.i64.wrap dq = dq := IntWalk.i64_in _ (by have := NLN.out; omega)
              have HMR := Lib.hid hmr
              have HDQ := Lib.hid hdq
              have HIL := Lib.hid hil
              clear hmr hdq m0 m1 q0' q1'
              have hib : i < bs.length := by rw [HLN.out]; exact hil
              obtain ⟨hall, xa', xc', hxe, _, hxx⟩ := (K7.out.old BZ.out).range
              simp only [Value.slice.injEq] at hxe
              obtain ⟨rfl, -, rfl⟩ := hxe
              obtain ⟨xb, xo, rfl, hrg⟩ := hxx i hib
              have RX := Lib.hid hrg
              have OE : Hid (okAt sw ow oh bs i = (blkB (bs[i]'hib) && decide (shB sw ow oh i (bs[i]'hib) = bs[i]'hib))) := Lib.hid (by
                unfold okAt
                rw [List.getD_eq_getElem?_getD, List.getElem?_eq_getElem hib]; rfl)
              have SCB := Lib.hid (range_all_succ (okAt sw ow oh bs) i)
              have FB : Hid (okAt sw ow oh bs i = false → goodB P = false) := Lib.hid (fun h => FA.out (by rw [PE2.out]; exact range_all_false hil h))
              obtain ⟨cb, hcb⟩ : ∃ c, bs[i]'hib = c := ⟨_, rfl⟩
              have CB : Hid (Blk64 cb) := Lib.hid (by rw [← hcb]; exact hall.at i hib)
              rw [hcb] at RX OE
              have HI := Lib.hid (blk_info CB.out.1)
              clear hall hxx hrg hcb hib hil
              go_wp2_with (refine wpList_load_mid rfl _ _ rfl xb (xo + i * 64) rfl (vIs cb) _ RX.out Try.underlying23 rfl HI.out ?_; refine stop ?_)
              refine unstop ?_
              go_wp2_with fail
              refine (refGoodB_any cb wr CB.out).mono ?_
              rintro e w8 ⟨rfl, hb8⟩
              have B8 := Lib.hid (BZ.out.trans (hb8.mono BZ.out.size))
              have B8W := Lib.hid (B7.out.trans (B8.out.mono B7.out.size))
              have PB8 := Lib.hid (PB.out.old hb8)
              have RX8 := Lib.hid (range_old hb8 RX.out)
              clear hb8 e0 e1 e2 e3 e4 e5 e6
              obtain ⟨e0, e1, e2, e3, e4, e5, e6⟩ := PB8.out.cells
              obtain ⟨gb, hgb⟩ : ∃ gb, blkB cb = gb := ⟨_, rfl⟩
              have CB1 := Lib.hid hgb
              rw [hgb]
              clear hgb
              cases gb with
              | false =>
                have RE : Hid (goodB P = false) := Lib.hid (FB.out (by rw [OE.out, CB1.out]; rfl))
                go_wp2_with fail
                go_ret
                exact ⟨by rw [RE.out]; rfl, B8W.out⟩
              | true =>
              by_cases hcond : ow ≤ mr ∨ oh ≤ dq
              case neg =>
                have v1 : decide (ow ≤ mr) = false := decide_eq_false (fun h => hcond (.inl h))
                have v2 : decide (oh ≤ dq) = false := decide_eq_false (fun h => hcond (.inr h))
                have SS : Hid (shB sw ow oh i cb = cb) := Lib.hid (by unfold shB; rw [if_neg (by rw [HMR.out, HDQ.out]; exact hcond)])
                clear hcond
                have OKI : Hid (okAt sw ow oh bs i = true) := Lib.hid (by rw [OE.out, CB1.out, SS.out, decide_eq_true rfl]; rfl)
                clear FB
                go_wp2_with fail
                go_roundw
                case rel => exact ⟨i + 1, HIL.out, by go_num, by rw [SCB.out, OKA.out, OKI.out]; rfl, B8.out⟩
                case measure => simp [intOf]; have := HIL.out; omega
              case pos =>
              have SS : Hid (shB sw ow oh i cb = zero64) := Lib.hid (by unfold shB; rw [if_pos (by rw [HMR.out, HDQ.out]; exact hcond)])
              have EQ := fun W => eq_in CB.out blk_zero W
              unfold arr at EQ
              obtain ⟨qz, hqz⟩ : ∃ qz, decide (cb = zero64) = qz := ⟨_, rfl⟩
              simp only [hqz, zero_lit] at EQ
              have QZ := Lib.hid hqz
              clear hqz
              have OE2 : Hid (okAt sw ow oh bs i = qz) := Lib.hid (by
                rw [OE.out, CB1.out, SS.out, ← QZ.out, Bool.true_and, Bool.eq_iff_iff, decide_eq_true_eq, decide_eq_true_eq]
                exact eq_comm)
              have vv : decide (ow ≤ mr) = true ∨ (decide (ow ≤ mr) = false ∧ decide (oh ≤ dq) = true) := by
                simp only [decide_eq_true_eq, decide_eq_false_iff_not]
                omega
              clear hcond OE
              rcases vv with v1 | ⟨v1, v2⟩
              all_goals
                go_wp2_with (refine wpList_wtd (by rfl) (fun K hK => wp_load_mid _ _ rfl xb (xo + i * 64) rfl (vIs cb) _ RX8.out Try.underlying23 rfl HI.out (hK _ _ ?_)); refine stop ?_)
                refine unstop ?_
                cases qz with
                | true =>
                  clear FB
                  go_wp2_with fail
                  go_roundw
                  case rel => exact ⟨i + 1, HIL.out, by go_num, by rw [SCB.out, OKA.out, OE2.out]; rfl, B8.out⟩
                  case measure => simp [intOf]; have := HIL.out; omega
                | false =>
                  have RE : Hid (goodB P = false) := Lib.hid (FB.out OE2.out)
                  go_wp2_with fail
                  go_ret
                  exact ⟨by rw [RE.out]; rfl, B8W.out⟩
            · obtain rfl : i = ln := by omega
              have l1 : decide ((i : Int) < (i : Int)) = false := by rw [decide_eq_false_iff_not]; omega
              have PG : Hid (partsB P (j + 1) = true) := Lib.hid (by rw [SC.out, PK.out, PE2.out, OKA.out]; rfl)
              have BZW := Lib.hid (B7.out.trans (BZ.out.mono B7.out.size))
              have BXZ := Lib.hid (BX7.out.old BZ.out)
              have UZ := Lib.hid (U7.out.old BZ.out)
              clear hil
              go_wp2_with fail
              go_roundw
              case rel => exact ⟨j + 1, HKN.out, by go_num, PG.out, BZW.out, BXZ.out, UZ.out⟩
              case measure => simp [intOf]; have := HKN.out; omega
    · obtain rfl : k = n := by omega
      have f1 : decide ((k : Int) < (k : Int)) = false := by rw [decide_eq_false_iff_not]; omega
      have GB2 : Hid (goodB P = (quantsB P 4 && P.kept.all segB)) := Lib.hid (by rw [GB.out, PK.out]; rfl)
      clear GB hkn
      go_wp2_with fail
      clear a0 a1 a2 a3 a4 a5 a6 a7 a8 f1
      -- the tables
      go_loopw [12] (fun i W => ∃ j : Nat, j ≤ 4 ∧ i = .int .i64 (j : Nat) ∧ quantsB P j = true ∧ wr = W) (fun i _ => 4 - (intOf i).toNat)
      case atStart => exact ⟨0, Nat.zero_le _, rfl, rfl, rfl⟩
      case round =>
        obtain ⟨j, hj, rfl, hqj, rfl⟩ := hrel
        have QK := Lib.hid hqj
        clear hqj
        by_cases hjn : j < 4
        · have f1 : decide ((j : Int) < 4) = true := by rw [decide_eq_true_eq]; omega
          have f1' : decide (j < 4) = true := by rw [decide_eq_true_eq]; omega
          have f2 : (j : Int) < 4 := by omega
          have f3 : (0 : Int) ≤ (j : Int) := by omega
          have gj : IntKind.i64.wrap ((j : Int) + 1) = (j : Int) + 1 := IntWalk.i64_in _ (by omega)
          have HJN := Lib.hid hjn
          have SC : Hid (quantsB P (j + 1) = (quantsB P j && quantB P j)) := Lib.hid (range_all_succ _ _)
          have FA : Hid (quantB P j = false → goodB P = false) := Lib.hid (fun h => by rw [GB2.out, show quantsB P 4 = false from range_all_false (f := quantB P) hjn h]; rfl)
          have cq := pbox_q BX.out j hjn
          have cu := UU.out.cell j hjn
          have NQ := (HQ.out j).old BB.out
          have LQ := HQL.out j
          obtain ⟨ql, hql⟩ : ∃ ql, qL P j = ql := ⟨_, rfl⟩
          obtain ⟨qv, hqv⟩ : ∃ qv, qV q0 q1 q2 q3 j = qv := ⟨_, rfl⟩
          rw [hql] at NQ LQ
          rw [hqv] at cq NQ
          obtain ⟨cn, hcn⟩ : ∃ cn, cntTo P k j = cn := ⟨_, rfl⟩
          rw [hcn] at cu
          obtain ⟨u, hu⟩ : ∃ u, usedB P.parts (j : Int) = u := ⟨_, rfl⟩
          have CU : (cn == 0) = !u := by rw [← hcn, ← hu, ← HN.out]; exact cntTo_used P j
          have QE : Hid (quantB P j = if u then tableB ql else decide (ql.length = 0)) := Lib.hid (by unfold quantB; rw [hu, hql])
          obtain ⟨qa, qc, rfl, hqx⟩ := NQ.read
          have HQX := Lib.hid hqx
          obtain ⟨ln, hln⟩ : ∃ ln, ql.length = ln := ⟨_, rfl⟩
          have HLN := Lib.hid hln
          rw [hln] at cq
          clear NQ LQ hu hql hqv hjn hcn hqx hln
          cases u with
          | false =>
            rw [Bool.not_false] at CU
            by_cases h0 : 0 < ln
            · have d1 : decide ((0 : Int) < (ln : Int)) = true := by rw [decide_eq_true_eq]; omega
              have d1' : decide (0 < ln) = true := decide_eq_true h0
              have RE : Hid (goodB P = false) := Lib.hid (FA.out (by rw [QE.out, HLN.out]; simp; omega))
              clear FA QE h0
              go_wp2_with fail
              go_ret
              exact ⟨by rw [RE.out]; rfl, BB.out⟩
            · have d1 : decide ((0 : Int) < (ln : Int)) = false := by rw [decide_eq_false_iff_not]; omega
              have d1' : decide (0 < ln) = false := decide_eq_false h0
              have OKJ : Hid (quantB P j = true) := Lib.hid (by rw [QE.out, HLN.out]; simp; omega)
              clear FA QE h0
              go_wp2_with fail
              go_roundw
              case rel => exact ⟨j + 1, HJN.out, by go_num, by rw [SC.out, QK.out, OKJ.out]; rfl, by first | rfl | trivial⟩
              case measure => simp [intOf]; have := HJN.out; omega
          | true =>
            rw [Bool.not_true] at CU
            by_cases h64 : ln = 64
            case neg =>
              have d1 : ((ln : Int) != 64) = true := by rw [bne_iff_ne]; omega
              have d1' : (ln != 64) = true := by rw [bne_iff_ne]; omega
              have RE : Hid (goodB P = false) := Lib.hid (FA.out (by rw [QE.out]; unfold tableB; rw [HLN.out, decide_eq_false h64]; rfl))
              clear FA QE h64
              go_wp2_with fail
              go_ret
              exact ⟨by rw [RE.out]; rfl, BB.out⟩
            case pos =>
            subst h64
            have QE2 : Hid (quantB P j = allQ ql) := Lib.hid (by rw [QE.out]; unfold tableB; rw [HLN.out]; rfl)
            clear QE
            have d1 : (((64 : Nat) : Int) != 64) = false := rfl
            go_wp2_with fail
            go_loopw [14] (fun i W => ∃ z : Nat, z ≤ 64 ∧ i = .int .i64 (z : Nat) ∧ allQ (ql.take z) = true ∧ wr = W) (fun i _ => 64 - (intOf i).toNat)
            case atStart => exact ⟨0, Nat.zero_le _, rfl, by simp [allQ], rfl⟩
            case round =>
              obtain ⟨z, hz, rfl, haz, rfl⟩ := hrel
              have HAZ := Lib.hid haz
              clear haz
              by_cases hzn : z < 64
              · have l1 : decide ((z : Int) < 64) = true := by rw [decide_eq_true_eq]; omega
                have l1' : decide (z < 64) = true := by rw [decide_eq_true_eq]; omega
                have l2 : (z : Int) < 64 := by omega
                have hzl : z < ql.length := by rw [HLN.out]; exact hzn
                obtain ⟨qb, qo, rfl, cz⟩ := HQX.out z hzl
                have SZ := Lib.hid (all_take_succ ql okQ z hzl)
                have FZ := Lib.hid (all_false_at ql okQ z hzl)
                obtain ⟨x, hx⟩ : ∃ x, ql[z]'hzl = x := ⟨_, rfl⟩
                rw [hx] at cz SZ FZ
                have gz : IntKind.i64.wrap ((z : Int) + 1) = (z : Int) + 1 := IntWalk.i64_in _ (by omega)
                have HZN := Lib.hid hzn
                clear hx hzl hzn
                have cs : (decide (x < 1) = true ∧ okQ x = false) ∨ (decide (x < 1) = false ∧ decide (65535 < x) = true ∧ okQ x = false) ∨ (decide (x < 1) = false ∧ decide (65535 < x) = false ∧ okQ x = true) := by
                  unfold okQ
                  simp only [decide_eq_true_eq, decide_eq_false_iff_not, Bool.and_eq_true, Bool.and_eq_false_iff]
                  omega
                rcases cs with ⟨v1, o⟩ | ⟨v1, v2, o⟩ | ⟨v1, v2, o⟩
                case inr.inr =>
                  have AO : Hid (allQ (ql.take (z + 1)) = true) := Lib.hid (by unfold allQ; rw [SZ.out, o]; have := HAZ.out; unfold allQ at this; rw [this]; rfl)
                  clear o
                  go_wp2_with fail
                  go_roundw
                  case rel => exact ⟨z + 1, HZN.out, by go_num, AO.out, by first | rfl | trivial⟩
                  case measure => simp [intOf]; have := HZN.out; omega
                all_goals
                  have AO : Hid (goodB P = false) := Lib.hid (FA.out (by rw [QE2.out]; exact FZ.out o))
                  clear o
                  go_wp2_with fail
                  go_ret
                  exact ⟨by rw [AO.out]; rfl, BB.out⟩
              · obtain rfl : z = 64 := by omega
                have OKJ : Hid (quantB P j = true) := Lib.hid (by
                  have h := HAZ.out
                  rw [← HLN.out, List.take_length] at h
                  rw [QE2.out, h])
                clear FA hzn
                rw [show ((64 : Nat) : Int) = 64 from rfl]
                go_wp2_with fail
                go_roundw
                case rel => exact ⟨j + 1, HJN.out, by go_num, by rw [SC.out, QK.out, OKJ.out]; rfl, by first | rfl | trivial⟩
                case measure => simp [intOf]; have := HJN.out; omega
        · obtain rfl : j = 4 := by omega
          have GB3 : Hid (goodB P = P.kept.all segB) := Lib.hid (by rw [GB2.out, QK.out]; rfl)
          clear GB2 hjn
          rw [show ((4 : Nat) : Int) = 4 from rfl]
          go_wp2_with fail
          -- the segments
          go_loopw [15] (fun i W => ∃ m : Nat, m ≤ sn ∧ i = .int .i64 (m : Nat) ∧ (P.kept.take m).all segB = true ∧ wr = W) (fun i _ => sn - (intOf i).toNat)
          case atStart => exact ⟨0, Nat.zero_le _, rfl, by simp, rfl⟩
          case round =>
            obtain ⟨m, hm, rfl, hsm, rfl⟩ := hrel
            have SM := Lib.hid hsm
            clear hsm
            obtain ⟨a0, a1, a2, a3, a4, a5, a6, a7, a8⟩ := BX.out.cells
            by_cases hmn : m < sn
            · have f1 : decide ((m : Int) < (sn : Int)) = true := by rw [decide_eq_true_eq]; omega
              have f1' : decide (m < sn) = true := by rw [decide_eq_true_eq]; omega
              have f2 : (m : Int) < (sn : Int) := by omega
              have gm : IntKind.i64.wrap ((m : Int) + 1) = (m : Int) + 1 := IntWalk.i64_in _ (by omega)
              have hml : m < P.kept.length := by rw [HSN.out]; exact hmn
              obtain ⟨sb, so, xa, xc, rfl, -, -, c0, c1⟩ := HSX.out m hml
              have d0 := cell_old BB.out c0
              have d1 := cell_old BB.out c1
              have SC := Lib.hid (all_take_succ P.kept segB m hml)
              have FA := Lib.hid (all_false_at P.kept segB m hml)
              obtain ⟨sg, hsg⟩ : ∃ sg, P.kept[m]'hml = sg := ⟨_, rfl⟩
              rw [hsg] at d0 d1 SC FA
              obtain ⟨dn, hdn⟩ : ∃ dn, sg.2.length = dn := ⟨_, rfl⟩
              rw [hdn] at d1
              obtain ⟨mk, hmk⟩ : ∃ mk, sg.1 = mk := ⟨_, rfl⟩
              rw [hmk] at d0
              have SE : Hid (segB sg = (keptB mk && decide (dn ≤ 65533))) := Lib.hid (by unfold segB; rw [hdn, hmk])
              have HMN := Lib.hid hmn
              clear c0 c1 hsg hdn hmk hmn hml
              go_wp2_with fail
              refine (refKept_any mk _).mono ?_
              rintro e x1 ⟨rfl, rfl⟩
              obtain ⟨kk, hkk⟩ : ∃ q, keptB mk = q := ⟨_, rfl⟩
              rw [hkk] at SE ⊢
              clear hkk
              cases kk with
              | false =>
                have RE : Hid (goodB P = false) := Lib.hid (by rw [GB3.out, FA.out (by rw [SE.out]; rfl)])
                go_wp2_with fail
                go_ret
                exact ⟨by rw [RE.out]; rfl, BB.out⟩
              | true =>
                by_cases hd : 65533 < dn
                · have e1 : decide ((65533 : Int) < (dn : Int)) = true := by rw [decide_eq_true_eq]; omega
                  have e1' : decide (65533 < dn) = true := decide_eq_true hd
                  have RE : Hid (goodB P = false) := Lib.hid (by rw [GB3.out, FA.out (by rw [SE.out]; simp; omega)])
                  clear hd FA SE
                  go_wp2_with fail
                  go_ret
                  exact ⟨by rw [RE.out]; rfl, BB.out⟩
                · have e1 : decide ((65533 : Int) < (dn : Int)) = false := by rw [decide_eq_false_iff_not]; omega
                  have e1' : decide (65533 < dn) = false := decide_eq_false hd
                  have OKS : Hid (segB sg = true) := Lib.hid (by rw [SE.out]; simp; omega)
                  clear hd FA SE
                  go_wp2_with fail
                  go_roundw
                  case rel => exact ⟨m + 1, HMN.out, by go_num, by rw [SC.out, SM.out, OKS.out]; rfl, by first | rfl | trivial⟩
                  case measure => simp [intOf]; have := HMN.out; omega
            · obtain rfl : m = sn := by omega
              have f1 : decide ((m : Int) < (m : Int)) = false := by rw [decide_eq_false_iff_not]; omega
              have RE : Hid (goodB P = true) := Lib.hid (by
                have h := SM.out
                rw [← HSN.out, List.take_length] at h
                rw [GB3.out, h])
              go_wp2_with fail
              go_ret
              exact ⟨by rw [RE.out]; rfl, BB.out⟩
end Go.Proofs.Ytnhalnjdlkdnkaa
