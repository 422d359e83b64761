/- Has a picture more than is looked at? burnishlaw24.large. By an AI agent. Turns behind turns, on rows of blocks: plain. By an AI agent. A struct of a picture, four numbers and a bool, opened where it comes in. By an AI agent. The struct of a crop in its box; what is cropped stays within bounds. By an AI agent. A slice of numbers that came in, opened. By an AI agent. -/
import Derived.Test.YtnhalnjdlkdnkaaZ09
import Derived.Test.YtnhalnjdlkdnkaaZ19
import Derived.Test.YtnhalnjdlkdnkaaZ01
import Derived.Test.YtnhalnjdlkdnkaaZ15
namespace Go.Proofs.Ytnhalnjdlkdnkaa
open Go.RowKit Go.BigFrame
set_option linter.unusedVariables false
set_option linter.unusedSimpArgs false

structure SmallT (P : PicL) : Prop where
  n : P.parts.length ≤ 10
  k : P.kept.length ≤ 50
  b : ∀ p ∈ P.parts, p.bs.length ≤ 200
  q : ∀ j, j < 4 → (qL P j).length ≤ 500
set_option maxRecDepth 20000 in
set_option maxHeartbeats 16000000 in
theorem largeT_any (P : PicL) (q0 q1 q2 q3 pv kv : Value) (w : World) (hp : PicC w P q0 q1 q2 q3 pv kv) (hB : PicB P) :
    Calls Try.prog 13 #[.agg (vPic P q0 q1 q2 q3 pv kv)] w fun e w' => (∃ q, e = .returned (.bool q) ∧ (q = false → SmallT P)) ∧ Below w.heap.size w w' := by
  have hl := hB.parts
  have hkl := hB.kept
  obtain ⟨pa, pc, rfl, _, hxp⟩ := pts_at hp.parts
  obtain ⟨sa, sc, rfl, _, hsx⟩ := sgs_at hp.kept
  have HXP := Lib.hid hxp
  have HSX := Lib.hid hsx
  have HQ := Lib.hid (fun k => qV_ns hp k)
  have HQL := Lib.hid (fun k => qL_len hB k)
  obtain ⟨n, hn⟩ : ∃ n, P.parts.length = n := ⟨_, rfl⟩
  obtain ⟨sn, hsn⟩ : ∃ n, P.kept.length = n := ⟨_, rfl⟩
  rw [hn] at hl ⊢
  rw [hsn] at hkl ⊢
  have HN := Lib.hid hn
  have HSN := Lib.hid hsn
  obtain ⟨w1, hw1⟩ : ∃ w1, w.alloc (.cells (vPic P q0 q1 q2 q3 (.slice pa n pc) (.slice sa sn sc)) 36) = w1 := ⟨_, rfl⟩
  have hb1 : Below w.heap.size w w1 := by rw [← hw1]; exact (Below.refl _ _).alloc (Nat.le_refl _) _
  obtain ⟨B, hBB⟩ : ∃ B, w.heap.size = B := ⟨_, rfl⟩
  have hbox : PBox w1 B P q0 q1 q2 q3 (.slice pa n pc) (.slice sa sn sc) := by rw [← hw1, ← hBB]; exact heap_alloc_new _ _
  have B1 := Lib.hid hb1
  have BX1 := Lib.hid hbox
  obtain ⟨a0, a1, a2, a3, a4, a5, a6, a7, a8⟩ := hbox.cells
  unfold vPic at hw1
  clear hp hB hb1 hbox hsx hn hsn hxp
  unfold vPic
  go_enter Try.func13, Try.ntmps13
  go_upto_region 1 with (fail)
  clear hw1 hBB
  have vv : ((decide ((10 : Int) < (n : Int)) = true ∧ decide (10 < n) = true)) ∨ ((decide ((10 : Int) < (n : Int)) = false ∧ decide (10 < n) = false) ∧ (decide ((50 : Int) < (sn : Int)) = true ∧ decide (50 < sn) = true)) ∨
      ((decide ((10 : Int) < (n : Int)) = false ∧ decide (10 < n) = false) ∧ (decide ((50 : Int) < (sn : Int)) = false ∧ decide (50 < sn) = false)) := by
    simp only [decide_eq_true_eq, decide_eq_false_iff_not]
    omega
  rcases vv with ⟨v1, v1'⟩ | ⟨⟨v1, v1'⟩, v2, v2'⟩ | ⟨⟨v1, v1'⟩, v2, v2'⟩
  · go_wp2_with fail
    go_ret
    exact ⟨⟨_, rfl, fun h => by cases h⟩, B1.out⟩
  · go_wp2_with fail
    go_ret
    exact ⟨⟨_, rfl, fun h => by cases h⟩, B1.out⟩
  have N10 : Hid (n ≤ 10 ∧ sn ≤ 50) := Lib.hid (by
    have h1 := of_decide_eq_false v1'
    have h2 := of_decide_eq_false v2'
    omega)
  go_wp2_with fail
  clear a0 a1 a2 a3 a4 a5 a6 a7 a8 v1 v1' v2 v2'
  -- the parts
  go_loopw [20] (fun i W => ∃ k : Nat, k ≤ n ∧ i = .int .i64 (k : Nat) ∧ (∀ j, j < k → (h : j < P.parts.length) → (P.parts[j]'h).bs.length ≤ 200) ∧ Below w.heap.size w W ∧ PBox W B P q0 q1 q2 q3 (.slice pa n pc) (.slice sa sn sc)) (fun i _ => n - (intOf i).toNat)
  case atStart => exact ⟨0, Nat.zero_le _, rfl, fun j h => absurd h (Nat.not_lt_zero j), B1.out, BX1.out⟩
  case round =>
    clear B1 BX1
    obtain ⟨k, hk, rfl, hall, hb, hx⟩ := hrel
    have ALL := Lib.hid hall
    clear hall
    have BB := Lib.hid hb
    have BX := Lib.hid hx
    obtain ⟨a0, a1, a2, a3, a4, a5, a6, a7, a8⟩ := hx.cells
    clear hb hx
    by_cases hkn : k < n
    · have f1 : decide ((k : Int) < (n : Int)) = true := by rw [decide_eq_true_eq]; omega
      have f1' : decide (k < n) = true := by rw [decide_eq_true_eq]; omega
      have f2 : (k : Int) < (n : Int) := by omega
      have gk : IntKind.i64.wrap ((k : Int) + 1) = (k : Int) + 1 := IntWalk.i64_in _ (by omega)
      have HKN := Lib.hid hkn
      have hkp : k < P.parts.length := by rw [HN.out]; exact hkn
      obtain ⟨b, off, x, rfl, -, hBK, c0, c1, c2, c3, c4, c5, c6⟩ := HXP.out k hkp
      obtain ⟨p, hp⟩ : ∃ p, P.parts[k]'hkp = p := ⟨_, rfl⟩
      rw [hp] at hBK c0 c1 c2 c3 c4 c5
      obtain ⟨xa, xc, rfl, -⟩ := Els.len hBK
      obtain ⟨ln, hln⟩ : ∃ z, p.bs.length = z := ⟨_, rfl⟩
      rw [hln] at c6
      obtain ⟨w4, hw4⟩ : ∃ w4, wr.alloc (.cells #[.int .i64 p.id, .int .i64 p.h, .int .i64 p.v, .int .i64 p.tq, .int .i64 p.wide, .int .i64 p.high, .slice xa ln xc] 70) = w4 := ⟨_, rfl⟩
      have hb4 : Below wr.heap.size wr w4 := by rw [← hw4]; exact (Below.refl _ _).alloc (Nat.le_refl _) _
      have P4 : w4.heap[wr.heap.size]? = some (.cells #[.int .i64 p.id, .int .i64 p.h, .int .i64 p.v, .int .i64 p.tq, .int .i64 p.wide, .int .i64 p.high, .slice xa ln xc] 70 (0, 0)) := by rw [← hw4]; exact heap_alloc_new _ _
      have e6 : w4.cell? ⟨wr.heap.size, 6, none⟩ = some (.slice xa ln xc) := by rw [cell_of_row _ _ 6 _ _ _ P4]; rfl
      have B4 := Lib.hid (BB.out.trans (hb4.mono BB.out.size))
      have BX4 := Lib.hid (BX.out.old hb4)
      have d0 := cell_old BB.out c0
      have d1 := cell_old BB.out c1
      have d2 := cell_old BB.out c2
      have d3 := cell_old BB.out c3
      have d4 := cell_old BB.out c4
      have d5 := cell_old BB.out c5
      have d6 := cell_old BB.out c6
      have vv : (decide ((200 : Int) < (ln : Int)) = true ∧ decide (200 < ln) = true) ∨ (decide ((200 : Int) < (ln : Int)) = false ∧ decide (200 < ln) = false) := by
        simp only [decide_eq_true_eq, decide_eq_false_iff_not]
        omega
      have PLN : Hid (∀ h : k < P.parts.length, (P.parts[k]'h).bs.length = ln) := Lib.hid (fun h => by rw [hp]; exact hln)
      clear hb4 P4 c0 c1 c2 c3 c4 c5 c6 hBK hp hln hkn hkp
      rcases vv with ⟨v1, v1'⟩ | ⟨v1, v1'⟩
      · go_wp2_with fail
        go_ret
        exact ⟨⟨_, rfl, fun h => by cases h⟩, B4.out⟩
      · have L2 : Hid (ln ≤ 200) := Lib.hid (Nat.not_lt.1 (of_decide_eq_false v1'))
        go_wp2_with fail
        go_roundw
        case rel =>
          refine ⟨k + 1, HKN.out, by go_num, fun j hj h => ?_, B4.out, BX4.out⟩
          by_cases e : j = k
          · subst e; rw [PLN.out h]; exact L2.out
          · exact ALL.out j (by omega) h
        case measure => simp [intOf]; have := HKN.out; omega
    · obtain rfl : k = n := by omega
      have f1 : decide ((k : Int) < (k : Int)) = false := by rw [decide_eq_false_iff_not]; omega
      clear hkn
      go_wp2_with fail
      clear a0 a1 a2 a3 a4 a5 a6 a7 a8 f1
      revert wr; intro Z BZ XZ
      -- the tables
      go_loopw [31] (fun i W => ∃ j : Nat, j ≤ 4 ∧ i = .int .i64 (j : Nat) ∧ (∀ m, m < j → (qL P m).length ≤ 500) ∧ Z = W) (fun i _ => 4 - (intOf i).toNat)
      case atStart => exact ⟨0, Nat.zero_le _, rfl, fun m h => absurd h (Nat.not_lt_zero m), rfl⟩
      case round =>
        obtain ⟨j, hj, rfl, hqs, rfl⟩ := hrel
        have QS := Lib.hid hqs
        clear hqs
        by_cases hjn : j < 4
        · have f1 : decide ((j : Int) < 4) = true := by rw [decide_eq_true_eq]; omega
          have f1' : decide (j < 4) = true := by rw [decide_eq_true_eq]; omega
          have f2 : (j : Int) < 4 := by omega
          have f3 : (0 : Int) ≤ (j : Int) := by omega
          have gj : IntKind.i64.wrap ((j : Int) + 1) = (j : Int) + 1 := IntWalk.i64_in _ (by omega)
          have HJN := Lib.hid hjn
          have IX := qV_index q0 q1 q2 q3 j hjn
          have NQ := HQ.out j
          obtain ⟨ql, hql⟩ : ∃ ql, qL P j = ql := ⟨_, rfl⟩
          obtain ⟨qv, hqv⟩ : ∃ qv, qV q0 q1 q2 q3 j = qv := ⟨_, rfl⟩
          rw [hql, hqv] at NQ
          rw [hqv] at IX
          obtain ⟨qa, qc, rfl, -⟩ := NQ.read
          obtain ⟨ln, hln⟩ : ∃ z, ql.length = z := ⟨_, rfl⟩
          rw [hln] at IX
          have vv : (decide ((500 : Int) < (ln : Int)) = true ∧ decide (500 < ln) = true) ∨ (decide ((500 : Int) < (ln : Int)) = false ∧ decide (500 < ln) = false) := by
            simp only [decide_eq_true_eq, decide_eq_false_iff_not]
            omega
          have QLN : Hid ((qL P j).length = ln) := Lib.hid (by rw [hql]; exact hln)
          clear NQ hql hqv hln hjn
          rcases vv with ⟨v1, v1'⟩ | ⟨v1, v1'⟩
          · go_wp2_with fail
            go_ret
            exact ⟨⟨_, rfl, fun h => by cases h⟩, BZ.out⟩
          · have L5 : Hid (ln ≤ 500) := Lib.hid (Nat.not_lt.1 (of_decide_eq_false v1'))
            go_wp2_with fail
            go_roundw
            case rel =>
              refine ⟨j + 1, HJN.out, by go_num, fun m hm => ?_, by first | rfl | trivial⟩
              by_cases e : m = j
              · subst e; rw [QLN.out]; exact L5.out
              · exact QS.out m (by omega)
            case measure => simp [intOf]; have := HJN.out; omega
        · obtain rfl : j = 4 := by omega
          clear hjn
          have SM : Hid (SmallT P) := Lib.hid ⟨by rw [HN.out]; exact N10.out.1, by rw [HSN.out]; exact N10.out.2, fun p hp => by
            obtain ⟨i, hi, rfl⟩ := List.getElem_of_mem hp
            exact ALL.out i (by rw [← HN.out]; exact hi) hi, QS.out⟩
          rw [show ((4 : Nat) : Int) = 4 from rfl]
          go_wp2_with fail
          go_ret
          exact ⟨⟨_, rfl, fun _ => SM.out⟩, BZ.out⟩
end Go.Proofs.Ytnhalnjdlkdnkaa

namespace Go.Proofs.Ytnhalnjdlkdnkaa
set_option linter.unusedVariables false
set_option linter.unusedSimpArgs false
set_option maxRecDepth 20000

def permT (n t : Nat) (s : Nat → Nat) (bs : List (List Int)) : List (List Int) := (List.range n).map fun j => blockL (t : Int) (bs.getD (s j) [])
def crSrc (wd hi j : Nat) : Nat := j % hi * wd + j / hi
theorem flB_perm (wd : Nat) (bs : List (List Int)) : flB wd bs = permT bs.length 1 (flSrc wd) bs := by
  unfold flB flR permT
  rw [List.map_map]
  rfl
theorem opB_perm (wd hi : Nat) (bs : List (List Int)) : opB wd hi bs = permT bs.length 2 (opSrc wd hi) bs := by
  unfold opB opR permT
  rw [List.map_map]
  rfl
theorem crB_perm (wd hi : Nat) (bs : List (List Int)) : crB wd hi bs = permT bs.length 4 (crSrc wd hi) bs := rfl
theorem permT_len (n t : Nat) (s : Nat → Nat) (bs : List (List Int)) : (permT n t s bs).length = n := by simp [permT]
theorem permT_two (n t1 t2 : Nat) (s1 s2 : Nat → Nat) (bs : List (List Int)) (h1 : t1 ≤ 7) (h2 : t2 ≤ 7) (hs : ∀ j, j < n → s2 j < n) (ha : All64 bs) : permT n t2 s2 (permT n t1 s1 bs) = permT n (behindN (t1 : Int) (t2 : Int)) (fun j => s1 (s2 j)) bs := by
  unfold permT
  refine List.map_congr_left fun j hj => ?_
  rw [List.mem_range] at hj
  have e : ((List.range n).map fun j => blockL (t1 : Int) (bs.getD (s1 j) [])).getD (s2 j) [] = blockL (t1 : Int) (bs.getD (s1 (s2 j)) []) := by
    rw [List.getD_eq_getElem?_getD, List.getElem?_map, List.getElem?_range (hs j hj)]
    rfl
  rw [e]
  refine block_two _ _ (by omega) (by omega) _ ?_
  rw [List.getD_eq_getElem?_getD]
  cases hk : bs[s1 (s2 j)]? with
  | none => intro z hz; simp at hz
  | some v => exact (ha v (List.mem_of_getElem? hk)).in64
theorem permT_eq {n t t' : Nat} {s s' : Nat → Nat} (ht : t = t') (hs : ∀ j, j < n → s j = s' j) (bs : List (List Int)) : permT n t s bs = permT n t' s' bs := by
  unfold permT
  refine List.map_congr_left fun j hj => ?_
  rw [ht, hs j (List.mem_range.1 hj)]
theorem block_zero (l : List Int) (h : l.length = 64) : blockL 0 l = l := by
  apply List.ext_getElem (by rw [blockL_len, h])
  intro k h1 h2
  have hk : k < 64 := by omega
  simp only [blockL, signL, List.getElem_map, List.getElem_range]
  rw [show crossB 0 = false from rfl, show flipB 0 = false from rfl, show flopB 0 = false from rfl]
  simp [sgn, sg2, h2]
theorem permT_id {n t : Nat} {s : Nat → Nat} (ht : t = 0) (hs : ∀ j, j < n → s j = j) (bs : List (List Int)) (hn : bs.length = n) (ha : All64 bs) : permT n t s bs = bs := by
  unfold permT
  apply List.ext_getElem (by simp [hn])
  intro j h1 h2
  simp only [List.getElem_map, List.getElem_range]
  rw [hs j (by omega), ht, List.getD_eq_getElem?_getD, List.getElem?_eq_getElem h2]
  exact block_zero _ (ha _ (List.getElem_mem h2)).1
theorem sides_pos {wd hi j : Nat} (h : j < wd * hi) : 0 < wd ∧ 0 < hi := by
  constructor
  · rcases Nat.eq_zero_or_pos wd with h0 | h0
    · subst h0; simp at h
    · exact h0
  · rcases Nat.eq_zero_or_pos hi with h0 | h0
    · subst h0; simp at h
    · exact h0
/-- a place by its row and column -/
theorem fl_parts {wd hi j : Nat} (h : j < wd * hi) : flSrc wd j % wd = wd - 1 - j % wd ∧ flSrc wd j / wd = j / wd := by
  have p := sides_pos h
  exact mod_at (by omega)
theorem op_parts {wd hi j : Nat} (h : j < wd * hi) : opSrc wd hi j % wd = j % wd ∧ opSrc wd hi j / wd = hi - 1 - j / wd := by
  have p := sides_pos h
  exact mod_at (Nat.mod_lt _ p.1)
theorem cr_parts {wd hi j : Nat} (h : j < wd * hi) : crSrc wd hi j % wd = j / hi ∧ crSrc wd hi j / wd = j % hi := by
  have p := sides_pos h
  refine mod_at (Nat.div_lt_of_lt_mul ?_)
  rw [Nat.mul_comm]; exact h
theorem rowcol {wd a b : Nat} (h : 0 < wd) (h1 : a % wd = b % wd) (h2 : a / wd = b / wd) : a = b := by
  rw [← Nat.div_add_mod a wd, ← Nat.div_add_mod b wd, h1, h2]
theorem row_lt {wd hi j : Nat} (h : j < wd * hi) : j % wd < wd ∧ j / wd < hi := ⟨Nat.mod_lt _ (sides_pos h).1, Nat.div_lt_of_lt_mul h⟩
theorem of_parts {wd hi a : Nat} (hw : 0 < wd) (h : a / wd < hi) : a < wd * hi := by
  have := Nat.div_add_mod a wd
  have h2 := Nat.mod_lt a hw
  have h3 : wd * (a / wd) + wd ≤ wd * hi := by rw [← Nat.mul_succ]; exact Nat.mul_le_mul_left _ h
  omega
theorem fl_lt {wd hi j : Nat} (h : j < wd * hi) : flSrc wd j < wd * hi := by
  obtain ⟨e1, e2⟩ := fl_parts h
  exact of_parts (sides_pos h).1 (by rw [e2]; exact (row_lt h).2)
theorem op_lt {wd hi j : Nat} (h : j < wd * hi) : opSrc wd hi j < wd * hi := by
  obtain ⟨e1, e2⟩ := op_parts h
  exact of_parts (sides_pos h).1 (by have h2 := (row_lt h).2; rw [e2]; generalize j / wd = q at h2 ⊢; omega)
theorem cr_lt {wd hi j : Nat} (h : j < wd * hi) : crSrc wd hi j < wd * hi := by
  obtain ⟨e1, e2⟩ := cr_parts h
  exact of_parts (sides_pos h).1 (by rw [e2]; exact Nat.mod_lt _ (sides_pos h).2)
theorem two_flip {wd hi : Nat} {bs : List (List Int)} (hn : bs.length = wd * hi) (ha : All64 bs) : flB wd (flB wd bs) = bs := by
  rw [flB_perm wd (flB wd bs), flB_perm, permT_len, permT_two _ 1 1 _ _ bs (by decide) (by decide) (fun j hj => by rw [hn] at hj ⊢; exact fl_lt hj) ha]
  refine permT_id (by decide) (fun j hj => ?_) bs rfl ha
  rw [hn] at hj
  obtain ⟨e1, e2⟩ := fl_parts hj
  obtain ⟨e3, e4⟩ := fl_parts (fl_lt hj)
  exact rowcol (sides_pos hj).1 (by rw [e3, e1]; have := (row_lt hj).1; omega) (by rw [e4, e2])
theorem two_flop {wd hi : Nat} {bs : List (List Int)} (hn : bs.length = wd * hi) (ha : All64 bs) : opB wd hi (opB wd hi bs) = bs := by
  rw [opB_perm wd hi (opB wd hi bs), opB_perm, permT_len, permT_two _ 2 2 _ _ bs (by decide) (by decide) (fun j hj => by rw [hn] at hj ⊢; exact op_lt hj) ha]
  refine permT_id (by decide) (fun j hj => ?_) bs rfl ha
  rw [hn] at hj
  obtain ⟨e1, e2⟩ := op_parts hj
  obtain ⟨e3, e4⟩ := op_parts (op_lt hj)
  exact rowcol (sides_pos hj).1 (by rw [e3, e1]) (by have h2 := (row_lt hj).2; rw [e4, e2]; generalize j / wd = q at h2 ⊢; omega)
theorem flip_flop {wd hi : Nat} {bs : List (List Int)} (hn : bs.length = wd * hi) (ha : All64 bs) : flB wd (opB wd hi bs) = opB wd hi (flB wd bs) := by
  rw [flB_perm wd (opB wd hi bs), opB_perm wd hi (flB wd bs), opB_perm, flB_perm, permT_len, permT_len, permT_two _ 2 1 _ _ bs (by decide) (by decide) (fun j hj => by rw [hn] at hj ⊢; exact fl_lt hj) ha,
    permT_two _ 1 2 _ _ bs (by decide) (by decide) (fun j hj => by rw [hn] at hj ⊢; exact op_lt hj) ha]
  refine permT_eq (by decide) (fun j hj => ?_) bs
  rw [hn] at hj
  obtain ⟨e1, e2⟩ := fl_parts hj
  obtain ⟨e3, e4⟩ := op_parts (fl_lt hj)
  obtain ⟨f1, f2⟩ := op_parts hj
  obtain ⟨f3, f4⟩ := fl_parts (op_lt hj)
  exact rowcol (sides_pos hj).1 (by rw [e3, e1, f3, f1]) (by rw [e4, e2, f4, f2])
theorem two_cross {wd hi : Nat} {bs : List (List Int)} (hn : bs.length = wd * hi) (ha : All64 bs) : crB hi wd (crB wd hi bs) = bs := by
  have hn2 : bs.length = hi * wd := by rw [Nat.mul_comm]; exact hn
  rw [crB_perm hi wd (crB wd hi bs), crB_perm, permT_len, permT_two _ 4 4 _ _ bs (by decide) (by decide) (fun j hj => by rw [hn2] at hj ⊢; exact cr_lt hj) ha]
  refine permT_id (by decide) (fun j hj => ?_) bs rfl ha
  have hj2 := hj
  rw [hn2] at hj2
  rw [hn] at hj
  obtain ⟨e1, e2⟩ := cr_parts hj2
  have hl := cr_lt hj2
  rw [Nat.mul_comm] at hl
  obtain ⟨e3, e4⟩ := cr_parts hl
  exact rowcol (sides_pos hj).1 (by rw [e3, e2]) (by rw [e4, e1])
theorem cross_flip {wd hi : Nat} {bs : List (List Int)} (hn : bs.length = wd * hi) (ha : All64 bs) : crB wd hi (flB wd bs) = opB hi wd (crB wd hi bs) := by
  have hn2 : bs.length = hi * wd := by rw [Nat.mul_comm]; exact hn
  rw [crB_perm wd hi (flB wd bs), opB_perm hi wd (crB wd hi bs), crB_perm, flB_perm, permT_len, permT_len, permT_two _ 1 4 _ _ bs (by decide) (by decide) (fun j hj => by rw [hn] at hj ⊢; exact cr_lt hj) ha,
    permT_two _ 4 2 _ _ bs (by decide) (by decide) (fun j hj => by rw [hn2] at hj ⊢; exact op_lt hj) ha]
  refine permT_eq (by decide) (fun j hj => ?_) bs
  have hj2 := hj
  rw [hn2] at hj2
  rw [hn] at hj
  obtain ⟨e1, e2⟩ := cr_parts hj
  obtain ⟨e3, e4⟩ := fl_parts (cr_lt hj)
  obtain ⟨f1, f2⟩ := op_parts hj2
  have hl := op_lt hj2
  rw [Nat.mul_comm] at hl
  obtain ⟨f3, f4⟩ := cr_parts hl
  exact rowcol (sides_pos hj).1 (by rw [e3, e1, f3, f2]) (by rw [e4, e2, f4, f1])
theorem cross_flop {wd hi : Nat} {bs : List (List Int)} (hn : bs.length = wd * hi) (ha : All64 bs) : crB wd hi (opB wd hi bs) = flB hi (crB wd hi bs) := by
  have hn2 : bs.length = hi * wd := by rw [Nat.mul_comm]; exact hn
  rw [crB_perm wd hi (opB wd hi bs), flB_perm hi (crB wd hi bs), crB_perm, opB_perm, permT_len, permT_len, permT_two _ 2 4 _ _ bs (by decide) (by decide) (fun j hj => by rw [hn] at hj ⊢; exact cr_lt hj) ha,
    permT_two _ 4 1 _ _ bs (by decide) (by decide) (fun j hj => by rw [hn2] at hj ⊢; exact fl_lt hj) ha]
  refine permT_eq (by decide) (fun j hj => ?_) bs
  have hj2 := hj
  rw [hn2] at hj2
  rw [hn] at hj
  obtain ⟨e1, e2⟩ := cr_parts hj
  obtain ⟨e3, e4⟩ := op_parts (cr_lt hj)
  obtain ⟨f1, f2⟩ := fl_parts hj2
  have hl := fl_lt hj2
  rw [Nat.mul_comm] at hl
  obtain ⟨f3, f4⟩ := cr_parts hl
  exact rowcol (sides_pos hj).1 (by rw [e3, e1, f3, f2]) (by rw [e4, e2, f4, f1])
end Go.Proofs.Ytnhalnjdlkdnkaa

namespace Go.Proofs.Ytnhalnjdlkdnkaa
open Go.ChangeShapes Go.WideShapes Go.RowKit
set_option linter.unusedVariables false
set_option linter.unusedSimpArgs false

variable {H : Type} {enc : TypeId × Value → H} {w : World} {base : Nat} {spare : Nat → Bool} {held : Bool}
theorem list6 {α : Type} {l : List α} (h : l.length = 6) : ∃ a b c d e f, l = [a, b, c, d, e, f] := by
  obtain ⟨a, l0, rfl, h0⟩ := one h
  obtain ⟨b, l1, rfl, h1⟩ := one h0
  obtain ⟨c, d, e, f, rfl⟩ := list4 h1
  exact ⟨a, b, c, d, e, f, rfl⟩
theorem list14 {α : Type} {l : List α} (h : l.length = 14) : ∃ a0 a1 a2 a3 a4 a5 a6 a7 a8 b0 b1 b2 b3 b4, l = [a0, a1, a2, a3, a4, a5, a6, a7, a8, b0, b1, b2, b3, b4] := by
  obtain ⟨a0, l0, rfl, h0⟩ := one h
  obtain ⟨a1, l1, rfl, h1⟩ := one h0
  obtain ⟨a2, l2, rfl, h2⟩ := one h1
  obtain ⟨a3, l3, rfl, h3⟩ := one h2
  obtain ⟨a4, l4, rfl, h4⟩ := one h3
  obtain ⟨c0, c1, c2, c3, c4, c5, c6, c7, c8, rfl⟩ := list9 h4
  exact ⟨a0, a1, a2, a3, a4, c0, c1, c2, c3, c4, c5, c6, c7, c8, rfl⟩
def vCro (P : PicL) (q0 q1 q2 q3 pv kv : Value) (x y cw ch : Int) (pf : Bool) : Array Value := #[.int .i64 P.w, .int .i64 P.h, q0, q1, q2, q3, pv, .int .i64 P.restart, kv, .int .i64 x, .int .i64 y, .int .i64 cw, .int .i64 ch, .bool pf]
set_option maxRecDepth 20000 in
theorem open_cropping {r : Reach} {b0 : Nat} {v : Value} {d : DataW H} {p : List MemPlace} {ts : List TypeId} {ds : List (DataW H)} {j : Nat} (hv : Value.okWide Try.prog w r b0 38 v) (h : DataW.Trod enc Try.prog w base spare held 38 v d p)
    (hsz : (DataW.weightsEach Try.prog ts ds).all (· ≤ reachBytes) = true) (htj : ts[j]? = some 38) (hdj : ds[j]? = some d) :
    ∃ P q0 q1 q2 q3 pv kv x y cw ch pf, v = .agg (vCro P q0 q1 q2 q3 pv kv x y cw ch pf) ∧ PicC w P q0 q1 q2 q3 pv kv ∧ PicB P ∧ R64 x ∧ R64 y ∧ R64 cw ∧ R64 ch := by
  have hC : Try.prog.cellsOf 38 = 14 := by kernel_rfl
  have hI : Try.prog.cellsOf 3 = 1 := by kernel_rfl
  have hP : Try.prog.cellsOf 36 = 9 := by kernel_rfl
  have hB : Try.prog.cellsOf 4 = 1 := by kernel_rfl
  obtain ⟨cs, rfl, hsz14⟩ := okWide_struct Try.underlying38 hv
  rw [hC] at hsz14
  obtain ⟨fuel, hf⟩ := h
  have all : ∀ k ∈ DataW.weights Try.prog 38 d, k ≤ reachBytes := fun k hk => by
    have := List.all_eq_true.1 hsz _ (DataW.weights_mem_each htj hdj k hk)
    simpa using this
  obtain ⟨l, hl⟩ : ∃ l, (Value.agg cs).cells.toList = l := ⟨_, rfl⟩
  have hl14 : l.length = 14 := by rw [← hl]; simpa [Value.cells] using hsz14
  rw [hl] at hf
  obtain ⟨c0, c1, c2, c3, c4, c5, c6, c7, c8, c9, c10, c11, c12, c13, rfl⟩ := list14 hl14
  obtain ⟨ys, m, _, hy, _, hyl, hg⟩ := DataW.trod_struct Try.underlying38 hf
  have hyl6 : ys.length = 6 := hyl
  obtain ⟨y0, y1, y2, y3, y4, y5, rfl⟩ := list6 hyl6
  have g0 : DataW.trod enc Try.prog w base spare held m 36 (([c0, c1, c2, c3, c4, c5, c6, c7, c8, c9, c10, c11, c12, c13].drop 0).take (Try.prog.cellsOf 36)) = some y0 := hg 0 _ rfl
  have g1 : DataW.trod enc Try.prog w base spare held m 3 (([c0, c1, c2, c3, c4, c5, c6, c7, c8, c9, c10, c11, c12, c13].drop 9).take (Try.prog.cellsOf 3)) = some y1 := hg 1 _ rfl
  have g2 : DataW.trod enc Try.prog w base spare held m 3 (([c0, c1, c2, c3, c4, c5, c6, c7, c8, c9, c10, c11, c12, c13].drop 10).take (Try.prog.cellsOf 3)) = some y2 := hg 2 _ rfl
  have g3 : DataW.trod enc Try.prog w base spare held m 3 (([c0, c1, c2, c3, c4, c5, c6, c7, c8, c9, c10, c11, c12, c13].drop 11).take (Try.prog.cellsOf 3)) = some y3 := hg 3 _ rfl
  have g4 : DataW.trod enc Try.prog w base spare held m 3 (([c0, c1, c2, c3, c4, c5, c6, c7, c8, c9, c10, c11, c12, c13].drop 12).take (Try.prog.cellsOf 3)) = some y4 := hg 4 _ rfl
  have g5 : DataW.trod enc Try.prog w base spare held m 4 (([c0, c1, c2, c3, c4, c5, c6, c7, c8, c9, c10, c11, c12, c13].drop 13).take (Try.prog.cellsOf 4)) = some y5 := hg 5 _ rfl
  rw [hP] at g0
  rw [hI] at g1 g2 g3 g4
  rw [hB] at g5
  obtain ⟨z1, rfl, r1⟩ := num_of_trod (v := c9) g1
  obtain ⟨z2, rfl, r2⟩ := num_of_trod (v := c10) g2
  obtain ⟨z3, rfl, r3⟩ := num_of_trod (v := c11) g3
  obtain ⟨z4, rfl, r4⟩ := num_of_trod (v := c12) g4
  obtain ⟨pf, hb, _⟩ := DataW.trod_bool Try.underlying4 g5
  have hb' : c13 = .bool pf := by simpa using hb
  subst hb'
  have wt : DataW.weights Try.prog 38 d = DataW.weightsEach Try.prog [36, 3, 3, 3, 3, 4] [y0.1, y1.1, y2.1, y3.1, y4.1, y5.1] := by
    have : d = DataW.agg ([y0, y1, y2, y3, y4, y5].map (·.1)) := (Prod.mk.inj hy).1
    rw [this]
    simp only [DataW.weights, Try.underlying38]
    rfl
  obtain ⟨P, q0, q1, q2, q3, pv, kv, e1, e2, e3⟩ := pic_of_trod (cs := [c0, c1, c2, c3, c4, c5, c6, c7, c8]) rfl g0 (fun k hk => all k (by
    rw [wt]
    exact DataW.weights_mem_each (j := 0) (t := 36) (d := y0.1) rfl rfl k hk))
  refine ⟨P, q0, q1, q2, q3, pv, kv, z1, z2, z3, z4, pf, ?_, e2, e3, r1, r2, r3, r4⟩
  unfold vPic at e1
  simp only [List.cons.injEq, and_true] at e1
  obtain ⟨rfl, rfl, rfl, rfl, rfl, rfl, rfl, rfl, rfl⟩ := e1
  have h4 : cs.toList = (vCro P c2 c3 c4 c5 c6 c8 z1 z2 z3 z4 pf).toList := hl
  rw [Array.toList_inj.1 h4]
end Go.Proofs.Ytnhalnjdlkdnkaa

namespace Go.Proofs.Ytnhalnjdlkdnkaa
open Go.RowKit Go.BigFrame
set_option linter.unusedVariables false
set_option linter.unusedSimpArgs false
set_option maxRecDepth 20000

def CBox (w : World) (B : Nat) (P : PicL) (q0 q1 q2 q3 pv kv : Value) (x y cw ch : Int) (pf : Bool) : Prop := w.heap[B]? = some (.cells (vCro P q0 q1 q2 q3 pv kv x y cw ch pf) 38 (0, 0))
theorem CBox.old {w w' : World} {B : Nat} {P : PicL} {q0 q1 q2 q3 pv kv : Value} {x y cw ch : Int} {pf : Bool} (h : CBox w B P q0 q1 q2 q3 pv kv x y cw ch pf) (hb : Below w.heap.size w w') : CBox w' B P q0 q1 q2 q3 pv kv x y cw ch pf := by
  unfold CBox; rw [hb.block B (Array.getElem?_eq_some_iff.1 h).1]; exact h
/-- the crop is moved to another corner -/
theorem CBox.put {w : World} {B : Nat} {P : PicL} {q0 q1 q2 q3 pv kv : Value} {x y cw ch : Int} {pf : Bool} (h : CBox w B P q0 q1 q2 q3 pv kv x y cw ch pf) (X Y : Int) : CBox ((w.setCell ⟨B, 9, none⟩ (.int .i64 X)).setCell ⟨B, 10, none⟩ (.int .i64 Y)) B P q0 q1 q2 q3 pv kv X Y cw ch pf := by
  unfold CBox at h ⊢
  simp [World.setCell, Array.getElem?_modify, h, vCro]
theorem CBox.cells {w : World} {B : Nat} {P : PicL} {q0 q1 q2 q3 pv kv : Value} {x y cw ch : Int} {pf : Bool} (h : CBox w B P q0 q1 q2 q3 pv kv x y cw ch pf) :
    (w.cell? ⟨B, 0, none⟩ = some (.int .i64 P.w) ∧ w.cell? ⟨B, 1, none⟩ = some (.int .i64 P.h) ∧ w.cell? ⟨B, 2, none⟩ = some q0 ∧ w.cell? ⟨B, 3, none⟩ = some q1 ∧ w.cell? ⟨B, 4, none⟩ = some q2 ∧ w.cell? ⟨B, 5, none⟩ = some q3 ∧ w.cell? ⟨B, 6, none⟩ = some pv ∧ w.cell? ⟨B, 7, none⟩ = some (.int .i64 P.restart) ∧ w.cell? ⟨B, 8, none⟩ = some kv) ∧
    w.cell? ⟨B, 9, none⟩ = some (.int .i64 x) ∧ w.cell? ⟨B, 10, none⟩ = some (.int .i64 y) ∧ w.cell? ⟨B, 11, none⟩ = some (.int .i64 cw) ∧ w.cell? ⟨B, 12, none⟩ = some (.int .i64 ch) ∧ w.cell? ⟨B, 13, none⟩ = some (.bool pf) :=
  ⟨⟨by rw [cell_of_row _ _ 0 _ _ _ h]; rfl, by rw [cell_of_row _ _ 1 _ _ _ h]; rfl, by rw [cell_of_row _ _ 2 _ _ _ h]; rfl, by rw [cell_of_row _ _ 3 _ _ _ h]; rfl, by rw [cell_of_row _ _ 4 _ _ _ h]; rfl, by rw [cell_of_row _ _ 5 _ _ _ h]; rfl, by rw [cell_of_row _ _ 6 _ _ _ h]; rfl, by rw [cell_of_row _ _ 7 _ _ _ h]; rfl, by rw [cell_of_row _ _ 8 _ _ _ h]; rfl⟩, by rw [cell_of_row _ _ 9 _ _ _ h]; rfl, by rw [cell_of_row _ _ 10 _ _ _ h]; rfl, by rw [cell_of_row _ _ 11 _ _ _ h]; rfl, by rw [cell_of_row _ _ 12 _ _ _ h]; rfl, by rw [cell_of_row _ _ 13 _ _ _ h]; rfl⟩
/-- a picture of one's own may be stored as a row -/
theorem PicO.one {base : Nat} {w : World} {Q : PicL} {s0 s1 s2 s3 rv tv : Value} (h : PicO base w Q s0 s1 s2 s3 rv tv) : (vPic Q s0 s1 s2 s3 rv tv).all (·.oneCell') = true := by
  obtain ⟨e0, g0, hs0⟩ := owns_any h.q0
  obtain ⟨e1, g1, hs1⟩ := owns_any h.q1
  obtain ⟨e2, g2, hs2⟩ := owns_any h.q2
  obtain ⟨e3, g3, hs3⟩ := owns_any h.q3
  obtain ⟨_, _, hpp⟩ := h.parts
  obtain ⟨_, _, hkk⟩ := h.kept
  obtain ⟨e4, g4, hs4⟩ := owns_any hpp.row
  obtain ⟨e5, g5, hs5⟩ := owns_any hkk.row
  rw [hs0, hs1, hs2, hs3, hs4, hs5]; kernel_rfl
theorem crop_keeps (P : PicL) (x y w h : Int) (pf : Bool) : (cropL P x y w h pf).q0.length ≤ P.q0.length ∧ (cropL P x y w h pf).q1.length ≤ P.q1.length ∧ (cropL P x y w h pf).q2.length ≤ P.q2.length ∧ (cropL P x y w h pf).q3.length ≤ P.q3.length ∧ (cropL P x y w h pf).kept.length ≤ P.kept.length := by
  unfold cropL
  split
  · exact ⟨Nat.le_refl _, Nat.le_refl _, Nat.le_refl _, Nat.le_refl _, Nat.le_refl _⟩
  · exact ⟨Nat.zero_le _, Nat.zero_le _, Nat.zero_le _, Nat.zero_le _, Nat.zero_le _⟩
theorem crop_bounds {P : PicL} {x y w h : Int} {pf : Bool} (hB : PicB P) (g : GoodS (cropL P x y w h pf)) : PicB (cropL P x y w h pf) := by
  obtain ⟨k0, k1, k2, k3, k4⟩ := crop_keeps P x y w h pf
  have e1 := g.w; have e2 := g.h; have e3 := g.r; have e4 := g.n
  exact ⟨by unfold R64; omega, by unfold R64; omega, by unfold R64; omega, Nat.le_trans k0 hB.q0, Nat.le_trans k1 hB.q1, Nat.le_trans k2 hB.q2, Nat.le_trans k3 hB.q3, by omega, Nat.le_trans k4 hB.kept⟩
end Go.Proofs.Ytnhalnjdlkdnkaa

namespace Go.Proofs.Ytnhalnjdlkdnkaa
open Go.ChangeShapes Go.WideShapes Go.RowKit
set_option linter.unusedVariables false
variable {H : Type} {enc : TypeId × Value → H} {w : World} {base : Nat} {spare : Nat → Bool} {held : Bool}
theorem open_nums {a : Option Addr} {len cap : Nat} {d : DataW H} {p : List MemPlace} {ts : List TypeId} {ds : List (DataW H)} {j : Nat} (h : DataW.Trod enc Try.prog w base spare held 31 (.slice a len cap) d p)
    (hsz : (DataW.weightsEach Try.prog ts ds).all (· ≤ reachBytes) = true) (htj : ts[j]? = some 31) (hdj : ds[j]? = some d) :
    ∃ l : List Int, Ns w (.slice a len cap) l ∧ l.length ≤ 140737488351232 := by
  obtain ⟨fuel, hf⟩ := h
  have all : ∀ k ∈ DataW.weights Try.prog 31 d, k ≤ reachBytes := fun k hk => by
    have := List.all_eq_true.1 hsz _ (DataW.weights_mem_each htj hdj k hk)
    simpa using this
  obtain ⟨l, h1, h2, _⟩ := nums_of_trod (v := .slice a len cap) (y := (d, p)) hf all
  exact ⟨l, h1, h2⟩
end Go.Proofs.Ytnhalnjdlkdnkaa
