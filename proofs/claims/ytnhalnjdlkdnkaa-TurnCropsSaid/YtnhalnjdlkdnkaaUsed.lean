/- slices.ContainsFunc over blocks and over parts; frame.used. By an AI agent. -/
import Derived.Test.YtnhalnjdlkdnkaaGoodB
import Derived.Test.YtnhalnjdlkdnkaaMost
namespace Go.Proofs.Ytnhalnjdlkdnkaa
open Go.RowKit Go.BigFrame
set_option linter.unusedVariables false
set_option linter.unusedSimpArgs false
set_option maxRecDepth 20000

theorem all_take_succ {α : Type} (l : List α) (p : α → Bool) (k : Nat) (hk : k < l.length) : (l.take (k + 1)).all p = ((l.take k).all p && p l[k]) := by
  rw [List.take_succ_eq_append_getElem hk, List.all_append]; simp
theorem all_false_at {α : Type} (l : List α) (p : α → Bool) (k : Nat) (hk : k < l.length) (h : p l[k] = false) : l.all p = false := by
  rw [List.all_eq_false]; exact ⟨_, List.getElem_mem hk, by simp [h]⟩
set_option maxHeartbeats 1600000 in
theorem indexBlk (v : Value) (l : List (List Int)) (w : World) (hb : Bks w v l) (hl : l.length ≤ 140737488355328) :
    Calls Try.prog 86 #[v, .func (.func 71) #[] #[]] w fun e w' => (∃ r : Int, e = .returned (.int .i64 r) ∧ decide (0 ≤ r) = !l.all blkB) ∧ Below w.heap.size w w' := by
  obtain ⟨hall, av, cap, rfl, _, hcell⟩ := hb.range
  have HC := Lib.hid hcell
  have HL := Lib.hid hl
  have AL := Lib.hid hall
  clear hb hcell hl hall
  obtain ⟨n, hn⟩ : ∃ n, l.length = n := ⟨_, rfl⟩
  rw [hn]
  have HN := Lib.hid hn
  clear hn
  go_enter Try.func86, Try.ntmps86
  go_wp2_with fail
  go_loopw [5, 8] (fun _ i W => ∃ k : Nat, k ≤ n ∧ i = .int .i64 k ∧ (l.take k).all blkB = true ∧ Below w.heap.size w W) (fun _ i _ => n - (intOf i).toNat)
  case atStart => exact ⟨0, Nat.zero_le _, rfl, by simp, Below.refl _ _⟩
  case round =>
    obtain ⟨k, hk, rfl, heq, hbl⟩ := hrel
    have HEQ := Lib.hid heq
    have BB := Lib.hid hbl
    clear heq hbl
    by_cases hkn : k < n
    · have hkb : k < 140737488355328 := by have := HL.out; have := HN.out; omega
      have hkl : k < l.length := by rw [HN.out]; exact hkn
      obtain ⟨b, off, rfl, hc⟩ := HC.out k hkl
      have RG := Lib.hid (range_old BB.out hc)
      have hs := Lib.hid (all_take_succ l blkB k hkl)
      have hne := Lib.hid (all_false_at l blkB k hkl)
      have H64 := Lib.hid (AL.out.at k hkl)
      obtain ⟨x, hx⟩ : ∃ x, l[k]'hkl = x := ⟨_, rfl⟩
      rw [hx] at RG hs hne H64
      have HI := Lib.hid (blk_info H64.out.1)
      clear hx hc
      have f1 : decide ((k : Int) < (n : Int)) = true := by rw [decide_eq_true_eq]; omega
      have f1' : decide (k < n) = true := by rw [decide_eq_true_eq]; omega
      have f2 : (k : Int) < (n : Int) := by omega
      have gk : IntKind.i64.wrap ((k : Int) + 1) = (k : Int) + 1 := IntWalk.i64_in _ (by omega)
      have HKN := Lib.hid hkn
      clear hkl
      go_wp2_with (refine wpList_load_mid rfl _ _ rfl b (off + k * 64) rfl (vIs x) _ RG.out Try.underlying23 rfl HI.out ?_; refine stop ?_)
      refine unstop ?_
      go_wp2_with fail
      refine (badB_any x wr H64.out).mono ?_
      rintro e w1 ⟨rfl, hb1⟩
      have B1 := Lib.hid (BB.out.trans (hb1.mono BB.out.size))
      clear hb1
      obtain ⟨q, hq⟩ : ∃ q, blkB x = q := ⟨_, rfl⟩
      rw [hq] at hs hne ⊢
      clear hq
      cases q with
      | false =>
        have HD : Hid (l.all blkB = false) := Lib.hid (hne.out rfl)
        clear hne
        go_wp2_with fail
        go_ret
        exact ⟨⟨_, rfl, by rw [HD.out]; simp⟩, B1.out⟩
      | true =>
        clear hne
        go_wp2_with fail
        go_roundw
        case rel => exact ⟨k + 1, HKN.out, by go_num, by rw [hs.out, HEQ.out]; rfl, B1.out⟩
        case measure => simp [intOf]; have := HKN.out; omega
    · obtain rfl : k = n := by omega
      have HD : Hid (l.all blkB = true) := Lib.hid (by
        have h := HEQ.out
        rw [← HN.out, List.take_length] at h
        exact h)
      have f1 : decide ((k : Int) < (k : Int)) = false := by rw [decide_eq_false_iff_not]; omega
      go_wp2_with fail
      go_ret
      exact ⟨⟨_, rfl, by rw [HD.out]; rfl⟩, BB.out⟩
set_option maxHeartbeats 1600000 in
theorem containsBlk (v : Value) (l : List (List Int)) (w : World) (hb : Bks w v l) (hl : l.length ≤ 140737488355328) :
    Calls Try.prog 73 #[v, .func (.func 71) #[] #[]] w fun e w' => e = .returned (.bool (!l.all blkB)) ∧ Below w.heap.size w w' := by
  have hi := indexBlk v l w hb hl
  clear hb hl
  generalize l.all blkB = x at *
  go_enter Try.func73, Try.ntmps73
  go_wp2_with fail
  refine hi.mono ?_
  rintro e w1 ⟨⟨r, rfl, hr⟩, hb1⟩
  have HB := Lib.hid hb1
  clear hb1
  cases x
  all_goals
    simp only [Bool.not_true, Bool.not_false] at hr
    go_wp2_with fail
    go_ret
    exact ⟨rfl, HB.out⟩

/-! ## which tables are used -/
def usedB (ps : List PartL) (t : Int) : Bool := ps.any fun p => decide (p.tq = t)
def notTq (t : Int) (p : PartL) : Bool := !decide (p.tq = t)
theorem used_all (ps : List PartL) (t : Int) : usedB ps t = !ps.all (notTq t) := by
  unfold usedB notTq
  rw [List.not_all_eq_any_not]
  simp
set_option maxHeartbeats 1600000 in
theorem tq_any (p : PartL) (x : Value) (t : Int) (T : Nat) (w : World) (hT : w.cell? ⟨T, 0, none⟩ = some (.int .i64 t)) :
    Calls Try.prog 76 #[.agg (vPart p x).toArray, .pointer (some ⟨T, 0, none⟩)] w fun e w' => e = .returned (.bool (!notTq t p)) ∧ Below w.heap.size w w' := by
  obtain ⟨w1, hw1⟩ : ∃ w1, w.alloc (.cells (vPart p x).toArray 70) = w1 := ⟨_, rfl⟩
  have hb1 : Below w.heap.size w w1 := by rw [← hw1]; exact (Below.refl _ _).alloc (Nat.le_refl _) _
  obtain ⟨B, hB⟩ : ∃ B, w.heap.size = B := ⟨_, rfl⟩
  have hx1 : w1.heap[B]? = some (.cells (vPart p x).toArray 70 (0, 0)) := by rw [← hw1, ← hB]; exact heap_alloc_new _ _
  have c3 : w1.cell? ⟨B, 3, none⟩ = some (.int .i64 p.tq) := by rw [cell_of_row _ _ 3 _ _ _ hx1]; rfl
  have cT := cell_old hb1 hT
  have B1 := Lib.hid hb1
  clear hb1 hx1 hT
  unfold vPart at hw1 ⊢
  have e1 : notTq t p = !decide (p.tq = t) := rfl
  have NE := Lib.hid e1
  clear e1
  obtain ⟨q, hq⟩ : ∃ q, p.tq = q := ⟨_, rfl⟩
  rw [hq] at c3 NE hw1 ⊢
  clear hq
  by_cases h : q = t
  · have d : (q == t) = true := by rw [beq_iff_eq]; exact h
    have D := Lib.hid (decide_eq_true h)
    clear h
    go_enter Try.func76, Try.ntmps76
    go_wp2_with fail
    go_ret
    exact ⟨by rw [NE.out, D.out]; rfl, B1.out⟩
  · have d : (q == t) = false := by rw [beq_eq_false_iff_ne]; exact h
    have D := Lib.hid (decide_eq_false h)
    clear h
    go_enter Try.func76, Try.ntmps76
    go_wp2_with fail
    go_ret
    exact ⟨by rw [NE.out, D.out]; rfl, B1.out⟩
set_option maxHeartbeats 1600000 in
theorem indexPt (v : Value) (l : List PartL) (t : Int) (T : Nat) (w : World) (hb : Pts w v l) (hl : l.length ≤ 140737488355328) (hT : w.cell? ⟨T, 0, none⟩ = some (.int .i64 t)) :
    Calls Try.prog 87 #[v, .func (.func 76) #[] #[.pointer (some ⟨T, 0, none⟩)]] w fun e w' => (∃ r : Int, e = .returned (.int .i64 r) ∧ decide (0 ≤ r) = !l.all (notTq t)) ∧ Below w.heap.size w w' := by
  obtain ⟨av, cap, rfl, _, hcell⟩ := pts_at hb
  have HC := Lib.hid hcell
  have HL := Lib.hid hl
  have HT := Lib.hid hT
  clear hb hcell hl hT
  obtain ⟨n, hn⟩ : ∃ n, l.length = n := ⟨_, rfl⟩
  rw [hn]
  have HN := Lib.hid hn
  clear hn
  go_enter Try.func87, Try.ntmps87
  go_wp2_with fail
  go_loopw [5, 8] (fun _ i W => ∃ k : Nat, k ≤ n ∧ i = .int .i64 k ∧ (l.take k).all (notTq t) = true ∧ Below w.heap.size w W) (fun _ i _ => n - (intOf i).toNat)
  case atStart => exact ⟨0, Nat.zero_le _, rfl, by simp, Below.refl _ _⟩
  case round =>
    obtain ⟨k, hk, rfl, heq, hbl⟩ := hrel
    have HEQ := Lib.hid heq
    have BB := Lib.hid hbl
    clear heq hbl
    by_cases hkn : k < n
    · have hkb : k < 140737488355328 := by have := HL.out; have := HN.out; omega
      have hkl : k < l.length := by rw [HN.out]; exact hkn
      obtain ⟨b, off, xv, rfl, -, hBK, c0, c1, c2, c3, c4, c5, c6⟩ := HC.out k hkl
      obtain ⟨xa, xc, rfl, -⟩ := Els.len hBK
      obtain ⟨xn, hxn⟩ : ∃ xn, (l[k]'hkl).bs.length = xn := ⟨_, rfl⟩
      rw [hxn] at c6
      clear hBK hxn
      have hs := Lib.hid (all_take_succ l (notTq t) k hkl)
      have hne := Lib.hid (all_false_at l (notTq t) k hkl)
      obtain ⟨p, hp⟩ : ∃ x, l[k]'hkl = x := ⟨_, rfl⟩
      rw [hp] at c0 c1 c2 c3 c4 c5 hs hne
      have d0 := cell_old BB.out c0
      have d1 := cell_old BB.out c1
      have d2 := cell_old BB.out c2
      have d3 := cell_old BB.out c3
      have d4 := cell_old BB.out c4
      have d5 := cell_old BB.out c5
      have d6 := cell_old BB.out c6
      clear hp c0 c1 c2 c3 c4 c5 c6
      have f1 : decide ((k : Int) < (n : Int)) = true := by rw [decide_eq_true_eq]; omega
      have f1' : decide (k < n) = true := by rw [decide_eq_true_eq]; omega
      have f2 : (k : Int) < (n : Int) := by omega
      have gk : IntKind.i64.wrap ((k : Int) + 1) = (k : Int) + 1 := IntWalk.i64_in _ (by omega)
      have HKN := Lib.hid hkn
      clear hkl
      go_wp2_with fail
      refine (tq_any p _ t T wr (cell_old BB.out HT.out)).mono ?_
      rintro e w1 ⟨rfl, hb1⟩
      have B1 := Lib.hid (BB.out.trans (hb1.mono BB.out.size))
      clear hb1 d0 d1 d2 d3 d4 d5 d6
      obtain ⟨q, hq⟩ : ∃ q, notTq t p = q := ⟨_, rfl⟩
      rw [hq] at hs hne ⊢
      clear hq
      cases q with
      | false =>
        have HD : Hid (l.all (notTq t) = false) := Lib.hid (hne.out rfl)
        clear hne
        go_wp2_with fail
        go_ret
        exact ⟨⟨_, rfl, by rw [HD.out]; simp⟩, B1.out⟩
      | true =>
        clear hne
        go_wp2_with fail
        go_roundw
        case rel => exact ⟨k + 1, HKN.out, by go_num, by rw [hs.out, HEQ.out]; rfl, B1.out⟩
        case measure => simp [intOf]; have := HKN.out; omega
    · obtain rfl : k = n := by omega
      have HD : Hid (l.all (notTq t) = true) := Lib.hid (by
        have h := HEQ.out
        rw [← HN.out, List.take_length] at h
        exact h)
      have f1 : decide ((k : Int) < (k : Int)) = false := by rw [decide_eq_false_iff_not]; omega
      go_wp2_with fail
      go_ret
      exact ⟨⟨_, rfl, by rw [HD.out]; rfl⟩, BB.out⟩
set_option maxHeartbeats 1600000 in
theorem containsPt (v : Value) (l : List PartL) (t : Int) (T : Nat) (w : World) (hb : Pts w v l) (hl : l.length ≤ 140737488355328) (hT : w.cell? ⟨T, 0, none⟩ = some (.int .i64 t)) :
    Calls Try.prog 75 #[v, .func (.func 76) #[] #[.pointer (some ⟨T, 0, none⟩)]] w fun e w' => e = .returned (.bool (usedB l t)) ∧ Below w.heap.size w w' := by
  have hi := indexPt v l t T w hb hl hT
  have HU := Lib.hid (used_all l t)
  rw [used_all]
  clear hb hl hT HU
  generalize l.all (notTq t) = x at *
  go_enter Try.func75, Try.ntmps75
  go_wp2_with fail
  refine hi.mono ?_
  rintro e w1 ⟨⟨r, rfl, hr⟩, hb1⟩
  have HB := Lib.hid hb1
  clear hb1
  cases x
  all_goals
    simp only [Bool.not_true, Bool.not_false] at hr
    go_wp2_with fail
    go_ret
    exact ⟨rfl, HB.out⟩
set_option maxHeartbeats 1600000 in
theorem used_any (P : PicL) (q0 q1 q2 q3 pv kv : Value) (t : Int) (w : World) (hc : Pts w pv P.parts) (hl : P.parts.length ≤ 140737488351232) :
    Calls Try.prog 53 #[.agg (vPic P q0 q1 q2 q3 pv kv), .int .i64 t] w fun e w' => e = .returned (.bool (usedB P.parts t)) ∧ Below w.heap.size w w' := by
  obtain ⟨pa, pc, rfl, _⟩ := Els.len hc
  have HC := Lib.hid hc
  clear hc
  obtain ⟨w1, hw1⟩ : ∃ w1, (w.alloc (.cells (vPic P q0 q1 q2 q3 (.slice pa P.parts.length pc) kv) 36)).alloc (.cells #[.int .i64 t] 3) = w1 := ⟨_, rfl⟩
  have hb1 : Below w.heap.size w w1 := by rw [← hw1]; exact ((Below.refl _ _).alloc (Nat.le_refl _) _).alloc (by simp) _
  have hbox : PBox w1 w.heap.size P q0 q1 q2 q3 (.slice pa P.parts.length pc) kv := by rw [← hw1]; exact PBox.old (heap_alloc_new _ _) ((Below.refl _ _).alloc (Nat.le_refl _) _)
  have hT : Boxed w1 (w.heap.size + 1) 3 (.int .i64 t) := by
    rw [← hw1]
    have h := Boxed.new (w.alloc (.cells (vPic P q0 q1 q2 q3 (.slice pa P.parts.length pc) kv) 36)) 3 (.int .i64 t)
    rw [World.size_alloc] at h
    exact h
  have B1 := Lib.hid hb1
  have HT := Lib.hid hT.cell
  obtain ⟨a0, a1, a2, a3, a4, a5, a6, a7, a8⟩ := hbox.cells
  unfold vPic at hw1
  clear hb1 hbox hT
  unfold vPic
  go_enter Try.func53, Try.ntmps53
  go_wp2_with fail
  refine (containsPt _ P.parts t (w.heap.size + 1) w1 (HC.out.old B1.out) (by omega) HT.out).mono ?_
  rintro e w2 ⟨rfl, hb2⟩
  have B2 := Lib.hid (B1.out.trans (hb2.mono B1.out.size))
  clear hb2 hw1
  go_wp2_with fail
  go_ret
  exact ⟨rfl, B2.out⟩
end Go.Proofs.Ytnhalnjdlkdnkaa
