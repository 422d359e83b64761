/- The walk of marker.Parse. By an AI agent. -/
import Derived.Test.YtlljooncoingnaaSegV
import Derived.WalkMore
namespace Go.Proofs.Ytlljooncoingnaa
open Go.RowKit Go.BigFrame
set_option linter.unusedVariables false
set_option linter.unusedSimpArgs false

/-- what Parse leaves -/
def ParsePost (w : World) (r : List Itm × Nat) (e : Ending) (w' : World) : Prop :=
  ∃ v xs, e = .returned (.tuple #[v, errV r.2]) ∧ ItV 58 w.heap.size w' v xs ∧ xs.map ItP.it = r.1 ∧ Below w.heap.size w w'
theorem parse_end {w w' : World} {r : List Itm × Nat} {n : Nat} (h : r = ([], n)) (hb : Below w.heap.size w w') : ParsePost w r (.returned (.tuple #[.slice none 0 0, errV n])) w' := by
  subst h; exact ⟨_, [], rfl, ItV.nil _ _ _, rfl, hb⟩
theorem parse_ok {w w' : World} {r : List Itm × Nat} {v : Value} {xs : List ItP} (h : r = (xs.map ItP.it, 0)) (hv : ItV 58 w.heap.size w' v xs) (hb : Below w.heap.size w w') : ParsePost w r (.returned (.tuple #[v, .nilIface])) w' := by
  subst h; exact ⟨v, xs, rfl, hv, rfl, hb⟩
theorem sl_lit3 (w : World) (cs : List Value) (e : TypeId) (n : Nat) (hn : cs.length = n * 3) (hm : n ≤ 281474976710656) : SlN 3 (w.alloc (.cells cs.toArray e)) (.slice (some ⟨w.heap.size, 0, none⟩) n n) n cs := by
  have h := World.ownsRow_lit (base := 0) (e := e) (size := 3) w cs.toArray n (Nat.zero_le _) (by unfold maxLen; omega) (by simp [hn])
  exact sl_of_owns h
theorem marked_two (c : UInt8) : markedB (c.toNat : Int) = markedU c := by
  unfold markedB markedU
  have e1 : decide ((1 : Int) < (c.toNat : Int)) = decide (1 < c.toNat) := by rw [decide_eq_decide]; omega
  have e2 : decide ((c.toNat : Int) < 255) = decide (c.toNat < 255) := by rw [decide_eq_decide]; omega
  have e3 : decide ((c.toNat : Int) < 208) = decide (c.toNat < 208) := by rw [decide_eq_decide]; omega
  have e4 : decide ((216 : Int) < (c.toNat : Int)) = decide (216 < c.toNat) := by rw [decide_eq_decide]; omega
  rw [e1, e2, e3, e4]
theorem ivF_errN : ∀ (f : Nat) (l : List UInt8) (acc : List (List UInt8)) (n : Nat), ivF f l acc = .inl n → (n : Int) ≠ 0
  | 0, l, acc, n, h => by simp only [ivF, Sum.inl.injEq] at h; omega
  | f + 1, l, acc, n, h => by
    unfold ivF at h
    cases hm : markM (unst l).2 with
    | inl e =>
      rw [hm] at h
      simp only [Sum.inl.injEq] at h
      have := markM_err hm
      omega
    | inr p =>
      obtain ⟨c, r⟩ := p
      rw [hm] at h
      simp only at h
      split at h
      · cases h
      · split at h
        · simp only [Sum.inl.injEq] at h; omega
        · exact ivF_errN f r _ n h
theorem dataM_err {l : List UInt8} {n : Nat} (h : dataM l = .inl n) : (n : Int) ≠ 0 := by
  unfold dataM at h
  split at h
  · simp only [Sum.inl.injEq] at h; omega
  split at h
  · simp only [Sum.inl.injEq] at h; omega
  split at h
  · simp only [Sum.inl.injEq] at h; omega
  · cases h
theorem seg_step (f : Nat) (l : List UInt8) (acc : List Itm) : segF (f + 1) l acc = (match markM l with
    | .inl e => ([], e)
    | .inr (c, r) => if c = 217 then (if r ≠ [] then ([], 2) else (acc, 0)) else if !markedU c then ([], 2) else match dataM r with
      | .inl e => ([], e)
      | .inr (d, r2) => if c = 218 then (match ivF (r2.length + 1) r2 [] with
        | .inl e => ([], e)
        | .inr (ivs, r3) => segF f r3 (acc ++ [((c.toNat : Int), d, ivs)])) else segF f r2 (acc ++ [((c.toNat : Int), d, [])])) := rfl
theorem box3_of {w : World} {B : Nat} {u v x : Value} (h : w.heap[B]? = some (.cells #[u, v, x] 58 (0, 0))) : w.cell? ⟨B, 0, none⟩ = some u ∧ w.cell? ⟨B, 1, none⟩ = some v ∧ w.cell? ⟨B, 2, none⟩ = some x ∧ w.frozen? ⟨B, 0, none⟩ = false ∧ w.frozen? ⟨B, 1, none⟩ = false ∧ w.frozen? ⟨B, 2, none⟩ = false :=
  ⟨by rw [cell_of_row w B 0 _ _ (0, 0) h]; rfl, by rw [cell_of_row w B 1 _ _ (0, 0) h]; rfl, by rw [cell_of_row w B 2 _ _ (0, 0) h]; rfl, by simp [World.frozen?, h], by simp [World.frozen?, h], by simp [World.frozen?, h]⟩
set_option maxRecDepth 20000 in
set_option maxHeartbeats 8000000 in
theorem parse_any (v : Value) (l : List UInt8) (w : World) (hb : Bs w v l) (hl : l.length ≤ 140737488351232) :
    Calls Try.prog 15 #[v] w (ParsePost w (parseS l)) := by
  obtain ⟨a0, c0, hv⟩ := hb.len
  subst hv
  have HB := Lib.hid hb
  have HL := Lib.hid hl
  by_cases c1 : 1048576 < l.length
  · have PA := Lib.hid (show parseS l = ([], 4) by unfold parseS; rw [if_pos c1])
    have d1 : decide ((1048576 : Int) < (l.length : Int)) = true := by rw [decide_eq_true_eq]; omega
    have BR := Lib.hid (Below.refl w.heap.size w)
    clear hb hl c1
    go_enter Try.func15, Try.ntmps15
    go_wp2_with fail
    go_step3
    go_wp2_with fail
    try rw [Exit.noGoto_ret]
    go_ret2
    exact parse_end PA.out BR.out
  have d1 : decide ((1048576 : Int) < (l.length : Int)) = false := by rw [decide_eq_false_iff_not]; omega
  have C1 := Lib.hid c1
  clear hb hl c1
  go_enter Try.func15, Try.ntmps15
  go_wp2_with fail
  go_step3
  go_wp2_with fail
  refine (signed_any _ l _ HB.out (by have := HL.out; omega)).mono ?_; rintro e w1 ⟨rfl, hb1⟩
  have B1 := Lib.hid hb1
  clear hb1
  by_cases c2 : l.take 2 = [255, 216]
  rotate_left
  · have SG : Hid (signedB l = false) := Lib.hid (by unfold signedB; rw [decide_eq_false_iff_not]; exact c2)
    have PA := Lib.hid (show parseS l = ([], 2) by unfold parseS; rw [if_neg C1.out, if_pos c2])
    rw [SG.out]
    clear c2
    go_wp2_with fail
    try rw [Exit.noGoto_ret]
    go_ret2
    exact parse_end PA.out B1.out
  have SG : Hid (signedB l = true) := Lib.hid (by unfold signedB; rw [decide_eq_true_eq]; exact c2)
  have PA := Lib.hid (show parseS l = segF l.length (l.drop 2) [] by unfold parseS; rw [if_neg C1.out, if_neg (by rw [c2]; simp)])
  have L2 : Hid (2 ≤ l.length) := Lib.hid (by have := congrArg List.length c2; rw [List.length_take] at this; simp at this; omega)
  rw [SG.out]
  clear c2
  obtain ⟨v, hv⟩ : ∃ v, Value.slice a0 l.length c0 = v := ⟨_, rfl⟩
  have RN : Hid (Rm w1 (w1.alloc (.cells #[.slice a0 l.length c0, .int .i64 2] 61)) w1.heap.size v l 2) := Lib.hid
    ⟨(Below.refl _ _).alloc (Nat.le_refl _) _, Nat.le_refl _, by rw [← hv]; exact heap_alloc_new _ _, by rw [← hv]; exact HB.out.old B1.out, L2.out⟩
  have SW : Hid (w.heap.size ≤ w1.heap.size) := Lib.hid B1.out.size
  have LM : Hid (l.length ≤ 1048576) := Lib.hid (by have := C1.out; omega)
  clear hv d1
  go_wp2_with fail
  go_step3
  go_wp2_with fail
  obtain ⟨X, hX⟩ : ∃ X, w1.alloc (.cells #[.slice a0 l.length c0, .int .i64 2] 61) = X := ⟨_, rfl⟩
  rw [hX] at RN ⊢
  clear hX
  obtain ⟨R, hR⟩ : ∃ R, w1.heap.size = R := ⟨_, rfl⟩
  rw [hR] at RN ⊢
  have HR := Lib.hid hR
  clear hR
  go_loopw [5] (fun u W => ∃ (k f : Nat) (xs : List ItP), Rm w1 W R v l k ∧ ItV 58 (R + 1) W u xs ∧ xs.length ≤ k ∧ segF f (l.drop k) (xs.map ItP.it) = parseS l ∧ (l.drop k).length < f) (fun _ W => l.length - posOf R W)
  case atStart => exact ⟨2, l.length, [], RN.out, ItV.nil _ _ _, by simp, PA.out.symm, by have := L2.out; rw [List.length_drop]; omega⟩
  case round =>
    obtain ⟨k, f, xs, hr, hi, hpk, ht, hf⟩ := hrel
    obtain ⟨f, rfl⟩ : ∃ g, f = g + 1 := ⟨f - 1, by omega⟩
    obtain ⟨u0, uc, rfl⟩ := owns_len hi.row
    have RJ := Lib.hid hr
    have IJ := Lib.hid hi
    have PK := Lib.hid hpk
    have FJ := Lib.hid hf
    have PO := Lib.hid (posOf_rm hr)
    have RW : Hid (R < wr.heap.size) := Lib.hid hr.ex.2.2.2
    have SP := Lib.hid (seg_step f (l.drop k) (xs.map ItP.it))
    rw [ht] at SP
    have WB : Hid (Below w.heap.size w wr) := Lib.hid (B1.out.trans (hr.below.mono SW.out))
    clear hr hi hpk ht hf
    go_wp2_with fail
    refine (mark_any w1 wr R v l k RJ.out (by have := LM.out; omega)).mono ?_
    intro e w2 hm
    rcases hmm : markM (l.drop k) with n1 | ⟨c, r⟩
    · rw [hmm] at hm SP
      replace SP : Hid (parseS l = ([], n1)) := Lib.hid SP.out
      obtain ⟨rfl, hb2, hg2⟩ := hm
      have N0 : Hid ((n1 : Int) ≠ 0) := Lib.hid (markM_err hmm)
      have B2 := Lib.hid (B1.out.trans (hb2.mono SW.out))
      clear hb2 hg2 hmm
      rw [errV_some N0.out]
      go_wp2_with fail
      try rw [Exit.noGoto_ret]
      go_ret2
      rw [← errV_some N0.out]
      exact parse_end SP.out B2.out
    · rw [hmm] at hm SP
      replace SP : Hid (parseS l = (if c = 217 then (if r ≠ [] then ([], 2) else (xs.map ItP.it, 0)) else if !markedU c then ([], 2) else match dataM r with
        | .inl e => ([], e)
        | .inr (d, r2) => if c = 218 then (match ivF (r2.length + 1) r2 [] with
          | .inl e => ([], e)
          | .inr (ivs, r3) => segF f r3 (xs.map ItP.it ++ [((c.toNat : Int), d, ivs)])) else segF f r2 (xs.map ItP.it ++ [((c.toNat : Int), d, [])]))) := Lib.hid SP.out
      obtain ⟨rfl, j, hr2, hrj, hg2⟩ := hm
      have LT := Lib.hid (markM_short hmm)
      have R2 := Lib.hid hr2
      have I2 := Lib.hid (IJ.out.low hg2 (Nat.lt_succ_self R))
      have RJ2 := Lib.hid hrj
      have B2 := Lib.hid (B1.out.trans (hr2.below.mono SW.out))
      have MT := Lib.hid (marked_two c)
      obtain ⟨x0, x1, x2, x3⟩ := hr2.ex
      have hle := hr2.le
      clear hr2 hg2 hmm hrj
      by_cases q1 : c = 217
      · subst q1
        rw [if_pos rfl] at SP
        have e1 : (((217 : UInt8).toNat : Nat) : Int) = 217 := rfl
        rw [e1]
        have IE := Lib.hid (I2.out.mono (show w.heap.size ≤ R + 1 by have := HR.out; have := SW.out; omega))
        by_cases q2 : j < l.length
        · have PE : Hid (parseS l = ([], 2)) := Lib.hid (by rw [SP.out, RJ2.out, if_pos]; intro e; have := congrArg List.length e; rw [List.length_drop] at this; simp at this; omega)
          have e2 : decide ((j : Int) < (l.length : Int)) = true := by rw [decide_eq_true_eq]; omega
          have e3 : decide (j < l.length) = true := by rw [decide_eq_true_eq]; omega
          clear q2
          go_wp2_with fail
          try rw [Exit.noGoto_ret]
          go_ret2
          exact parse_end PE.out B2.out
        · have PE : Hid (parseS l = (xs.map ItP.it, 0)) := Lib.hid (by rw [SP.out, RJ2.out, List.drop_of_length_le (by omega)]; rfl)
          have e2 : decide ((j : Int) < (l.length : Int)) = false := by rw [decide_eq_false_iff_not]; omega
          have e3 : decide (j < l.length) = false := by rw [decide_eq_false_iff_not]; omega
          clear q2
          go_wp2_with fail
          try rw [Exit.noGoto_ret]
          go_ret2
          exact parse_ok PE.out IE.out B2.out
      rw [if_neg q1] at SP
      have e1 : (((c.toNat : Nat) : Int) == 217) = false := by rw [beq_eq_false_iff_ne]; intro e; exact q1 (UInt8.toNat_inj.1 (by have : (217 : UInt8).toNat = 217 := rfl; omega))
      have C218 : Hid (c = 218 ↔ c.toNat = 218) := Lib.hid ⟨fun h => by rw [h]; rfl, fun h => UInt8.toNat_inj.1 (by rw [h]; rfl)⟩
      obtain ⟨cn, hcn⟩ : ∃ cn, c.toNat = cn := ⟨_, rfl⟩
      rw [hcn] at SP MT e1 C218 ⊢
      clear q1 hcn
      rcases hM : markedU c with _ | _
      · rw [hM] at SP MT
        replace SP : Hid (parseS l = ([], 2)) := Lib.hid SP.out
        clear hM
        go_wp2_with fail
        refine (marked_any cn w2).mono ?_; rintro e w3 ⟨rfl, rfl⟩
        rw [MT.out]
        go_wp2_with fail
        try rw [Exit.noGoto_ret]
        go_ret2
        exact parse_end SP.out B2.out
      rw [hM] at SP MT
      replace SP : Hid (parseS l = (match dataM r with
        | .inl e => ([], e)
        | .inr (d, r2) => if c = 218 then (match ivF (r2.length + 1) r2 [] with
          | .inl e => ([], e)
          | .inr (ivs, r3) => segF f r3 (xs.map ItP.it ++ [((cn : Int), d, ivs)])) else segF f r2 (xs.map ItP.it ++ [((cn : Int), d, [])]))) := Lib.hid SP.out
      clear hM
      go_wp2_with fail
      refine (marked_any cn w2).mono ?_; rintro e w3 ⟨rfl, rfl⟩
      rw [MT.out]
      go_wp2_with fail
      refine (data_any w1 w2 R v l j R2.out (by have := LM.out; omega) (by have := L2.out; omega)).mono ?_
      intro e w3 hd
      rw [← RJ2.out] at hd
      rcases hdd : dataM r with n1 | ⟨d, r2⟩
      · rw [hdd] at hd SP
        replace SP : Hid (parseS l = ([], n1)) := Lib.hid SP.out
        obtain ⟨rfl, hb3, hg3⟩ := hd
        have N0 : Hid ((n1 : Int) ≠ 0) := Lib.hid (dataM_err hdd)
        have B3 := Lib.hid (B1.out.trans (hb3.mono SW.out))
        clear hb3 hg3 hdd
        rw [errV_some N0.out]
        go_wp2_with fail
        try rw [Exit.noGoto_ret]
        go_ret2
        rw [← errV_some N0.out]
        exact parse_end SP.out B3.out
      rw [hdd] at hd SP
      replace SP : Hid (parseS l = (if c = 218 then (match ivF (r2.length + 1) r2 [] with
          | .inl e => ([], e)
          | .inr (ivs, r3) => segF f r3 (xs.map ItP.it ++ [((cn : Int), d, ivs)])) else segF f r2 (xs.map ItP.it ++ [((cn : Int), d, [])]))) := Lib.hid SP.out
      obtain ⟨⟨dv, rfl, hod⟩, j2, hr3, hrj3, hg3⟩ := hd
      have LT3 := Lib.hid (dataM_short hdd)
      have R3 := Lib.hid hr3
      have RJ3 := Lib.hid hrj3
      have I3 := Lib.hid (I2.out.low hg3 (Nat.lt_succ_self R))
      have O3 := Lib.hid (World.ownsRow.mono hod (show R + 1 ≤ w2.heap.size from x3))
      obtain ⟨ad, cd, rfl⟩ := owns_len hod
      have P3 := Lib.hid (posOf_rm hr3)
      have x3' : R < w3.heap.size := hr3.ex.2.2.2
      clear hr3 hrj3 hg3 hod hdd x0 x1 x2 x3
      have AL : Hid (∀ O, Below w3.heap.size w3 (w3.alloc O)) := Lib.hid (fun O => (Below.refl _ _).alloc (Nat.le_refl _) O)
      by_cases q2 : c = 218
      · rw [if_pos q2] at SP
        have e2 : ((cn : Int) == 218) = true := by rw [beq_iff_eq]; have := C218.out.1 q2; omega
        obtain ⟨B, hB⟩ : ∃ B, w3.heap.size = B := ⟨_, rfl⟩
        have HBB : Hid (B = w3.heap.size ∧ R < B) := Lib.hid ⟨hB.symm, by omega⟩
        have NB : Hid ((w3.alloc (.cells #[.int .i64 cn, .slice ad d.length cd, .slice none 0 0] 58)).heap[B]? = some (.cells #[.int .i64 cn, .slice ad d.length cd, .slice none 0 0] 58 (0, 0))) := Lib.hid (by rw [← hB]; exact heap_alloc_new _ _)
        clear q2
        go_wp2_with fail
        refine (intervals_any w1 _ R v l j2 (R3.out.old (AL.out _)) LM.out (by have := L2.out; omega)).mono ?_
        intro e w4 hm4
        rw [← RJ3.out] at hm4
        rcases hii : ivF (r2.length + 1) r2 [] with n1 | ⟨ivs, r3⟩
        · rw [hii] at hm4 SP
          replace SP : Hid (parseS l = ([], n1)) := Lib.hid SP.out
          obtain ⟨rfl, hb4, hg4⟩ := hm4
          have N0 : Hid ((n1 : Int) ≠ 0) := Lib.hid (ivF_errN _ _ _ _ hii)
          have B4 : Hid (Below w.heap.size w w4) := Lib.hid (B1.out.trans (hb4.mono SW.out))
          have BS4 : Hid (w.heap.size ≤ B) := Lib.hid (by have := HBB.out; have := SW.out; have := HR.out; have := x3'; omega)
          obtain ⟨t0, t1, t2, t3, t4, t5⟩ := box3_of (grown_heap hg4 NB.out (by have := HBB.out; omega))
          clear hb4 hg4 hii
          rw [errV_some N0.out]
          go_wp2_with fail
          try rw [Exit.noGoto_ret]
          go_ret2
          rw [← errV_some N0.out]
          exact parse_end SP.out (B4.out.setCell (p := ⟨B, 2, none⟩) BS4.out _)
        rw [hii] at hm4 SP
        replace SP : Hid (parseS l = segF f r3 (xs.map ItP.it ++ [((cn : Int), d, ivs)])) := Lib.hid SP.out
        obtain ⟨⟨iv, ps, rfl, hiv, hips⟩, j4, hr4, hrj4, hg4⟩ := hm4
        subst hips
        have NB4 := grown_heap hg4 NB.out (by have := HBB.out; omega)
        obtain ⟨t0, t1, t2, t3, t4, t5⟩ := box3_of NB4
        obtain ⟨ai, ci, rfl⟩ := owns_len hiv.row
        obtain ⟨W, hW⟩ : ∃ W, w4.setCell ⟨B, 2, none⟩ (.slice ai ps.length ci) = W := ⟨_, rfl⟩
        have hgW : w3.grownBy W (some R) := by rw [← hW]; exact grown_new (grown_trans (alloc_grown _ _ _) hg4) (by rw [hB]; exact Nat.le_refl _)
        have hgB : w4.grownBy W (some B) := by rw [← hW]; exact grown_set (Below.refl _ _) _ _ _
        have LI := Lib.hid (ivF_le _ _ _ _ _ hii)
        have NW : W.heap[B]? = some (.cells #[.int .i64 cn, .slice ad d.length cd, .slice ai ps.length ci] 58 (0, 0)) := by
          rw [← hW]; simp [World.setCell, Array.getElem?_modify, NB4]
        obtain ⟨s0, s1, s2, _, _, _⟩ := box3_of NW
        have RJ4 := Lib.hid hrj4
        have R4 : Hid (Rm w1 W R v l j4) := Lib.hid (hr4.grown hgB (fun k hk => by simp only [Option.some.injEq] at hk; have := HBB.out; omega))
        have I4 : Hid (ItV 58 (R + 1) W (.slice u0 xs.length uc) xs) := Lib.hid (I3.out.low hgW (Nat.lt_succ_self R))
        have O4 : Hid (W.ownsRow (R + 1) 5 1 (.slice ad d.length cd) d.length (vBs d)) := Lib.hid (owns_low O3.out hgW (Nat.lt_succ_self R))
        have V4 : Hid (IvV (R + 1) W (.slice ai ps.length ci) ps) := Lib.hid ((hiv.low hgB (by rw [World.size_alloc, hB]; omega)).mono (by rw [World.size_alloc, hB]; have := HBB.out; omega))
        clear hr4 hrj4 hg4 hiv hii NB4 NW hgB hgW
        go_wp2_with (at_builtin; refine stop ?_)
        have lit := sl_lit3 W [.int .i64 cn, .slice ad d.length cd, .slice ai ps.length ci] 58 1 rfl (by omega)
        have WB2 : Below W.heap.size W (W.alloc (.cells #[.int .i64 cn, .slice ad d.length cd, .slice ai ps.length ci] 58)) := (Below.refl _ _).alloc (Nat.le_refl _) _
        have RZ := R4.out.old WB2
        have IZ := I4.out.old WB2
        have DZ := owns_below O4.out WB2
        have VZ := V4.out.old WB2
        refine unstop (wpList_app tyM rfl _ _ rfl (R + 1) (.slice u0 xs.length uc) xs.length (cellsI xs) rfl IZ.row (.slice (some ⟨W.heap.size, 0, none⟩) 1 1) 1 [.int .i64 cn, .slice ad d.length cd, .slice ai ps.length ci] rfl lit (by intro u hu; simp at hu; rcases hu with rfl | rfl | rfl <;> rfl) (by have := PK.out; have := RJ.out.le; have := LM.out; omega) (by have := PK.out; have := RJ.out.le; have := LM.out; omega) (by have := RZ.ex.2.2.2; omega) ?_)
        intro v9 w9 o9 g9 _
        have I9 := Lib.hid (ItV.snoc (x := ⟨cn, (d, .slice ad d.length cd), .slice ai ps.length ci, ps⟩) IZ DZ VZ g9 o9 (by decide) (by decide))
        have R9 := Lib.hid (RZ.grown g9 (fun k hk => (IZ.row.lt k hk).1))
        have P9 := Lib.hid (posOf_rm R9.out)
        obtain ⟨a9, c9, rfl⟩ := owns_len o9
        clear lit RZ IZ DZ VZ WB2 o9 g9 hW
        go_wp2_with fail
        go_roundw
        case rel => exact ⟨j4, f, xs ++ [⟨cn, (d, .slice ad d.length cd), .slice ai ps.length ci, ps⟩], R9.out, I9.out, by have h1 := congrArg List.length RJ2.out; have h2 := LT.out; have h3 := LT3.out; have h4 := congrArg List.length RJ3.out; have h5 := FJ.out; have h6 := PK.out; have h7 := RJ.out.le; have h8 := R9.out.le; have h9 := congrArg List.length RJ4.out; have h10 := LI.out; rw [List.length_drop] at *;  simp; omega, by rw [SP.out, List.map_append, RJ4.out]; rfl, by have h1 := congrArg List.length RJ2.out; have h2 := LT.out; have h3 := LT3.out; have h4 := congrArg List.length RJ3.out; have h5 := FJ.out; have h6 := PK.out; have h7 := RJ.out.le; have h8 := R9.out.le; have h9 := congrArg List.length RJ4.out; have h10 := LI.out; rw [List.length_drop] at *;  omega⟩
        case measure => have h1 := congrArg List.length RJ2.out; have h2 := LT.out; have h3 := LT3.out; have h4 := congrArg List.length RJ3.out; have h5 := FJ.out; have h6 := PK.out; have h7 := RJ.out.le; have h8 := R9.out.le; have h9 := congrArg List.length RJ4.out; have h10 := LI.out; rw [List.length_drop] at *;  rw [P9.out, PO.out]; omega
      · rw [if_neg q2] at SP
        have e2 : ((cn : Int) == 218) = false := by rw [beq_eq_false_iff_ne]; intro e; exact q2 (C218.out.2 (by omega))
        clear q2
        go_wp2_with (at_builtin; refine stop ?_)
        obtain ⟨Z, hZ⟩ : ∃ Z, w3.alloc (.cells #[.int .i64 cn, .slice ad d.length cd, .slice none 0 0] 58) = Z := ⟨_, rfl⟩
        have ZB : Hid (Below w3.heap.size w3 Z) := Lib.hid (by rw [← hZ]; exact (Below.refl _ _).alloc (Nat.le_refl _) _)
        rw [hZ]
        have ZS : Hid (Z.heap.size = w3.heap.size + 1) := Lib.hid (by rw [← hZ]; simp)
        have lit := sl_lit3 Z [.int .i64 cn, .slice ad d.length cd, .slice none 0 0] 58 1 rfl (by omega)
        rw [ZS.out] at lit
        have RZ := R3.out.old (ZB.out.trans (((Below.refl _ Z).alloc (Nat.le_refl _) (.cells #[.int .i64 cn, .slice ad d.length cd, .slice none 0 0] 58)).mono ZB.out.size))
        have IZ := I3.out.old (ZB.out.trans (((Below.refl _ Z).alloc (Nat.le_refl _) (.cells #[.int .i64 cn, .slice ad d.length cd, .slice none 0 0] 58)).mono ZB.out.size))
        have DZ := owns_below O3.out (ZB.out.trans (((Below.refl _ Z).alloc (Nat.le_refl _) (.cells #[.int .i64 cn, .slice ad d.length cd, .slice none 0 0] 58)).mono ZB.out.size))
        have VZ : IvV (R + 1) (Z.alloc (.cells #[.int .i64 cn, .slice ad d.length cd, .slice none 0 0] 58)) (.slice none 0 0) [] := IvV.nil _ _
        refine unstop (wpList_app tyM rfl _ _ rfl (R + 1) (.slice u0 xs.length uc) xs.length (cellsI xs) rfl IZ.row (.slice (some ⟨w3.heap.size + 1, 0, none⟩) 1 1) 1 [.int .i64 cn, .slice ad d.length cd, .slice none 0 0] rfl lit (by intro u hu; simp at hu; rcases hu with rfl | rfl | rfl <;> rfl) (by have := PK.out; have := RJ.out.le; have := LM.out; omega) (by have := PK.out; have := RJ.out.le; have := LM.out; omega) (by have := RZ.ex.2.2.2; omega) ?_)
        intro v9 w9 o9 g9 _
        have I9 := Lib.hid (ItV.snoc (x := ⟨cn, (d, .slice ad d.length cd), .slice none 0 0, []⟩) IZ DZ VZ g9 o9 (by decide) (by decide))
        have R9 := Lib.hid (RZ.grown g9 (fun k hk => (IZ.row.lt k hk).1))
        have P9 := Lib.hid (posOf_rm R9.out)
        obtain ⟨a9, c9, rfl⟩ := owns_len o9
        clear lit RZ IZ DZ VZ o9 g9 hZ
        go_wp2_with fail
        go_roundw
        case rel => exact ⟨j2, f, xs ++ [⟨cn, (d, .slice ad d.length cd), .slice none 0 0, []⟩], R9.out, I9.out, by have h1 := congrArg List.length RJ2.out; have h2 := LT.out; have h3 := LT3.out; have h4 := congrArg List.length RJ3.out; have h5 := FJ.out; have h6 := PK.out; have h7 := RJ.out.le; have h8 := R9.out.le; rw [List.length_drop] at *; simp; omega, by rw [SP.out, List.map_append, RJ3.out]; rfl, by have h1 := congrArg List.length RJ2.out; have h2 := LT.out; have h3 := LT3.out; have h4 := congrArg List.length RJ3.out; have h5 := FJ.out; have h6 := PK.out; have h7 := RJ.out.le; have h8 := R9.out.le; rw [List.length_drop] at *; omega⟩
        case measure => have h1 := congrArg List.length RJ2.out; have h2 := LT.out; have h3 := LT3.out; have h4 := congrArg List.length RJ3.out; have h5 := FJ.out; have h6 := PK.out; have h7 := RJ.out.le; have h8 := R9.out.le; rw [List.length_drop] at *; rw [P9.out, PO.out]; omega
end Go.Proofs.Ytlljooncoingnaa
