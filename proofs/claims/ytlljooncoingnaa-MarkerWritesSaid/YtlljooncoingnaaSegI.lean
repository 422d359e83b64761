/- The walk of marker.reader's intervals. By an AI agent. -/
import Derived.Test.YtlljooncoingnaaSegR
namespace Go.Proofs.Ytlljooncoingnaa
open Go.RowKit Go.BigFrame
set_option linter.unusedVariables false
set_option linter.unusedSimpArgs false

theorem data_any (w0 w : World) (R : Nat) (v : Value) (l : List UInt8) (k : Nat) (h : Rm w0 w R v l k) (hl : l.length ≤ 70368744173568) (h0 : 0 < l.length) :
    Calls Try.prog 31 #[.pointer (some ⟨R, 0, none⟩)] w (DataPost w0 w R v l (dataM (l.drop k))) := by
  by_cases hs : k + 2 ≤ l.length
  · exact data_good w0 w R v l k h hl hs
  · rw [dataM_short1 _ (by rw [List.length_drop]; omega)]
    exact data_short w0 w R v l k h hl h0 (by omega)
theorem tyS : ElemTy Try.prog 45 22 (.slice none 0 0) 1 24 := elemTy Try.underlying45 (by kernel_rfl) rfl (by decide)
/-- bytes, their slice -/
abbrev BvP := List UInt8 × Value
def valsP (ps : List BvP) : List Value := ps.map (·.2)
/-- Rows of the call's own: the list's, each one's. -/
structure IvV (base : Nat) (w : World) (v : Value) (ps : List BvP) : Prop where
  row : w.ownsRow base 22 1 v ps.length (valsP ps)
  data : ∀ p ∈ ps, w.ownsRow base 5 1 p.2 p.1.length (vBs p.1)
theorem IvV.nil (base : Nat) (w : World) : IvV base w (.slice none 0 0) [] := ⟨World.ownsRow_nil _ _ _ _, fun p hp => by simp at hp⟩
theorem IvV.low {base : Nat} {w w' : World} {v : Value} {ps : List BvP} (h : IvV base w v ps) {R : Nat} (hg : w.grownBy w' (some R)) (hR : R < base) : IvV base w' v ps :=
  ⟨owns_low h.row hg hR, fun p hp => owns_low (h.data p hp) hg hR⟩
theorem IvV.old {base : Nat} {w w' : World} {v : Value} {ps : List BvP} (h : IvV base w v ps) (hb : Below w.heap.size w w') : IvV base w' v ps :=
  ⟨owns_below h.row hb, fun p hp => owns_below (h.data p hp) hb⟩
theorem IvV.mono {base base' : Nat} {w : World} {v : Value} {ps : List BvP} (h : IvV base w v ps) (hb : base' ≤ base) : IvV base' w v ps :=
  ⟨World.ownsRow.mono h.row hb, fun p hp => World.ownsRow.mono (h.data p hp) hb⟩
/-- behind an append -/
theorem IvV.snoc {base : Nat} {w w' : World} {v v' : Value} {ps : List BvP} {p : BvP} (h : IvV base w v ps) (hp : w.ownsRow base 5 1 p.2 p.1.length (vBs p.1)) (hg : w.grownBy w' v.ownBlock) (ho : w'.ownsRow base 22 1 v' (ps.length + 1) (valsP ps ++ [p.2])) : IvV base w' v' (ps ++ [p]) := by
  refine ⟨by rw [List.length_append]; simpa [valsP] using ho, fun q hq => ?_⟩
  rw [List.mem_append] at hq
  rcases hq with hq | hq
  · exact (h.data q hq).kept hg (own_ne (h.data q hq) h.row (by decide))
  · have : q = p := by simpa using hq
    subst this
    exact hp.kept hg (own_ne hp h.row (by decide))
def IvPost (w0 w : World) (R : Nat) (v : Value) (l : List UInt8) : Nat ⊕ (List (List UInt8) × List UInt8) → Ending → World → Prop
  | .inl n, e, w' => e = .returned (.tuple #[.slice none 0 0, errV n]) ∧ Below w0.heap.size w0 w' ∧ w.grownBy w' (some R)
  | .inr (ivs, r), e, w' => (∃ v' ps, e = .returned (.tuple #[v', .nilIface]) ∧ IvV w.heap.size w' v' ps ∧ ps.map (·.1) = ivs) ∧ ∃ j, Rm w0 w' R v l j ∧ r = l.drop j ∧ w.grownBy w' (some R)
theorem unst_place (l : List UInt8) (k : Nat) (hk : k ≤ l.length) : ∃ p, p = k + ((l.drop k).length - (unst (l.drop k)).2.length) ∧ p ≤ l.length ∧ (unst (l.drop k)).2 = l.drop p := by
  have h1 := unst_len (l.drop k)
  have h2 := (unst_split (l.drop k)).1
  refine ⟨_, rfl, ?_, ?_⟩
  · rw [List.length_drop]; rw [List.length_drop] at h1; omega
  · have e : l.drop (k + ((l.drop k).length - (unst (l.drop k)).2.length)) = (l.drop k).drop ((l.drop k).length - (unst (l.drop k)).2.length) := by rw [List.drop_drop]
    rw [e, show (l.drop k).length - (unst (l.drop k)).2.length = (stuffL (unst (l.drop k)).1).length by omega]
    conv => lhs; rw [← List.drop_left (l₁ := stuffL (unst (l.drop k)).1) (l₂ := (unst (l.drop k)).2)]
    rw [← h2]
theorem iv_step {f : Nat} {l : List UInt8} {acc : List (List UInt8)} {r : List UInt8} (h : (unst l).2 = r) : ivF (f + 1) l acc = (match markM r with
    | .inl e => .inl e
    | .inr (c, r') => if c.toNat < 208 ∨ 216 ≤ c.toNat then .inr (acc ++ [(unst l).1], r) else if c.toNat ≠ 208 + acc.length % 8 then .inl 2 else ivF f r' (acc ++ [(unst l).1])) := by
  subst h; rfl
theorem grown_own {w W W' : World} {R : Nat} {row : Option Nat} (h : w.grownBy W (some R)) (hg : W.grownBy W' row) (hr : ∀ k, row = some k → w.heap.size ≤ k) : w.grownBy W' (some R) :=
  ⟨hg.os.trans h.os, hg.tape.trans h.tape, hg.output.trans h.output, Nat.le_trans h.size hg.size, fun k hk hne => (hg.block k (Nat.lt_of_lt_of_le hk h.size) (fun e => by have := hr k e.symm; omega)).trans (h.block k hk hne)⟩
theorem markM_err {l : List UInt8} {n : Nat} (h : markM l = .inl n) : (n : Int) ≠ 0 := by
  cases l with
  | nil => simp only [markM, Sum.inl.injEq] at h; omega
  | cons x t =>
    simp only [markM] at h
    split at h
    · simp only [Sum.inl.injEq] at h; omega
    · split at h
      · simp only [Sum.inl.injEq] at h; omega
      · cases h
theorem rst_eq (cn q : Nat) (hq : q ≤ 1048576) : ((cn : Int) != wrap64 (208 + (wrap64 (q : Int)).tmod 8)) = !decide (cn = 208 + q % 8) := by
  rw [IntWalk.wrap64_in (q : Int) (by omega), Int.tmod_eq_emod_of_nonneg (by omega), IntWalk.wrap64_in _ (by omega)]
  by_cases h : cn = 208 + q % 8
  · rw [decide_eq_true h, Bool.not_true, bne_eq_false_iff_eq]; omega
  · rw [decide_eq_false h, Bool.not_false, bne_iff_ne]; omega
set_option maxHeartbeats 4000000 in
theorem intervals_any (w0 w : World) (R : Nat) (v : Value) (l : List UInt8) (k0 : Nat) (h : Rm w0 w R v l k0) (hl : l.length ≤ 1048576) (h0 : 0 < l.length) :
    Calls Try.prog 32 #[.pointer (some ⟨R, 0, none⟩)] w (IvPost w0 w R v l (ivF ((l.drop k0).length + 1) (l.drop k0) [])) := by
  have HL := Lib.hid hl
  have HRw : Hid (R < w.heap.size) := Lib.hid h.ex.2.2.2
  obtain ⟨b, off, cap, hv, hcap⟩ : ∃ b off cap, v = .slice (some ⟨b, off, none⟩) l.length cap ∧ l.length ≤ cap := by
    rcases h.bs.shape with ⟨a', c', hv, h0'⟩ | ⟨b, off, c', hv, hcc, hp, hx⟩
    · subst h0'; simp at h0
    · exact ⟨b, off, c', hv, hcc⟩
  have HV := Lib.hid hv
  have HC := Lib.hid hcap
  have HR := Lib.hid h
  obtain ⟨tgt, htgt⟩ : ∃ tgt, ivF ((l.drop k0).length + 1) (l.drop k0) [] = tgt := ⟨_, rfl⟩
  rw [htgt]
  have TG := Lib.hid htgt
  clear h hv hcap htgt
  go_enter Try.func32, Try.ntmps32
  go_wp2_with fail
  go_loopw [4] (fun u W => ∃ (k f : Nat) (ps : List BvP), Rm w0 W R v l k ∧ w.grownBy W (some R) ∧ IvV w.heap.size W u ps ∧ ps.length ≤ k ∧ ivF f (l.drop k) (ps.map (·.1)) = tgt ∧ (l.drop k).length < f) (fun _ W => l.length - posOf R W)
  case atStart => exact ⟨k0, _, [], HR.out, (grown_of_below (Below.refl _ _)), IvV.nil _ _, Nat.zero_le _, TG.out, Nat.lt_succ_self _⟩
  case round =>
    obtain ⟨k, f, ps, hr, hg, hi, hpk, ht, hf⟩ := hrel
    obtain ⟨f, rfl⟩ : ∃ g, f = g + 1 := ⟨f - 1, by omega⟩
    obtain ⟨u0, uc, rfl⟩ := owns_len hi.row
    have RJ := Lib.hid hr
    have GJ := Lib.hid hg
    have IJ := Lib.hid hi
    have TJ := Lib.hid ht
    have FJ := Lib.hid hf
    have PK := Lib.hid hpk
    have PO := Lib.hid (posOf_rm hr)
    obtain ⟨c0, c1, c2, c3⟩ := hr.ex
    rw [HV.out] at c0
    have hle := hr.le
    have LE := Lib.hid hle
    obtain ⟨p, hp, hpl, hpe⟩ := unst_place l k hle
    have HPE := Lib.hid hpe
    have HPL := Lib.hid hpl
    obtain ⟨t, htt⟩ : ∃ t, (l.drop k).length - (unst (l.drop k)).2.length = t := ⟨_, rfl⟩
    rw [htt] at hp
    have HP : Hid (p = k + t) := Lib.hid hp
    have BSW : Hid (Bs wr (.slice (some ⟨b, off, none⟩) l.length cap) l) := Lib.hid (by rw [← HV.out]; exact hr.bs.old hr.below)
    have LD : Hid ((l.drop k).length ≤ 70368744173568) := Lib.hid (by rw [List.length_drop]; have := HL.out; omega)
    have HT := Lib.hid htt
    have K1 : k ≤ 1048576 := by have := HL.out; omega
    have KC : k ≤ cap := by have := HC.out; omega
    obtain ⟨n, hn⟩ : ∃ n, l.length = n := ⟨_, rfl⟩
    rw [hn] at hle c0
    have HN := Lib.hid hn
    have i1 : (k : Int) ≤ (n : Int) := by omega
    have i0 : (n : Int) ≤ (cap : Int) := by have := HC.out; omega
    clear hr hg hi ht hf hpk hp hpl hpe htt
    by_cases hck : k = cap
    case' pos =>
      subst hck
      obtain rfl : k = n := by omega
      have VL : Hid (Bs wr (.slice (some ⟨b, off, none⟩) 0 0) (l.drop k)) := Lib.hid (by rw [List.drop_of_length_le (by omega)]; exact Bs.nil _ _ _)
      clear i0 i1 hn
      go_wp2_with fail
      refine wp_region_qmq (fun W => W.cell? ⟨R, 0, none⟩ = some (.slice (some ⟨b, off, none⟩) k k) ∧ W.cell? ⟨R, 1, none⟩ = some (.int .i64 (k : Int)) ∧ Below wr.heap.size wr W) 9 0 (by kernel_rfl) (by kernel_rfl) ⟨c0, c1, (Below.refl _ _).drew⟩ ?_
      simp only [List.take_succ_cons, List.take_zero, List.drop_succ_cons, List.drop_zero, Nat.reduceAdd]
      repeat
        first
        | go_big_quiet_skip
        | (go_big_quiet_want
           first
           | (go_big_quiet_op; go_big_quiet_on)
           | (apply Exists.intro
              refine ⟨fun X hX => ?_, ?_⟩
              · obtain ⟨e1, e2, eZ⟩ := hX
                clear eZ
                unfold Oper.quietAt
                go_simp
                first
                | exact ⟨rfl, rfl⟩
                | exact rfl
              go_big_quiet_on
              try simp only [Act.put, List.setIfInBounds_toArray, List.set_cons_zero, List.set_cons_succ]))
      refine wpQuiet_nil ?_
      obtain ⟨v8, hv8⟩ : ∃ v8, Value.slice (some ⟨b, off, none⟩) 0 0 = v8 := ⟨_, rfl⟩
      rw [hv8] at VL ⊢
      clear hv8
    case' neg =>
      have VL : Hid (Bs wr (.slice (some ⟨b, off + k, none⟩) (n - k) (cap - k)) (l.drop k)) := Lib.hid (by have := BSW.out.drop k LE.out; rw [hn] at this; exact this)
      have i3 : ¬ (cap : Int) = (k : Int) := by omega
      have i4 : ¬ (k : Int) = (cap : Int) := by omega
      have i5 : k < cap := by omega
      have i7 : ¬ cap = k := by omega
      clear hn
      go_wp2_with fail
      refine wp_region_qmq (fun W => W.cell? ⟨R, 0, none⟩ = some (.slice (some ⟨b, off, none⟩) n cap) ∧ W.cell? ⟨R, 1, none⟩ = some (.int .i64 (k : Int)) ∧ Below wr.heap.size wr W) 9 0 (by kernel_rfl) (by kernel_rfl) ⟨c0, c1, (Below.refl _ _).drew⟩ ?_
      simp only [List.take_succ_cons, List.take_zero, List.drop_succ_cons, List.drop_zero, Nat.reduceAdd]
      repeat
        first
        | go_big_quiet_skip
        | (go_big_quiet_want
           first
           | (go_big_quiet_op; go_big_quiet_on)
           | (apply Exists.intro
              refine ⟨fun X hX => ?_, ?_⟩
              · obtain ⟨e1, e2, eZ⟩ := hX
                clear eZ
                unfold Oper.quietAt
                go_simp
                first
                | exact ⟨rfl, rfl⟩
                | exact rfl
              go_big_quiet_on
              try simp only [Act.put, List.setIfInBounds_toArray, List.set_cons_zero, List.set_cons_succ]))
      refine wpQuiet_nil ?_
      obtain ⟨v8, hv8⟩ : ∃ v8, Value.slice (some ⟨b, off + k, none⟩) (n - k) (cap - k) = v8 := ⟨_, rfl⟩
      rw [hv8] at VL ⊢
      clear hv8 i3 i4 i5 i7 i0 i1 hck
    all_goals
      rintro X ⟨-, -, hbX⟩
      have BX := Lib.hid hbX
      clear c0 c1 c2
      go_wp2_with fail
      refine (unstuff_any v8 (l.drop k) X (VL.out.old hbX) LD.out).mono ?_
      rintro e w1 ⟨v1, rfl, o1, hb1⟩
      rw [HT.out]
      obtain ⟨a1, k1, rfl⟩ := owns_len o1
      have B1 := Lib.hid (BX.out.trans (hb1.mono BX.out.size))
      have O1 := Lib.hid (World.ownsRow.mono o1 (Nat.le_trans GJ.out.size BX.out.size))
      obtain ⟨pl, hpl⟩ : ∃ pl, (unst (l.drop k)).1 = pl := ⟨_, rfl⟩
      rw [hpl] at O1
      rw [hpl]
      have PL := Lib.hid hpl
      have R1 := Lib.hid (RJ.out.old B1.out)
      have G1 := Lib.hid (grown_below GJ.out B1.out)
      have I1 := Lib.hid (IJ.out.old B1.out)
      clear hbX o1 hb1 hpl
      go_wp2_with fail
      refine tail_at (tailP_one ?_)
      repeat
        first
        | go_big_quiet_skip
        | (go_big_quiet_want
           first
           | (go_big_quiet_op; go_big_quiet_on)
           | (apply Exists.intro
              refine ⟨fun X hX => ?_, ?_⟩
              · obtain rfl := hX
                unfold Oper.quietAt
                go_simp
                first
                | exact ⟨rfl, rfl⟩
                | exact rfl
              go_big_quiet_on
              try simp only [Act.put, List.setIfInBounds_toArray, List.set_cons_zero, List.set_cons_succ]))
      refine wpQuiet_nil ?_
      rintro _ rfl
      go_wp2_with (at_builtin; refine stop ?_)
      refine unstop (wpList_app tyS rfl _ _ rfl w.heap.size _ ps.length (valsP ps) rfl (I1.out.row.alloc _) (.slice (some ⟨w1.heap.size, 0, none⟩) 1 1) 1 [.slice a1 pl.length k1] rfl (sl_heap (heap_alloc_new _ _) rfl (Nat.le_refl _)) (by intro u hu; simp at hu; subst hu; rfl) (by have := PK.out; omega) (by have := PK.out; omega) (by have := G1.out.size; simp; omega) ?_)
      intro v2 w2 o2 g2 _
      have I2 := Lib.hid (IvV.snoc (p := (pl, .slice a1 pl.length k1)) (I1.out.old ((Below.refl _ _).alloc (Nat.le_refl _) _)) (O1.out.alloc _) g2 o2)
      have own2 : ∀ j, (Value.slice u0 ps.length uc).ownBlock = some j → w.heap.size ≤ j := fun j hj => (I1.out.row.lt j hj).1
      have R2 := Lib.hid ((R1.out.old ((Below.refl _ _).alloc (Nat.le_refl _) (.cells #[.slice a1 pl.length k1] 22))).grown g2 (fun j hj => by have := own2 j hj; have := HRw.out; omega))
      have G2 := Lib.hid (grown_own (grown_below G1.out ((Below.refl _ _).alloc (Nat.le_refl _) _)) g2 own2)
      obtain ⟨a2, k2, rfl⟩ := owns_len o2
      clear o2 g2 own2
      obtain ⟨x0, x1, x2, x3⟩ := R2.out.ex
      have f1 : wrap64 ((k : Int) + (t : Int)) = (p : Int) := by rw [IntWalk.wrap64_in _ (by have := HP.out; have := HPL.out; omega)]; have := HP.out; omega
      obtain ⟨w3, hw3⟩ : ∃ w3, w2.setCell ⟨R, 1, none⟩ (.int .i64 (p : Int)) = w3 := ⟨_, rfl⟩
      have R3 : Hid (Rm w0 w3 R v l p) := Lib.hid (by rw [← hw3]; exact R2.out.store p HPL.out)
      have G3 : Hid (w.grownBy w3 (some R)) := Lib.hid (by rw [← hw3]; exact grown_trans G2.out (grown_set (Below.refl _ _) _ _ _))
      have I3 : Hid (IvV w.heap.size w3 (.slice a2 (ps.length + 1) k2) (ps ++ [(pl, .slice a1 pl.length k1)])) := Lib.hid (by rw [← hw3]; exact I2.out.low (grown_set (Below.refl _ _) _ _ _) HRw.out)
      obtain ⟨y0, y1, y2, y3⟩ := R3.out.ex
      go_wp2_with fail
      have SP := Lib.hid (iv_step (f := f) (acc := ps.map (·.1)) HPE.out)
      rw [PL.out, TJ.out] at SP
      refine (mark_any w0 w3 R v l p R3.out (by have := HL.out; omega)).mono ?_
      intro e w4 hm
      clear hw3 x0 x1 x2 x3 f1 y0 y1 y2 y3
      rcases hmm : markM (l.drop p) with n1 | ⟨c, r⟩
      · rw [hmm] at hm SP
        replace SP : Hid (tgt = .inl n1) := Lib.hid SP.out
        obtain ⟨rfl, hb4, hg4⟩ := hm
        have N0 : Hid ((n1 : Int) ≠ 0) := Lib.hid (markM_err hmm)
        have B4 := Lib.hid hb4
        have G4 := Lib.hid (grown_trans G3.out hg4)
        clear hb4 hg4 hmm
        rw [errV_some N0.out]
        go_wp2_with fail
        go_ret2
        rw [SP.out]
        exact ⟨by rw [errV_some N0.out]; rfl, B4.out, G4.out⟩
      · rw [hmm] at hm SP
        replace SP : Hid (tgt = (if c.toNat < 208 ∨ 216 ≤ c.toNat then .inr (ps.map (·.1) ++ [pl], l.drop p) else if c.toNat ≠ 208 + (ps.map (·.1)).length % 8 then .inl 2 else ivF f r (ps.map (·.1) ++ [pl]))) := Lib.hid SP.out
        obtain ⟨rfl, j, hr4, hrj, hg4⟩ := hm
        have R4 := Lib.hid hr4
        have G4 := Lib.hid (grown_trans G3.out hg4)
        have I4 := Lib.hid (I3.out.low hg4 HRw.out)
        have LT := Lib.hid (markM_short hmm)
        have RJ4 := Lib.hid hrj
        have P4 := Lib.hid (posOf_rm hr4)
        obtain ⟨cn, hcn⟩ : ∃ cn, c.toNat = cn := ⟨_, rfl⟩
        rw [hcn] at SP ⊢
        clear hr4 hrj hg4 hmm hcn
        by_cases q1 : cn < 208 ∨ 216 ≤ cn
        · rw [if_pos q1] at SP
          obtain ⟨y0, y1, y2, y3⟩ := R4.out.ex
          have R5 := Lib.hid (R4.out.store p HPL.out)
          have G5 := Lib.hid (grown_trans G4.out (grown_set (i := 1) (v := .int .i64 (p : Int)) (R := R) (Below.refl w4.heap.size w4)))
          have I5 := Lib.hid (I4.out.low (grown_set (i := 1) (v := .int .i64 (p : Int)) (R := R) (Below.refl w4.heap.size w4)) HRw.out)
          rcases (by omega : cn < 208 ∨ (¬ cn < 208 ∧ 216 ≤ cn)) with q2 | ⟨q2, q3⟩
          · have e1 : decide ((cn : Int) < 208) = true := by rw [decide_eq_true_eq]; omega
            have e2 : decide (cn < 208) = true := by rw [decide_eq_true_eq]; omega
            clear q1 q2
            go_wp2_with fail
            go_ret2
            rw [SP.out]
            exact ⟨⟨_, _, rfl, I5.out, by simp⟩, p, R5.out, rfl, G5.out⟩
          · have e1 : decide ((cn : Int) < 208) = false := by rw [decide_eq_false_iff_not]; omega
            have e2 : decide (cn < 208) = false := by rw [decide_eq_false_iff_not]; omega
            have e3 : decide ((216 : Int) ≤ (cn : Int)) = true := by rw [decide_eq_true_eq]; omega
            have e4 : decide (216 ≤ cn) = true := by rw [decide_eq_true_eq]; omega
            clear q1 q2 q3
            go_wp2_with fail
            go_ret2
            rw [SP.out]
            exact ⟨⟨_, _, rfl, I5.out, by simp⟩, p, R5.out, rfl, G5.out⟩
        · rw [if_neg q1] at SP
          have e1 : decide ((cn : Int) < 208) = false := by rw [decide_eq_false_iff_not]; omega
          have e2 : decide (cn < 208) = false := by rw [decide_eq_false_iff_not]; omega
          have e3 : decide ((216 : Int) ≤ (cn : Int)) = false := by rw [decide_eq_false_iff_not]; omega
          have e4 : decide (216 ≤ cn) = false := by rw [decide_eq_false_iff_not]; omega
          obtain ⟨q, hq⟩ : ∃ q, ps.length = q := ⟨_, rfl⟩
          have HQ := Lib.hid hq
          rw [List.length_map, hq] at SP
          rw [hq] at PK ⊢
          have e5 := rst_eq cn q (by have := PK.out; omega)
          have E5 := Lib.hid e5
          clear q1 hq e5
          by_cases q4 : cn = 208 + q % 8
          · have e6 : ((cn : Int) != wrap64 (208 + (wrap64 (q : Int)).tmod 8)) = false := by rw [E5.out, decide_eq_true q4]; rfl
            rw [if_neg (fun h => h q4)] at SP
            clear q4
            go_wp2_with fail
            go_roundw
            case rel => exact ⟨j, f, ps ++ [(pl, .slice a1 pl.length k1)], R4.out, G4.out, by rw [← HQ.out]; exact I4.out, by rw [List.length_append, HQ.out]; have := LT.out; have := RJ4.out; have := PK.out; have := HP.out; have := R4.out.le; have h := congrArg List.length RJ4.out; rw [List.length_drop] at h; rw [List.length_drop] at *; simp; omega, by rw [SP.out, RJ4.out]; simp, by have := LT.out; have h := congrArg List.length RJ4.out; have := FJ.out; have := HP.out; have := HPL.out; rw [List.length_drop] at *; omega⟩
            case measure => rw [P4.out, PO.out]; have := LT.out; have h := congrArg List.length RJ4.out; have := HP.out; have := HPL.out; rw [List.length_drop] at *; have := R4.out.le; omega
          · have e6 : ((cn : Int) != wrap64 (208 + (wrap64 (q : Int)).tmod 8)) = true := by rw [E5.out, decide_eq_false q4]; rfl
            rw [if_pos q4] at SP
            clear q4
            go_wp2_with fail
            go_ret2
            rw [SP.out]
            exact ⟨rfl, R4.out.below, G4.out⟩
end Go.Proofs.Ytlljooncoingnaa
