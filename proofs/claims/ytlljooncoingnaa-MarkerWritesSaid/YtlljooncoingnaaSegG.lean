/- The document's Parse of chapter 20. By an AI agent. -/
import Derived.Test.YtlljooncoingnaaSegF
import Derived.Deep.RegionLawGrows
import Derived.Deep.DeepCutAuto
namespace Go.Proofs.Ytlljooncoingnaa
open Go.RowKit Go.BigFrame
set_option linter.unusedVariables false
set_option linter.unusedSimpArgs false

theorem step_app {P : Program} {w : World} {ops : Array Oper} {o : Oper} {a : Act} {K : Act → World → Prop} {Q : Exit → Act → World → Prop} {E : Prop} {t e : TypeId} {z : Value} {size bytes : Nat} (T : ElemTy P t e z size bytes) (hgd : o.guard = none) (s x : Operand)
    (ho : o.op = .call { callee := .builtin .append, args := #[s, x], argTypes := #[t, t] }) (base : Nat)
    (v : Value) (n : Nat) (xs : List Value) (hs : a.eval s = v) (hown : w.ownsRow base e size v n xs) (src : Value) (m : Nat) (news : List Value) (hx : a.eval x = src) (hsrc : SlN size w src m news) (h1 : ∀ u ∈ news, u.oneCell' = true)
    (hbytes : (n + m) * bytes ≤ 140737488355328) (h63 : n + m ≤ 140737488355328) (hbase : base ≤ w.heap.size)
    (h : ∀ v' w', w'.ownsRow base e size v' (n + m) (xs ++ news) → w.grownBy w' v.ownBlock → K (a.put o.dst v') w') :
    if Region.wanted o (yielded ops a.tmps) = true then Oper.wp P o a w K Q else E := by
  have hw : Region.wanted o (yielded ops a.tmps) = true := by simp [Region.wanted, hgd]
  rw [if_pos hw]
  obtain ⟨v', w', hr, h2, h3, h4⟩ := run_app (P := P) w T o.type base v n xs hown src m news hsrc h1 hbytes h63 hbase
  unfold Oper.wp execOp
  simp only [ho, resolve, invoke, builtin, Sem.run_bind, Sem.run_pure, Result.andThen_ok, List.map_toArray, List.map_cons, List.map_nil, hs, hx, hr]
  exact h v' w' h2 h3

theorem tyR : ElemTy Try.prog 33 47 (.agg #[.int .i64 0, .slice none 0 0, .slice none 0 0]) 3 56 := elemTy Try.underlying33 (by kernel_rfl) rfl (by decide)
def RPost (w : World) (r : List Itm × Nat) (e : Ending) (w' : World) : Prop :=
  ∃ v xs, e = .returned (.tuple #[v, .int .i64 (r.2 : Nat)]) ∧ ItV 47 w.heap.size w' v xs ∧ xs.map ItP.it = r.1 ∧ Below w.heap.size w w'
theorem rparse_end {w w' : World} {r : List Itm × Nat} {n : Nat} {N : Int} (h : r = ([], n)) (hN : N = (n : Int)) (hb : Below w.heap.size w w') : RPost w r (.returned (.tuple #[.slice none 0 0, .int .i64 N])) w' := by
  subst h hN; exact ⟨_, [], rfl, ItV.nil _ _ _, rfl, hb⟩
theorem rparse_ok {w w' : World} {r : List Itm × Nat} {v : Value} {xs : List ItP} (h : r = (xs.map ItP.it, 0)) (hv : ItV 47 w.heap.size w' v xs) (hb : Below w.heap.size w w') : RPost w r (.returned (.tuple #[v, .int .i64 0])) w' := by
  subst h; exact ⟨v, xs, rfl, hv, rfl, hb⟩
theorem suf_drop {l q r : List UInt8} (h : l = q ++ r) : r = l.drop (l.length - r.length) := by
  subst h; simp
theorem markM_place {l : List UInt8} {k : Nat} {c : UInt8} {r : List UInt8} (hk : k ≤ l.length) (h : markM (l.drop k) = .inr (c, r)) : r = l.drop (l.length - r.length) ∧ r.length + 2 + k ≤ l.length := by
  obtain ⟨n, e, _⟩ := markM_some h
  have h1 := markM_short h
  rw [List.length_drop] at h1
  refine ⟨suf_drop (q := l.take k ++ 255 :: (List.replicate n 255 ++ [c])) ?_, by omega⟩
  conv => lhs; rw [← List.take_append_drop k l, e]
  simp
theorem unst_take_plain {l : List UInt8} {k t : Nat} (hk : k ≤ l.length) (ht : (l.drop k).length - (unst (l.drop k)).2.length = t) : plF false ((l.drop k).take t) = (unst (l.drop k)).1 ∧ k + t ≤ l.length ∧ (unst (l.drop k)).2 = l.drop (k + t) := by
  obtain ⟨p, h1, h2, h3⟩ := unst_place l k hk
  have h4 := unst_len (l.drop k)
  have h5 := (unst_split (l.drop k)).1
  rw [ht] at h1
  subst h1
  refine ⟨?_, h2, h3⟩
  have : (l.drop k).take t = stuffL (unst (l.drop k)).1 := by
    rw [show t = (stuffL (unst (l.drop k)).1).length by omega]
    have h6 := List.take_left (l₁ := stuffL (unst (l.drop k)).1) (l₂ := (unst (l.drop k)).2)
    rw [← h5] at h6
    exact h6
  rw [this, plF_stuff]
theorem dataM_cases {l : List UInt8} {k m : Nat} (hk : k + 2 ≤ l.length) (hm : numL ((l.drop k).take 2) = m) : dataM (l.drop k) = if m < 2 then .inl 2 else if l.length - k < m then .inl 8 else .inr ((l.drop (k + 2)).take (m - 2), l.drop (k + m)) := by
  unfold dataM
  rw [hm, List.length_drop, if_neg (by omega), List.drop_drop, List.drop_drop]
theorem refTake_short2 (v : Value) (l : List UInt8) (w : World) (hb : Bs w v l) (h : l.length < 2) :
    Calls Try.prog 34 #[v, .int .i64 2] w fun e w' => e = .returned (.tuple #[.int .i64 0, .int .i64 8]) ∧ w = w' := refTake_short v l 2 w hb (by decide) h
theorem refTake_good2 (v : Value) (l : List UInt8) (n : Nat) (w : World) (hb : Bs w v l) (h : 2 ≤ l.length) (hn : numL (l.take 2) = n) :
    Calls Try.prog 34 #[v, .int .i64 2] w fun e w' => e = .returned (.tuple #[.int .i64 (n : Int), .int .i64 0]) ∧ w = w' := by
  subst hn; exact refTake_good v l 2 w hb (by decide) h
theorem boxR_of {w : World} {B : Nat} {u v x : Value} (h : w.heap[B]? = some (.cells #[u, v, x] 47 (0, 0))) : w.cell? ⟨B, 0, none⟩ = some u ∧ w.cell? ⟨B, 1, none⟩ = some v ∧ w.cell? ⟨B, 2, none⟩ = some x ∧ w.frozen? ⟨B, 2, none⟩ = false :=
  ⟨by rw [cell_of_row w B 0 _ _ (0, 0) h]; rfl, by rw [cell_of_row w B 1 _ _ (0, 0) h]; rfl, by rw [cell_of_row w B 2 _ _ (0, 0) h]; rfl, by simp [World.frozen?, h]⟩
theorem rst_two (hn q : Nat) (h : 208 ≤ hn ∧ hn < 216) (hq : q ≤ 1048576) : (wrap64 ((hn : Int) - 208) != (wrap64 (q : Int)).tmod 8) = !decide (hn = 208 + q % 8) := by
  rw [IntWalk.wrap64_in (q : Int) (by omega), Int.tmod_eq_emod_of_nonneg (by omega), IntWalk.wrap64_in _ (by omega)]
  by_cases h : hn = 208 + q % 8
  · rw [decide_eq_true h, Bool.not_true, bne_eq_false_iff_eq]; omega
  · rw [decide_eq_false h, Bool.not_false, bne_iff_ne]; omega
theorem markR_inl (l : List UInt8) (n : Nat) : markR l (.inl n) = .tuple #[.int .i64 0, .int .i64 0, .int .i64 (n : Int)] := rfl
theorem markR_inr (l r : List UInt8) (c : UInt8) : markR l (.inr (c, r)) = .tuple #[.int .i64 ((c.toNat : Nat) : Int), .int .i64 ((l.length - r.length : Nat) : Int), .int .i64 0] := rfl
set_option maxRecDepth 20000 in
set_option maxHeartbeats 8000000 in
theorem refParse_any (v : Value) (l : List UInt8) (w : World) (hb : Bs w v l) (hl : l.length ≤ 140737488351232) :
    Calls Try.prog 16 #[v] w (RPost w (parseS l)) := by
  obtain ⟨a0, c0, hv⟩ := hb.len
  subst hv
  have HB := Lib.hid hb
  have BR := Lib.hid (Below.refl w.heap.size w)
  by_cases c1 : 1048576 < l.length
  · have PA := Lib.hid (show parseS l = ([], 4) by unfold parseS; rw [if_pos c1])
    have d1 : decide ((1048576 : Int) < (l.length : Int)) = true := by rw [decide_eq_true_eq]; omega
    clear hb hl c1
    go_enter Try.func16, Try.ntmps16
    go_wp2_with fail
    go_ret2
    exact rparse_end PA.out rfl BR.out
  have d1 : decide ((1048576 : Int) < (l.length : Int)) = false := by rw [decide_eq_false_iff_not]; omega
  have C1 := Lib.hid c1
  have LM : Hid (l.length ≤ 1048576) := Lib.hid (by omega)
  by_cases c2 : l.length < 2
  · have PA := Lib.hid (show parseS l = ([], 2) by
      unfold parseS; rw [if_neg C1.out, if_pos]
      intro e; have := congrArg List.length e; rw [List.length_take] at this; simp at this; omega)
    have d2 : decide ((l.length : Int) < (2 : Int)) = true := by rw [decide_eq_true_eq]; omega
    have d3 : decide (l.length < 2) = true := by rw [decide_eq_true_eq]; omega
    clear hb hl c1 c2
    go_enter Try.func16, Try.ntmps16
    go_wp2_with fail
    go_ret2
    exact rparse_end PA.out rfl BR.out
  have d2 : decide ((l.length : Int) < (2 : Int)) = false := by rw [decide_eq_false_iff_not]; omega
  have d3 : decide (l.length < 2) = false := by rw [decide_eq_false_iff_not]; omega
  obtain ⟨b, off, rfl, hcap, hcell⟩ : ∃ b off, a0 = some ⟨b, off, none⟩ ∧ l.length ≤ c0 ∧ ∀ i (h : i < l.length), w.cell? ⟨b, off + i, none⟩ = some (.int .u8 ((l[i].toNat : Nat) : Int)) := by
    rcases HB.out.shape with ⟨a', c', hv, h0⟩ | ⟨b, off, c', hv, hcc, hp, hx⟩
    · subst h0; simp at c2
    · simp only [Value.slice.injEq] at hv; obtain ⟨h1, _, h2⟩ := hv; subst h2; exact ⟨b, off, h1, hcc, hx⟩
  have q0 := hcell 0 (by omega)
  have q1 := hcell 1 (by omega)
  obtain ⟨x0, x1, tl, hlt⟩ : ∃ x0 x1 tl, l = x0 :: x1 :: tl := by
    match l, c2 with
    | [], h => simp at h
    | [x], h => simp at h
    | x :: y :: t, _ => exact ⟨x, y, t, rfl⟩
  have g0 : l[0]'(by omega) = x0 := by simp [hlt]
  have g1 : l[1]'(by omega) = x1 := by simp [hlt]
  rw [g0, Nat.add_zero] at q0
  rw [g1] at q1
  have p0 : 0 < l.length := by omega
  have p1 : 1 < l.length := by omega
  have T2 : Hid (l.take 2 = [x0, x1]) := Lib.hid (by rw [hlt]; rfl)
  have L2 : Hid (2 ≤ l.length) := Lib.hid (by omega)
  have HCX := Lib.hid hcell
  have HC := Lib.hid hcap
  clear hb hl c1 c2 hlt g0 g1 hcell
  by_cases c3 : x0 = 255
  rotate_left
  · have PA := Lib.hid (show parseS l = ([], 2) by
      unfold parseS; rw [if_neg C1.out, if_pos]; rw [T2.out]; intro e; simp only [List.cons.injEq] at e; exact c3 e.1)
    have f1 : (((x0.toNat : Nat) : Int) == 255) = false := by rw [beq_eq_false_iff_ne]; intro e; exact c3 (UInt8.toNat_inj.1 (by have : (255 : UInt8).toNat = 255 := rfl; omega))
    clear c3
    go_enter Try.func16, Try.ntmps16
    go_wp2_with fail
    go_ret2
    exact rparse_end PA.out rfl BR.out
  have e255 : (((255 : UInt8).toNat : Nat) : Int) = 255 := rfl
  subst c3
  rw [e255] at q0
  clear e255
  by_cases c4 : x1 = 216
  rotate_left
  · have PA := Lib.hid (show parseS l = ([], 2) by
      unfold parseS; rw [if_neg C1.out, if_pos]; rw [T2.out]; intro e; simp only [List.cons.injEq] at e; exact c4 e.2.1)
    have f1 : (((x1.toNat : Nat) : Int) == 216) = false := by rw [beq_eq_false_iff_ne]; intro e; exact c4 (UInt8.toNat_inj.1 (by have : (216 : UInt8).toNat = 216 := rfl; omega))
    clear c4
    go_enter Try.func16, Try.ntmps16
    go_wp2_with fail
    go_ret2
    exact rparse_end PA.out rfl BR.out
  have e216 : (((216 : UInt8).toNat : Nat) : Int) = 216 := rfl
  subst c4
  rw [e216] at q1
  have PA := Lib.hid (show parseS l = segF l.length (l.drop 2) [] by unfold parseS; rw [if_neg C1.out, if_neg (by rw [T2.out]; simp)])
  clear e216
  go_enter Try.func16, Try.ntmps16
  go_wp2_with fail
  clear q0 q1 d1 d2 d3 p0 p1 hcap
  go_loopw [4, 5] (fun u i W => ∃ (k f : Nat) (xs : List ItP), i = .int .i64 (k : Int) ∧ k ≤ l.length ∧ xs.length ≤ k ∧ ItV 47 w.heap.size W u xs ∧ segF f (l.drop k) (xs.map ItP.it) = parseS l ∧ (l.drop k).length < f ∧ Below w.heap.size w W) (fun _ i _ => l.length - (intOf i).toNat)
  case atStart => exact ⟨2, l.length, [], rfl, L2.out, by simp, ItV.nil _ _ _, PA.out.symm, by have := L2.out; rw [List.length_drop]; omega, BR.out⟩
  case round =>
    obtain ⟨k, f, xs, rfl, hk, hpk, hi, ht, hf, hbel⟩ := hrel
    obtain ⟨f, rfl⟩ : ∃ g, f = g + 1 := ⟨f - 1, by omega⟩
    obtain ⟨u0, uc, rfl⟩ := owns_len hi.row
    have IJ := Lib.hid hi
    have PK := Lib.hid hpk
    have FJ := Lib.hid hf
    have KL := Lib.hid hk
    have BE := Lib.hid hbel
    have BSW := Lib.hid (HB.out.old hbel)
    have SP := Lib.hid (seg_step f (l.drop k) (xs.map ItP.it))
    rw [ht] at SP
    clear hi hpk ht hf hbel
    go_wp2_with fail
    refine (refMark_any _ l k wr BSW.out (by have := LM.out; omega) KL.out).mono ?_
    rintro e w2 ⟨rfl, rfl⟩
    rcases hmm : markM (l.drop k) with n1 | ⟨c, r⟩
    · rw [hmm] at SP
      replace SP : Hid (parseS l = ([], n1)) := Lib.hid SP.out
      have N0 : Hid ((n1 : Int) ≠ 0) := Lib.hid (markM_err hmm)
      have n0 : ((n1 : Int) == 0) = false := by rw [beq_eq_false_iff_ne]; exact N0.out
      have n0' : ¬ n1 = 0 := by have := N0.out; omega
      clear hmm
      rw [markR_inl]
      go_wp2_with fail
      go_ret2
      exact rparse_end SP.out rfl BE.out
    · rw [hmm] at SP
      replace SP : Hid (parseS l = (if c = 217 then (if r ≠ [] then ([], 2) else (xs.map ItP.it, 0)) else if !markedU c then ([], 2) else match dataM r with
        | .inl e => ([], e)
        | .inr (d, r2) => if c = 218 then (match ivF (r2.length + 1) r2 [] with
          | .inl e => ([], e)
          | .inr (ivs, r3) => segF f r3 (xs.map ItP.it ++ [((c.toNat : Int), d, ivs)])) else segF f r2 (xs.map ItP.it ++ [((c.toNat : Int), d, [])]))) := Lib.hid SP.out
      have MP := markM_place hk hmm
      have MT := Lib.hid (marked_two c)
      rw [markR_inr]
      obtain ⟨j, hj⟩ : ∃ j, l.length - r.length = j := ⟨_, rfl⟩
      rw [hj] at MP ⊢
      have RJ := Lib.hid MP.1
      have JL : Hid (k + 2 ≤ j ∧ j ≤ l.length) := Lib.hid (by have := MP.2; omega)
      clear hmm MP hj hk
      by_cases q1 : c = 217
      · subst q1
        rw [if_pos rfl] at SP
        have e1 : (((217 : UInt8).toNat : Nat) : Int) = 217 := rfl
        rw [e1]
        by_cases q2 : j < l.length
        · have PE : Hid (parseS l = ([], 2)) := Lib.hid (by rw [SP.out, RJ.out, if_pos]; intro e; have := congrArg List.length e; rw [List.length_drop] at this; simp at this; omega)
          have e2 : decide ((j : Int) < (l.length : Int)) = true := by rw [decide_eq_true_eq]; omega
          have e3 : decide (j < l.length) = true := by rw [decide_eq_true_eq]; omega
          clear q2
          go_wp2_with fail
          go_ret2
          exact rparse_end PE.out rfl BE.out
        · have PE : Hid (parseS l = (xs.map ItP.it, 0)) := Lib.hid (by rw [SP.out, RJ.out, List.drop_of_length_le (by omega)]; rfl)
          have e2 : decide ((j : Int) < (l.length : Int)) = false := by rw [decide_eq_false_iff_not]; omega
          have e3 : decide (j < l.length) = false := by rw [decide_eq_false_iff_not]; omega
          clear q2
          go_wp2_with fail
          go_ret2
          exact rparse_ok PE.out IJ.out BE.out
      rw [if_neg q1] at SP
      have e1 : (((c.toNat : Nat) : Int) == 217) = false := by rw [beq_eq_false_iff_ne]; intro e; exact q1 (UInt8.toNat_inj.1 (by have : (217 : UInt8).toNat = 217 := rfl; omega))
      have C218 : Hid (c = 218 ↔ c.toNat = 218) := Lib.hid ⟨fun h => by rw [h]; rfl, fun h => UInt8.toNat_inj.1 (by rw [h]; rfl)⟩
      obtain ⟨cn, hcn⟩ : ∃ cn, c.toNat = cn := ⟨_, rfl⟩
      rw [hcn] at SP MT e1 C218 ⊢
      clear q1 hcn
      rcases hM : markedU c with _ | _
      · rw [hM] at SP MT
        replace SP : Hid (parseS l = ([], 2)) := Lib.hid SP.out
        clear hM
        go_wp2_with fail
        refine (refMarked_any cn wr).mono ?_; rintro e w3 ⟨rfl, rfl⟩
        rw [MT.out]
        go_wp2_with fail
        go_ret2
        exact rparse_end SP.out rfl BE.out
      rw [hM] at SP MT
      replace SP : Hid (parseS l = (match dataM r with
        | .inl e => ([], e)
        | .inr (d, r2) => if c = 218 then (match ivF (r2.length + 1) r2 [] with
          | .inl e => ([], e)
          | .inr (ivs, r3) => segF f r3 (xs.map ItP.it ++ [((cn : Int), d, ivs)])) else segF f r2 (xs.map ItP.it ++ [((cn : Int), d, [])]))) := Lib.hid SP.out
      clear hM
      rw [RJ.out] at SP
      have HJ1 : j ≤ 1048576 := by have := JL.out; have := LM.out; omega
      have j0 : (j : Int) ≤ (l.length : Int) := by have := JL.out; omega
      have j1 : (l.length : Int) ≤ (c0 : Int) := by have := HC.out; omega
      go_wp2_with fail
      refine (refMarked_any cn wr).mono ?_; rintro e w3 ⟨rfl, rfl⟩
      rw [MT.out]
      by_cases hs : l.length < j + 2
      · replace SP : Hid (parseS l = ([], 8)) := Lib.hid (by rw [SP.out, dataM_short1 _ (by rw [List.length_drop]; omega)])
        have HS : Hid ((l.drop j).length < 2) := Lib.hid (by rw [List.length_drop]; omega)
        by_cases hck : c0 = j
        · have VL : Hid (Bs wr (.slice (some ⟨b, off, none⟩) 0 0) (l.drop j)) := Lib.hid (by rw [List.drop_of_length_le (by have := HC.out; omega)]; exact Bs.nil _ _ _)
          have e9 : l.length = j := by have := HC.out; have := JL.out; omega
          clear hs j0 j1
          rw [hck, e9]
          go_wp2_with fail
          refine (refTake_short2 _ _ _ VL.out HS.out).mono ?_; rintro e w3 ⟨rfl, rfl⟩
          go_wp2_with fail
          go_ret2
          exact rparse_end SP.out rfl BE.out
        · have VL : Hid (Bs wr (.slice (some ⟨b, off + j, none⟩) (l.length - j) (c0 - j)) (l.drop j)) := Lib.hid (BSW.out.drop j JL.out.2)
          have i5 : j < c0 := by have := JL.out; have := HC.out; omega
          clear hs
          go_wp2_with fail
          refine (refTake_short2 _ _ _ VL.out HS.out).mono ?_; rintro e w3 ⟨rfl, rfl⟩
          go_wp2_with fail
          go_ret2
          exact rparse_end SP.out rfl BE.out
      have VL : Hid (Bs wr (.slice (some ⟨b, off + j, none⟩) (l.length - j) (c0 - j)) (l.drop j)) := Lib.hid (BSW.out.drop j JL.out.2)
      have HS : Hid (j + 2 ≤ l.length) := Lib.hid (by omega)
      have HS2 : Hid (2 ≤ (l.drop j).length) := Lib.hid (by rw [List.length_drop]; omega)
      obtain ⟨m, hm⟩ : ∃ m, numL ((l.drop j).take 2) = m := ⟨_, rfl⟩
      have HM := Lib.hid hm
      have M16 : Hid (m < 65536) := Lib.hid (by rw [← hm]; exact numL_lt _ 2)
      rw [dataM_cases (by omega) hm] at SP
      have i5 : j < c0 := by have := HC.out; omega
      have i6 : ¬ c0 = j := by omega
      have F2 : Hid (wrap64 ((l.length : Int) - (j : Int)) = ((l.length - j : Nat) : Int)) := Lib.hid (by rw [IntWalk.wrap64_in _ (by have := LM.out; omega)]; omega)
      clear hs hm
      go_wp2_with fail
      refine (refTake_good2 _ _ m _ VL.out HS2.out HM.out).mono ?_; rintro e w3 ⟨rfl, rfl⟩
      by_cases q1 : m < 2
      · replace SP : Hid (parseS l = ([], 2)) := Lib.hid (by rw [SP.out, if_pos q1])
        have e1 : decide ((m : Int) < 2) = true := by rw [decide_eq_true_eq]; omega
        have e2 : decide (m < 2) = true := by rw [decide_eq_true_eq]; omega
        clear q1
        go_wp2_with fail
        go_ret2
        exact rparse_end SP.out rfl BE.out
      rw [if_neg q1] at SP
      have e1 : decide ((m : Int) < 2) = false := by rw [decide_eq_false_iff_not]; omega
      have e2 : decide (m < 2) = false := by rw [decide_eq_false_iff_not]; omega
      have Q1 : Hid (2 ≤ m) := Lib.hid (by omega)
      have f2 := F2.out
      clear q1
      by_cases q2 : l.length - j < m
      · replace SP : Hid (parseS l = ([], 8)) := Lib.hid (by rw [SP.out, if_pos q2])
        have e4 : decide (l.length - j < m) = true := by rw [decide_eq_true_eq]; exact q2
        clear q2
        go_wp2_with fail
        go_ret2
        exact rparse_end SP.out rfl BE.out
      replace SP : Hid (parseS l = (if c = 218 then (match ivF ((l.drop (j + m)).length + 1) (l.drop (j + m)) [] with
          | .inl e => ([], e)
          | .inr (ivs, r3) => segF f r3 (xs.map ItP.it ++ [((cn : Int), (l.drop (j + 2)).take (m - 2), ivs)])) else segF f (l.drop (j + m)) (xs.map ItP.it ++ [((cn : Int), (l.drop (j + 2)).take (m - 2), [])]))) := Lib.hid (by rw [SP.out, if_neg q2])
      have e4 : decide (l.length - j < m) = false := by rw [decide_eq_false_iff_not]; exact q2
      have QL : Hid (j + m ≤ l.length) := Lib.hid (by have := HS.out; clear f2; omega)
      obtain ⟨p, hp⟩ : ∃ p, j + 2 = p := ⟨_, rfl⟩
      obtain ⟨q, hq⟩ : ∃ q, j + m = q := ⟨_, rfl⟩
      rw [hp, hq] at SP
      obtain ⟨d, hd⟩ : ∃ d, (l.drop p).take (m - 2) = d := ⟨_, rfl⟩
      rw [hd] at SP
      have HPQ : Hid (p = j + 2 ∧ q = j + m ∧ m - 2 = q - p ∧ p ≤ q ∧ q ≤ l.length) := Lib.hid (by have := QL.out; have := Q1.out; clear f2; omega)
      have g1 : wrap64 ((j : Int) + 2) = (p : Int) := by rw [IntWalk.wrap64_in _ (by clear f2; omega)]; clear f2; omega
      have g3 : wrap64 ((j : Int) + (m : Int)) = (q : Int) := by rw [IntWalk.wrap64_in _ (by have := M16.out; clear f2 g1; omega)]; clear f2 g1; omega
      have DL : Hid (d.length = q - p) := Lib.hid (by rw [← hd, List.length_take, List.length_drop]; have := HPQ.out; clear f2 g1 g3; omega)
      have VD : Hid (∃ a9 c9, Bs wr (.slice a9 (q - p) c9) d) := Lib.hid ⟨_, _, by rw [← hd, HPQ.out.2.2.1]; exact (BSW.out.drop p (by have := HPQ.out; clear f2 g1 g3; omega)).take (q - p) (by rw [List.length_drop]; have := HPQ.out; clear f2 g1 g3; omega)⟩
      have k1 : p ≤ q := HPQ.out.2.2.2.1
      have k2 : q ≤ c0 := by have := HPQ.out; have := HC.out; clear f2 g1 g3; omega
      have k3 : (j : Int) + 2 ≤ (q : Int) := by have := HPQ.out; clear f2 g1 g3; omega
      have k5 : (0 : Int) ≤ (j : Int) + 2 := by omega
      have k4 : (q : Int) ≤ (c0 : Int) := by clear f2 g1 g3; omega
      clear q2 hp hq i5 i6 j0 j1
      go_upto_region 24 with (fail)
      go_cut [10] from 55 to 81 (fun t wx => ∃ (w9 : World) (a9 : Option Addr) (c9 : Nat), t = .pointer (some ⟨w9.heap.size, 0, none⟩) ∧ wx = w9.alloc (.cells #[.int .i64 cn, .slice a9 d.length c9, .slice none 0 0] 47) ∧ w9.ownsRow w.heap.size 5 1 (.slice a9 d.length c9) d.length (vBs d) ∧ Below wr.heap.size wr w9)
      case first =>
        go_wp2_with (at_builtin; refine stop ?_)
        case' inl h =>
          rw [← h]
          have VX : Hid (Bs wr (.slice (some ⟨b, off, none⟩) (q - c0) 0) d) := Lib.hid (by
            have h1 := DL.out
            have h0 : d = [] := List.eq_nil_of_length_eq_zero (by have := HPQ.out; clear f2 g1 g3; omega)
            rw [show q - c0 = 0 by clear f2 g1 g3; omega, h0]; exact Bs.nil _ _ _)
          obtain ⟨x8, hx8⟩ : ∃ x8, Value.slice (some ⟨b, off, none⟩) (q - c0) 0 = x8 := ⟨_, rfl⟩
          rw [hx8] at VX ⊢
          clear hx8 h
        case' inr h =>
          have VX : Hid (Bs wr (.slice (some ⟨b, off + (j + 2), none⟩) (q - (j + 2)) (c0 - (j + 2))) d) := Lib.hid (by
            rw [← hd, HPQ.out.2.2.1, ← HPQ.out.1]
            exact (BSW.out.drop p (by have := HPQ.out; clear f2 g1 g3; omega)).take (q - p) (by rw [List.length_drop]; have := HPQ.out; clear f2 g1 g3; omega))
          obtain ⟨x8, hx8⟩ : ∃ x8, Value.slice (some ⟨b, off + (j + 2), none⟩) (q - (j + 2)) (c0 - (j + 2)) = x8 := ⟨_, rfl⟩
          rw [hx8] at VX ⊢
          clear hx8 h
        all_goals
          have DS : Hid (d.length ≤ 1048576) := Lib.hid (by rw [DL.out]; have := HPQ.out; have := LM.out; clear f2 g1 g3; omega)
          clear k1 k2 k3 k4 k5
          refine unstop (wpList_app tyB rfl _ _ rfl wr.heap.size (.slice (some ⟨wr.heap.size, 0, none⟩) 0 0) 0 [] rfl (own0 wr _) x8 d.length (vBs d) rfl (VX.out.old ((Below.refl _ _).alloc (Nat.le_refl _) _)) (vBs_one d) (by have := DS.out; omega) (by have := DS.out; omega) (by simp) ?_)
          intro v9 w9 o9 g9 _
          have B9 : Hid (Below wr.heap.size wr w9) := Lib.hid (run_app_below (own0 wr _) g9 ((Below.refl _ _).alloc (Nat.le_refl _) _) (Nat.le_refl _))
          rw [Nat.zero_add, List.nil_append] at o9
          have OD := Lib.hid (World.ownsRow.mono o9 BE.out.size)
          obtain ⟨a9, c9, rfl⟩ := owns_len o9
          clear o9 g9
          go_wp2_with fail
          go_meet
          exact ⟨w9, a9, c9, rfl, rfl, OD.out, B9.out⟩
      case rest =>
        obtain ⟨w9, a9, c9, rfl, hwc, od, b9⟩ := hcut
        have OD := Lib.hid od
        have B9 := Lib.hid b9
        have I9 := Lib.hid (IJ.out.old B9.out)
        have BE9 := Lib.hid (BE.out.trans (B9.out.mono BE.out.size))
        obtain ⟨B, hB⟩ : ∃ B, w9.heap.size = B := ⟨_, rfl⟩
        have NB : Hid (wc.heap[B]? = some (.cells #[.int .i64 cn, .slice a9 d.length c9, .slice none 0 0] 47 (0, 0))) := Lib.hid (by rw [hwc, ← hB]; exact heap_alloc_new _ _)
        have N9 : Hid (Below w9.heap.size w9 wc) := Lib.hid (by rw [hwc]; exact (Below.refl _ _).alloc (Nat.le_refl _) _)
        rw [hB]
        have HB9 := Lib.hid hB
        clear k1 k2 k3 k4 k5 od b9 hwc hB
        have IY := Lib.hid (I9.out.old N9.out)
        have OY := Lib.hid (owns_below OD.out N9.out)
        have BY := Lib.hid (BE9.out.trans (N9.out.mono BE9.out.size))
        have VY : Hid (IvV w.heap.size wc (.slice none 0 0) []) := Lib.hid (IvV.nil _ _)
        by_cases q2 : c = 218
        · rw [if_pos q2] at SP
          have e2' : ((cn : Int) == 218) = true := by rw [beq_iff_eq]; have := C218.out.1 q2; omega
          obtain ⟨tgt, htg⟩ : ∃ tgt, ivF ((l.drop q).length + 1) (l.drop q) [] = tgt := ⟨_, rfl⟩
          rw [htg] at SP
          have TG := Lib.hid htg
          clear q2 htg
          go_wp2_with fail
          go_loopw [5] (fun i W => ∃ (k2 g : Nat) (ps : List BvP) (iv : Value), i = .int .i64 (k2 : Int) ∧ q ≤ k2 ∧ k2 ≤ l.length ∧ ps.length ≤ k2 ∧ W.heap[B]? = some (.cells #[.int .i64 cn, .slice a9 d.length c9, iv] 47 (0, 0)) ∧ IvV (B + 1) W iv ps ∧ ivF g (l.drop k2) (ps.map (·.1)) = tgt ∧ (l.drop k2).length < g ∧ Below w9.heap.size w9 W) (fun i _ => l.length - (intOf i).toNat)
          case atStart => exact ⟨q, _, [], .slice none 0 0, vi g3, Nat.le_refl _, HPQ.out.2.2.2.2, by simp, NB.out, IvV.nil _ _, TG.out, Nat.lt_succ_self _, N9.out⟩
          case round =>
            clear f2 g1 g3
            obtain ⟨k2, g, ps, iv, rfl, hqk, hk2, hpk2, hbx, hiv, htg, hg, hb2⟩ := hrel
            obtain ⟨g, rfl⟩ : ∃ h, g = h + 1 := ⟨g - 1, by omega⟩
            obtain ⟨ai, ci, rfl⟩ := owns_len hiv.row
            have QK := Lib.hid hqk
            have K2 := Lib.hid hk2
            have PK2 := Lib.hid hpk2
            have BX2 := Lib.hid hbx
            have IV2 := Lib.hid hiv
            have HG := Lib.hid hg
            have W2 := Lib.hid hb2
            obtain ⟨t2, ht2⟩ : ∃ t, (l.drop k2).length - (unst (l.drop k2)).2.length = t := ⟨_, rfl⟩
            have HT2 := Lib.hid ht2
            obtain ⟨s2, hs2⟩ : ∃ s, k2 + t2 = s := ⟨_, rfl⟩
            have UP := Lib.hid (unst_take_plain hk2 ht2)
            rw [hs2] at UP
            have HS2 := Lib.hid hs2
            have BSI : Hid (Bs wr (.slice (some ⟨b, off, none⟩) l.length c0) l) := Lib.hid (HB.out.old (BE9.out.trans (hb2.mono BE9.out.size)))
            have LI : Hid ((l.drop k2).length ≤ 70368744173568) := Lib.hid (by rw [List.length_drop]; have := LM.out; omega)
            have SP2 := Lib.hid (iv_step (f := g) (acc := ps.map (·.1)) UP.out.2.2)
            rw [htg] at SP2
            obtain ⟨pl, hpl⟩ : ∃ pl, (unst (l.drop k2)).1 = pl := ⟨_, rfl⟩
            rw [hpl] at SP2
            have PL : Hid (plF false ((l.drop k2).take t2) = pl) := Lib.hid (UP.out.1.trans hpl)
            clear htg hpl
            go_upto_region 27 with (fail)
            go_cut [11] from 87 to 90 (fun t wx => t = .int .i64 (t2 : Int) ∧ wr = wx)
            case first =>
              obtain ⟨z0, z1, z2, z3⟩ := boxR_of hbx
              have HK1 : k2 ≤ 1048576 := by have := LM.out; omega
              have j0 : (k2 : Int) ≤ (l.length : Int) := by omega
              have j1 : (l.length : Int) ≤ (c0 : Int) := by have := HC.out; omega
              clear hqk hpk2 hbx hiv hg hb2 ht2 hs2
              go_wp2_with fail
              case' inl h =>
                rw [show Value.slice (some ⟨b, off, none⟩) l.length k2 = Value.slice (some ⟨b, off, none⟩) l.length c0 by rw [h]]
                have VX : Hid (Bs wr (.slice (some ⟨b, off, none⟩) (l.length - k2) 0) (l.drop k2)) := Lib.hid (by
                  rw [show l.length - k2 = 0 by have := HC.out; omega, List.drop_of_length_le (by have := HC.out; omega)]; exact Bs.nil _ _ _)
                obtain ⟨x9, hx9⟩ : ∃ x9, Value.slice (some ⟨b, off, none⟩) (l.length - k2) 0 = x9 := ⟨_, rfl⟩
                rw [hx9] at VX ⊢
                clear hx9 h
              case' inr h =>
                have VX : Hid (Bs wr (.slice (some ⟨b, off + k2, none⟩) (l.length - k2) (c0 - k2)) (l.drop k2)) := Lib.hid (BSI.out.drop k2 K2.out)
                obtain ⟨x9, hx9⟩ : ∃ x9, Value.slice (some ⟨b, off + k2, none⟩) (l.length - k2) (c0 - k2) = x9 := ⟨_, rfl⟩
                rw [hx9] at VX ⊢
                clear hx9 h
              all_goals
                refine (refTaken_any x9 (l.drop k2) wr VX.out LI.out).mono ?_; rintro e w3 ⟨rfl, rfl⟩
                rw [HT2.out]
                go_wp2_with fail
                go_meet
                exact ⟨rfl, rfl⟩
            case rest =>
              obtain ⟨rfl, rfl⟩ := hcut
              have hs2 := HS2.out
              have s2l : s2 ≤ l.length := UP.out.2.1
              have VT : Hid (Bs wr (.slice (if c0 = k2 then some ⟨b, off, none⟩ else some ⟨b, off + k2, none⟩) (s2 - k2) (c0 - k2)) ((l.drop k2).take t2)) := Lib.hid (by
                by_cases hc : c0 = k2
                · rw [if_pos hc, show s2 - k2 = 0 by have := HC.out; omega, show (l.drop k2).take t2 = [] by rw [List.drop_of_length_le (by have := HC.out; omega)]; simp]
                  exact Bs.nil _ _ _
                · rw [if_neg hc, show s2 - k2 = t2 by omega]
                  exact (BSI.out.drop k2 K2.out).take t2 (by rw [List.length_drop]; omega))
              have LT : Hid (((l.drop k2).take t2).length ≤ 70368744173568) := Lib.hid (by rw [List.length_take]; have := LI.out; omega)
              have m2 : (k2 : Int) ≤ (s2 : Int) := by omega
              have m3 : (s2 : Int) ≤ (c0 : Int) := by have := HC.out; omega
              have m4 : ps.length ≤ 1048576 := by have := PK2.out; have := K2.out; have := LM.out; omega
              have m6 : k2 ≤ s2 := by omega
              have m1b : IntKind.i64.wrap ((k2 : Int) + (t2 : Int)) = (s2 : Int) := by rw [IntWalk.i64_in _ (by have := LM.out; have := HC.out; omega)]; omega
              have m5 : B + 1 ≤ wr.heap.size := (Array.getElem?_eq_some_iff.1 BX2.out).1
              have KEEP : Hid (∀ W, Below wr.heap.size wr W → W.cell? ⟨B, 2, none⟩ = some (.slice ai ps.length ci) ∧ W.frozen? ⟨B, 2, none⟩ = false) := Lib.hid (fun W hW => let r := boxR_of (heap_low BX2.out hW); ⟨r.2.2.1, r.2.2.2⟩)
              have KEEP2 : Hid (∀ (W : World) (O : Obj) (W' : World), Below wr.heap.size wr W → W.ownsRow (B + 1) 22 1 (.slice ai ps.length ci) ps.length (valsP ps) → (W.alloc O).grownBy W' (Value.slice ai ps.length ci).ownBlock → W'.heap[B]? = some (.cells #[.int .i64 cn, .slice a9 d.length c9, .slice ai ps.length ci] 47 (0, 0)) ∧ W'.cell? ⟨B, 2, none⟩ = some (.slice ai ps.length ci) ∧ W'.frozen? ⟨B, 2, none⟩ = false) := Lib.hid (fun W O W' hW ho hg => by
                have h1 := heap_low BX2.out hW
                have h2 : (W.alloc O).heap[B]? = _ := heap_low h1 ((Below.refl _ _).alloc (Nat.le_refl _) O)
                have h3 := hg.block B (Array.getElem?_eq_some_iff.1 h2).1 (fun e => by have := (ho.lt B e.symm).1; omega)
                rw [h2] at h3
                have r := boxR_of h3
                exact ⟨h3, r.2.2.1, r.2.2.2⟩)
              obtain ⟨z0, z1, z2, z3⟩ := boxR_of hbx
              clear hs2 hk2 s2l hqk hpk2 hbx hiv hg hb2 ht2
              go_upto_region 28 with (fail)
              go_cut [] from 91 to 102 (fun wx => ∃ (a5 : Option Addr) (c5 : Nat) (x : Value), wx.heap[B]? = some (.cells #[.int .i64 cn, .slice a9 d.length c9, .slice a5 (ps.length + 1) c5] 47 (0, 0)) ∧ IvV (B + 1) wx (.slice a5 (ps.length + 1) c5) (ps ++ [(pl, x)]) ∧ Below w9.heap.size w9 wx)
              case first =>
                go_region_law ((first | (refine step_app tyS rfl _ _ rfl (B + 1) _ ps.length (valsP ps) rfl (owns_below (by assumption) ((Below.refl _ _).alloc (Nat.le_refl _) _)) _ 1 _ rfl (sl_heap (heap_alloc_new _ _) rfl (Nat.le_refl _)) (by intro u hu; simp at hu; subst hu; rfl) (by omega) (by omega) (Nat.le_trans (by assumption) (by simp)) ?_; intro v5 w5 hown5 hg5; obtain ⟨y0, y1, y2⟩ := KEEP2.out _ _ _ (by assumption) (by assumption) hg5; obtain ⟨a5, c5, hv5⟩ := owns_len hown5; subst hv5) | (go_simp; go_at_call 36; refine (plain_any _ ((l.drop k2).take t2) _ (VT.out.old (Below.refl wr.heap.size wr).drew) LT.out).mono ?_; rintro e w4 ⟨v4, rfl, ho4, hb4⟩; have hb4' : Below wr.heap.size wr w4 := (Below.refl wr.heap.size wr).drew.trans (hb4.mono (Nat.le_refl _)); obtain ⟨z0, z1⟩ := KEEP.out _ hb4'; have z5 : ∀ O, (w4.alloc O).cell? ⟨B, 2, none⟩ = some (.slice ai ps.length ci) := fun O => (KEEP.out _ (hb4'.alloc hb4'.size O)).1; have hw4 : B + 1 ≤ w4.heap.size := Nat.le_trans m5 hb4'.size; have hr4 := owns_below IV2.out.row hb4'; obtain ⟨a4, c4, hv4⟩ := owns_len ho4; subst hv4)))
                all_goals
                  have H5 := Lib.hid hown5
                  have G5 := Lib.hid hg5
                  have Y0 := Lib.hid y0
                  have O4 : Hid (w4.ownsRow (B + 1) 5 1 (.slice a4 (plF false ((l.drop k2).take t2)).length c4) (plF false ((l.drop k2).take t2)).length (vBs (plF false ((l.drop k2).take t2)))) := Lib.hid (World.ownsRow.mono ho4 m5)
                  have B4 := Lib.hid hb4'
                  have I4 := Lib.hid (IV2.out.old hb4')
                  clear hown5 hg5 y0 y1 y2 ho4 hb4 hb4' z0 z1 z5 hw4 hr4
                  obtain ⟨x7, hx7⟩ : ∃ x, Value.slice (if c0 = k2 then some ⟨b, off, none⟩ else some ⟨b, off + k2, none⟩) (s2 - k2) (c0 - k2) = x := ⟨_, rfl⟩
                  rw [hx7]
                  clear hx7
                  go_wp2_with fail
                  go_meet
                  have AL := (Below.refl w4.heap.size w4).alloc (Nat.le_refl _) (.cells #[.slice a4 (plF false ((l.drop k2).take t2)).length c4] 22)
                  refine ⟨a5, c5, .slice a4 (plF false ((l.drop k2).take t2)).length c4, ?_, ?_, ?_⟩
                  · simp [World.setCell, Array.getElem?_modify, Y0.out]
                  · rw [← PL.out]
                    exact (IvV.snoc (p := (plF false ((l.drop k2).take t2), .slice a4 (plF false ((l.drop k2).take t2)).length c4)) (I4.out.old AL) (owns_below O4.out AL) G5.out H5.out).low (grown_set (Below.refl _ _) _ _ _) (Nat.lt_succ_self B)
                  · have h1 := W2.out.trans (B4.out.mono W2.out.size)
                    have h2 := h1.alloc h1.size (.cells #[.slice a4 (plF false ((l.drop k2).take t2)).length c4] 22)
                    have h3 := h2.grown G5.out h2.size (fun k hk => by have := ((I4.out.row.alloc (.cells #[.slice a4 (plF false ((l.drop k2).take t2)).length c4] 22)).lt k hk).1; have := HB9.out; omega)
                    exact h3.setCell (p := ⟨B, 2, none⟩) (by rw [HB9.out]; exact Nat.le_refl _) _
              case rest =>
                obtain ⟨a5, c5, x5, hbx5, hiv5, hb5⟩ := hcut
                have B5 : Hid (wc.heap[B]? = some (.cells #[.int .i64 cn, .slice a9 d.length c9, .slice a5 (ps.length + 1) c5] 47 (0, 0))) := Lib.hid hbx5
                have I5 := Lib.hid hiv5
                have W5 := Lib.hid hb5
                have m1 : wrap64 ((k2 : Int) + (t2 : Int)) = (s2 : Int) := by rw [IntWalk.wrap64_in _ (by clear m1b; have := LM.out; have := HS2.out; have := UP.out.2.1; omega)]; clear m1b; have := HS2.out; omega
                have BS5 : Hid (Bs wc (.slice (some ⟨b, off, none⟩) l.length c0) l) := Lib.hid (HB.out.old (BE9.out.trans (hb5.mono BE9.out.size)))
                clear hbx5 hiv5 hb5 m1b m2 m3 m4 m5 m6 z0 z1 z2 z3
                go_wp2_with fail
                refine (refMark_any _ l s2 wc BS5.out (by have := LM.out; omega) UP.out.2.1).mono ?_
                rintro e w6 ⟨rfl, rfl⟩
                rcases hmm : markM (l.drop s2) with n1 | ⟨ch, r4⟩
                · rw [hmm] at SP2
                  replace SP : Hid (parseS l = ([], n1)) := Lib.hid (by rw [SP.out, SP2.out])
                  have N0 : Hid ((n1 : Int) ≠ 0) := Lib.hid (markM_err hmm)
                  have n0 : ((n1 : Int) == 0) = false := by rw [beq_eq_false_iff_ne]; exact N0.out
                  have n0' : ¬ n1 = 0 := by have := N0.out; omega
                  have BF := Lib.hid (BE9.out.trans (W5.out.mono BE9.out.size))
                  clear hmm m1
                  rw [markR_inl]
                  go_wp2_with fail
                  go_ret2
                  exact rparse_end SP.out rfl BF.out
                · rw [hmm] at SP2
                  replace SP2 : Hid (tgt = (if ch.toNat < 208 ∨ 216 ≤ ch.toNat then .inr (ps.map (·.1) ++ [pl], l.drop s2) else if ch.toNat ≠ 208 + (ps.map (·.1)).length % 8 then .inl 2 else ivF g r4 (ps.map (·.1) ++ [pl]))) := Lib.hid SP2.out
                  have MP := markM_place UP.out.2.1 hmm
                  rw [markR_inr]
                  obtain ⟨j4, hj4⟩ : ∃ j4, l.length - r4.length = j4 := ⟨_, rfl⟩
                  rw [hj4] at MP ⊢
                  have RJ4 := Lib.hid MP.1
                  have JL4 : Hid (s2 + 2 ≤ j4 ∧ j4 ≤ l.length) := Lib.hid (by have := MP.2; omega)
                  obtain ⟨hn, hhn⟩ : ∃ hn, ch.toNat = hn := ⟨_, rfl⟩
                  rw [hhn] at SP2 ⊢
                  have M1 := Lib.hid m1
                  clear hmm MP hj4 hhn m1
                  obtain ⟨z0, z1, z2, z3⟩ := boxR_of B5.out
                  by_cases q5 : hn < 208 ∨ 216 ≤ hn
                  · rw [if_pos q5] at SP2
                    replace SP : Hid (parseS l = segF f (l.drop s2) (xs.map ItP.it ++ [((cn : Int), d, ps.map (·.1) ++ [pl])])) := Lib.hid (by rw [SP.out, SP2.out])
                    have IY2 := Lib.hid (I9.out.old W5.out)
                    have OY2 := Lib.hid (owns_below OD.out W5.out)
                    have BY2 := Lib.hid (BE9.out.trans (W5.out.mono BE9.out.size))
                    have VY2 : Hid (IvV w.heap.size wc (.slice a5 (ps.length + 1) c5) (ps ++ [(pl, x5)])) := Lib.hid (I5.out.mono (by rw [← HB9.out]; have := BE9.out.size; omega))
                    rcases (by omega : hn < 208 ∨ (¬ hn < 208 ∧ 216 ≤ hn)) with q6 | ⟨q6, q7⟩
                    case' inl =>
                      have e3 : decide ((hn : Int) < 208) = true := by rw [decide_eq_true_eq]; omega
                      have e5 : decide (hn < 208) = true := by rw [decide_eq_true_eq]; omega
                      clear q5 q6
                    case' inr =>
                      have e3 : decide ((hn : Int) < 208) = false := by rw [decide_eq_false_iff_not]; omega
                      have e5 : decide (hn < 208) = false := by rw [decide_eq_false_iff_not]; omega
                      have e6 : decide ((215 : Int) < (hn : Int)) = true := by rw [decide_eq_true_eq]; omega
                      have e7 : decide (215 < hn) = true := by rw [decide_eq_true_eq]; omega
                      clear q5 q6 q7
                    all_goals
                      go_wp2_with (at_builtin; refine stop ?_)
                      have WB2 : Below wc.heap.size wc (wc.alloc (.cells #[.int .i64 cn, .slice a9 d.length c9, .slice a5 (ps.length + 1) c5] 47)) := (Below.refl _ _).alloc (Nat.le_refl _) _
                      have IZ := IY2.out.old WB2
                      have DZ := owns_below OY2.out WB2
                      have VZ := VY2.out.old WB2
                      refine unstop (wpList_app tyR rfl _ _ rfl w.heap.size (.slice u0 xs.length uc) xs.length (cellsI xs) rfl IZ.row (.slice (some ⟨wc.heap.size, 0, none⟩) 1 1) 1 [.int .i64 cn, .slice a9 d.length c9, .slice a5 (ps.length + 1) c5] rfl (sl_lit3 wc [.int .i64 cn, .slice a9 d.length c9, .slice a5 (ps.length + 1) c5] 47 1 rfl (by omega)) (by intro u hu; simp at hu; rcases hu with rfl | rfl | rfl <;> rfl) (by have := PK.out; have := KL.out; have := LM.out; omega) (by have := PK.out; have := KL.out; have := LM.out; omega) (by have := BY2.out.size; simp; omega) ?_)
                      intro v8 w8 o8 g8 _
                      have I8 := Lib.hid (ItV.snoc (x := ⟨cn, (d, .slice a9 d.length c9), .slice a5 (ps.length + 1) c5, ps ++ [(pl, x5)]⟩) IZ DZ VZ g8 o8 (by decide) (by decide))
                      have B8 : Hid (Below w.heap.size w w8) := Lib.hid (run_app_below IZ.row g8 (BY2.out.trans (WB2.mono BY2.out.size)) (Nat.le_refl _))
                      obtain ⟨a8, c8, rfl⟩ := owns_len o8
                      clear IZ DZ VZ WB2 o8 g8
                      go_wp2_with fail
                      go_roundw
                      case rel => exact ⟨s2, f, xs ++ [⟨cn, (d, .slice a9 d.length c9), .slice a5 (ps.length + 1) c5, ps ++ [(pl, x5)]⟩], vi M1.out, by have h1 := UP.out.2.1; omega, by have h1 := HPQ.out; have h2 := JL.out; have h3 := Q1.out; have h4 := PK.out; have h5 := FJ.out; have h6 := HS2.out; have h7 := QK.out; have h8 := UP.out.2.1; simp; omega, I8.out, by rw [SP.out, List.map_append]; simp [ItP.it], by have h1 := HPQ.out; have h2 := JL.out; have h3 := Q1.out; have h4 := PK.out; have h5 := FJ.out; have h6 := HS2.out; have h7 := QK.out; have h8 := UP.out.2.1; rw [List.length_drop] at *; omega, B8.out⟩
                      case measure => rw [M1.out]; have h1 := HPQ.out; have h2 := JL.out; have h3 := Q1.out; have h4 := PK.out; have h5 := FJ.out; have h6 := HS2.out; have h7 := QK.out; have h8 := UP.out.2.1; simp [intOf]; omega
                  · rw [if_neg q5] at SP2
                    have e3 : decide ((hn : Int) < 208) = false := by rw [decide_eq_false_iff_not]; omega
                    have e5 : decide (hn < 208) = false := by rw [decide_eq_false_iff_not]; omega
                    have e6 : decide ((215 : Int) < (hn : Int)) = false := by rw [decide_eq_false_iff_not]; omega
                    have e7 : decide (215 < hn) = false := by rw [decide_eq_false_iff_not]; omega
                    have e8 := rst_two hn ps.length (by omega) (by have := PK2.out; have := K2.out; have := LM.out; omega)
                    have E8 := Lib.hid e8
                    rw [List.length_map] at SP2
                    clear q5 e8
                    by_cases q6 : hn = 208 + ps.length % 8
                    · rw [if_neg (fun h => h q6)] at SP2
                      have e9 : (wrap64 ((hn : Int) - 208) != (wrap64 (ps.length : Int)).tmod 8) = false := by rw [E8.out, decide_eq_true q6]; rfl
                      clear q6
                      go_wp2_with fail
                      go_roundw
                      case rel => exact ⟨j4, g, ps ++ [(pl, x5)], .slice a5 (ps.length + 1) c5, rfl, by have := QK.out; have := HS2.out; have := JL4.out; omega, JL4.out.2, by have := PK2.out; have := HS2.out; have := JL4.out; simp; omega, B5.out, I5.out, by rw [SP2.out, RJ4.out]; simp, by have h1 := HG.out; have := HS2.out; have := JL4.out; rw [List.length_drop] at *; omega, W5.out⟩
                      case measure => have := HS2.out; have := JL4.out; simp [intOf]; omega
                    · rw [if_pos q6] at SP2
                      replace SP : Hid (parseS l = ([], 2)) := Lib.hid (by rw [SP.out, SP2.out])
                      have e9 : (wrap64 ((hn : Int) - 208) != (wrap64 (ps.length : Int)).tmod 8) = true := by rw [E8.out, decide_eq_false q6]; rfl
                      have BF := Lib.hid (BE9.out.trans (W5.out.mono BE9.out.size))
                      clear q6
                      go_wp2_with fail
                      go_ret2
                      exact rparse_end SP.out rfl BF.out
        · rw [if_neg q2] at SP
          have e2' : ((cn : Int) == 218) = false := by rw [beq_eq_false_iff_ne]; intro e; exact q2 (C218.out.2 (by omega))
          clear q2
          obtain ⟨z0, z1, z2, z3⟩ := boxR_of NB.out
          go_wp2_with fail
          go_loopw [5] (fun i W => i = .int .i64 (q : Int) ∧ W = wc) (fun _ _ => 0)
          case atStart => exact ⟨vi g3, rfl⟩
          case round =>
            obtain ⟨rfl, hrel⟩ := hrel
            subst hrel
            go_wp2_with (at_builtin; refine stop ?_)
            have WB2 : Below wr.heap.size wr (wr.alloc (.cells #[.int .i64 cn, .slice a9 d.length c9, .slice none 0 0] 47)) := (Below.refl _ _).alloc (Nat.le_refl _) _
            have IZ := IY.out.old WB2
            have DZ := owns_below OY.out WB2
            have VZ := VY.out.old WB2
            refine unstop (wpList_app tyR rfl _ _ rfl w.heap.size (.slice u0 xs.length uc) xs.length (cellsI xs) rfl IZ.row (.slice (some ⟨wr.heap.size, 0, none⟩) 1 1) 1 [.int .i64 cn, .slice a9 d.length c9, .slice none 0 0] rfl (sl_lit3 wr [.int .i64 cn, .slice a9 d.length c9, .slice none 0 0] 47 1 rfl (by omega)) (by intro u hu; simp at hu; rcases hu with rfl | rfl | rfl <;> rfl) (by have := PK.out; have := KL.out; have := LM.out; omega) (by have := PK.out; have := KL.out; have := LM.out; omega) (by have := BY.out.size; simp; omega) ?_)
            intro v8 w8 o8 g8 _
            have I8 := Lib.hid (ItV.snoc (x := ⟨cn, (d, .slice a9 d.length c9), .slice none 0 0, []⟩) IZ DZ VZ g8 o8 (by decide) (by decide))
            have B8 : Hid (Below w.heap.size w w8) := Lib.hid (run_app_below IZ.row g8 (BY.out.trans (WB2.mono BY.out.size)) (Nat.le_refl _))
            obtain ⟨a8, c8, rfl⟩ := owns_len o8
            clear IZ DZ VZ WB2 o8 g8
            go_wp2_with fail
            go_roundw
            case rel => exact ⟨q, f, xs ++ [⟨cn, (d, .slice a9 d.length c9), .slice none 0 0, []⟩], rfl, by have h1 := HPQ.out; have h2 := JL.out; have h3 := Q1.out; have h4 := PK.out; clear f2 g1 g3; omega, by have h1 := HPQ.out; have h2 := JL.out; have h3 := Q1.out; have h4 := PK.out; clear f2 g1 g3; simp; omega, I8.out, by rw [SP.out, List.map_append]; simp [ItP.it], by have h1 := HPQ.out; have h2 := JL.out; have h3 := Q1.out; have h4 := PK.out; have h5 := FJ.out; clear f2 g1 g3; rw [List.length_drop] at *; omega, B8.out⟩
            case measure => have h6 := HPQ.out; have h7 := JL.out; clear f2 g1 g3; simp [intOf]; omega
end Go.Proofs.Ytlljooncoingnaa
