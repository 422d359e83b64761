/- Turns behind turns, on pictures: plain. By an AI agent. Good pictures of whole units, turned, are good: plain. By an AI agent. Good pictures, turned, are good: plain. By an AI agent. -/
import Derived.Test.YtnhalnjdlkdnkaaZ30
import Derived.Test.YtnhalnjdlkdnkaaZ21
namespace Go.Proofs.Ytnhalnjdlkdnkaa
set_option linter.unusedVariables false
set_option linter.unusedSimpArgs false
set_option maxRecDepth 20000

structure Nice (P : PicL) : Prop where
  fit : Fit P
  b : ∀ p ∈ P.parts, All64 p.bs
  q0 : P.q0.length = 64 ∨ P.q0.length = 0
  q1 : P.q1.length = 64 ∨ P.q1.length = 0
  q2 : P.q2.length = 64 ∨ P.q2.length = 0
  q3 : P.q3.length = 64 ∨ P.q3.length = 0
theorem Nice.sides {P : PicL} (N : Nice P) : ∀ p ∈ P.parts, p.bs.length = p.wide.toNat * p.high.toNat ∧ 0 ≤ p.wide ∧ 0 ≤ p.high := fun p hp => by
  obtain ⟨k, hk, rfl⟩ := List.getElem_of_mem hp
  obtain ⟨h1, h2, h3, _⟩ := N.fit.pt k hk
  have hs := szL_in P (k : Int)
  have e : (P.parts[k].bs.length : Int) = P.parts[k].wide * P.parts[k].high := by rw [h3, h1, h2]
  refine ⟨?_, by omega, by omega⟩
  have h4 : ((P.parts[k].wide.toNat * P.parts[k].high.toNat : Nat) : Int) = P.parts[k].wide * P.parts[k].high := by
    rw [Int.natCast_mul, Int.toNat_of_nonneg (by omega), Int.toNat_of_nonneg (by omega)]
  omega
theorem permT_all {n t : Nat} {s : Nat → Nat} {bs : List (List Int)} (hs : ∀ j, j < n → s j < bs.length) (ha : All64 bs) : All64 (permT n t s bs) := fun b hb => by
  unfold permT at hb
  rw [List.mem_map] at hb
  obtain ⟨j, hj, rfl⟩ := hb
  have hl := hs j (List.mem_range.1 hj)
  rw [List.getD_eq_getElem?_getD, List.getElem?_eq_getElem hl]
  exact blk_turned _ (ha _ (List.getElem_mem hl))
theorem cross_cross64 (l : List Int) (h : l.length = 64) : crossL (crossL l) = l := by
  apply List.ext_getElem (by rw [crossL_len, h])
  intro k h1 h2
  have hk : k < 64 := by omega
  have e1 : k % 8 * 8 + k / 8 < 64 := by omega
  have e2 : (k % 8 * 8 + k / 8) % 8 * 8 + (k % 8 * 8 + k / 8) / 8 = k := by omega
  simp only [crossL, List.getElem_map, List.getElem_range, List.getD_eq_getElem?_getD, List.getElem?_map, List.getElem?_range e1, Option.map_some, Option.getD_some]
  rw [e2, List.getElem?_eq_getElem h2]
  rfl
theorem crossQ_two {l : List Int} (h : l.length = 64 ∨ l.length = 0) : crossQ (crossQ l) = l := by
  rcases h with h | h
  · have e : crossQ l = crossL l := by unfold crossQ; rw [if_pos h]
    rw [e]
    unfold crossQ
    rw [if_pos (crossL_len l)]
    exact cross_cross64 l h
  · have e : l = [] := List.length_eq_zero_iff.1 h
    subst e
    rfl
theorem crossQ_ok (l : List Int) : (crossQ l).length = 64 ∨ (crossQ l).length = 0 := by
  unfold crossQ
  split
  · exact .inl (crossL_len l)
  · exact .inr rfl
theorem nice_cross {P : PicL} (N : Nice P) : Nice (crossP P) := by
  refine ⟨fit_cross N.fit, fun p hp => ?_, crossQ_ok _, crossQ_ok _, crossQ_ok _, crossQ_ok _⟩
  unfold crossP at hp
  simp only [List.mem_map] at hp
  obtain ⟨q, hq, rfl⟩ := hp
  show All64 (crB _ _ q.bs)
  rw [crB_perm]
  have hs := (N.sides q hq).1
  exact permT_all (fun j hj => by rw [hs] at hj ⊢; exact cr_lt hj) (N.b q hq)
theorem nice_flip {P : PicL} (N : Nice P) : Nice (flipP P) := by
  refine ⟨fit_flip N.fit, fun p hp => ?_, N.q0, N.q1, N.q2, N.q3⟩
  unfold flipP at hp
  simp only [List.mem_map] at hp
  obtain ⟨q, hq, rfl⟩ := hp
  show All64 (flB _ q.bs)
  rw [flB_perm]
  have hs := (N.sides q hq).1
  exact permT_all (fun j hj => by rw [hs] at hj ⊢; exact fl_lt hj) (N.b q hq)
theorem nice_flop {P : PicL} (N : Nice P) : Nice (flopP P) := by
  refine ⟨fit_flop N.fit, fun p hp => ?_, N.q0, N.q1, N.q2, N.q3⟩
  unfold flopP at hp
  simp only [List.mem_map] at hp
  obtain ⟨q, hq, rfl⟩ := hp
  show All64 (opB _ _ q.bs)
  rw [opB_perm]
  have hs := (N.sides q hq).1
  exact permT_all (fun j hj => by rw [hs] at hj ⊢; exact op_lt hj) (N.b q hq)
theorem parts_id {P : PicL} {f : PartL → PartL} (h : ∀ p ∈ P.parts, f p = p) : P.parts.map f = P.parts := by
  conv => rhs; rw [← List.map_id P.parts]
  exact List.map_congr_left h
theorem flip_two {P : PicL} (N : Nice P) : flipP (flipP P) = P := by
  unfold flipP
  simp only [List.map_map]
  rw [parts_id (fun p hp => ?_)]
  show ({ p with bs := flB p.wide.toNat (flB p.wide.toNat p.bs) } : PartL) = p
  rw [two_flip (N.sides p hp).1 (N.b p hp)]
theorem flop_two {P : PicL} (N : Nice P) : flopP (flopP P) = P := by
  unfold flopP
  simp only [List.map_map]
  rw [parts_id (fun p hp => ?_)]
  show ({ p with bs := opB p.wide.toNat p.high.toNat (opB p.wide.toNat p.high.toNat p.bs) } : PartL) = p
  rw [two_flop (N.sides p hp).1 (N.b p hp)]
theorem flipflop {P : PicL} (N : Nice P) : flipP (flopP P) = flopP (flipP P) := by
  unfold flipP flopP
  simp only [List.map_map]
  congr 1
  refine List.map_congr_left fun p hp => ?_
  show ({ p with bs := flB p.wide.toNat (opB p.wide.toNat p.high.toNat p.bs) } : PartL) = { p with bs := opB p.wide.toNat p.high.toNat (flB p.wide.toNat p.bs) }
  rw [flip_flop (N.sides p hp).1 (N.b p hp)]
theorem cross_two {P : PicL} (N : Nice P) : crossP (crossP P) = P := by
  unfold crossP
  simp only [List.map_map]
  rw [parts_id (fun p hp => ?_), crossQ_two N.q0, crossQ_two N.q1, crossQ_two N.q2, crossQ_two N.q3]
  show ({ p with bs := crB p.high.toNat p.wide.toNat (crB p.wide.toNat p.high.toNat p.bs) } : PartL) = p
  rw [two_cross (N.sides p hp).1 (N.b p hp)]
theorem crossflip {P : PicL} (N : Nice P) : crossP (flipP P) = flopP (crossP P) := by
  unfold crossP flipP flopP
  simp only [List.map_map]
  congr 1
  refine List.map_congr_left fun p hp => ?_
  show ({ p with h := p.v, v := p.h, wide := p.high, high := p.wide, bs := crB p.wide.toNat p.high.toNat (flB p.wide.toNat p.bs) } : PartL) = { p with h := p.v, v := p.h, wide := p.high, high := p.wide, bs := opB p.high.toNat p.wide.toNat (crB p.wide.toNat p.high.toNat p.bs) }
  rw [cross_flip (N.sides p hp).1 (N.b p hp)]
theorem crossflop {P : PicL} (N : Nice P) : crossP (flopP P) = flipP (crossP P) := by
  unfold crossP flipP flopP
  simp only [List.map_map]
  congr 1
  refine List.map_congr_left fun p hp => ?_
  show ({ p with h := p.v, v := p.h, wide := p.high, high := p.wide, bs := crB p.wide.toNat p.high.toNat (opB p.wide.toNat p.high.toNat p.bs) } : PartL) = { p with h := p.v, v := p.h, wide := p.high, high := p.wide, bs := flB p.high.toNat (crB p.wide.toNat p.high.toNat p.bs) }
  rw [cross_flop (N.sides p hp).1 (N.b p hp)]
def t3 (c f o : Bool) (P : PicL) : PicL := tO o (tF f (tC c P))
theorem nice_t3 {P : PicL} (N : Nice P) (c f o : Bool) : Nice (t3 c f o P) := by
  have h1 : Nice (tC c P) := by
    unfold tC
    split
    · exact nice_cross N
    · exact N
  have h2 : Nice (tF f (tC c P)) := by
    unfold tF
    split
    · exact nice_flip h1
    · exact h1
  unfold t3 tO
  split
  · exact nice_flop h2
  · exact h2
/-- a turn behind a turn -/
theorem t3_two {P : PicL} (N : Nice P) (c f o c' f' o' : Bool) : t3 c' f' o' (t3 c f o P) = t3 (c != c') ((if c' = true then o else f) != f') ((if c' = true then f else o) != o') P := by
  have NC := nice_cross N
  have n1 := flip_two N
  have n2 := flop_two N
  have n3 := flipflop N
  have n4 := cross_two N
  have n5 := crossflip N
  have n6 := crossflop N
  have c1 := flip_two NC
  have c2 := flop_two NC
  have c3 := flipflop NC
  have c5 := crossflip NC
  have c6 := crossflop NC
  have k1 := flip_two (nice_flop N)
  have k2 := flop_two (nice_flip N)
  have k3 := flipflop (nice_flip N)
  have k4 := flipflop (nice_flop N)
  have k5 := crossflop (nice_flip N)
  have k6 := flop_two (nice_flop N)
  have d1 := flip_two (nice_flop NC)
  have d2 := flop_two (nice_flip NC)
  have d3 := flipflop (nice_flip NC)
  have d5 := crossflop (nice_flip NC)
  cases c <;> cases f <;> cases o <;> cases c' <;> cases f' <;> cases o' <;> simp [t3, tC, tF, tO] <;> simp [n1, n2, n3, n4, n5, n6, c1, c2, c3, c5, c6, k1, k2, k3, k4, k5, k6, d1, d2, d3, d5] 
end Go.Proofs.Ytnhalnjdlkdnkaa

namespace Go.Proofs.Ytnhalnjdlkdnkaa
open Go.RowKit
set_option linter.unusedVariables false
set_option linter.unusedSimpArgs false
set_option maxRecDepth 20000

/-- sides of whole units -/
structure Full (P : PicL) : Prop where
  w : P.w % (8 * maxH P.parts) = 0
  h : P.h % (8 * maxV P.parts) = 0
theorem full_side {w H p : Int} (hH : 1 ≤ H) (hw : w % (8 * H) = 0) : upI (upI (w * p) H) 8 = p * upI w (8 * H) := by
  have h1 := Int.mul_ediv_add_emod w (8 * H)
  rw [hw, Int.add_zero] at h1
  obtain ⟨m, hm⟩ : ∃ m, w / (8 * H) = m := ⟨_, rfl⟩
  rw [hm] at h1
  subst h1
  rw [Int.mul_comm (8 * H) m, upI_mul m (8 * H) (by omega)]
  have e : m * (8 * H) * p = m * p * 8 * H := by ac_rfl
  rw [e, upI_mul _ H (by omega), upI_mul _ 8 (by omega), Int.mul_comm]
theorem full_own {P : PicL} (F : Fit P) (U : Full P) (k : Nat) (hk : k < P.parts.length) : ownL P (k : Int) = sizeL P (k : Int) := by
  obtain ⟨u1, u2⟩ := max_of F.fac F.n.1
  rw [own_of F.w F.h F.fac k hk, size_of F.w F.h F.fac k hk, full_side u1.1 U.w, full_side u2.1 U.h]
theorem sh_whole {sw sh : Int} {bs : List (List Int)} (h : (bs.length : Int) = sw * sh) (hw : 0 ≤ sw) (hh : 0 ≤ sh) (n : Nat) : shTo sw sw sh bs n = bs := by
  unfold shTo
  apply List.ext_getElem (by simp)
  intro i h1 h2
  rw [List.getElem_mapIdx]
  split
  · unfold shB
    have hi : (i : Int) < sw * sh := by omega
    have hw1 : 0 < sw := by
      rcases Int.lt_or_eq_of_le hw with h0 | h0
      · exact h0
      · rw [← h0, Int.zero_mul] at hi; omega
    have e1 := Int.emod_lt_of_pos (i : Int) hw1
    have e2 : (i : Int) / sw < sh := Int.ediv_lt_of_lt_mul hw1 (by rw [Int.mul_comm]; exact hi)
    rw [if_neg (by omega)]
  · rfl
theorem shown_full {P : PicL} (F : Fit P) (U : Full P) (k : Nat) (hk : k < P.parts.length) : shownL P (k : Int) = P.parts[k].bs := by
  obtain ⟨h1, h2, h3, h4⟩ := F.pt k hk
  have hs := szL_in P (k : Int)
  obtain ⟨u1, u2⟩ := max_of F.fac F.n.1
  have FA := fac_at F.fac k hk
  have v1 := upI_pos F.w.1 (show 0 < 8 * maxH P.parts by omega)
  have e1 : 1 * 1 ≤ (P.parts[k]).h * upI P.w (8 * maxH P.parts) := Int.mul_le_mul FA.1.1 v1 (by omega) (by omega)
  have hne : (sizeL P (k : Int)).1 ≠ 0 := by rw [size_of F.w F.h F.fac k hk]; show P.parts[k].h * _ ≠ 0; omega
  have hf : fullB P (k : Int) = true := by
    unfold fullB
    rw [partAt_nat hk]
    simp only [Bool.and_eq_true, decide_eq_true_eq, Bool.not_eq_true', decide_eq_false_iff_not]
    exact ⟨hne, h3⟩
  unfold shownL
  rw [if_pos hf, full_own F U k hk, partAt_nat hk]
  exact sh_whole h3 hs.1.1 hs.2.1 _
theorem sg2_zero (f o : Bool) (x : Int) : sg2 f o 0 0 x = x := by cases f <;> cases o <;> simp [sg2]
theorem sg2_range (f o : Bool) (a b : Nat) (x : Int) (h : -1023 ≤ x ∧ x ≤ 1023) : -1023 ≤ sg2 f o a b x ∧ sg2 f o a b x ≤ 1023 := by
  have e : ∀ z : Int, -1023 ≤ z ∧ z ≤ 1023 → -1023 ≤ wrap64 (-z) ∧ wrap64 (-z) ≤ 1023 := fun z hz => by unfold wrap64; omega
  unfold sg2
  repeat' split
  all_goals first | exact h | exact e _ h | exact e _ (e _ h)
theorem blk_iff {b : List Int} (hl : b.length = 64) : blkB b = true ↔ (∀ k, 0 < k → k < 64 → -1023 ≤ b.getD k 0 ∧ b.getD k 0 ≤ 1023) ∧ -1024 ≤ b.getD 0 0 ∧ b.getD 0 0 ≤ 1023 := by
  unfold blkB dcB
  simp only [Bool.and_eq_true, decide_eq_true_eq, List.all_eq_true, acB]
  constructor
  · rintro ⟨h1, h2⟩
    refine ⟨fun k h0 hk => ?_, h2⟩
    have hm : b.getD k 0 ∈ b.drop 1 := by
      rw [List.getD_eq_getElem?_getD, List.getElem?_eq_getElem (by omega)]
      have e : (b.drop 1)[k - 1]'(by rw [List.length_drop]; omega) = b[k] := by
        rw [List.getElem_drop]
        congr 1
        omega
      rw [Option.getD_some, ← e]
      exact List.getElem_mem _
    exact h1 _ hm
  · rintro ⟨h1, h2⟩
    refine ⟨fun x hx => ?_, h2⟩
    obtain ⟨i, hi, rfl⟩ := List.getElem_of_mem hx
    rw [List.length_drop] at hi
    have h3 := h1 (i + 1) (by omega) (by omega)
    rw [List.getD_eq_getElem?_getD, List.getElem?_eq_getElem (by omega)] at h3
    rw [List.getElem_drop]
    simpa [Nat.add_comm] using h3
theorem blk_turn {t : Int} {b : List Int} (hl : b.length = 64) (h : blkB b = true) : blkB (blockL t b) = true := by
  rw [blk_iff hl] at h
  rw [blk_iff (blockL_len t b)]
  obtain ⟨h1, h2⟩ := h
  refine ⟨fun k h0 hk => ?_, ?_⟩
  · have e := blockL_at t b (k % 8) (k / 8) (by omega) (by omega)
    rw [show 8 * (k / 8) + k % 8 = k by omega] at e
    rw [e]
    refine sg2_range _ _ _ _ _ ?_
    split
    · exact h1 _ (by omega) (by omega)
    · exact h1 _ h0 hk
  · have e := blockL_at t b 0 0 (by omega) (by omega)
    simp only [Nat.mul_zero, Nat.add_zero, Nat.zero_mod, ite_self] at e
    rw [e, sg2_zero]
    exact h2
theorem permT_good {n t : Nat} {s : Nat → Nat} {bs : List (List Int)} (hs : ∀ j, j < n → s j < bs.length) (ha : All64 bs) (h : bs.all blkB = true) : (permT n t s bs).all blkB = true := by
  rw [List.all_eq_true]
  intro b hb
  unfold permT at hb
  rw [List.mem_map] at hb
  obtain ⟨j, hj, rfl⟩ := hb
  have hl := hs j (List.mem_range.1 hj)
  rw [List.getD_eq_getElem?_getD, List.getElem?_eq_getElem hl]
  exact blk_turn (ha _ (List.getElem_mem hl)).1 (List.all_eq_true.1 h _ (List.getElem_mem hl))
theorem good_like {P Q : PicL} (G : GoodS P) (FQ : Fit Q) (UQ : Full Q) (hpx : Q.w * Q.h = P.w * P.h) (hr : Q.restart = P.restart) (hs : ∀ k : Nat, k < P.parts.length → (sizeL Q (k : Int)).1 * (sizeL Q (k : Int)).2 = (sizeL P (k : Int)).1 * (sizeL P (k : Int)).2)
    (hid : Q.parts.map (fun p => (p.id, p.tq)) = P.parts.map (fun p => (p.id, p.tq))) (hb : ∀ p ∈ Q.parts, p.bs.all blkB = true) (ht : ∀ j, (tableB (qL P j) = true → tableB (qL Q j) = true) ∧ ((qL P j).length = 0 → (qL Q j).length = 0)) (hk : Q.kept = P.kept) : GoodS Q := by
  have hl : Q.parts.length = P.parts.length := by have h := congrArg List.length hid; simpa using h
  have hat : ∀ k (h1 : k < Q.parts.length) (h2 : k < P.parts.length), Q.parts[k].id = P.parts[k].id ∧ Q.parts[k].tq = P.parts[k].tq := fun k h1 h2 => by
    have h : (Q.parts.map (fun p => (p.id, p.tq)))[k]'(by simpa using h1) = (P.parts.map (fun p => (p.id, p.tq)))[k]'(by simpa using h2) := by simp only [hid]
    simp only [List.getElem_map, Prod.mk.injEq] at h
    exact h
  refine ⟨FQ.n, FQ.w, FQ.h, by rw [hr]; exact G.r, by rw [hpx]; exact G.px, ?_, fun k hkQ => ?_, ?_, by rw [hk]; exact G.ks⟩
  · rw [hl]
    exact Int.le_trans (sum_le (fun k hk => by rw [hs k hk]; exact Int.le_refl _) _ (Nat.le_refl _)) G.sum
  · have hkP : k < P.parts.length := by rw [hl] at hkQ; exact hkQ
    obtain ⟨p1, p2, p3, p4⟩ := part_facts hkP (G.part k hkP)
    obtain ⟨h1, h2, h3, h4, h5, h6⟩ := head_facts hkP p1
    obtain ⟨q1, q2, q3, q4⟩ := FQ.pt k hkQ
    obtain ⟨i1, i2⟩ := hat k hkQ hkP
    have hne : (sizeL Q (k : Int)).1 ≠ 0 := by
      obtain ⟨u1, u2⟩ := max_of FQ.fac FQ.n.1
      have FA := fac_at FQ.fac k hkQ
      have v1 := upI_pos FQ.w.1 (show 0 < 8 * maxH Q.parts by omega)
      have e1 : 1 * 1 ≤ (Q.parts[k]).h * upI Q.w (8 * maxH Q.parts) := Int.mul_le_mul FA.1.1 v1 (by omega) (by omega)
      rw [size_of FQ.w FQ.h FQ.fac k hkQ]
      show Q.parts[k].h * _ ≠ 0
      omega
    have hhd : headB Q (k : Int) = true := by
      unfold headB
      rw [partAt_nat hkQ]
      simp only [Bool.and_eq_true, decide_eq_true_eq, Bool.not_eq_true', decide_eq_false_iff_not]
      rw [i1, i2]
      exact ⟨⟨⟨⟨⟨⟨⟨hne, h2.1⟩, h2.2⟩, h3.1⟩, h3.2⟩, q1⟩, q2⟩, q3⟩
    unfold partB idB
    rw [hhd, partAt_nat hkQ]
    simp only [Bool.true_and, Bool.and_eq_true, decide_eq_true_eq, Int.toNat_natCast]
    refine ⟨⟨?_, hb _ (List.getElem_mem hkQ)⟩, (shown_full FQ UQ k hkQ).symm⟩
    have e : ∀ (l : List PartL) (z : PartL), (l.take k).all (otherId z) = ((l.map fun p => (p.id, p.tq)).take k).all fun t => !decide (z.id = t.1) := fun l z => by rw [← List.map_take, List.all_map]; rfl
    rw [e, hid, i1, ← e P.parts P.parts[k]]
    exact p2
  · have hu : ∀ t : Int, usedB Q.parts t = usedB P.parts t := fun t => by
      have e : ∀ l : List PartL, usedB l t = (l.map fun p => (p.id, p.tq)).any fun q => decide (q.2 = t) := fun l => by unfold usedB; rw [List.any_map]; rfl
      rw [e, e, hid]
    have hq := G.qs
    unfold quantsB at hq ⊢
    rw [List.all_eq_true] at hq ⊢
    intro j hj
    have h := hq j hj
    unfold quantB at h ⊢
    rw [hu]
    split
    · rename_i hc
      rw [if_pos hc] at h
      exact (ht j).1 h
    · rename_i hc
      rw [if_neg hc] at h
      rw [decide_eq_true_eq] at h ⊢
      exact (ht j).2 h
theorem table_cross {l : List Int} (h : tableB l = true) : tableB (crossQ l) = true := by
  unfold tableB allQ at h ⊢
  simp only [Bool.and_eq_true, decide_eq_true_eq] at h ⊢
  have e : crossQ l = crossL l := by unfold crossQ; rw [if_pos h.1]
  rw [e]
  refine ⟨crossL_len l, ?_⟩
  rw [List.all_eq_true]
  intro x hx
  unfold crossL at hx
  rw [List.mem_map] at hx
  obtain ⟨k, hk, rfl⟩ := hx
  rw [List.mem_range] at hk
  have hl : k % 8 * 8 + k / 8 < l.length := by omega
  rw [List.getD_eq_getElem?_getD, List.getElem?_eq_getElem hl]
  exact List.all_eq_true.1 h.2 _ (List.getElem_mem hl)
theorem good_nice {P : PicL} (G : GoodS P) (hb : ∀ p ∈ P.parts, All64 p.bs) : Nice P := ⟨G.fit, hb, good_tables G 0 (by decide), good_tables G 1 (by decide), good_tables G 2 (by decide), good_tables G 3 (by decide)⟩
theorem good_blks {P : PicL} (G : GoodS P) : ∀ p ∈ P.parts, p.bs.all blkB = true := fun p hp => by
  obtain ⟨k, hk, rfl⟩ := List.getElem_of_mem hp
  exact (part_facts hk (G.part k hk)).2.2.1
theorem full_cross {P : PicL} (U : Full P) : Full (crossP P) := by
  obtain ⟨e1, e2⟩ := cross_max P.parts
  exact ⟨by show P.h % (8 * maxH (P.parts.map crossPt)) = 0; rw [e1]; exact U.h, by show P.w % (8 * maxV (P.parts.map crossPt)) = 0; rw [e2]; exact U.w⟩
theorem full_kin {P Q : PicL} (U : Full P) (h : Q.parts.map kin = P.parts.map kin) (hw : Q.w = P.w) (hh : Q.h = P.h) : Full Q := ⟨by rw [hw, kin_maxH h]; exact U.w, by rw [hh, kin_maxV h]; exact U.h⟩
theorem good_cross {P : PicL} (G : GoodS P) (U : Full P) (hb : ∀ p ∈ P.parts, All64 p.bs) : GoodS (crossP P) := by
  have N := good_nice G hb
  refine good_like G (fit_cross G.fit) (full_cross U) (Int.mul_comm _ _) rfl (fun k hk => ?_) ?_ (fun p hp => ?_) (fun j => ?_) rfl
  · rw [cross_size G.fit k hk]
    exact Int.mul_comm _ _
  · unfold crossP
    rw [List.map_map]
    rfl
  · unfold crossP at hp
    simp only [List.mem_map] at hp
    obtain ⟨q, hq, rfl⟩ := hp
    show (crB _ _ q.bs).all blkB = true
    rw [crB_perm]
    have hs := (N.sides q hq).1
    exact permT_good (fun j hj => by rw [hs] at hj ⊢; exact cr_lt hj) (hb q hq) (good_blks G q hq)
  · have key : ∀ l : List Int, (tableB l = true → tableB (crossQ l) = true) ∧ (l.length = 0 → (crossQ l).length = 0) := fun l => ⟨table_cross, fun h => by rw [List.length_eq_zero_iff.1 h]; rfl⟩
    match j with
    | 0 => exact key P.q0
    | 1 => exact key P.q1
    | 2 => exact key P.q2
    | j + 3 => exact key P.q3
theorem good_flip {P : PicL} (G : GoodS P) (U : Full P) (hb : ∀ p ∈ P.parts, All64 p.bs) : GoodS (flipP P) := by
  have N := good_nice G hb
  refine good_like G (fit_flip G.fit) (full_kin U (flip_kin P) rfl rfl) rfl rfl (fun k hk => by rw [kin_size (flip_kin P) rfl rfl]) ?_ (fun p hp => ?_) (fun j => ⟨fun h => h, fun h => h⟩) rfl
  · unfold flipP
    rw [List.map_map]
    rfl
  · unfold flipP at hp
    simp only [List.mem_map] at hp
    obtain ⟨q, hq, rfl⟩ := hp
    show (flB _ q.bs).all blkB = true
    rw [flB_perm]
    have hs := (N.sides q hq).1
    exact permT_good (fun j hj => by rw [hs] at hj ⊢; exact fl_lt hj) (hb q hq) (good_blks G q hq)
theorem good_flop {P : PicL} (G : GoodS P) (U : Full P) (hb : ∀ p ∈ P.parts, All64 p.bs) : GoodS (flopP P) := by
  have N := good_nice G hb
  refine good_like G (fit_flop G.fit) (full_kin U (flop_kin P) rfl rfl) rfl rfl (fun k hk => by rw [kin_size (flop_kin P) rfl rfl]) ?_ (fun p hp => ?_) (fun j => ⟨fun h => h, fun h => h⟩) rfl
  · unfold flopP
    rw [List.map_map]
    rfl
  · unfold flopP at hp
    simp only [List.mem_map] at hp
    obtain ⟨q, hq, rfl⟩ := hp
    show (opB _ _ q.bs).all blkB = true
    rw [opB_perm]
    have hs := (N.sides q hq).1
    exact permT_good (fun j hj => by rw [hs] at hj ⊢; exact op_lt hj) (hb q hq) (good_blks G q hq)
end Go.Proofs.Ytnhalnjdlkdnkaa

namespace Go.Proofs.Ytnhalnjdlkdnkaa
open Go.RowKit
set_option linter.unusedVariables false
set_option linter.unusedSimpArgs false
set_option maxRecDepth 20000

theorem good_like2 {P Q : PicL} (G : GoodS P) (FQ : Fit Q) (UQ : ∀ k (hk : k < Q.parts.length), shownL Q (k : Int) = Q.parts[k].bs) (hpx : Q.w * Q.h = P.w * P.h) (hr : Q.restart = P.restart) (hs : ∀ k : Nat, k < P.parts.length → (sizeL Q (k : Int)).1 * (sizeL Q (k : Int)).2 = (sizeL P (k : Int)).1 * (sizeL P (k : Int)).2)
    (hid : Q.parts.map (fun p => (p.id, p.tq)) = P.parts.map (fun p => (p.id, p.tq))) (hb : ∀ p ∈ Q.parts, p.bs.all blkB = true) (ht : ∀ j, (tableB (qL P j) = true → tableB (qL Q j) = true) ∧ ((qL P j).length = 0 → (qL Q j).length = 0)) (hk : Q.kept = P.kept) : GoodS Q := by
  have hl : Q.parts.length = P.parts.length := by have h := congrArg List.length hid; simpa using h
  have hat : ∀ k (h1 : k < Q.parts.length) (h2 : k < P.parts.length), Q.parts[k].id = P.parts[k].id ∧ Q.parts[k].tq = P.parts[k].tq := fun k h1 h2 => by
    have h : (Q.parts.map (fun p => (p.id, p.tq)))[k]'(by simpa using h1) = (P.parts.map (fun p => (p.id, p.tq)))[k]'(by simpa using h2) := by simp only [hid]
    simp only [List.getElem_map, Prod.mk.injEq] at h
    exact h
  refine ⟨FQ.n, FQ.w, FQ.h, by rw [hr]; exact G.r, by rw [hpx]; exact G.px, ?_, fun k hkQ => ?_, ?_, by rw [hk]; exact G.ks⟩
  · rw [hl]
    exact Int.le_trans (sum_le (fun k hk => by rw [hs k hk]; exact Int.le_refl _) _ (Nat.le_refl _)) G.sum
  · have hkP : k < P.parts.length := by rw [hl] at hkQ; exact hkQ
    obtain ⟨p1, p2, p3, p4⟩ := part_facts hkP (G.part k hkP)
    obtain ⟨h1, h2, h3, h4, h5, h6⟩ := head_facts hkP p1
    obtain ⟨q1, q2, q3, q4⟩ := FQ.pt k hkQ
    obtain ⟨i1, i2⟩ := hat k hkQ hkP
    have hne : (sizeL Q (k : Int)).1 ≠ 0 := by
      obtain ⟨u1, u2⟩ := max_of FQ.fac FQ.n.1
      have FA := fac_at FQ.fac k hkQ
      have v1 := upI_pos FQ.w.1 (show 0 < 8 * maxH Q.parts by omega)
      have e1 : 1 * 1 ≤ (Q.parts[k]).h * upI Q.w (8 * maxH Q.parts) := Int.mul_le_mul FA.1.1 v1 (by omega) (by omega)
      rw [size_of FQ.w FQ.h FQ.fac k hkQ]
      show Q.parts[k].h * _ ≠ 0
      omega
    have hhd : headB Q (k : Int) = true := by
      unfold headB
      rw [partAt_nat hkQ]
      simp only [Bool.and_eq_true, decide_eq_true_eq, Bool.not_eq_true', decide_eq_false_iff_not]
      rw [i1, i2]
      exact ⟨⟨⟨⟨⟨⟨⟨hne, h2.1⟩, h2.2⟩, h3.1⟩, h3.2⟩, q1⟩, q2⟩, q3⟩
    unfold partB idB
    rw [hhd, partAt_nat hkQ]
    simp only [Bool.true_and, Bool.and_eq_true, decide_eq_true_eq, Int.toNat_natCast]
    refine ⟨⟨?_, hb _ (List.getElem_mem hkQ)⟩, (UQ k hkQ).symm⟩
    have e : ∀ (l : List PartL) (z : PartL), (l.take k).all (otherId z) = ((l.map fun p => (p.id, p.tq)).take k).all fun t => !decide (z.id = t.1) := fun l z => by rw [← List.map_take, List.all_map]; rfl
    rw [e, hid, i1, ← e P.parts P.parts[k]]
    exact p2
  · have hu : ∀ t : Int, usedB Q.parts t = usedB P.parts t := fun t => by
      have e : ∀ l : List PartL, usedB l t = (l.map fun p => (p.id, p.tq)).any fun q => decide (q.2 = t) := fun l => by unfold usedB; rw [List.any_map]; rfl
      rw [e, e, hid]
    have hq := G.qs
    unfold quantsB at hq ⊢
    rw [List.all_eq_true] at hq ⊢
    intro j hj
    have h := hq j hj
    unfold quantB at h ⊢
    rw [hu]
    split
    · rename_i hc
      rw [if_pos hc] at h
      exact (ht j).1 h
    · rename_i hc
      rw [if_neg hc] at h
      rw [decide_eq_true_eq] at h ⊢
      exact (ht j).2 h
/-- what is not shown is zero -/
theorem shown_iff {P : PicL} (F : Fit P) (k : Nat) (hk : k < P.parts.length) : shownL P (k : Int) = P.parts[k].bs ↔ ∀ i (hi : i < P.parts[k].bs.length), ((ownL P (k : Int)).1 ≤ (i : Int) % (sizeL P (k : Int)).1 ∨ (ownL P (k : Int)).2 ≤ (i : Int) / (sizeL P (k : Int)).1) → P.parts[k].bs[i] = zero64 := by
  obtain ⟨h1, h2, h3, h4⟩ := F.pt k hk
  have hs := szL_in P (k : Int)
  obtain ⟨u1, u2⟩ := max_of F.fac F.n.1
  have FA := fac_at F.fac k hk
  have v1 := upI_pos F.w.1 (show 0 < 8 * maxH P.parts by omega)
  have e1 : 1 * 1 ≤ (P.parts[k]).h * upI P.w (8 * maxH P.parts) := Int.mul_le_mul FA.1.1 v1 (by omega) (by omega)
  have hne : (sizeL P (k : Int)).1 ≠ 0 := by rw [size_of F.w F.h F.fac k hk]; show P.parts[k].h * _ ≠ 0; omega
  have hf : fullB P (k : Int) = true := by
    unfold fullB
    rw [partAt_nat hk]
    simp only [Bool.and_eq_true, decide_eq_true_eq, Bool.not_eq_true', decide_eq_false_iff_not]
    exact ⟨hne, h3⟩
  have e : shownL P (k : Int) = shTo (sizeL P (k : Int)).1 (ownL P (k : Int)).1 (ownL P (k : Int)).2 P.parts[k].bs P.parts[k].bs.length := by
    unfold shownL
    rw [if_pos hf, partAt_nat hk]
  rw [e]
  constructor
  · intro h i hi hc
    have h5 : (shTo (sizeL P (k : Int)).1 (ownL P (k : Int)).1 (ownL P (k : Int)).2 P.parts[k].bs P.parts[k].bs.length)[i]'(by rw [shTo_length]; exact hi) = P.parts[k].bs[i] := by simp only [h]
    rw [shTo_at _ _ _ _ _ _ hi, if_pos hi] at h5
    unfold shB at h5
    rw [if_pos hc] at h5
    exact h5.symm
  · intro h
    apply List.ext_getElem (by rw [shTo_length])
    intro i h5 hi
    rw [shTo_at _ _ _ _ _ _ hi, if_pos hi]
    unfold shB
    split
    · rename_i hc
      exact (h i hi hc).symm
    · rfl
theorem cross_own {P : PicL} (F : Fit P) (k : Nat) (hk : k < P.parts.length) : ownL (crossP P) (k : Int) = ((ownL P (k : Int)).2, (ownL P (k : Int)).1) := by
  have hl : k < (crossP P).parts.length := by unfold crossP; simpa using hk
  rw [own_of (P := crossP P) F.h F.w (by show (P.parts.map crossPt).all facOk = true; rw [cross_fac]; exact F.fac) k hl, own_of F.w F.h F.fac k hk]
  obtain ⟨e1, e2⟩ := cross_max P.parts
  have e3 : (crossP P).parts[k]'hl = crossPt P.parts[k] := List.getElem_map ..
  rw [e3]
  show (upI (upI (P.h * _) (maxH (P.parts.map crossPt))) 8, upI (upI (P.w * _) (maxV (P.parts.map crossPt))) 8) = _
  rw [e1, e2]
  rfl
theorem zeroT_at (k : Nat) : zero64.getD k 0 = 0 := by
  rw [List.getD_eq_getElem?_getD]
  unfold zero64
  rw [List.getElem?_replicate]
  split <;> rfl
theorem sg2_naught (f o : Bool) (a b : Nat) : sg2 f o a b 0 = 0 := by
  have e : wrap64 (-(0 : Int)) = 0 := by rw [Int.neg_zero]; exact IntWalk.wrap64_in _ (by omega)
  unfold sg2
  repeat' split
  all_goals first | rfl | exact e | (rw [e]; exact e) | (simp only [e])
theorem turned_zero (t : Int) : blockL t zero64 = zero64 := by
  refine list64 (blockL_len t zero64) rfl fun x y hx hy => ?_
  rw [blockL_at t zero64 x y hx hy, zeroT_at, zeroT_at, ite_self]
  exact sg2_naught _ _ _ _
/-- blocks from other places: zero where they come from zero -/
theorem permT_zero {n t : Nat} {s : Nat → Nat} {bs : List (List Int)} (ht : t ≤ 7) (i : Nat) (hi : i < (permT n t s bs).length) (hs : s i < bs.length) (h : bs[s i] = zero64) : (permT n t s bs)[i] = zero64 := by
  have e : (permT n t s bs)[i]'hi = blockL (t : Int) (bs.getD (s i) []) := by simp [permT]
  rw [e, List.getD_eq_getElem?_getD, List.getElem?_eq_getElem hs, Option.getD_some, h]
  exact turned_zero t
theorem nat_of {P : PicL} (F : Fit P) (k : Nat) (hk : k < P.parts.length) : ((P.parts[k].wide.toNat : Nat) : Int) = (sizeL P (k : Int)).1 ∧ ((P.parts[k].high.toNat : Nat) : Int) = (sizeL P (k : Int)).2 ∧ P.parts[k].bs.length = P.parts[k].wide.toNat * P.parts[k].high.toNat := by
  obtain ⟨h1, h2, h3, h4⟩ := F.pt k hk
  obtain ⟨⟨s1, s2⟩, s3, s4⟩ := szL_in P (k : Int)
  have e1 : ((P.parts[k].wide.toNat : Nat) : Int) = (sizeL P (k : Int)).1 := by rw [h1, Int.toNat_of_nonneg s1]
  have e2 : ((P.parts[k].high.toNat : Nat) : Int) = (sizeL P (k : Int)).2 := by rw [h2, Int.toNat_of_nonneg s3]
  refine ⟨e1, e2, Int.ofNat.inj ?_⟩
  show ((P.parts[k].bs.length : Nat) : Int) = ((_ : Nat) : Int)
  rw [h3, Int.natCast_mul, e1, e2]
theorem good_shown {P : PicL} (G : GoodS P) (k : Nat) (hk : k < P.parts.length) : shownL P (k : Int) = P.parts[k].bs := (part_facts hk (G.part k hk)).2.2.2.symm
theorem good_cross2 {P : PicL} (G : GoodS P) (hb : ∀ p ∈ P.parts, All64 p.bs) : GoodS (crossP P) := by
  have N := good_nice G hb
  refine good_like2 G (fit_cross G.fit) (fun k hkQ => ?_) (Int.mul_comm _ _) rfl (fun k hk => ?_) ?_ (fun p hp => ?_) (fun j => ?_) rfl
  · have hk : k < P.parts.length := by unfold crossP at hkQ; simpa using hkQ
    rw [shown_iff (fit_cross G.fit) k hkQ]
    have hz := (shown_iff G.fit k hk).1 (good_shown G k hk)
    have e3 : (crossP P).parts[k]'hkQ = crossPt P.parts[k] := List.getElem_map ..
    obtain ⟨n1, n2, n3⟩ := nat_of G.fit k hk
    have eb : ((crossP P).parts[k]'hkQ).bs = permT P.parts[k].bs.length 4 (crSrc P.parts[k].wide.toNat P.parts[k].high.toNat) P.parts[k].bs := by rw [e3]; exact crB_perm _ _ _
    rw [cross_own G.fit k hk, cross_size G.fit k hk]
    simp only [eb]
    intro i hi hc
    have hi2 : i < P.parts[k].wide.toNat * P.parts[k].high.toNat := by rw [permT_len, n3] at hi; exact hi
    obtain ⟨c1, c2⟩ := cr_parts hi2
    have hs : crSrc P.parts[k].wide.toNat P.parts[k].high.toNat i < P.parts[k].bs.length := by rw [n3]; exact cr_lt hi2
    refine permT_zero (by decide) i hi hs (hz _ hs ?_)
    rw [← n1, ← Int.natCast_emod, ← Int.natCast_ediv, c1, c2, Int.natCast_ediv, Int.natCast_emod, n2]
    exact hc.symm
  · rw [cross_size G.fit k hk]
    exact Int.mul_comm _ _
  · unfold crossP
    rw [List.map_map]
    rfl
  · unfold crossP at hp
    simp only [List.mem_map] at hp
    obtain ⟨q, hq, rfl⟩ := hp
    show (crB _ _ q.bs).all blkB = true
    rw [crB_perm]
    have hs := (N.sides q hq).1
    exact permT_good (fun j hj => by rw [hs] at hj ⊢; exact cr_lt hj) (hb q hq) (good_blks G q hq)
  · have key : ∀ l : List Int, (tableB l = true → tableB (crossQ l) = true) ∧ (l.length = 0 → (crossQ l).length = 0) := fun l => ⟨table_cross, fun h => by rw [List.length_eq_zero_iff.1 h]; rfl⟩
    match j with
    | 0 => exact key P.q0
    | 1 => exact key P.q1
    | 2 => exact key P.q2
    | j + 3 => exact key P.q3
theorem good_flip2 {P : PicL} (G : GoodS P) (hw : P.w % (8 * maxH P.parts) = 0) (hb : ∀ p ∈ P.parts, All64 p.bs) : GoodS (flipP P) := by
  have N := good_nice G hb
  refine good_like2 G (fit_flip G.fit) (fun k hkQ => ?_) rfl rfl (fun k hk => by rw [kin_size (flip_kin P) rfl rfl]) ?_ (fun p hp => ?_) (fun j => ⟨fun h => h, fun h => h⟩) rfl
  · have hk : k < P.parts.length := by unfold flipP at hkQ; simpa using hkQ
    rw [shown_iff (fit_flip G.fit) k hkQ]
    have hz := (shown_iff G.fit k hk).1 (good_shown G k hk)
    have e3 : (flipP P).parts[k]'hkQ = flipPt P.parts[k] := List.getElem_map ..
    obtain ⟨n1, n2, n3⟩ := nat_of G.fit k hk
    have eb : ((flipP P).parts[k]'hkQ).bs = permT P.parts[k].bs.length 1 (flSrc P.parts[k].wide.toNat) P.parts[k].bs := by rw [e3]; exact flB_perm _ _
    obtain ⟨u1, u2⟩ := max_of G.fit.fac G.fit.n.1
    have ow : (ownL P (k : Int)).1 = (sizeL P (k : Int)).1 := by rw [own_of G.fit.w G.fit.h G.fit.fac k hk, size_of G.fit.w G.fit.h G.fit.fac k hk]; exact full_side u1.1 hw
    rw [kin_own (flip_kin P) rfl rfl, kin_size (flip_kin P) rfl rfl]
    simp only [eb]
    intro i hi hc
    have hi2 : i < P.parts[k].wide.toNat * P.parts[k].high.toNat := by rw [permT_len, n3] at hi; exact hi
    obtain ⟨c1, c2⟩ := fl_parts hi2
    have hs : flSrc P.parts[k].wide.toNat i < P.parts[k].bs.length := by rw [n3]; exact fl_lt hi2
    refine permT_zero (by decide) i hi hs (hz _ hs (.inr ?_))
    have hlt : (i : Int) % (sizeL P (k : Int)).1 < (sizeL P (k : Int)).1 := by
      rw [← n1]
      exact Int.emod_lt_of_pos _ (by have := (sides_pos hi2).1; omega)
    rw [← n1, ← Int.natCast_ediv, c2, Int.natCast_ediv, n1]
    rcases hc with hc | hc
    · rw [ow] at hc; omega
    · exact hc
  · unfold flipP
    rw [List.map_map]
    rfl
  · unfold flipP at hp
    simp only [List.mem_map] at hp
    obtain ⟨q, hq, rfl⟩ := hp
    show (flB _ q.bs).all blkB = true
    rw [flB_perm]
    have hs := (N.sides q hq).1
    exact permT_good (fun j hj => by rw [hs] at hj ⊢; exact fl_lt hj) (hb q hq) (good_blks G q hq)
theorem good_flop2 {P : PicL} (G : GoodS P) (hh : P.h % (8 * maxV P.parts) = 0) (hb : ∀ p ∈ P.parts, All64 p.bs) : GoodS (flopP P) := by
  have N := good_nice G hb
  refine good_like2 G (fit_flop G.fit) (fun k hkQ => ?_) rfl rfl (fun k hk => by rw [kin_size (flop_kin P) rfl rfl]) ?_ (fun p hp => ?_) (fun j => ⟨fun h => h, fun h => h⟩) rfl
  · have hk : k < P.parts.length := by unfold flopP at hkQ; simpa using hkQ
    rw [shown_iff (fit_flop G.fit) k hkQ]
    have hz := (shown_iff G.fit k hk).1 (good_shown G k hk)
    have e3 : (flopP P).parts[k]'hkQ = flopPt P.parts[k] := List.getElem_map ..
    obtain ⟨n1, n2, n3⟩ := nat_of G.fit k hk
    have eb : ((flopP P).parts[k]'hkQ).bs = permT P.parts[k].bs.length 2 (opSrc P.parts[k].wide.toNat P.parts[k].high.toNat) P.parts[k].bs := by rw [e3]; exact opB_perm _ _ _
    obtain ⟨u1, u2⟩ := max_of G.fit.fac G.fit.n.1
    have oh : (ownL P (k : Int)).2 = (sizeL P (k : Int)).2 := by rw [own_of G.fit.w G.fit.h G.fit.fac k hk, size_of G.fit.w G.fit.h G.fit.fac k hk]; exact full_side u2.1 hh
    rw [kin_own (flop_kin P) rfl rfl, kin_size (flop_kin P) rfl rfl]
    simp only [eb]
    intro i hi hc
    have hi2 : i < P.parts[k].wide.toNat * P.parts[k].high.toNat := by rw [permT_len, n3] at hi; exact hi
    obtain ⟨c1, c2⟩ := op_parts hi2
    have hs : opSrc P.parts[k].wide.toNat P.parts[k].high.toNat i < P.parts[k].bs.length := by rw [n3]; exact op_lt hi2
    refine permT_zero (by decide) i hi hs (hz _ hs (.inl ?_))
    have hlt : (i : Int) / (sizeL P (k : Int)).1 < (sizeL P (k : Int)).2 := by
      rw [← n1, ← n2, ← Int.natCast_ediv]
      exact Int.ofNat_lt.2 (row_lt hi2).2
    rw [← n1, ← Int.natCast_emod, c1, Int.natCast_emod, n1]
    rcases hc with hc | hc
    · exact hc
    · rw [oh] at hc; omega
  · unfold flopP
    rw [List.map_map]
    rfl
  · unfold flopP at hp
    simp only [List.mem_map] at hp
    obtain ⟨q, hq, rfl⟩ := hp
    show (opB _ _ q.bs).all blkB = true
    rw [opB_perm]
    have hs := (N.sides q hq).1
    exact permT_good (fun j hj => by rw [hs] at hj ⊢; exact op_lt hj) (hb q hq) (good_blks G q hq)
theorem all64_perm {n t : Nat} {s : Nat → Nat} {bs : List (List Int)} (hs : ∀ j, j < n → s j < bs.length) (ha : All64 bs) : All64 (permT n t s bs) := fun b hb => by
  unfold permT at hb
  rw [List.mem_map] at hb
  obtain ⟨j, hj, rfl⟩ := hb
  have hl := hs j (List.mem_range.1 hj)
  rw [List.getD_eq_getElem?_getD, List.getElem?_eq_getElem hl]
  exact blk_turned _ (ha _ (List.getElem_mem hl))
theorem all64_cross {P : PicL} (F : Fit P) (hb : ∀ p ∈ P.parts, All64 p.bs) : ∀ p ∈ (crossP P).parts, All64 p.bs := fun p hp => by
  unfold crossP at hp
  simp only [List.mem_map] at hp
  obtain ⟨q, hq, rfl⟩ := hp
  obtain ⟨k, hk, rfl⟩ := List.getElem_of_mem hq
  show All64 (crB _ _ _)
  rw [crB_perm]
  exact all64_perm (fun j hj => by rw [(nat_of F k hk).2.2] at hj ⊢; exact cr_lt hj) (hb _ hq)
theorem all64_flip {P : PicL} (F : Fit P) (hb : ∀ p ∈ P.parts, All64 p.bs) : ∀ p ∈ (flipP P).parts, All64 p.bs := fun p hp => by
  unfold flipP at hp
  simp only [List.mem_map] at hp
  obtain ⟨q, hq, rfl⟩ := hp
  obtain ⟨k, hk, rfl⟩ := List.getElem_of_mem hq
  show All64 (flB _ _)
  rw [flB_perm]
  exact all64_perm (fun j hj => by rw [(nat_of F k hk).2.2] at hj ⊢; exact fl_lt hj) (hb _ hq)
theorem all64_cut {P : PicL} (c r w h : Int) (hb : ∀ p ∈ P.parts, All64 p.bs) : ∀ p ∈ (cutL P c r w h).parts, All64 p.bs := fun p hp => by
  obtain ⟨k, hk, rfl⟩ := List.getElem_of_mem hp
  have hkP : k < P.parts.length := by unfold cutL at hk; simpa using hk
  rw [(cut_part P c r w h k hkP).2 hk]
  intro b hbm
  have hbm : b ∈ cutB P.parts[k] c r (sizeL (sidesL P w h) (k : Int)) (ownL (sidesL P w h) (k : Int)) := hbm
  unfold cutB at hbm
  rcases shTo_mem hbm with rfl | hbm
  · exact blk_zero
  · exact hb _ (List.getElem_mem hkP) b (gath_mem hbm)
theorem tW_whole (x a : Int) (ha : 1 ≤ a) : tW true x a % a = 0 := by
  unfold tW
  rw [if_pos rfl]
  have h := Int.mul_ediv_add_emod x a
  have e : x - x % a = a * (x / a) := by omega
  rw [e]
  exact Int.mul_emod_right _ _
theorem good_turned {P : PicL} {t : Int} {pf : Bool} (G : GoodS P) (hb : ∀ p ∈ P.parts, All64 p.bs) (he : turnE P t pf = 0) : GoodS (turnL P t pf) := by
  have hbad : badT (tC (crossB t) P) (turnWd P t) (turnHi P t) pf = false := by
    unfold turnE at he
    split at he
    · omega
    · split at he
      · omega
      · rename_i h; simpa using h
  have hl : turnL P t pf = turnIn P t := by unfold turnL; rw [if_pos he]
  rw [hl]
  unfold turnIn
  obtain ⟨X, hX⟩ : ∃ X, tC (crossB t) P = X := ⟨_, rfl⟩
  have GX : GoodS X := by
    rw [← hX]
    unfold tC
    split
    · exact good_cross2 G hb
    · exact G
  have AX : ∀ p ∈ X.parts, All64 p.bs := by
    rw [← hX]
    unfold tC
    split
    · exact all64_cross G.fit hb
    · exact hb
  unfold turnWd turnHi at hbad ⊢
  rw [hX] at hbad ⊢
  have I := turn_in GX.fit hbad
  obtain ⟨u1, u2⟩ := max_of GX.fit.fac GX.fit.n.1
  have GY := good_cut GX I
  have AY := all64_cut 0 0 (tW (flipB t) X.w (8 * maxH X.parts)) (tW (flopB t) X.h (8 * maxV X.parts)) AX
  have mk := kin_cut X 0 0 (tW (flipB t) X.w (8 * maxH X.parts)) (tW (flopB t) X.h (8 * maxV X.parts))
  have WY : flipB t = true → (cutL X 0 0 (tW (flipB t) X.w (8 * maxH X.parts)) (tW (flopB t) X.h (8 * maxV X.parts))).w % (8 * maxH (cutL X 0 0 (tW (flipB t) X.w (8 * maxH X.parts)) (tW (flopB t) X.h (8 * maxV X.parts))).parts) = 0 := fun hf => by
    rw [kin_maxH mk]
    show tW (flipB t) X.w (8 * maxH X.parts) % _ = 0
    rw [hf]
    exact tW_whole _ _ (by omega)
  have HY : flopB t = true → (cutL X 0 0 (tW (flipB t) X.w (8 * maxH X.parts)) (tW (flopB t) X.h (8 * maxV X.parts))).h % (8 * maxV (cutL X 0 0 (tW (flipB t) X.w (8 * maxH X.parts)) (tW (flopB t) X.h (8 * maxV X.parts))).parts) = 0 := fun hf => by
    rw [kin_maxV mk]
    show tW (flopB t) X.h (8 * maxV X.parts) % _ = 0
    rw [hf]
    exact tW_whole _ _ (by omega)
  obtain ⟨Y, hY⟩ : ∃ Y, cutL X 0 0 (tW (flipB t) X.w (8 * maxH X.parts)) (tW (flopB t) X.h (8 * maxV X.parts)) = Y := ⟨_, rfl⟩
  rw [hY] at GY AY WY HY ⊢
  have GZ : GoodS (tF (flipB t) Y) := by
    unfold tF
    split
    · rename_i h; exact good_flip2 GY (WY h) AY
    · exact GY
  have AZ : ∀ p ∈ (tF (flipB t) Y).parts, All64 p.bs := by
    unfold tF
    split
    · exact all64_flip GY.fit AY
    · exact AY
  have HZ : flopB t = true → (tF (flipB t) Y).h % (8 * maxV (tF (flipB t) Y).parts) = 0 := fun h => by
    unfold tF
    split
    · show Y.h % (8 * maxV (flipP Y).parts) = 0
      rw [kin_maxV (flip_kin Y)]
      exact HY h
    · exact HY h
  unfold tO
  split
  · rename_i h; exact good_flop2 GZ (HZ h) AZ
  · exact GZ
theorem turn_kept (P : PicL) (t : Int) : (turnIn P t).kept = P.kept := by
  unfold turnIn tO tF tC
  repeat' split
  all_goals rfl
theorem turn_bounds {P : PicL} {t : Int} {pf : Bool} (hB : PicB P) (he : turnE P t pf = 0) (g : GoodS (turnL P t pf)) : PicB (turnL P t pf) := by
  have hk : (turnL P t pf).kept = P.kept := by
    have hl : turnL P t pf = turnIn P t := by unfold turnL; rw [if_pos he]
    rw [hl]
    exact turn_kept P t
  have hq : ∀ j, j < 4 → (qL (turnL P t pf) j).length ≤ 140737488351232 := fun j hj => by
    have := good_tables g j hj
    omega
  have e1 := g.w; have e2 := g.h; have e3 := g.r; have e4 := g.n
  exact ⟨by unfold R64; omega, by unfold R64; omega, by unfold R64; omega, hq 0 (by decide), hq 1 (by decide), hq 2 (by decide), hq 3 (by decide), by omega, by rw [hk]; exact hB.kept⟩
theorem zero_boundsT : PicB zeroP := ⟨by unfold R64 zeroP; decide, by unfold R64 zeroP; decide, by unfold R64 zeroP; decide, Nat.zero_le _, Nat.zero_le _, Nat.zero_le _, Nat.zero_le _, Nat.zero_le _, Nat.zero_le _⟩
/-- what a good picture is turned to: nothing, or a good one -/
theorem turn_two {P : PicL} (hB : PicB P) (hg : goodB P = true) (hb : ∀ p ∈ P.parts, All64 p.bs) (t : Int) (pf : Bool) : PicB (turnL P t pf) ∧ ((turnE P t pf = 0 ∧ goodB (turnL P t pf) = true) ∨ ((turnE P t pf != 0) = true ∧ turnE P t pf ≠ 0)) := by
  by_cases he : turnE P t pf = 0
  · have G2 := good_turned ((good_iff P).1 hg) hb he
    exact ⟨turn_bounds hB he G2, .inl ⟨he, (good_iff _).2 G2⟩⟩
  · exact ⟨by rw [turn_zero he]; exact zero_boundsT, .inr ⟨by rw [bne_iff_ne]; exact he, he⟩⟩
theorem turn_bad {P : PicL} {t : Int} (h : (goodB P && decide (0 ≤ t ∧ t ≤ 7)) = false) (pf : Bool) : turnE P t pf = 6 ∧ turnL P t pf = zeroP := by
  have e : turnE P t pf = 6 := by unfold turnE; rw [if_pos h]
  exact ⟨e, turn_zero (by rw [e]; decide)⟩
end Go.Proofs.Ytnhalnjdlkdnkaa
