/- Turns behind turns, on pictures: plain. By an AI agent. Good pictures of whole units, turned, are good: plain. By an AI agent. Pictures of whole units turned by turn.Turn: plain. By an AI agent. A region that draws its order, where at some places one of two operations may come up first (an alloc that waits for nothing): a tree of orders. By an AI agent; over the kit's theory of orders. -/
import Derived.Test.YtnhalnjdlkdnkaaZ30
import Derived.Test.YtnhalnjdlkdnkaaZ21
import Derived.Test.YtnhalnjdlkdnkaaZ06
namespace Go.Proofs.Ytnhalnjdlkdnkaa
set_option linter.unusedVariables false
set_option linter.unusedSimpArgs false
set_option maxRecDepth 20000

structure Nice (P : PicL) : Prop where
  fit : Fit P
  b : ∀ p ∈ P.parts, All64 p.bs
  q0 : P.q0.length = 64 ∨ P.q0.length = 0
  q1 : P.q1.length = 64 ∨ P.q1.length = 0
  q2 : P.q2.length = 64 ∨ P.q2.length = 0
  q3 : P.q3.length = 64 ∨ P.q3.length = 0
theorem Nice.sides {P : PicL} (N : Nice P) : ∀ p ∈ P.parts, p.bs.length = p.wide.toNat * p.high.toNat ∧ 0 ≤ p.wide ∧ 0 ≤ p.high := fun p hp => by
  obtain ⟨k, hk, rfl⟩ := List.getElem_of_mem hp
  obtain ⟨h1, h2, h3, _⟩ := N.fit.pt k hk
  have hs := szL_in P (k : Int)
  have e : (P.parts[k].bs.length : Int) = P.parts[k].wide * P.parts[k].high := by rw [h3, h1, h2]
  refine ⟨?_, by omega, by omega⟩
  have h4 : ((P.parts[k].wide.toNat * P.parts[k].high.toNat : Nat) : Int) = P.parts[k].wide * P.parts[k].high := by
    rw [Int.natCast_mul, Int.toNat_of_nonneg (by omega), Int.toNat_of_nonneg (by omega)]
  omega
theorem permT_all {n t : Nat} {s : Nat → Nat} {bs : List (List Int)} (hs : ∀ j, j < n → s j < bs.length) (ha : All64 bs) : All64 (permT n t s bs) := fun b hb => by
  unfold permT at hb
  rw [List.mem_map] at hb
  obtain ⟨j, hj, rfl⟩ := hb
  have hl := hs j (List.mem_range.1 hj)
  rw [List.getD_eq_getElem?_getD, List.getElem?_eq_getElem hl]
  exact blk_turned _ (ha _ (List.getElem_mem hl))
theorem cross_cross64 (l : List Int) (h : l.length = 64) : crossL (crossL l) = l := by
  apply List.ext_getElem (by rw [crossL_len, h])
  intro k h1 h2
  have hk : k < 64 := by omega
  have e1 : k % 8 * 8 + k / 8 < 64 := by omega
  have e2 : (k % 8 * 8 + k / 8) % 8 * 8 + (k % 8 * 8 + k / 8) / 8 = k := by omega
  simp only [crossL, List.getElem_map, List.getElem_range, List.getD_eq_getElem?_getD, List.getElem?_map, List.getElem?_range e1, Option.map_some, Option.getD_some]
  rw [e2, List.getElem?_eq_getElem h2]
  rfl
theorem crossQ_two {l : List Int} (h : l.length = 64 ∨ l.length = 0) : crossQ (crossQ l) = l := by
  rcases h with h | h
  · have e : crossQ l = crossL l := by unfold crossQ; rw [if_pos h]
    rw [e]
    unfold crossQ
    rw [if_pos (crossL_len l)]
    exact cross_cross64 l h
  · have e : l = [] := List.length_eq_zero_iff.1 h
    subst e
    rfl
theorem crossQ_ok (l : List Int) : (crossQ l).length = 64 ∨ (crossQ l).length = 0 := by
  unfold crossQ
  split
  · exact .inl (crossL_len l)
  · exact .inr rfl
theorem nice_cross {P : PicL} (N : Nice P) : Nice (crossP P) := by
  refine ⟨fit_cross N.fit, fun p hp => ?_, crossQ_ok _, crossQ_ok _, crossQ_ok _, crossQ_ok _⟩
  unfold crossP at hp
  simp only [List.mem_map] at hp
  obtain ⟨q, hq, rfl⟩ := hp
  show All64 (crB _ _ q.bs)
  rw [crB_perm]
  have hs := (N.sides q hq).1
  exact permT_all (fun j hj => by rw [hs] at hj ⊢; exact cr_lt hj) (N.b q hq)
theorem nice_flip {P : PicL} (N : Nice P) : Nice (flipP P) := by
  refine ⟨fit_flip N.fit, fun p hp => ?_, N.q0, N.q1, N.q2, N.q3⟩
  unfold flipP at hp
  simp only [List.mem_map] at hp
  obtain ⟨q, hq, rfl⟩ := hp
  show All64 (flB _ q.bs)
  rw [flB_perm]
  have hs := (N.sides q hq).1
  exact permT_all (fun j hj => by rw [hs] at hj ⊢; exact fl_lt hj) (N.b q hq)
theorem nice_flop {P : PicL} (N : Nice P) : Nice (flopP P) := by
  refine ⟨fit_flop N.fit, fun p hp => ?_, N.q0, N.q1, N.q2, N.q3⟩
  unfold flopP at hp
  simp only [List.mem_map] at hp
  obtain ⟨q, hq, rfl⟩ := hp
  show All64 (opB _ _ q.bs)
  rw [opB_perm]
  have hs := (N.sides q hq).1
  exact permT_all (fun j hj => by rw [hs] at hj ⊢; exact op_lt hj) (N.b q hq)
theorem parts_id {P : PicL} {f : PartL → PartL} (h : ∀ p ∈ P.parts, f p = p) : P.parts.map f = P.parts := by
  conv => rhs; rw [← List.map_id P.parts]
  exact List.map_congr_left h
theorem flip_two {P : PicL} (N : Nice P) : flipP (flipP P) = P := by
  unfold flipP
  simp only [List.map_map]
  rw [parts_id (fun p hp => ?_)]
  show ({ p with bs := flB p.wide.toNat (flB p.wide.toNat p.bs) } : PartL) = p
  rw [two_flip (N.sides p hp).1 (N.b p hp)]
theorem flop_two {P : PicL} (N : Nice P) : flopP (flopP P) = P := by
  unfold flopP
  simp only [List.map_map]
  rw [parts_id (fun p hp => ?_)]
  show ({ p with bs := opB p.wide.toNat p.high.toNat (opB p.wide.toNat p.high.toNat p.bs) } : PartL) = p
  rw [two_flop (N.sides p hp).1 (N.b p hp)]
theorem flipflop {P : PicL} (N : Nice P) : flipP (flopP P) = flopP (flipP P) := by
  unfold flipP flopP
  simp only [List.map_map]
  congr 1
  refine List.map_congr_left fun p hp => ?_
  show ({ p with bs := flB p.wide.toNat (opB p.wide.toNat p.high.toNat p.bs) } : PartL) = { p with bs := opB p.wide.toNat p.high.toNat (flB p.wide.toNat p.bs) }
  rw [flip_flop (N.sides p hp).1 (N.b p hp)]
theorem cross_two {P : PicL} (N : Nice P) : crossP (crossP P) = P := by
  unfold crossP
  simp only [List.map_map]
  rw [parts_id (fun p hp => ?_), crossQ_two N.q0, crossQ_two N.q1, crossQ_two N.q2, crossQ_two N.q3]
  show ({ p with bs := crB p.high.toNat p.wide.toNat (crB p.wide.toNat p.high.toNat p.bs) } : PartL) = p
  rw [two_cross (N.sides p hp).1 (N.b p hp)]
theorem crossflip {P : PicL} (N : Nice P) : crossP (flipP P) = flopP (crossP P) := by
  unfold crossP flipP flopP
  simp only [List.map_map]
  congr 1
  refine List.map_congr_left fun p hp => ?_
  show ({ p with h := p.v, v := p.h, wide := p.high, high := p.wide, bs := crB p.wide.toNat p.high.toNat (flB p.wide.toNat p.bs) } : PartL) = { p with h := p.v, v := p.h, wide := p.high, high := p.wide, bs := opB p.high.toNat p.wide.toNat (crB p.wide.toNat p.high.toNat p.bs) }
  rw [cross_flip (N.sides p hp).1 (N.b p hp)]
theorem crossflop {P : PicL} (N : Nice P) : crossP (flopP P) = flipP (crossP P) := by
  unfold crossP flipP flopP
  simp only [List.map_map]
  congr 1
  refine List.map_congr_left fun p hp => ?_
  show ({ p with h := p.v, v := p.h, wide := p.high, high := p.wide, bs := crB p.wide.toNat p.high.toNat (opB p.wide.toNat p.high.toNat p.bs) } : PartL) = { p with h := p.v, v := p.h, wide := p.high, high := p.wide, bs := flB p.high.toNat (crB p.wide.toNat p.high.toNat p.bs) }
  rw [cross_flop (N.sides p hp).1 (N.b p hp)]
def t3 (c f o : Bool) (P : PicL) : PicL := tO o (tF f (tC c P))
theorem nice_t3 {P : PicL} (N : Nice P) (c f o : Bool) : Nice (t3 c f o P) := by
  have h1 : Nice (tC c P) := by
    unfold tC
    split
    · exact nice_cross N
    · exact N
  have h2 : Nice (tF f (tC c P)) := by
    unfold tF
    split
    · exact nice_flip h1
    · exact h1
  unfold t3 tO
  split
  · exact nice_flop h2
  · exact h2
/-- a turn behind a turn -/
theorem t3_two {P : PicL} (N : Nice P) (c f o c' f' o' : Bool) : t3 c' f' o' (t3 c f o P) = t3 (c != c') ((if c' = true then o else f) != f') ((if c' = true then f else o) != o') P := by
  have NC := nice_cross N
  have n1 := flip_two N
  have n2 := flop_two N
  have n3 := flipflop N
  have n4 := cross_two N
  have n5 := crossflip N
  have n6 := crossflop N
  have c1 := flip_two NC
  have c2 := flop_two NC
  have c3 := flipflop NC
  have c5 := crossflip NC
  have c6 := crossflop NC
  have k1 := flip_two (nice_flop N)
  have k2 := flop_two (nice_flip N)
  have k3 := flipflop (nice_flip N)
  have k4 := flipflop (nice_flop N)
  have k5 := crossflop (nice_flip N)
  have k6 := flop_two (nice_flop N)
  have d1 := flip_two (nice_flop NC)
  have d2 := flop_two (nice_flip NC)
  have d3 := flipflop (nice_flip NC)
  have d5 := crossflop (nice_flip NC)
  cases c <;> cases f <;> cases o <;> cases c' <;> cases f' <;> cases o' <;> simp [t3, tC, tF, tO] <;> simp [n1, n2, n3, n4, n5, n6, c1, c2, c3, c5, c6, k1, k2, k3, k4, k5, k6, d1, d2, d3, d5] 
end Go.Proofs.Ytnhalnjdlkdnkaa

namespace Go.Proofs.Ytnhalnjdlkdnkaa
open Go.RowKit
set_option linter.unusedVariables false
set_option linter.unusedSimpArgs false
set_option maxRecDepth 20000

/-- sides of whole units -/
structure Full (P : PicL) : Prop where
  w : P.w % (8 * maxH P.parts) = 0
  h : P.h % (8 * maxV P.parts) = 0
theorem full_side {w H p : Int} (hH : 1 ≤ H) (hw : w % (8 * H) = 0) : upI (upI (w * p) H) 8 = p * upI w (8 * H) := by
  have h1 := Int.mul_ediv_add_emod w (8 * H)
  rw [hw, Int.add_zero] at h1
  obtain ⟨m, hm⟩ : ∃ m, w / (8 * H) = m := ⟨_, rfl⟩
  rw [hm] at h1
  subst h1
  rw [Int.mul_comm (8 * H) m, upI_mul m (8 * H) (by omega)]
  have e : m * (8 * H) * p = m * p * 8 * H := by ac_rfl
  rw [e, upI_mul _ H (by omega), upI_mul _ 8 (by omega), Int.mul_comm]
theorem full_own {P : PicL} (F : Fit P) (U : Full P) (k : Nat) (hk : k < P.parts.length) : ownL P (k : Int) = sizeL P (k : Int) := by
  obtain ⟨u1, u2⟩ := max_of F.fac F.n.1
  rw [own_of F.w F.h F.fac k hk, size_of F.w F.h F.fac k hk, full_side u1.1 U.w, full_side u2.1 U.h]
theorem sh_whole {sw sh : Int} {bs : List (List Int)} (h : (bs.length : Int) = sw * sh) (hw : 0 ≤ sw) (hh : 0 ≤ sh) (n : Nat) : shTo sw sw sh bs n = bs := by
  unfold shTo
  apply List.ext_getElem (by simp)
  intro i h1 h2
  rw [List.getElem_mapIdx]
  split
  · unfold shB
    have hi : (i : Int) < sw * sh := by omega
    have hw1 : 0 < sw := by
      rcases Int.lt_or_eq_of_le hw with h0 | h0
      · exact h0
      · rw [← h0, Int.zero_mul] at hi; omega
    have e1 := Int.emod_lt_of_pos (i : Int) hw1
    have e2 : (i : Int) / sw < sh := Int.ediv_lt_of_lt_mul hw1 (by rw [Int.mul_comm]; exact hi)
    rw [if_neg (by omega)]
  · rfl
theorem shown_full {P : PicL} (F : Fit P) (U : Full P) (k : Nat) (hk : k < P.parts.length) : shownL P (k : Int) = P.parts[k].bs := by
  obtain ⟨h1, h2, h3, h4⟩ := F.pt k hk
  have hs := szL_in P (k : Int)
  obtain ⟨u1, u2⟩ := max_of F.fac F.n.1
  have FA := fac_at F.fac k hk
  have v1 := upI_pos F.w.1 (show 0 < 8 * maxH P.parts by omega)
  have e1 : 1 * 1 ≤ (P.parts[k]).h * upI P.w (8 * maxH P.parts) := Int.mul_le_mul FA.1.1 v1 (by omega) (by omega)
  have hne : (sizeL P (k : Int)).1 ≠ 0 := by rw [size_of F.w F.h F.fac k hk]; show P.parts[k].h * _ ≠ 0; omega
  have hf : fullB P (k : Int) = true := by
    unfold fullB
    rw [partAt_nat hk]
    simp only [Bool.and_eq_true, decide_eq_true_eq, Bool.not_eq_true', decide_eq_false_iff_not]
    exact ⟨hne, h3⟩
  unfold shownL
  rw [if_pos hf, full_own F U k hk, partAt_nat hk]
  exact sh_whole h3 hs.1.1 hs.2.1 _
theorem sg2_zero (f o : Bool) (x : Int) : sg2 f o 0 0 x = x := by cases f <;> cases o <;> simp [sg2]
theorem sg2_range (f o : Bool) (a b : Nat) (x : Int) (h : -1023 ≤ x ∧ x ≤ 1023) : -1023 ≤ sg2 f o a b x ∧ sg2 f o a b x ≤ 1023 := by
  have e : ∀ z : Int, -1023 ≤ z ∧ z ≤ 1023 → -1023 ≤ wrap64 (-z) ∧ wrap64 (-z) ≤ 1023 := fun z hz => by unfold wrap64; omega
  unfold sg2
  repeat' split
  all_goals first | exact h | exact e _ h | exact e _ (e _ h)
theorem blk_iff {b : List Int} (hl : b.length = 64) : blkB b = true ↔ (∀ k, 0 < k → k < 64 → -1023 ≤ b.getD k 0 ∧ b.getD k 0 ≤ 1023) ∧ -1024 ≤ b.getD 0 0 ∧ b.getD 0 0 ≤ 1023 := by
  unfold blkB dcB
  simp only [Bool.and_eq_true, decide_eq_true_eq, List.all_eq_true, acB]
  constructor
  · rintro ⟨h1, h2⟩
    refine ⟨fun k h0 hk => ?_, h2⟩
    have hm : b.getD k 0 ∈ b.drop 1 := by
      rw [List.getD_eq_getElem?_getD, List.getElem?_eq_getElem (by omega)]
      have e : (b.drop 1)[k - 1]'(by rw [List.length_drop]; omega) = b[k] := by
        rw [List.getElem_drop]
        congr 1
        omega
      rw [Option.getD_some, ← e]
      exact List.getElem_mem _
    exact h1 _ hm
  · rintro ⟨h1, h2⟩
    refine ⟨fun x hx => ?_, h2⟩
    obtain ⟨i, hi, rfl⟩ := List.getElem_of_mem hx
    rw [List.length_drop] at hi
    have h3 := h1 (i + 1) (by omega) (by omega)
    rw [List.getD_eq_getElem?_getD, List.getElem?_eq_getElem (by omega)] at h3
    rw [List.getElem_drop]
    simpa [Nat.add_comm] using h3
theorem blk_turn {t : Int} {b : List Int} (hl : b.length = 64) (h : blkB b = true) : blkB (blockL t b) = true := by
  rw [blk_iff hl] at h
  rw [blk_iff (blockL_len t b)]
  obtain ⟨h1, h2⟩ := h
  refine ⟨fun k h0 hk => ?_, ?_⟩
  · have e := blockL_at t b (k % 8) (k / 8) (by omega) (by omega)
    rw [show 8 * (k / 8) + k % 8 = k by omega] at e
    rw [e]
    refine sg2_range _ _ _ _ _ ?_
    split
    · exact h1 _ (by omega) (by omega)
    · exact h1 _ h0 hk
  · have e := blockL_at t b 0 0 (by omega) (by omega)
    simp only [Nat.mul_zero, Nat.add_zero, Nat.zero_mod, ite_self] at e
    rw [e, sg2_zero]
    exact h2
theorem permT_good {n t : Nat} {s : Nat → Nat} {bs : List (List Int)} (hs : ∀ j, j < n → s j < bs.length) (ha : All64 bs) (h : bs.all blkB = true) : (permT n t s bs).all blkB = true := by
  rw [List.all_eq_true]
  intro b hb
  unfold permT at hb
  rw [List.mem_map] at hb
  obtain ⟨j, hj, rfl⟩ := hb
  have hl := hs j (List.mem_range.1 hj)
  rw [List.getD_eq_getElem?_getD, List.getElem?_eq_getElem hl]
  exact blk_turn (ha _ (List.getElem_mem hl)).1 (List.all_eq_true.1 h _ (List.getElem_mem hl))
theorem good_like {P Q : PicL} (G : GoodS P) (FQ : Fit Q) (UQ : Full Q) (hpx : Q.w * Q.h = P.w * P.h) (hr : Q.restart = P.restart) (hs : ∀ k : Nat, k < P.parts.length → (sizeL Q (k : Int)).1 * (sizeL Q (k : Int)).2 = (sizeL P (k : Int)).1 * (sizeL P (k : Int)).2)
    (hid : Q.parts.map (fun p => (p.id, p.tq)) = P.parts.map (fun p => (p.id, p.tq))) (hb : ∀ p ∈ Q.parts, p.bs.all blkB = true) (ht : ∀ j, (tableB (qL P j) = true → tableB (qL Q j) = true) ∧ ((qL P j).length = 0 → (qL Q j).length = 0)) (hk : Q.kept = P.kept) : GoodS Q := by
  have hl : Q.parts.length = P.parts.length := by have h := congrArg List.length hid; simpa using h
  have hat : ∀ k (h1 : k < Q.parts.length) (h2 : k < P.parts.length), Q.parts[k].id = P.parts[k].id ∧ Q.parts[k].tq = P.parts[k].tq := fun k h1 h2 => by
    have h : (Q.parts.map (fun p => (p.id, p.tq)))[k]'(by simpa using h1) = (P.parts.map (fun p => (p.id, p.tq)))[k]'(by simpa using h2) := by simp only [hid]
    simp only [List.getElem_map, Prod.mk.injEq] at h
    exact h
  refine ⟨FQ.n, FQ.w, FQ.h, by rw [hr]; exact G.r, by rw [hpx]; exact G.px, ?_, fun k hkQ => ?_, ?_, by rw [hk]; exact G.ks⟩
  · rw [hl]
    exact Int.le_trans (sum_le (fun k hk => by rw [hs k hk]; exact Int.le_refl _) _ (Nat.le_refl _)) G.sum
  · have hkP : k < P.parts.length := by rw [hl] at hkQ; exact hkQ
    obtain ⟨p1, p2, p3, p4⟩ := part_facts hkP (G.part k hkP)
    obtain ⟨h1, h2, h3, h4, h5, h6⟩ := head_facts hkP p1
    obtain ⟨q1, q2, q3, q4⟩ := FQ.pt k hkQ
    obtain ⟨i1, i2⟩ := hat k hkQ hkP
    have hne : (sizeL Q (k : Int)).1 ≠ 0 := by
      obtain ⟨u1, u2⟩ := max_of FQ.fac FQ.n.1
      have FA := fac_at FQ.fac k hkQ
      have v1 := upI_pos FQ.w.1 (show 0 < 8 * maxH Q.parts by omega)
      have e1 : 1 * 1 ≤ (Q.parts[k]).h * upI Q.w (8 * maxH Q.parts) := Int.mul_le_mul FA.1.1 v1 (by omega) (by omega)
      rw [size_of FQ.w FQ.h FQ.fac k hkQ]
      show Q.parts[k].h * _ ≠ 0
      omega
    have hhd : headB Q (k : Int) = true := by
      unfold headB
      rw [partAt_nat hkQ]
      simp only [Bool.and_eq_true, decide_eq_true_eq, Bool.not_eq_true', decide_eq_false_iff_not]
      rw [i1, i2]
      exact ⟨⟨⟨⟨⟨⟨⟨hne, h2.1⟩, h2.2⟩, h3.1⟩, h3.2⟩, q1⟩, q2⟩, q3⟩
    unfold partB idB
    rw [hhd, partAt_nat hkQ]
    simp only [Bool.true_and, Bool.and_eq_true, decide_eq_true_eq, Int.toNat_natCast]
    refine ⟨⟨?_, hb _ (List.getElem_mem hkQ)⟩, (shown_full FQ UQ k hkQ).symm⟩
    have e : ∀ (l : List PartL) (z : PartL), (l.take k).all (otherId z) = ((l.map fun p => (p.id, p.tq)).take k).all fun t => !decide (z.id = t.1) := fun l z => by rw [← List.map_take, List.all_map]; rfl
    rw [e, hid, i1, ← e P.parts P.parts[k]]
    exact p2
  · have hu : ∀ t : Int, usedB Q.parts t = usedB P.parts t := fun t => by
      have e : ∀ l : List PartL, usedB l t = (l.map fun p => (p.id, p.tq)).any fun q => decide (q.2 = t) := fun l => by unfold usedB; rw [List.any_map]; rfl
      rw [e, e, hid]
    have hq := G.qs
    unfold quantsB at hq ⊢
    rw [List.all_eq_true] at hq ⊢
    intro j hj
    have h := hq j hj
    unfold quantB at h ⊢
    rw [hu]
    split
    · rename_i hc
      rw [if_pos hc] at h
      exact (ht j).1 h
    · rename_i hc
      rw [if_neg hc] at h
      rw [decide_eq_true_eq] at h ⊢
      exact (ht j).2 h
theorem table_cross {l : List Int} (h : tableB l = true) : tableB (crossQ l) = true := by
  unfold tableB allQ at h ⊢
  simp only [Bool.and_eq_true, decide_eq_true_eq] at h ⊢
  have e : crossQ l = crossL l := by unfold crossQ; rw [if_pos h.1]
  rw [e]
  refine ⟨crossL_len l, ?_⟩
  rw [List.all_eq_true]
  intro x hx
  unfold crossL at hx
  rw [List.mem_map] at hx
  obtain ⟨k, hk, rfl⟩ := hx
  rw [List.mem_range] at hk
  have hl : k % 8 * 8 + k / 8 < l.length := by omega
  rw [List.getD_eq_getElem?_getD, List.getElem?_eq_getElem hl]
  exact List.all_eq_true.1 h.2 _ (List.getElem_mem hl)
theorem good_nice {P : PicL} (G : GoodS P) (hb : ∀ p ∈ P.parts, All64 p.bs) : Nice P := ⟨G.fit, hb, good_tables G 0 (by decide), good_tables G 1 (by decide), good_tables G 2 (by decide), good_tables G 3 (by decide)⟩
theorem good_blks {P : PicL} (G : GoodS P) : ∀ p ∈ P.parts, p.bs.all blkB = true := fun p hp => by
  obtain ⟨k, hk, rfl⟩ := List.getElem_of_mem hp
  exact (part_facts hk (G.part k hk)).2.2.1
theorem full_cross {P : PicL} (U : Full P) : Full (crossP P) := by
  obtain ⟨e1, e2⟩ := cross_max P.parts
  exact ⟨by show P.h % (8 * maxH (P.parts.map crossPt)) = 0; rw [e1]; exact U.h, by show P.w % (8 * maxV (P.parts.map crossPt)) = 0; rw [e2]; exact U.w⟩
theorem full_kin {P Q : PicL} (U : Full P) (h : Q.parts.map kin = P.parts.map kin) (hw : Q.w = P.w) (hh : Q.h = P.h) : Full Q := ⟨by rw [hw, kin_maxH h]; exact U.w, by rw [hh, kin_maxV h]; exact U.h⟩
theorem good_cross {P : PicL} (G : GoodS P) (U : Full P) (hb : ∀ p ∈ P.parts, All64 p.bs) : GoodS (crossP P) := by
  have N := good_nice G hb
  refine good_like G (fit_cross G.fit) (full_cross U) (Int.mul_comm _ _) rfl (fun k hk => ?_) ?_ (fun p hp => ?_) (fun j => ?_) rfl
  · rw [cross_size G.fit k hk]
    exact Int.mul_comm _ _
  · unfold crossP
    rw [List.map_map]
    rfl
  · unfold crossP at hp
    simp only [List.mem_map] at hp
    obtain ⟨q, hq, rfl⟩ := hp
    show (crB _ _ q.bs).all blkB = true
    rw [crB_perm]
    have hs := (N.sides q hq).1
    exact permT_good (fun j hj => by rw [hs] at hj ⊢; exact cr_lt hj) (hb q hq) (good_blks G q hq)
  · have key : ∀ l : List Int, (tableB l = true → tableB (crossQ l) = true) ∧ (l.length = 0 → (crossQ l).length = 0) := fun l => ⟨table_cross, fun h => by rw [List.length_eq_zero_iff.1 h]; rfl⟩
    match j with
    | 0 => exact key P.q0
    | 1 => exact key P.q1
    | 2 => exact key P.q2
    | j + 3 => exact key P.q3
theorem good_flip {P : PicL} (G : GoodS P) (U : Full P) (hb : ∀ p ∈ P.parts, All64 p.bs) : GoodS (flipP P) := by
  have N := good_nice G hb
  refine good_like G (fit_flip G.fit) (full_kin U (flip_kin P) rfl rfl) rfl rfl (fun k hk => by rw [kin_size (flip_kin P) rfl rfl]) ?_ (fun p hp => ?_) (fun j => ⟨fun h => h, fun h => h⟩) rfl
  · unfold flipP
    rw [List.map_map]
    rfl
  · unfold flipP at hp
    simp only [List.mem_map] at hp
    obtain ⟨q, hq, rfl⟩ := hp
    show (flB _ q.bs).all blkB = true
    rw [flB_perm]
    have hs := (N.sides q hq).1
    exact permT_good (fun j hj => by rw [hs] at hj ⊢; exact fl_lt hj) (hb q hq) (good_blks G q hq)
theorem good_flop {P : PicL} (G : GoodS P) (U : Full P) (hb : ∀ p ∈ P.parts, All64 p.bs) : GoodS (flopP P) := by
  have N := good_nice G hb
  refine good_like G (fit_flop G.fit) (full_kin U (flop_kin P) rfl rfl) rfl rfl (fun k hk => by rw [kin_size (flop_kin P) rfl rfl]) ?_ (fun p hp => ?_) (fun j => ⟨fun h => h, fun h => h⟩) rfl
  · unfold flopP
    rw [List.map_map]
    rfl
  · unfold flopP at hp
    simp only [List.mem_map] at hp
    obtain ⟨q, hq, rfl⟩ := hp
    show (opB _ _ q.bs).all blkB = true
    rw [opB_perm]
    have hs := (N.sides q hq).1
    exact permT_good (fun j hj => by rw [hs] at hj ⊢; exact op_lt hj) (hb q hq) (good_blks G q hq)
end Go.Proofs.Ytnhalnjdlkdnkaa

namespace Go.Proofs.Ytnhalnjdlkdnkaa
set_option linter.unusedVariables false
set_option linter.unusedSimpArgs false
set_option maxRecDepth 20000

theorem gath_whole (x : PartL) (wd hi : Nat) (hw : x.wide = (wd : Int)) (hl : x.bs.length = wd * hi) : ∀ n, n ≤ hi → gathL x 0 0 (wd : Int) n = x.bs.take (n * wd)
  | 0, _ => by simp [gathL]
  | n + 1, h => by
    have ih := gath_whole x wd hi hw hl n (by omega)
    rw [gath_succ, ih]
    unfold rowL rowAt
    have e : ((0 * x.v + (n : Int)) * x.wide + 0 * x.h).toNat = n * wd := by
      rw [hw, Int.zero_mul, Int.zero_mul, Int.zero_add, Int.add_zero, ← Int.natCast_mul, Int.toNat_natCast]
    rw [e, Int.toNat_natCast, Nat.succ_mul, List.take_add]
theorem cut_whole {P : PicL} (G : GoodS P) : cutL P 0 0 P.w P.h = P := by
  have F := G.fit
  unfold cutL
  have e : P.parts.mapIdx (cutP P 0 0 P.w P.h) = P.parts := by
    apply List.ext_getElem (by simp)
    intro k h1 h2
    rw [List.getElem_mapIdx]
    obtain ⟨q1, q2, q3, q4⟩ := F.pt k h2
    obtain ⟨p1, p2, p3, p4⟩ := part_facts h2 (G.part k h2)
    have hs := szL_in P (k : Int)
    show cutX P.parts[k] 0 0 (sizeL P (k : Int)) (ownL P (k : Int)) = P.parts[k]
    unfold cutX cutB
    obtain ⟨wd, hwd⟩ : ∃ wd : Nat, (sizeL P (k : Int)).1 = (wd : Int) := ⟨(sizeL P (k : Int)).1.toNat, by rw [Int.toNat_of_nonneg hs.1.1]⟩
    obtain ⟨hi, hhi⟩ : ∃ hi : Nat, (sizeL P (k : Int)).2 = (hi : Int) := ⟨(sizeL P (k : Int)).2.toNat, by rw [Int.toNat_of_nonneg hs.2.1]⟩
    have hl : P.parts[k].bs.length = wd * hi := by
      rw [hwd, hhi, ← Int.natCast_mul] at q3
      omega
    have hg : gathL P.parts[k] 0 0 (sizeL P (k : Int)).1 (sizeL P (k : Int)).2.toNat = P.parts[k].bs := by
      rw [hwd, hhi, Int.toNat_natCast, gath_whole P.parts[k] wd hi (by rw [q1, hwd]) hl hi (Nat.le_refl _), Nat.mul_comm, ← hl, List.take_length]
    rw [hg]
    have hf : fullB P (k : Int) = true := by
      obtain ⟨h1', _, _, _, _, h6⟩ := head_facts h2 p1
      unfold fullB
      rw [partAt_nat h2]
      simp only [Bool.and_eq_true, decide_eq_true_eq, Bool.not_eq_true', decide_eq_false_iff_not]
      exact ⟨h1', h6⟩
    have hsh : shTo (sizeL P (k : Int)).1 (ownL P (k : Int)).1 (ownL P (k : Int)).2 P.parts[k].bs P.parts[k].bs.length = P.parts[k].bs := by
      have h := p4
      unfold shownL at h
      rw [if_pos hf, partAt_nat h2] at h
      exact h.symm
    rw [hsh, ← q1, ← q2]
  show ({ sidesL P P.w P.h with parts := P.parts.mapIdx (cutP P 0 0 P.w P.h) } : PicL) = P
  rw [e]
  rfl
/-- good, of whole units, with true blocks -/
structure Whole (P : PicL) : Prop where
  g : GoodS P
  u : Full P
  b : ∀ p ∈ P.parts, All64 p.bs
theorem Whole.nice {P : PicL} (W : Whole P) : Nice P := good_nice W.g W.b
theorem whole_cross {P : PicL} (W : Whole P) : Whole (crossP P) := ⟨good_cross W.g W.u W.b, full_cross W.u, (nice_cross W.nice).b⟩
theorem whole_flip {P : PicL} (W : Whole P) : Whole (flipP P) := ⟨good_flip W.g W.u W.b, full_kin W.u (flip_kin P) rfl rfl, (nice_flip W.nice).b⟩
theorem whole_flop {P : PicL} (W : Whole P) : Whole (flopP P) := ⟨good_flop W.g W.u W.b, full_kin W.u (flop_kin P) rfl rfl, (nice_flop W.nice).b⟩
theorem whole_tC {P : PicL} (W : Whole P) (c : Bool) : Whole (tC c P) := by
  unfold tC
  split
  · exact whole_cross W
  · exact W
theorem whole_t3 {P : PicL} (W : Whole P) (c f o : Bool) : Whole (t3 c f o P) := by
  have h1 := whole_tC W c
  have h2 : Whole (tF f (tC c P)) := by
    unfold tF
    split
    · exact whole_flip h1
    · exact h1
  unfold t3 tO
  split
  · exact whole_flop h2
  · exact h2
theorem turn_whole {P : PicL} (W : Whole P) (t : Int) (ht : 0 ≤ t ∧ t ≤ 7) : turnE P t true = 0 ∧ turnL P t true = t3 (crossB t) (flipB t) (flopB t) P := by
  have WC := whole_tC W (crossB t)
  have e1 : ∀ f, tW f (tC (crossB t) P).w (8 * maxH (tC (crossB t) P).parts) = (tC (crossB t) P).w := fun f => by
    unfold tW
    rw [WC.u.w]
    split <;> omega
  have e2 : ∀ f, tW f (tC (crossB t) P).h (8 * maxV (tC (crossB t) P).parts) = (tC (crossB t) P).h := fun f => by
    unfold tW
    rw [WC.u.h]
    split <;> omega
  have w1 := WC.g.w
  have h1 := WC.g.h
  have hb : badT (tC (crossB t) P) (turnWd P t) (turnHi P t) true = false := by
    unfold turnWd turnHi badT
    rw [e1, e2]
    simp only [Bool.true_and, Bool.or_eq_false_iff, decide_eq_false_iff_not]
    omega
  have hE : turnE P t true = 0 := by
    unfold turnE
    rw [(good_iff P).2 W.g, decide_eq_true ht, hb]
    rfl
  refine ⟨hE, ?_⟩
  unfold turnL
  rw [if_pos hE]
  unfold turnIn turnWd turnHi t3
  rw [e1, e2, cut_whole WC.g]
/-- what TurnTwice says, plainly -/
theorem twice_plain {P : PicL} (W : Whole P) (g h : Int) (hg : 0 ≤ g ∧ g ≤ 7) (hh : 0 ≤ h ∧ h ≤ 7) :
    Whole (turnL P g true) ∧ turnL (turnL P g true) h true = turnL P (behindN g h) true := by
  obtain ⟨_, e1⟩ := turn_whole W g hg
  have WX := whole_t3 W (crossB g) (flipB g) (flopB g)
  rw [e1]
  refine ⟨WX, ?_⟩
  obtain ⟨w1, w2, w3⟩ := behind_ways g h hg hh
  have hbn : 0 ≤ ((behindN g h : Nat) : Int) ∧ ((behindN g h : Nat) : Int) ≤ 7 := by
    refine ⟨by omega, ?_⟩
    unfold behindN
    rw [if_pos ⟨hg, hh⟩]
    have h7 : ∀ c f o, turnN c f o ≤ 7 := fun c f o => by cases c <;> cases f <;> cases o <;> decide
    have := h7 (crossB g != crossB h) ((if crossB h = true then flopB g else flipB g) != flipB h) ((if crossB h = true then flipB g else flopB g) != flopB h)
    omega
  rw [(turn_whole WX h hh).2, (turn_whole W _ hbn).2, t3_two W.nice, w1, w2, w3]
end Go.Proofs.Ytnhalnjdlkdnkaa

namespace Go.Proofs.Ytnhalnjdlkdnkaa
open Go.RowKit
set_option linter.unusedVariables false
set_option linter.unusedSimpArgs false

/-- take: whatever else may come up; one: nothing else may; two: one of the two -/
inductive Ord
  | done
  | take (k : Nat) (t : Ord)
  | one (k : Nat) (t : Ord)
  | two (k : Nat) (t : Ord) (k' : Nat) (t' : Ord)
def Ord.fuel : Ord → Nat
  | .done => 0
  | .take _ t => t.fuel + 1
  | .one _ t => t.fuel + 1
  | .two _ t _ _ => t.fuel + 1
section
variable {P : Program} {ops : Array Oper} {md : Region.Mode} {C : World → Prop} {Q : Exit → Act → World → Prop}
def ordB (md : Region.Mode) (ops : Array Oper) : Ord → Array Bool → Bool
  | .done, listed => (Region.ready md ops listed).isEmpty
  | .take k t, listed => (Region.ready md ops listed).contains k && Region.free md ops listed k && ordB md ops t (listed.setIfInBounds k true)
  | .one k t, listed => (Region.ready md ops listed == [k]) && ordB md ops t (listed.setIfInBounds k true)
  | .two k t k' t', listed => (Region.ready md ops listed == [k, k']) && (t.fuel == t'.fuel) && ordB md ops t (listed.setIfInBounds k true) && ordB md ops t' (listed.setIfInBounds k' true)
def stepOrd (P : Program) (ops : Array Oper) (C : World → Prop) (Q : Exit → Act → World → Prop) (o : Oper) (N : Act → World → Prop) (a : Act) (w : World) : Prop :=
  ∀ K : Act → World → Prop, Shut (∀ a' w', C w' → (C w' → N a' w') → K a' w') →
    if Region.wanted o (yielded ops a.tmps) = true then Oper.wp P o a w K (strictQ Q) else K (a.put o.dst undef) w
def wpOrd (P : Program) (ops : Array Oper) (C : World → Prop) (Q : Exit → Act → World → Prop) : Ord → Act → World → Prop
  | .done, a, w => Q .normal a w
  | .take k t, a, w => ∃ o, ops[k]? = some o ∧ ∃ v, YieldsIf P ops C o v a ∧ wpOrd P ops C Q t (a.put o.dst v) w
  | .one k t, a, w => ∃ o, ops[k]? = some o ∧ stepOrd P ops C Q o (wpOrd P ops C Q t) a w
  | .two k t k' t', a, w => (∃ o, ops[k]? = some o ∧ stepOrd P ops C Q o (wpOrd P ops C Q t) a w) ∧ ∃ o, ops[k']? = some o ∧ stepOrd P ops C Q o (wpOrd P ops C Q t') a w
theorem ord_take {l : List Oper} {k : Nat} {o : Oper} {t : Ord} {a : Act} {w : World} (ho : l[k]? = some o) (h : ∃ v, YieldsIf P l.toArray C o v a ∧ wpOrd P l.toArray C Q t (a.put o.dst v) w) : wpOrd P l.toArray C Q (.take k t) a w := ⟨o, by simpa using ho, h⟩
theorem ord_one {l : List Oper} {k : Nat} {o : Oper} {t : Ord} {a : Act} {w : World} (ho : l[k]? = some o) (h : ∀ K : Act → World → Prop, Shut (∀ a' w', C w' → (C w' → wpOrd P l.toArray C Q t a' w') → K a' w') →
    if Region.wanted o (yielded l.toArray a.tmps) = true then Oper.wp P o a w K (strictQ Q) else K (a.put o.dst undef) w) : wpOrd P l.toArray C Q (.one k t) a w := ⟨o, by simpa using ho, h⟩
theorem ord_two {l : List Oper} {k k' : Nat} {o o' : Oper} {t t' : Ord} {a : Act} {w : World} (ho : l[k]? = some o) (ho' : l[k']? = some o') (h : ∀ K : Act → World → Prop, Shut (∀ a' w', C w' → (C w' → wpOrd P l.toArray C Q t a' w') → K a' w') →
    if Region.wanted o (yielded l.toArray a.tmps) = true then Oper.wp P o a w K (strictQ Q) else K (a.put o.dst undef) w)
    (h' : ∀ K : Act → World → Prop, Shut (∀ a' w', C w' → (C w' → wpOrd P l.toArray C Q t' a' w') → K a' w') →
    if Region.wanted o' (yielded l.toArray a.tmps) = true then Oper.wp P o' a w K (strictQ Q) else K (a.put o'.dst undef) w) : wpOrd P l.toArray C Q (.two k t k' t') a w := ⟨⟨o, by simpa using ho, h⟩, o', by simpa using ho', h'⟩
theorem ord_done {a : Act} {w : World} (h : Q .normal a w) : wpOrd P ops C Q .done a w := h
theorem wpAnyH_ord (hsel : Region.noSelect ops = true) : ∀ (t : Ord) (listed : Array Bool) (a : Act) (w : World), ordB md ops t listed = true → C w → wpOrd P ops C Q t a w → wpAnyH P md ops (strictQ Q) C t.fuel listed a w := by
  intro t
  induction t with
  | done =>
    intro listed a w hB hC h
    simp only [ordB, List.isEmpty_iff] at hB
    exact ⟨hB, h⟩
  | take k t ih =>
    intro listed a w hB hC h
    simp only [ordB, Bool.and_eq_true] at hB
    obtain ⟨o, h0, v, hy, hr⟩ := h
    exact wpAnyH_take h0 hsel hB.1.2 hB.1.1 (fun _ _ _ h => h) hy hC (ih _ _ _ hB.2 hC hr)
  | one k t ih =>
    intro listed a w hB hC h
    simp only [ordB, Bool.and_eq_true, beq_iff_eq] at hB
    obtain ⟨o, h0, h1⟩ := h
    exact wpAnyH_ready (rs := [k]) hB.1 (by simp) (AllReadyH.cons h0 (fun K hK => h1 K (fun a' w' hC' hW => hK a' w' hC' (fun hC2 => ih _ _ _ hB.2 hC2 (hW hC2)))) AllReadyH.nil)
  | two k t k' t' ih ih' =>
    intro listed a w hB hC h
    simp only [ordB, Bool.and_eq_true, beq_iff_eq] at hB
    obtain ⟨⟨o, h0, h1⟩, o', h0', h1'⟩ := h
    exact wpAnyH_ready (rs := [k, k']) hB.1.1.1 (by simp) (AllReadyH.cons h0 (fun K hK => h1 K (fun a' w' hC' hW => hK a' w' hC' (fun hC2 => ih _ _ _ hB.1.2 hC2 (hW hC2))))
      (AllReadyH.cons h0' (fun K hK => h1' K (fun a' w' hC' hW => hK a' w' hC' (fun hC2 => by
        have h2 := ih' _ _ _ hB.2 hC2 (hW hC2)
        rw [← hB.1.1.2] at h2
        exact h2))) AllReadyH.nil))
theorem wp_region_ord {id : Nat} {a : Act} {w : World} {l : List Oper} (C : World → Prop) (t : Ord) (hm : P.follows .mixedOrders = true)
    (hB : (Region.noSelect l.toArray && decide (l.length = t.fuel) && ordB .any l.toArray t (Array.replicate l.toArray.size false)) = true) (hC : C w.drew)
    (h : C w.drew → wpOrd P l.toArray C Q t a w.drew) : (Code.region id l.toArray true).wp P Q a w := by
  simp only [Bool.and_eq_true, decide_eq_true_eq] at hB
  have H := wpAnyH_ord (md := .any) hB.1.1 t _ a w.drew hB.2 hC (h hC)
  rw [← hB.1.2] at H
  exact wp_region_any hm (wpAny_strict _ _ _ _ (wpAny_of_held _ _ _ _ H))
end
end Go.Proofs.Ytnhalnjdlkdnkaa
