/- Good pictures, cut, are good: plain. By an AI agent. -/
import Derived.Test.YtnhalnjdlkdnkaaCutW
namespace Go.Proofs.Ytnhalnjdlkdnkaa
set_option linter.unusedVariables false
set_option linter.unusedSimpArgs false
set_option maxRecDepth 20000

theorem sum_ge (P : PicL) : ∀ (n k : Nat), k < n → (sizeL P (k : Int)).1 * (sizeL P (k : Int)).2 ≤ sumTo P n
  | 0, k, h => by omega
  | n + 1, k, h => by
    have SI := szL_in P (n : Int)
    have mm := mul_in (a := (sizeL P (n : Int)).1) (b := (sizeL P (n : Int)).2) (m := 262140) (n := 262140) SI.1 SI.2
    have s0 := sumTo_in P n
    unfold sumTo
    by_cases e : k = n
    · subst e; omega
    · have := sum_ge P n k (by omega); omega
structure GoodS (P : PicL) : Prop where
  n : 1 ≤ P.parts.length ∧ P.parts.length ≤ 4
  w : 1 ≤ P.w ∧ P.w ≤ 65535
  h : 1 ≤ P.h ∧ P.h ≤ 65535
  r : 0 ≤ P.restart ∧ P.restart ≤ 65535
  px : P.w * P.h ≤ 262144
  sum : sumTo P P.parts.length ≤ 65536
  part : ∀ k : Nat, k < P.parts.length → partB P (k : Int) = true
  qs : quantsB P 4 = true
  ks : P.kept.all segB = true
theorem good_iff (P : PicL) : goodB P = true ↔ GoodS P := by
  unfold goodB topB partsB tooB sidedB
  simp only [Bool.and_eq_true, decide_eq_true_eq, Bool.not_eq_true', Bool.or_eq_false_iff, decide_eq_false_iff_not]
  constructor
  · rintro ⟨⟨⟨⟨⟨⟨⟨⟨⟨h1, h2⟩, h3, h4⟩, h5, h6⟩, h7⟩, h8⟩, h9, h10⟩, h11⟩, h12⟩, h13⟩
    exact ⟨⟨h1, h2⟩, ⟨h3, h4⟩, ⟨h5, h6⟩, ⟨h7, h8⟩, by omega, by omega, fun k hk => List.all_eq_true.1 h11 k (List.mem_range.2 hk), h12, h13⟩
  · intro G
    exact ⟨⟨⟨⟨⟨⟨⟨⟨⟨G.n.1, G.n.2⟩, G.w⟩, G.h⟩, G.r.1⟩, G.r.2⟩, by have := G.px; omega, by have := G.sum; omega⟩, List.all_eq_true.2 fun k hk => G.part k (List.mem_range.1 hk)⟩, G.qs⟩, G.ks⟩
theorem head_facts {P : PicL} {k : Nat} (hk : k < P.parts.length) (h : headB P (k : Int) = true) : (sizeL P (k : Int)).1 ≠ 0 ∧ (0 ≤ P.parts[k].id ∧ P.parts[k].id ≤ 255) ∧ (0 ≤ P.parts[k].tq ∧ P.parts[k].tq ≤ 3) ∧ P.parts[k].wide = (sizeL P (k : Int)).1 ∧ P.parts[k].high = (sizeL P (k : Int)).2 ∧ (P.parts[k].bs.length : Int) = (sizeL P (k : Int)).1 * (sizeL P (k : Int)).2 := by
  unfold headB at h
  rw [partAt_nat hk] at h
  simp only [Bool.and_eq_true, decide_eq_true_eq, Bool.not_eq_true', decide_eq_false_iff_not] at h
  obtain ⟨⟨⟨⟨⟨⟨⟨h1, h2⟩, h3⟩, h4⟩, h5⟩, h6⟩, h7⟩, h8⟩ := h
  exact ⟨h1, ⟨h2, h3⟩, ⟨h4, h5⟩, h6, h7, h8⟩
theorem part_facts {P : PicL} {k : Nat} (hk : k < P.parts.length) (h : partB P (k : Int) = true) : headB P (k : Int) = true ∧ (P.parts.take k).all (otherId P.parts[k]) = true ∧ P.parts[k].bs.all blkB = true ∧ P.parts[k].bs = shownL P (k : Int) := by
  unfold partB idB at h
  rw [partAt_nat hk] at h
  simp only [Bool.and_eq_true, decide_eq_true_eq, Int.toNat_natCast] at h
  obtain ⟨⟨⟨h1, h2⟩, h3⟩, h4⟩ := h
  exact ⟨h1, h2, h3, h4⟩
theorem GoodS.fit {P : PicL} (G : GoodS P) : Fit P := by
  have h0 := head_facts (by have := G.n; omega) (part_facts (by have := G.n; omega) (G.part 0 (by have := G.n; omega))).1
  have hf : P.parts.all facOk = true := by
    have h := h0.1
    unfold sizeL at h
    rcases hm : mostL P ((0 : Nat) : Int) with _ | ⟨a, b⟩
    · rw [hm] at h; simp at h
    · unfold mostL at hm
      split at hm
      · rename_i hc
        simp only [Bool.and_eq_true] at hc
        exact hc.2
      · cases hm
  refine ⟨G.n, G.w, G.h, hf, fun k hk => ?_⟩
  obtain ⟨_, _, _, h1, h2, h3⟩ := head_facts hk (part_facts hk (G.part k hk)).1
  exact ⟨h1, h2, h3, Int.le_trans (sum_ge P _ k hk) G.sum⟩
theorem sum_le {P Q : PicL} (hn : ∀ k : Nat, k < P.parts.length → (sizeL Q (k : Int)).1 * (sizeL Q (k : Int)).2 ≤ (sizeL P (k : Int)).1 * (sizeL P (k : Int)).2) : ∀ n, n ≤ P.parts.length → sumTo Q n ≤ sumTo P n
  | 0, _ => by simp [sumTo]
  | n + 1, h => by
    unfold sumTo
    have := sum_le hn n (by omega)
    have := hn n (by omega)
    omega
theorem shB_idem (sw ow oh : Int) (i : Nat) (b : List Int) : shB sw ow oh i (shB sw ow oh i b) = shB sw ow oh i b := by
  unfold shB
  split <;> rfl
theorem shTo_idem (sw ow oh : Int) (bs : List (List Int)) (n : Nat) : shTo sw ow oh (shTo sw ow oh bs n) n = shTo sw ow oh bs n := by
  apply List.ext_getElem (by simp [shTo])
  intro i h1 h2
  have hi : i < bs.length := by rw [shTo_length] at h2; exact h2
  rw [shTo_at _ _ _ _ _ _ (by rw [shTo_length]; exact hi), shTo_at _ _ _ _ _ _ hi]
  split
  · rw [shB_idem]
  · rfl
theorem zero_blk : blkB zero64 = true := by decide
theorem shTo_mem {sw ow oh : Int} {bs : List (List Int)} {n : Nat} {b : List Int} (h : b ∈ shTo sw ow oh bs n) : b = zero64 ∨ b ∈ bs := by
  obtain ⟨i, hi, rfl⟩ := List.getElem_of_mem h
  rw [shTo_length] at hi
  rw [shTo_at _ _ _ _ _ _ hi]
  split
  · unfold shB
    split
    · exact .inl rfl
    · exact .inr (List.getElem_mem hi)
  · exact .inr (List.getElem_mem hi)
theorem gath_mem {x : PartL} {c r sw : Int} {n : Nat} {b : List Int} (h : b ∈ gathL x c r sw n) : b ∈ x.bs := by
  unfold gathL at h
  obtain ⟨i, _, hb⟩ := List.mem_flatMap.1 h
  exact List.mem_of_mem_drop (List.mem_of_mem_take hb)
theorem kin_id {ps qs : List PartL} (h : ps.map kin = qs.map kin) (k : Nat) (p q : PartL) (hp : p.id = q.id) : (ps.take k).all (otherId p) = (qs.take k).all (otherId q) := by
  have e : ∀ (l : List PartL) (z : PartL), (l.take k).all (otherId z) = ((l.map kin).take k).all fun t => !decide (z.id = t.1) := fun l z => by rw [← List.map_take, List.all_map]; rfl
  rw [e, e, h, hp]
theorem kin_used {ps qs : List PartL} (h : ps.map kin = qs.map kin) (t : Int) : usedB ps t = usedB qs t := by
  have e : ∀ l : List PartL, usedB l t = (l.map kin).any fun q => decide (q.2.2.2 = t) := fun l => by unfold usedB; rw [List.any_map]; rfl
  rw [e, e, h]
theorem quants_same {P Q : PicL} (h : ∀ t : Int, usedB Q.parts t = usedB P.parts t) (hq : ∀ j, qL Q j = qL P j) : quantsB Q 4 = quantsB P 4 := by
  unfold quantsB
  congr 1
  funext j
  unfold quantB
  rw [h, hq]
theorem cutL_size (P : PicL) (c r w h : Int) (k : Int) : sizeL (cutL P c r w h) k = sizeL (sidesL P w h) k ∧ ownL (cutL P c r w h) k = ownL (sidesL P w h) k :=
  ⟨kin_size (P := cutL P c r w h) (Q := sidesL P w h) (kin_cut P c r w h) rfl rfl k, kin_own (P := cutL P c r w h) (Q := sidesL P w h) (kin_cut P c r w h) rfl rfl k⟩
theorem good_cut {P : PicL} {c r w h : Int} (G : GoodS P) (I : In P c r w h) : GoodS (cutL P c r w h) := by
  have F := G.fit
  obtain ⟨hw, hh, _, _⟩ := I.sides F
  have hl : (cutL P c r w h).parts.length = P.parts.length := by unfold cutL; simp
  have hW := F.w
  have hH := F.h
  refine ⟨by rw [hl]; exact G.n, ⟨hw.1, by show w ≤ 65535; omega⟩, ⟨hh.1, by show h ≤ 65535; omega⟩, G.r, ?_, ?_, fun k hk => ?_, ?_, G.ks⟩
  · show w * h ≤ 262144
    exact Int.le_trans (prod_le (by omega) (by omega) hw.2 hh.2) G.px
  · rw [hl]
    refine Int.le_trans (sum_le (fun k hk => ?_) _ (Nat.le_refl _)) G.sum
    rw [(cutL_size P c r w h (k : Int)).1]
    exact cut_prod F I k hk
  · have hkP : k < P.parts.length := by rw [hl] at hk; exact hk
    obtain ⟨e1, e2⟩ := cutL_size P c r w h (k : Int)
    have ep := (cut_part P c r w h k hkP).2 hk
    obtain ⟨⟨s1, s2⟩, s3, s4⟩ := cut_sizes F I k hkP
    obtain ⟨p1, p2, p3, p4⟩ := part_facts hkP (G.part k hkP)
    obtain ⟨h1, h2, h3, h4, h5, h6⟩ := head_facts hkP p1
    have gl := gath_len F I k hkP (sizeL (sidesL P w h) (k : Int)).2.toNat (by omega)
    have bl : (((cutL P c r w h).parts[k]).bs.length : Int) = (sizeL (sidesL P w h) (k : Int)).1 * (sizeL (sidesL P w h) (k : Int)).2 := by
      rw [ep]
      show ((cutB P.parts[k] c r _ _).length : Int) = _
      rw [cutB_len, gl, Int.natCast_mul, Int.mul_comm, Int.toNat_of_nonneg (by omega), Int.toNat_of_nonneg (by omega)]
    have hb : ((cutL P c r w h).parts[k]).bs = cutB P.parts[k] c r (sizeL (sidesL P w h) (k : Int)) (ownL (sidesL P w h) (k : Int)) := by rw [ep]; rfl
    have hhd : headB (cutL P c r w h) (k : Int) = true := by
      unfold headB
      rw [partAt_nat hk, e1, bl]
      simp only [Bool.and_eq_true, decide_eq_true_eq, Bool.not_eq_true', decide_eq_false_iff_not]
      rw [ep]
      exact ⟨⟨⟨⟨⟨⟨⟨by omega, h2.1⟩, h2.2⟩, h3.1⟩, h3.2⟩, rfl⟩, rfl⟩, trivial⟩
    have hfull : fullB (cutL P c r w h) (k : Int) = true := by
      unfold fullB
      rw [partAt_nat hk, e1, bl]
      simp only [Bool.and_eq_true, decide_eq_true_eq, Bool.not_eq_true', decide_eq_false_iff_not]
      exact ⟨by omega, trivial⟩
    unfold partB idB
    rw [hhd, partAt_nat hk]
    simp only [Bool.true_and, Bool.and_eq_true, decide_eq_true_eq, Int.toNat_natCast]
    refine ⟨⟨?_, ?_⟩, ?_⟩
    · rw [kin_id (kin_cut P c r w h) k _ P.parts[k] (by rw [ep]; rfl)]
      exact p2
    · rw [List.all_eq_true]
      intro b hbm
      rw [hb] at hbm
      rcases shTo_mem hbm with rfl | hbm
      · exact zero_blk
      · exact List.all_eq_true.1 p3 b (gath_mem hbm)
    · unfold shownL
      rw [if_pos hfull, e1, e2, partAt_nat hk, hb]
      unfold cutB
      rw [shTo_length]
      exact (shTo_idem _ _ _ _ _).symm
  · rw [quants_same (P := P) (fun t => kin_used (kin_cut P c r w h) t) (fun j => rfl)]
    exact G.qs
end Go.Proofs.Ytnhalnjdlkdnkaa
