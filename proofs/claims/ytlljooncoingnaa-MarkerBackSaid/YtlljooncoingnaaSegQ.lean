/- A JPEG's segments as plain lists: there and back, beginnings, what is behind. By an AI agent. -/
import Derived.Test.YtlljooncoingnaaSegP
namespace Go.Proofs.Ytlljooncoingnaa
set_option linter.unusedVariables false
set_option linter.unusedSimpArgs false

theorem byte_back (m : Int) (h0 : 0 ≤ m) (h : m < 256) : ((UInt8.ofNat m.toNat).toNat : Int) = m := by
  rw [UInt8.toNat_ofNat']; omega
/-- intervals that are written are read -/
theorem ivF_write : ∀ (ps : List (List UInt8)) (f k : Nat) (acc : List (List UInt8)) (c : UInt8) (q : List UInt8), ps ≠ [] → ps.length < f → k = acc.length → (c.toNat < 208 ∨ 216 ≤ c.toNat) → c ≠ 255 → c ≠ 0 →
    ivF f ((match ps with | [] => [] | p :: r => stuffL p ++ ivsL (k + 1) r) ++ 255 :: c :: q) acc = .inr (acc ++ ps, 255 :: c :: q)
  | [], _, _, _, _, _, h, _, _, _, _, _ => absurd rfl h
  | p :: r, f, k, acc, c, q, _, hf, hk, hc, hc1, hc2 => by
    obtain ⟨f, rfl⟩ : ∃ g, f = g + 1 := ⟨f - 1, by simp at hf; omega⟩
    simp only
    cases r with
    | nil =>
      have e : unst (stuffL p ++ ivsL (k + 1) [] ++ 255 :: c :: q) = (p, 255 :: c :: q) := by
        simp only [ivsL, List.append_nil]
        rw [unst_stuff, unst_stop c q hc2]; simp
      unfold ivF
      rw [e, markM_pair c q hc1]
      simp only
      rw [if_pos hc]
    | cons p2 r =>
      have hb : UInt8.ofNat (208 + k % 8) ≠ 0 := by
        intro h; have := congrArg UInt8.toNat h; rw [UInt8.toNat_ofNat'] at this; simp at this; omega
      have hb1 : UInt8.ofNat (208 + k % 8) ≠ 255 := by
        intro h; have := congrArg UInt8.toNat h; rw [UInt8.toNat_ofNat'] at this
        have e : (255 : UInt8).toNat = 255 := rfl
        omega
      have hb2 : (UInt8.ofNat (208 + k % 8)).toNat = 208 + k % 8 := by rw [UInt8.toNat_ofNat']; omega
      have e : unst (stuffL p ++ ivsL (k + 1) (p2 :: r) ++ 255 :: c :: q) = (p, 255 :: UInt8.ofNat (208 + k % 8) :: (stuffL p2 ++ ivsL (k + 1 + 1) r ++ 255 :: c :: q)) := by
        have e1 : ivsL (k + 1) (p2 :: r) = 255 :: UInt8.ofNat (208 + k % 8) :: (stuffL p2 ++ ivsL (k + 1 + 1) r) := by
          rw [ivsL, if_pos (by omega), show k + 1 - 1 = k by omega]; rfl
        rw [e1, List.append_assoc, unst_stuff]
        simp only [List.cons_append]
        rw [unst_stop _ _ hb]; simp
      have ih := ivF_write (p2 :: r) f (k + 1) (acc ++ [p]) c q (by simp) (by simp at hf ⊢; omega) (by simp; omega) hc hc1 hc2
      unfold ivF
      rw [e, markM_pair _ _ hb1]
      simp only
      rw [if_neg (by omega), if_neg (by rw [hb2, hk]; simp)]
      simp only at ih
      rw [ih]
      simp
theorem ivsL_zero (p : List UInt8) (r : List (List UInt8)) : ivsL 0 (p :: r) = stuffL p ++ ivsL 1 r := by simp [ivsL]
theorem ivsL_len : ∀ (ps : List (List UInt8)) (k : Nat), ps.length ≤ (ivsL k ps).length + 1 ∧ (ps.flatten).length ≤ (ivsL k ps).length ∧ (0 < k → ps.length ≤ (ivsL k ps).length)
  | [], k => by simp [ivsL]
  | p :: r, k => by
    have ih := ivsL_len r (k + 1)
    have hs := stuffL_len p
    simp only [ivsL, List.length_append, List.flatten_cons, List.length_cons]
    refine ⟨?_, ?_, fun hk => ?_⟩
    · have := ih.2.2 (by omega); omega
    · omega
    · have := ih.2.2 (by omega); rw [if_pos hk]; simp; omega
/-- what is good -/
theorem good_parts {it : Itm} (h : goodI it = true) : 1 < it.1 ∧ it.1 < 255 ∧ (it.1 < 208 ∨ 216 < it.1) ∧ it.1 ≠ 217 ∧ it.2.1.length ≤ 65533 ∧ (it.1 = 218 → it.2.2 ≠ []) ∧ (it.1 ≠ 218 → it.2.2 = []) := by
  simp only [goodI, Bool.and_eq_true, Bool.or_eq_true, decide_eq_true_eq] at h
  obtain ⟨⟨⟨⟨⟨h1, h2⟩, h3⟩, h4⟩, h5⟩, h6⟩ := h
  refine ⟨h1, h2, h3, h4, h5, fun e => ?_, fun e => ?_⟩
  · rw [if_pos e] at h6
    simp only [Bool.and_eq_true, decide_eq_true_eq] at h6
    intro e2; rw [e2] at h6; simp at h6
  · rw [if_neg e] at h6
    simp only [decide_eq_true_eq] at h6
    exact List.eq_nil_of_length_eq_zero h6
theorem head_item (its : List Itm) (hg : ∀ it ∈ its, goodI it = true) : ∃ (c : UInt8) (q : List UInt8), (its.map itemL).flatten ++ [255, 217] = 255 :: c :: q ∧ (c.toNat < 208 ∨ 216 ≤ c.toNat) ∧ c ≠ 255 ∧ c ≠ 0 := by
  cases its with
  | nil => exact ⟨217, [], rfl, by decide, by decide, by decide⟩
  | cons it r =>
    obtain ⟨h1, h2, h3, h4, h5, _⟩ := good_parts (hg it (by simp))
    have hb := byte_back it.1 (by omega) (by omega)
    refine ⟨UInt8.ofNat it.1.toNat, putL 2 (2 + it.2.1.length) ++ it.2.1 ++ ivsL 0 it.2.2 ++ (r.map itemL).flatten ++ [255, 217], by simp [itemL], by omega, ?_, ?_⟩
    · intro e; rw [e] at hb; have : (255 : UInt8).toNat = 255 := rfl; omega
    · intro e; rw [e] at hb; have : (0 : UInt8).toNat = 0 := rfl; omega
theorem segF_write : ∀ (its : List Itm) (f : Nat) (acc : List Itm), (∀ it ∈ its, goodI it = true) → its.length < f → segF f ((its.map itemL).flatten ++ [255, 217]) acc = (acc ++ its, 0)
  | [], f, acc, _, hf => by
    obtain ⟨f, rfl⟩ : ∃ g, f = g + 1 := ⟨f - 1, by simp at hf; omega⟩
    simp [segF, markM_pair]
  | it :: r, f, acc, hg, hf => by
    obtain ⟨f, rfl⟩ : ∃ g, f = g + 1 := ⟨f - 1, by simp at hf; omega⟩
    obtain ⟨h1, h2, h3, h4, h5, h6, h7⟩ := good_parts (hg it (by simp))
    have hb := byte_back it.1 (by omega) (by omega)
    obtain ⟨m, d, ivs⟩ := it
    simp only at h1 h2 h3 h4 h5 h6 h7 hb
    obtain ⟨c, hc⟩ : ∃ c, UInt8.ofNat m.toNat = c := ⟨_, rfl⟩
    rw [hc] at hb
    have c255 : c ≠ 255 := by intro e; rw [e] at hb; have : (255 : UInt8).toNat = 255 := rfl; omega
    have c217 : c ≠ 217 := by intro e; rw [e] at hb; have : (217 : UInt8).toNat = 217 := rfl; omega
    have cm : markedU c = true := by
      simp only [markedU, Bool.and_eq_true, Bool.or_eq_true, decide_eq_true_eq]; omega
    have c218 : c = 218 ↔ m = 218 := by
      constructor
      · intro e; rw [e] at hb; have : (218 : UInt8).toNat = 218 := rfl; omega
      · intro e; apply UInt8.toNat_inj.1; have : (218 : UInt8).toNat = 218 := rfl; omega
    have ih := segF_write r f (acc ++ [(m, d, ivs)]) (fun x hx => hg x (by simp [hx])) (by simp at hf; omega)
    have e : (((m, d, ivs) :: r).map itemL).flatten ++ [255, 217] = 255 :: c :: (putL 2 (2 + d.length) ++ d ++ (ivsL 0 ivs ++ ((r.map itemL).flatten ++ [255, 217]))) := by
      simp [itemL, hc]
    unfold segF
    rw [e, markM_pair c _ c255]
    simp only [if_neg c217, cm, Bool.not_true, Bool.false_eq_true, if_false]
    rw [dataM_make d _ h5]
    simp only
    by_cases hs : m = 218
    · rw [if_pos (c218.2 hs)]
      obtain ⟨c', q, e2, q1, q2, q3⟩ := head_item r (fun x hx => hg x (by simp [hx]))
      have hne := h6 hs
      obtain ⟨p0, t0, rfl⟩ : ∃ p t, ivs = p :: t := by
        cases ivs with
        | nil => exact absurd rfl hne
        | cons p r => exact ⟨p, r, rfl⟩
      have e3 : ivsL 0 (p0 :: t0) = stuffL p0 ++ ivsL (0 + 1) t0 := ivsL_zero p0 t0
      have hl := ivsL_len (p0 :: t0) 0
      rw [e2]
      have h8 := ivF_write (p0 :: t0) ((ivsL 0 (p0 :: t0) ++ 255 :: c' :: q).length + 1) 0 [] c' q hne (by simp at hl ⊢; omega) rfl q1 q2 q3
      simp only at h8
      rw [← e3] at h8
      rw [h8]
      simp only [List.nil_append]
      rw [← e2, hb, ih]
      simp
    · rw [if_neg (fun e => hs (c218.1 e))]
      have hn := h7 hs
      subst hn
      simp only [ivsL, List.nil_append]
      rw [hb, ih]
      simp
theorem parseS_write (its : List Itm) (hg : ∀ it ∈ its, goodI it = true) (hl : (writeS its).length ≤ 1048576) : parseS (writeS its) = (its, 0) := by
  unfold parseS
  rw [if_neg (by omega), if_neg (by simp [writeS])]
  have hlen : its.length < (writeS its).length := by
    have : ∀ l : List Itm, l.length ≤ (l.map itemL).flatten.length := fun l => by
      induction l with
      | nil => simp
      | cons x r ih =>
        have h2 : 2 ≤ (itemL x).length := by unfold itemL; simp only [List.length_append, List.length_cons, List.length_nil]; omega
        simp only [List.map_cons, List.flatten_cons, List.length_append, List.length_cons]; omega
    have := this its
    have e : (writeS its).length = 2 + ((its.map itemL).flatten.length + 2) := by simp only [writeS, List.length_append, List.length_cons, List.length_nil]
    omega
  have e : (writeS its).drop 2 = (its.map itemL).flatten ++ [255, 217] := by simp [writeS]
  rw [e, segF_write its _ [] hg hlen]
  rfl

/-! ## what is read is good -/
theorem ivF_some : ∀ (f : Nat) (l : List UInt8) (acc ivs : List (List UInt8)) (r : List UInt8), ivF f l acc = .inr (ivs, r) → ∃ ps, ps ≠ [] ∧ ivs = acc ++ ps ∧ (match ps with | [] => [] | p :: t => stuffL p ++ ivsL (acc.length + 1) t).length + r.length ≤ l.length
  | 0, l, acc, ivs, r, h => by simp [ivF] at h
  | f + 1, l, acc, ivs, r, h => by
    unfold ivF at h
    cases hm : markM (unst l).2 with
    | inl e => rw [hm] at h; cases h
    | inr p =>
      obtain ⟨c, r'⟩ := p
      have h1 := markM_short hm
      have h2 := unst_len l
      rw [hm] at h
      simp only at h
      split at h
      · simp only [Sum.inr.injEq, Prod.mk.injEq] at h
        refine ⟨[(unst l).1], by simp, h.1.symm, ?_⟩
        rw [← h.2]; simp [ivsL]; omega
      · split at h
        · cases h
        · rename_i h3
          obtain ⟨ps, hp, e1, e2⟩ := ivF_some f r' _ ivs r h
          refine ⟨(unst l).1 :: ps, by simp, by rw [e1]; simp, ?_⟩
          cases ps with
          | nil => exact absurd rfl hp
          | cons p t =>
            simp only [List.length_append, List.length_cons, List.length_nil, Nat.zero_add] at e2 ⊢
            simp only [ivsL, List.length_append, if_pos (Nat.succ_pos acc.length)]
            simp
            omega
theorem ivF_err : ∀ (f : Nat) (l : List UInt8) (acc : List (List UInt8)), ivF f l acc ≠ .inl 0
  | 0, l, acc => by simp [ivF]
  | f + 1, l, acc => by
    unfold ivF
    cases hm : markM (unst l).2 with
    | inl e =>
      have : e ≠ 0 := by
        rintro rfl
        generalize (unst l).2 = z at hm
        cases z with
        | nil => simp [markM] at hm
        | cons x t =>
          simp only [markM] at hm
          split at hm
          · simp at hm
          · split at hm <;> simp at hm
      simpa using this
    | inr p =>
      obtain ⟨c, r⟩ := p
      simp only
      split
      · simp
      · split
        · simp
        · exact ivF_err f r _
theorem segF_some : ∀ (f : Nat) (l : List UInt8) (acc cs : List Itm), l.length ≤ 65536 → segF f l acc = (cs, 0) → ∃ ds, cs = acc ++ ds ∧ (∀ it ∈ ds, goodI it = true) ∧ ((ds.map itemL).flatten ++ [255, 217]).length ≤ l.length
  | 0, l, acc, cs, hl, h => by simp [segF] at h
  | f + 1, l, acc, cs, hl, h => by
    unfold segF at h
    cases hm : markM l with
    | inl e =>
      rw [hm] at h
      simp only [Prod.mk.injEq] at h
      obtain ⟨_, rfl⟩ := h
      cases l with
      | nil => simp [markM] at hm
      | cons x t =>
        simp only [markM] at hm
        split at hm
        · simp at hm
        · split at hm <;> simp at hm
    | inr p =>
      obtain ⟨c, r⟩ := p
      have h1 := markM_short hm
      rw [hm] at h
      simp only at h
      split at h
      · split at h
        · simp at h
        · simp only [Prod.mk.injEq, and_true] at h
          exact ⟨[], by simp [h], by simp, by simp; omega⟩
      · rename_i c217
        split at h
        · simp at h
        · rename_i cm
          simp only [Bool.not_eq_true', Bool.not_eq_false] at cm
          have hc : c.toNat < 256 := c.toNat_lt
          simp only [markedU, Bool.and_eq_true, Bool.or_eq_true, decide_eq_true_eq] at cm
          have n217 : c.toNat ≠ 217 := fun e => c217 (UInt8.toNat_inj.1 e)
          cases hd : dataM r with
          | inl e =>
            rw [hd] at h
            simp only [Prod.mk.injEq] at h
            obtain ⟨_, rfl⟩ := h
            unfold dataM at hd
            split at hd
            · simp at hd
            · split at hd
              · simp at hd
              · split at hd <;> simp at hd
          | inr q =>
            obtain ⟨d, r2⟩ := q
            have h2 := dataM_short hd
            obtain ⟨_, hd5⟩ := dataM_some hd
            rw [hd] at h
            simp only at h
            split at h
            · rename_i c218
              have n218 : c.toNat = 218 := by rw [c218]; rfl
              cases hi : ivF (r2.length + 1) r2 [] with
              | inl e =>
                rw [hi] at h
                simp only [Prod.mk.injEq] at h
                obtain ⟨_, rfl⟩ := h
                exact absurd hi (ivF_err _ _ _)
              | inr s =>
                obtain ⟨ivs, r3⟩ := s
                rw [hi] at h
                obtain ⟨ps, hp, e1, e2⟩ := ivF_some _ _ _ _ _ hi
                rw [List.nil_append] at e1
                subst e1
                obtain ⟨ds, e3, e4, e5⟩ := segF_some f r3 _ cs (by omega) h
                have e6 : (ivsL 0 ivs).length + r3.length ≤ r2.length := by
                  cases ivs with
                  | nil => exact absurd rfl hp
                  | cons p t => rw [ivsL_zero]; exact e2
                have hlen := (ivsL_len ivs 0).1
                refine ⟨((c.toNat : Int), d, ivs) :: ds, by rw [e3]; simp, ?_, ?_⟩
                · intro it hit
                  simp only [List.mem_cons] at hit
                  rcases hit with rfl | hit
                  · have : 0 < ivs.length := by cases ivs with
                      | nil => exact absurd rfl hp
                      | cons p t => simp
                    simp only [goodI, Bool.and_eq_true, Bool.or_eq_true, decide_eq_true_eq]
                    rw [if_pos (by omega)]
                    simp only [Bool.and_eq_true, decide_eq_true_eq]
                    omega
                  · exact e4 it hit
                · simp only [List.map_cons, List.flatten_cons, List.length_append, itemL, putL_length] at e5 ⊢
                  simp at e5 ⊢
                  omega
            · rename_i c218
              have n218 : c.toNat ≠ 218 := fun e => c218 (UInt8.toNat_inj.1 e)
              obtain ⟨ds, e3, e4, e5⟩ := segF_some f r2 _ cs (by omega) h
              refine ⟨((c.toNat : Int), d, []) :: ds, by rw [e3]; simp, ?_, ?_⟩
              · intro it hit
                simp only [List.mem_cons] at hit
                rcases hit with rfl | hit
                · simp only [goodI, Bool.and_eq_true, Bool.or_eq_true, decide_eq_true_eq]
                  rw [if_neg (by omega)]
                  simp only [decide_eq_true_eq, List.length_nil]
                  refine ⟨⟨⟨⟨⟨?_, ?_⟩, ?_⟩, ?_⟩, ?_⟩, ?_⟩
                  all_goals first | omega | trivial | rfl
                · exact e4 it hit
              · simp only [List.map_cons, List.flatten_cons, List.length_append, itemL, putL_length, ivsL] at e5 ⊢
                simp at e5 ⊢
                omega
/-! ## more bytes, fewer bytes -/
theorem segF_more : ∀ (f : Nat) (l : List UInt8) (acc cs : List Itm) (x : List UInt8), x ≠ [] → segF f l acc = (cs, 0) → ∀ g, (l ++ x).length < g → segF g (l ++ x) acc = ([], 2)
  | 0, l, acc, cs, x, _, h, _, _ => by simp [segF] at h
  | f + 1, l, acc, cs, x, hx, h, g, hg => by
    obtain ⟨g, rfl⟩ : ∃ g', g = g' + 1 := ⟨g - 1, by omega⟩
    rw [List.length_append] at hg
    unfold segF at h ⊢
    cases hm : markM l with
    | inl e =>
      rw [hm] at h
      simp only [Prod.mk.injEq] at h
      obtain ⟨_, rfl⟩ := h
      cases l with
      | nil => simp [markM] at hm
      | cons x t =>
        simp only [markM] at hm
        split at hm
        · simp at hm
        · split at hm <;> simp at hm
    | inr p =>
      obtain ⟨c, r⟩ := p
      have h1 := markM_short hm
      rw [hm] at h
      rw [markM_more hm x]
      simp only at h ⊢
      split at h
      · rename_i c217
        rw [if_pos c217, if_pos (by simp [hx])]
      · rename_i c217
        rw [if_neg c217]
        split at h
        · simp at h
        · rename_i cm
          rw [if_neg cm]
          cases hd : dataM r with
          | inl e =>
            rw [hd] at h
            simp only [Prod.mk.injEq] at h
            obtain ⟨_, rfl⟩ := h
            unfold dataM at hd
            split at hd
            · simp at hd
            · split at hd
              · simp at hd
              · split at hd <;> simp at hd
          | inr q =>
            obtain ⟨d, r2⟩ := q
            have h2 := dataM_short hd
            rw [hd] at h
            rw [dataM_more hd x]
            simp only at h ⊢
            split at h
            · rename_i c218
              rw [if_pos c218]
              cases hi : ivF (r2.length + 1) r2 [] with
              | inl e =>
                rw [hi] at h
                simp only [Prod.mk.injEq] at h
                obtain ⟨_, rfl⟩ := h
                exact absurd hi (ivF_err _ _ _)
              | inr s =>
                obtain ⟨ivs, r3⟩ := s
                rw [hi] at h
                have h3 := ivF_le _ _ _ _ _ hi
                rw [ivF_fuel (r2.length + 1) ((r2 ++ x).length + 1 + r2.length) r2 [] (by omega) (by omega)] at hi
                have h4 := ivF_more _ _ _ _ _ x hi
                rw [ivF_fuel _ ((r2 ++ x).length + 1) _ _ (by omega) (by omega)] at h4
                rw [h4]
                exact segF_more f r3 _ cs x hx h g (by rw [List.length_append]; omega)
            · rename_i c218
              rw [if_neg c218]
              exact segF_more f r2 _ cs x hx h g (by rw [List.length_append]; omega)
theorem segF_cut : ∀ (f : Nat) (l : List UInt8) (acc cs : List Itm) (k : Nat), k < l.length → segF f l acc = (cs, 0) → ∀ g, k < g → segF g (l.take k) acc = ([], 8)
  | 0, l, acc, cs, k, _, h, _, _ => by simp [segF] at h
  | f + 1, l, acc, cs, k, hk, h, g, hg => by
    obtain ⟨g, rfl⟩ : ∃ g', g = g' + 1 := ⟨g - 1, by omega⟩
    unfold segF at h ⊢
    cases hm : markM l with
    | inl e =>
      rw [hm] at h
      simp only [Prod.mk.injEq] at h
      obtain ⟨_, rfl⟩ := h
      cases l with
      | nil => simp [markM] at hm
      | cons x t =>
        simp only [markM] at hm
        split at hm
        · simp at hm
        · split at hm <;> simp at hm
    | inr p =>
      obtain ⟨c, r⟩ := p
      rw [hm] at h
      rcases markM_cut hm k hk with e8 | ⟨j, hj, e⟩
      · rw [e8]
      · have hs := markM_short e
        rw [List.length_take, List.length_take, Nat.min_eq_left (Nat.le_of_lt hj), Nat.min_eq_left (Nat.le_of_lt hk)] at hs
        rw [e]
        simp only at h ⊢
        split at h
        · split at h
          · simp at h
          · rename_i hr
            have : r = [] := Decidable.not_not.1 hr
            subst this
            simp at hj
        · rename_i c217
          rw [if_neg c217]
          split at h
          · simp at h
          · rename_i cm
            rw [if_neg cm]
            cases hd : dataM r with
            | inl e =>
              rw [hd] at h
              simp only [Prod.mk.injEq] at h
              obtain ⟨_, rfl⟩ := h
              unfold dataM at hd
              split at hd
              · simp at hd
              · split at hd
                · simp at hd
                · split at hd <;> simp at hd
            | inr q =>
              obtain ⟨d, r2⟩ := q
              rw [hd] at h
              rcases dataM_cut hd j hj with e8 | ⟨i, hi, e2⟩
              · rw [e8]
              · have hs2 := dataM_short e2
                rw [List.length_take, List.length_take, Nat.min_eq_left (Nat.le_of_lt hi), Nat.min_eq_left (Nat.le_of_lt hj)] at hs2
                rw [e2]
                simp only at h ⊢
                split at h
                · rename_i c218
                  rw [if_pos c218]
                  cases hv : ivF (r2.length + 1) r2 [] with
                  | inl e =>
                    rw [hv] at h
                    simp only [Prod.mk.injEq] at h
                    obtain ⟨_, rfl⟩ := h
                    exact absurd hv (ivF_err _ _ _)
                  | inr s =>
                    obtain ⟨ivs, r3⟩ := s
                    rw [hv] at h
                    have lt : (r2.take i).length = i := by rw [List.length_take]; omega
                    rcases ivF_cut _ _ _ _ _ i hv hi with e8 | ⟨n, hn, e3⟩
                    · rw [ivF_fuel _ ((r2.take i).length + 1) _ _ (by omega) (by omega)] at e8
                      rw [e8]
                    · rw [ivF_fuel _ ((r2.take i).length + 1) _ _ (by omega) (by omega)] at e3
                      have hle := ivF_le _ _ _ _ _ e3
                      rw [e3]
                      simp only
                      rw [List.length_take, Nat.min_eq_left (Nat.le_of_lt hn), lt] at hle
                      exact segF_cut f r3 _ cs n hn h g (by omega)
                · rename_i c218
                  rw [if_neg c218]
                  exact segF_cut f r2 _ cs i hi h g (by omega)
end Go.Proofs.Ytlljooncoingnaa
