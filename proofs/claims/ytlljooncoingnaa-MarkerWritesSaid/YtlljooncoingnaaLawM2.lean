/- MarkerParses: the law's walk. By an AI agent. -/
import Derived.Test.YtlljooncoingnaaLawM1
namespace Go.Proofs.Ytlljooncoingnaa
open Go.RowKit Go.BigFrame
set_option linter.unusedVariables false
set_option linter.unusedSimpArgs false

theorem segF_len : ∀ (f : Nat) (l : List UInt8) (acc : List Itm), (segF f l acc).1.length ≤ acc.length + l.length
  | 0, l, acc => by simp [segF]
  | f + 1, l, acc => by
    unfold segF
    cases hm : markM l with
    | inl n => simp
    | inr p =>
      obtain ⟨c, r⟩ := p
      have h1 := markM_short hm
      simp only
      split
      · split <;> simp
      · split
        · simp
        · cases hd : dataM r with
          | inl n => simp
          | inr q =>
            obtain ⟨d, r2⟩ := q
            have h2 := dataM_short hd
            simp only
            split
            · cases hi : ivF (r2.length + 1) r2 [] with
              | inl n => simp
              | inr s =>
                obtain ⟨ivs, r3⟩ := s
                have h3 := ivF_le _ _ _ _ _ hi
                simp only
                have := segF_len f r3 (acc ++ [((c.toNat : Int), d, ivs)])
                rw [List.length_append, List.length_singleton] at this
                omega
            · have := segF_len f r2 (acc ++ [((c.toNat : Int), d, [])])
              rw [List.length_append, List.length_singleton] at this
              omega
theorem parse_len (l : List UInt8) : (parseS l).1.length ≤ l.length := by
  unfold parseS
  split
  · simp
  · split
    · simp
    · have := segF_len l.length (l.drop 2) []
      rw [List.length_drop, List.length_nil] at this
      omega
theorem ivF_num : ∀ (f : Nat) (l : List UInt8) (acc ivs : List (List UInt8)) (r : List UInt8), ivF f l acc = .inr (ivs, r) → ivs.length ≤ acc.length + l.length + 1
  | 0, l, acc, ivs, r, h => by simp [ivF] at h
  | f + 1, l, acc, ivs, r, h => by
    unfold ivF at h
    have hu := unst_len l
    cases hm : markM (unst l).2 with
    | inl e => rw [hm] at h; cases h
    | inr p =>
      obtain ⟨c, r'⟩ := p
      have h1 := markM_short hm
      rw [hm] at h
      simp only at h
      split at h
      · simp only [Sum.inr.injEq, Prod.mk.injEq] at h
        rw [← h.1, List.length_append, List.length_singleton]; omega
      · split at h
        · cases h
        · have := ivF_num f r' _ ivs r h
          rw [List.length_append, List.length_singleton] at this
          omega
theorem segF_ivs : ∀ (f : Nat) (l : List UInt8) (acc : List Itm) (n : Nat), (∀ it ∈ acc, it.2.2.length ≤ n) → l.length ≤ n → ∀ it ∈ (segF f l acc).1, it.2.2.length ≤ n
  | 0, l, acc, n, ha, hl => by simp [segF]
  | f + 1, l, acc, n, ha, hl => by
    unfold segF
    cases hm : markM l with
    | inl n => simp
    | inr p =>
      obtain ⟨c, r⟩ := p
      have h1 := markM_short hm
      simp only
      split
      · split
        · simp
        · exact ha
      · split
        · simp
        · cases hd : dataM r with
          | inl n => simp
          | inr q =>
            obtain ⟨d, r2⟩ := q
            have h2 := dataM_short hd
            simp only
            split
            · cases hi : ivF (r2.length + 1) r2 [] with
              | inl n => simp
              | inr s =>
                obtain ⟨ivs, r3⟩ := s
                have h3 := ivF_le _ _ _ _ _ hi
                have h4 := ivF_num _ _ _ _ _ hi
                refine segF_ivs f r3 _ n (fun it hit => ?_) (by omega)
                rw [List.mem_append] at hit
                rcases hit with hit | hit
                · exact ha it hit
                · have : it = ((c.toNat : Int), d, ivs) := by simpa using hit
                  subst this
                  simp only [List.length_nil] at h4 ⊢
                  omega
            · refine segF_ivs f r2 _ n (fun it hit => ?_) (by omega)
              rw [List.mem_append] at hit
              rcases hit with hit | hit
              · exact ha it hit
              · have : it = ((c.toNat : Int), d, []) := by simpa using hit
                subst this
                simp
theorem parse_ivs (l : List UInt8) : ∀ it ∈ (parseS l).1, it.2.2.length ≤ l.length := by
  unfold parseS
  split
  · simp
  · split
    · simp
    · exact segF_ivs _ _ _ _ (by simp) (by rw [List.length_drop]; omega)
theorem ne_bool (n : Int) : ((n : Int) != n) = false := by simp
set_option maxRecDepth 20000 in
set_option maxHeartbeats 3200000 in
theorem lawParses_any (v : Value) (l : List UInt8) (w : World) (hb : Bs w v l) (hl : l.length ≤ 140737488351232) :
    Calls Try.prog 4 #[v] w fun e w' => e = .returned (.bool true) ∧ Below w.heap.size w w' := by
  obtain ⟨a0, c0, rfl⟩ := hb.len
  have HB := Lib.hid hb
  have HL := Lib.hid hl
  clear hb hl
  go_enter Try.func4, Try.ntmps4
  go_wp2_with fail
  refine (alive_any _).mono ?_; rintro e w1 ⟨rfl, hb1⟩
  have B1 := Lib.hid hb1
  clear hb1
  by_cases hbig : 10000 < l.length
  · have d1 : decide ((10000 : Int) < (l.length : Int)) = true := by rw [decide_eq_true_eq]; omega
    clear hbig
    go_wp2_with fail
    go_ret
    exact ⟨rfl, B1.out⟩
  have d1 : decide ((10000 : Int) < (l.length : Int)) = false := by rw [decide_eq_false_iff_not]; omega
  have LS : Hid (l.length ≤ 10000) := Lib.hid (by omega)
  clear hbig
  have V1 := Lib.hid (HB.out.old B1.out)
  go_wp2_with fail
  refine (copy_any _ l _ V1.out HL.out).mono ?_; rintro e w2 ⟨v2, rfl, hcp, hb2, hz2⟩
  obtain ⟨g, hg⟩ : ∃ g, w1.heap.size = g := ⟨_, rfl⟩
  rw [hg] at hcp hz2
  have CP2 := Lib.hid hcp
  have B2 := Lib.hid (B1.out.trans (hb2.mono B1.out.size))
  have V2 := Lib.hid (V1.out.old hb2)
  have GG : Hid (w.heap.size ≤ g) := Lib.hid (by rw [← hg]; exact B1.out.size)
  have Z2 := Lib.hid hz2
  clear hcp hb2 hz2 hg
  go_wp2_with fail
  refine (parse_any _ l _ CP2.out.bs HL.out).mono ?_
  obtain ⟨⟨cs, n⟩, hr⟩ : ∃ r, parseS l = r := ⟨_, rfl⟩
  rw [hr]
  rintro e w3 ⟨v3, ps, rfl, hv3, hps, hb3⟩
  simp only at hps ⊢
  have P3 := Lib.hid hv3
  have PS := Lib.hid hps
  have HR := Lib.hid hr
  have B3 := Lib.hid (B2.out.trans (hb3.mono B2.out.size))
  have V3 := Lib.hid (V2.out.old hb3)
  have CP3 := Lib.hid (CP2.out.old hb3)
  have Z3 : Hid (g < w3.heap.size) := Lib.hid (Nat.lt_of_lt_of_le Z2.out hb3.size)
  clear hv3 hps hb3 hr
  go_wp2_with fail
  refine (refParse_any _ l _ V3.out HL.out).mono ?_
  rw [HR.out]
  rintro e w4 ⟨v4, qs, rfl, hv4, hqs, hb4⟩
  simp only at hqs ⊢
  have P4 := Lib.hid (P3.out.old hb4)
  have Q4 := Lib.hid hv4
  have QS := Lib.hid hqs
  have B4 := Lib.hid (B3.out.trans (hb4.mono B3.out.size))
  have V4 := Lib.hid (V3.out.old hb4)
  have CP4 := Lib.hid (CP3.out.old hb4)
  have Z4 : Hid (g < w4.heap.size) := Lib.hid (Nat.lt_of_lt_of_le Z3.out hb4.size)
  clear hv4 hqs hb4
  have LC : Hid (cs.length ≤ 10000) := Lib.hid (by
    have h1 := parse_len l
    rw [HR.out] at h1
    have h2 := LS.out
    simp only at h1
    omega)
  have LI : Hid (∀ it ∈ cs, it.2.2.length ≤ 140737488351232) := Lib.hid (fun it hit => by
    have h1 := parse_ivs l it (by rw [HR.out]; exact hit)
    have h2 := LS.out
    omega)
  go_wp2_with fail
  refine (kept_any _ _ g l _ CP4.out V4.out HL.out).mono ?_; rintro e w6 ⟨rfl, rfl⟩
  go_wp2_with fail
  refine (num_any (n : Int) _).mono ?_; rintro e w6 ⟨rfl, rfl⟩
  have nb := ne_bool (n : Int)
  obtain rfl := CP4.out.1
  go_wp2_with fail
  refine (over_any g l.length (l.length + 2) _ CP4.out.rowb (by have := HL.out; omega)).mono ?_; rintro e w6 ⟨⟨v6, rfl⟩, hg6⟩
  have B6 : Hid (Below w.heap.size w w6) := Lib.hid (B4.out.grown hg6 B4.out.size (fun k hk => by simp only [Option.some.injEq] at hk; have := GG.out; omega))
  have P6 := Lib.hid (P4.out.low hg6 Z2.out)
  have Q6 := Lib.hid (Q4.out.low hg6 Z3.out)
  clear hg6
  go_wp2_with fail
  refine (back_any _ cs _ (by have := P6.out.its; rwa [PS.out] at this) (by have := LC.out; omega)).mono ?_
  rintro e w7 ⟨v7, rfl, hv7, hb7⟩
  have B7 := Lib.hid (B6.out.trans (hb7.mono B6.out.size))
  have V7 := Lib.hid hv7
  have Q7 := Lib.hid (Q6.out.old hb7)
  obtain ⟨a7, k7, rfl, _⟩ := Els.len hv7
  clear hb7 hv7
  go_wp2_with fail
  refine (msame_any _ _ cs _ V7.out (by have := Q7.out.its; rwa [QS.out] at this) (by have := LC.out; omega) LI.out).mono ?_
  rintro e w8 ⟨rfl, hb8⟩
  have B8 := Lib.hid (B7.out.trans (hb8.mono B7.out.size))
  clear hb8
  go_wp2_with fail
  go_ret
  exact ⟨rfl, B8.out⟩
end Go.Proofs.Ytlljooncoingnaa
