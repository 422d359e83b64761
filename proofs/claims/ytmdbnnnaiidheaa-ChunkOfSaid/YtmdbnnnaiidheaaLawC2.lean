/- ChunkParses: the law's walk. By an AI agent. -/
import Derived.Test.YtmdbnnnaiidheaaLawC1
namespace Go.Proofs.Ytmdbnnnaiidheaa
open Go.RowKit Go.BigFrame
set_option linter.unusedVariables false
set_option linter.unusedSimpArgs false

theorem cp_low {w w' : World} {v : Value} {g R : Nat} {l : List UInt8} (h : Cp w v g l) (hg : w.grownBy w' (some R)) (hne : g ≠ R) : Cp w' v g l :=
  ⟨h.1, by rw [hg.block g (Array.getElem?_eq_some_iff.1 h.2).1 (fun e => hne (Option.some.inj e))]; exact h.2⟩
theorem parseF_len : ∀ (f : Nat) (l : List UInt8) (acc : List Chk), (parseF f l acc).1.length ≤ acc.length + l.length
  | 0, l, acc => by simp [parseF]
  | f + 1, l, acc => by
    unfold parseF
    cases hs : stepC l with
    | inl n => simp
    | inr p =>
      obtain ⟨c, r⟩ := p
      have h1 := step_short hs
      simp only
      split
      · split
        · simp
        · simp; omega
      · have := parseF_len f r (acc ++ [c])
        rw [List.length_append, List.length_singleton] at this
        omega
theorem parse_len (l : List UInt8) : (parseL l).1.length ≤ l.length := by
  unfold parseL
  split
  · simp
  · split
    · simp
    · have := parseF_len l.length (l.drop 8) []
      rw [List.length_drop, List.length_nil] at this
      omega
theorem ne_bool (n : Int) : ((n : Int) != n) = false := by simp
set_option maxRecDepth 20000 in
set_option maxHeartbeats 3200000 in
theorem lawParses_any (v : Value) (l : List UInt8) (w : World) (hb : Bs w v l) (hl : l.length ≤ 140737488351232) :
    Calls Try.prog 3 #[v] w fun e w' => e = .returned (.bool true) ∧ Below w.heap.size w w' := by
  obtain ⟨a0, c0, rfl⟩ := hb.len
  have HB := Lib.hid hb
  have HL := Lib.hid hl
  have LE : Hid (l.length ≤ 10000 → l.length ≤ 140737488351232) := Lib.hid (fun _ => hl)
  clear hb hl
  go_enter Try.func3, Try.ntmps3
  go_wp2_with fail
  refine (alive_any _).mono ?_; rintro e w1 ⟨rfl, hb1⟩
  have B1 := Lib.hid hb1
  clear hb1
  by_cases hbig : 10000 < l.length
  · have d1 : decide ((10000 : Int) < (l.length : Int)) = true := by rw [decide_eq_true_eq]; omega
    clear hbig
    go_wp2_with fail
    go_ret
    exact ⟨rfl, B1.out⟩
  have d1 : decide ((10000 : Int) < (l.length : Int)) = false := by rw [decide_eq_false_iff_not]; omega
  clear hbig
  have V1 := Lib.hid (HB.out.old B1.out)
  go_wp2_with fail
  refine (copy_any _ l _ V1.out HL.out).mono ?_; rintro e w2 ⟨v2, rfl, hcp, hb2, hz2⟩
  obtain ⟨g, hg⟩ : ∃ g, w1.heap.size = g := ⟨_, rfl⟩
  rw [hg] at hcp hz2
  have CP2 := Lib.hid hcp
  have B2 := Lib.hid (B1.out.trans (hb2.mono B1.out.size))
  have V2 := Lib.hid (V1.out.old hb2)
  have GG : Hid (w.heap.size ≤ g) := Lib.hid (by rw [← hg]; exact B1.out.size)
  have Z2 := Lib.hid hz2
  clear hcp hb2 hz2 hg
  go_wp2_with fail
  refine (parse_any _ l _ CP2.out.bs HL.out).mono ?_
  obtain ⟨⟨cs, n⟩, hr⟩ : ∃ r, parseL l = r := ⟨_, rfl⟩
  rw [hr]
  rintro e w3 ⟨v3, ps, rfl, hv3, hps, hb3⟩
  simp only at hps ⊢
  have P3 := Lib.hid hv3
  have PS := Lib.hid hps
  have HR := Lib.hid hr
  have B3 := Lib.hid (B2.out.trans (hb3.mono B2.out.size))
  have V3 := Lib.hid (V2.out.old hb3)
  have CP3 := Lib.hid (CP2.out.old hb3)
  have Z3 : Hid (g < w3.heap.size) := Lib.hid (Nat.lt_of_lt_of_le Z2.out hb3.size)
  clear hv3 hps hb3 hr
  go_wp2_with fail
  refine (refParse_any _ l _ V3.out HL.out).mono ?_
  rw [HR.out]
  rintro e w4 ⟨v4, qs, rfl, hv4, hqs, hb4⟩
  simp only at hqs ⊢
  have P4 := Lib.hid (P3.out.old hb4)
  have Q4 := Lib.hid hv4
  have QS := Lib.hid hqs
  have B4 := Lib.hid (B3.out.trans (hb4.mono B3.out.size))
  have V4 := Lib.hid (V3.out.old hb4)
  have CP4 := Lib.hid (CP3.out.old hb4)
  have Z4 : Hid (g < w4.heap.size) := Lib.hid (Nat.lt_of_lt_of_le Z3.out hb4.size)
  clear hv4 hqs hb4
  have LC : Hid (cs.length ≤ 140737488351232) := Lib.hid (by
    have h1 := parse_len l
    rw [HR.out] at h1
    have h2 := HL.out
    simp only at h1
    omega)
  go_wp2_with fail
  refine (csame_any _ _ cs cs _ (by have := P4.out.bs; rwa [PS.out] at this) (by have := Q4.out.bs; rwa [QS.out] at this) LC.out).mono ?_
  rintro e w5 ⟨rfl, hb5⟩
  rw [decide_eq_true rfl]
  have B5 := Lib.hid (B4.out.trans (hb5.mono B4.out.size))
  have P5 := Lib.hid (P4.out.old hb5)
  have Q5 := Lib.hid (Q4.out.old hb5)
  have V5 := Lib.hid (V4.out.old hb5)
  have CP5 := Lib.hid (CP4.out.old hb5)
  clear hb5
  go_wp2_with fail
  refine (num_any (n : Int) _).mono ?_; rintro e w6 ⟨rfl, rfl⟩
  have nb := ne_bool (n : Int)
  go_wp2_with fail
  refine (kept_any _ _ g l _ CP5.out V5.out HL.out).mono ?_; rintro e w6 ⟨rfl, rfl⟩
  obtain rfl := CP5.out.1
  go_wp2_with fail
  refine (over_any g l.length (l.length + 2) _ CP5.out.rowb (by have := HL.out; omega)).mono ?_; rintro e w6 ⟨⟨v6, rfl⟩, hg6⟩
  have B6 : Hid (Below w.heap.size w w6) := Lib.hid (B5.out.grown hg6 B5.out.size (fun k hk => by simp only [Option.some.injEq] at hk; have := GG.out; omega))
  have P6 := Lib.hid (P5.out.low hg6 Z2.out)
  have Q6 := Lib.hid (Q5.out.low hg6 Z3.out)
  clear hg6
  go_wp2_with fail
  refine (csame_any _ _ cs cs _ (by have := P6.out.bs; rwa [PS.out] at this) (by have := Q6.out.bs; rwa [QS.out] at this) LC.out).mono ?_
  rintro e w7 ⟨rfl, hb7⟩
  rw [decide_eq_true rfl]
  have B7 := Lib.hid (B6.out.trans (hb7.mono B6.out.size))
  clear hb7
  go_wp2_with fail
  go_ret
  exact ⟨rfl, B7.out⟩
end Go.Proofs.Ytmdbnnnaiidheaa
