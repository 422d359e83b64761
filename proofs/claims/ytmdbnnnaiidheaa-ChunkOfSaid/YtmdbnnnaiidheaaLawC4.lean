/- ChunkBack: the law's walk. By an AI agent. -/
import Derived.Test.YtmdbnnnaiidheaaLawC2
namespace Go.Proofs.Ytmdbnnnaiidheaa
open Go.RowKit Go.BigFrame
set_option linter.unusedVariables false
set_option linter.unusedSimpArgs false

theorem same_yes (v v2 : Value) (l : List UInt8) (w : World) (hb : Bs w v l) (hb2 : Bs w v2 l) :
    Calls Try.prog 21 #[v, v2] w fun e w' => e = .returned (.bool true) ∧ w = w' :=
  (same_any v v2 l l w hb hb2).mono fun e w' ⟨h1, h2⟩ => ⟨by rw [h1, decide_eq_true rfl], h2⟩
/-- what is written of a list that is not large -/
theorem small_parts {cs : List Chk} (h : largeB cs = false) : cs.length ≤ 1000000 ∧ (∀ c ∈ cs, c.1.length ≤ 140737488351232) ∧ (∀ c ∈ cs, c.2.length ≤ 140737488351232) ∧ sumOf cs ≤ 10000 := by
  unfold largeB at h
  rw [decide_eq_false_iff_not] at h
  have h1 := sumOf_len cs
  have h2 := sumOf_mem cs
  exact ⟨by omega, fun c hc => by have := h2 c hc; omega, fun c hc => by have := h2 c hc; omega, by omega⟩
theorem small_size {cs : List Chk} (h : sumOf cs ≤ 10000) : sizeW cs ≤ 1048576 := by
  have : sizeW cs ≤ 8 + sumOf cs := by
    unfold sizeW sumOf
    have : ∀ l : List Chk, (l.map fun c => 12 + min c.2.length 1048576).sum ≤ (l.map wide12).sum := fun l => by
      induction l with
      | nil => simp
      | cons c r ih => simp only [List.map_cons, List.sum_cons, wide12] at ih ⊢; omega
    have := this cs
    omega
  omega
theorem code_zero {cs : List Chk} (h : writeC cs = 0) : goodL cs = true ∧ sizeW cs ≤ 1048576 := by
  unfold writeC at h
  cases hg : goodL cs
  · rw [hg] at h; simp at h
  · rw [hg] at h
    simp only [Bool.not_true, Bool.false_eq_true, if_false] at h
    split at h
    · simp at h
    · exact ⟨rfl, by omega⟩
theorem parsed_code {l : List UInt8} {cs : List Chk} (h : parseL l = (cs, 0)) : writeC cs = 0 ∧ writeL cs = l ∧ (∀ c ∈ cs, c.1.length = 4) ∧ (∀ c ∈ cs, c.2.length ≤ 1048576) ∧ cs.length ≤ l.length := by
  obtain ⟨h1, h2, h3⟩ := write_parse h
  refine ⟨by unfold writeC; rw [h2, if_neg (by simp), if_neg (by omega)], h1.symm, good_named h2, sizeW_mem h3, ?_⟩
  have := parse_len l
  rw [h] at this
  exact this
set_option maxRecDepth 20000 in
set_option maxHeartbeats 6400000 in
theorem lawBack_any (v : Value) (ls : List Chk) (u : Value) (l : List UInt8) (w : World) (hc : Cks w v ls) (hcl : ls.length ≤ 140737488351232) (hcn : ∀ c ∈ ls, c.1.length ≤ 140737488351232) (hcd : ∀ c ∈ ls, c.2.length ≤ 140737488351232) (hb : Bs w u l) (hl : l.length ≤ 140737488351232) :
    Calls Try.prog 5 #[v, u] w fun e w' => e = .returned (.bool true) ∧ Below w.heap.size w w' := by
  obtain ⟨a0, c0, rfl⟩ := hb.len
  have HB := Lib.hid hb
  have HL := Lib.hid hl
  have HC := Lib.hid hc
  have LG := Lib.hid (fun W hW => large_any v ls W (hc.old hW) hcl hcn hcd)
  have HCL := Lib.hid hcl
  clear hb hl hc hcl hcn hcd
  go_enter Try.func5, Try.ntmps5
  go_wp2_with fail
  refine (alive_any _).mono ?_; rintro e w1 ⟨rfl, hb1⟩
  have B1 := Lib.hid hb1
  clear hb1
  go_wp2_with fail
  refine (LG.out _ B1.out).mono ?_; rintro e w2 ⟨rfl, hb2⟩
  have B2 := Lib.hid (B1.out.trans (hb2.mono B1.out.size))
  clear hb2
  rcases hlg : largeB ls with _ | _
  rotate_left
  · clear hlg
    go_wp2_with fail
    go_ret
    exact ⟨rfl, B2.out⟩
  have SP := Lib.hid (small_parts hlg)
  clear hlg
  by_cases hbig : 10000 < l.length
  · have d1 : decide ((10000 : Int) < (l.length : Int)) = true := by rw [decide_eq_true_eq]; omega
    clear hbig
    go_wp2_with fail
    go_ret
    exact ⟨rfl, B2.out⟩
  have d1 : decide ((10000 : Int) < (l.length : Int)) = false := by rw [decide_eq_false_iff_not]; omega
  have BIG := Lib.hid hbig
  clear hbig
  go_wp2_with fail
  refine (parse_any _ l _ (HB.out.old B2.out) HL.out).mono ?_
  obtain ⟨⟨cs, n⟩, hr⟩ : ∃ r, parseL l = r := ⟨_, rfl⟩
  rw [hr]
  rintro e w3 ⟨v3, ps, rfl, hv3, hps, hb3⟩
  simp only at hps ⊢
  have CK3 := Lib.hid (show Cks w3 v3 cs by have := hv3.bs; rwa [hps] at this)
  have B3 := Lib.hid (B2.out.trans (hb3.mono B2.out.size))
  have WB := Lib.hid (fun W hW => write_any v ls W (HC.out.old hW) SP.out.1 SP.out.2.1 SP.out.2.2.1)
  clear hv3 hps hb3
  by_cases hn : n = 0
  case' pos =>
    subst hn
    have PC := Lib.hid (parsed_code hr)
    have E0 : errV ((0 : Nat) : Int) = .nilIface := rfl
    rw [E0]
    clear E0 hr
    go_wp2_with fail
    refine (write_any _ cs _ CK3.out (by have := PC.out.2.2.2.2; have := BIG.out; omega) (fun c hc => by have := PC.out.2.2.1 c hc; omega) (fun c hc => by have := PC.out.2.2.2.1 c hc; omega)).mono ?_
    rintro e w4 ⟨v4, rfl, hv4, hb4⟩
    have E0 : errV ((0 : Nat) : Int) = .nilIface := rfl
    rw [PC.out.1] at hv4 ⊢
    rw [if_pos rfl, PC.out.2.1] at hv4
    rw [E0]
    have B4 := Lib.hid (B3.out.trans (hb4.mono B3.out.size))
    obtain ⟨a4, c4, rfl⟩ := hv4.len
    have SA := Lib.hid (same_yes _ _ l _ hv4 (HB.out.old B4.out))
    clear hv4 hb4 E0
    go_wp2_with fail
    refine SA.out.mono ?_; rintro e w5 ⟨rfl, rfl⟩
    go_upto_region 11 with (fail)
    have BW : Hid (Below w.heap.size w w4) := B4
    obtain ⟨W, hW⟩ : ∃ W, w4 = W := ⟨_, rfl⟩
    rw [hW] at BW ⊢
  case' neg =>
    rw [errV_some (show (n : Int) ≠ 0 by omega)]
    go_upto_region 11 with (fail)
    have BW : Hid (Below w.heap.size w w3) := B3
    obtain ⟨W, hW⟩ : ∃ W, w3 = W := ⟨_, rfl⟩
    rw [hW] at BW ⊢
  all_goals
    clear hW
    go_wp2_with fail
    refine (WB.out _ BW.out).mono ?_
    rintro e w6 ⟨v6, rfl, hv6, hb6⟩
    have B6 := Lib.hid (BW.out.trans (hb6.mono BW.out.size))
    by_cases hz : writeC ls = 0
    · have CZ := Lib.hid (code_zero hz)
      have E0 : errV ((0 : Nat) : Int) = .nilIface := rfl
      rw [hz] at hv6 ⊢
      rw [if_pos rfl] at hv6
      rw [E0]
      have V6 := Lib.hid hv6
      have LW : Hid ((writeL ls).length ≤ 1048576) := Lib.hid (by rw [writeL_size CZ.out.1 CZ.out.2]; exact CZ.out.2)
      have PW := Lib.hid (parse_write CZ.out.1 CZ.out.2)
      clear hv6 hb6 E0 hz
      go_wp2_with fail
      refine (parse_any _ _ _ V6.out (by have := LW.out; omega)).mono ?_
      rw [PW.out]
      rintro e w7 ⟨v7, qs, rfl, hv7, hqs, hb7⟩
      have E0 : errV ((0 : Nat) : Int) = .nilIface := rfl
      simp only at hqs ⊢
      rw [E0]
      have CK7 := Lib.hid (show Cks w7 v7 ls by have := hv7.bs; rwa [hqs] at this)
      have B7 := Lib.hid (B6.out.trans (hb7.mono B6.out.size))
      clear hv7 hqs hb7 E0
      go_wp2_with fail
      refine (csame_any _ _ ls ls _ CK7.out (HC.out.old B7.out) HCL.out).mono ?_
      rintro e w8 ⟨rfl, hb8⟩
      rw [decide_eq_true rfl]
      have B8 := Lib.hid (B7.out.trans (hb8.mono B7.out.size))
      clear hb8
      go_wp2_with fail
      go_ret
      exact ⟨rfl, B8.out⟩
    · rw [errV_some (show ((writeC ls : Nat) : Int) ≠ 0 by omega)]
      clear hv6 hb6 hz
      go_wp2_with fail
      go_ret
      exact ⟨rfl, B6.out⟩
end Go.Proofs.Ytmdbnnnaiidheaa
