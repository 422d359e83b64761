/- MarkerBack: the law's walk. By an AI agent. -/
import Derived.Test.YtlljooncoingnaaLawM3
namespace Go.Proofs.Ytlljooncoingnaa
open Go.RowKit Go.BigFrame
set_option linter.unusedVariables false
set_option linter.unusedSimpArgs false

theorem parse_small {l : List UInt8} {cs : List Itm} (hl : l.length ≤ 10000) (h : parseS l = (cs, 0)) : cs.all goodI = true ∧ (writeS cs).length ≤ l.length ∧ cs.length ≤ 10000 ∧ (∀ it ∈ cs, it.2.1.length ≤ 65533) ∧ ∀ it ∈ cs, it.2.2.length ≤ 10000 := by
  have hn : cs.length ≤ l.length := by have := parse_len l; rw [h] at this; exact this
  have hv : ∀ it ∈ cs, it.2.2.length ≤ l.length := by have := parse_ivs l; rw [h] at this; exact this
  unfold parseS at h
  split at h
  · simp at h
  split at h
  · simp at h
  rename_i h1 h2
  have h2' : l.take 2 = [255, 216] := Decidable.not_not.1 h2
  have h3 : 2 ≤ l.length := by have := congrArg List.length h2'; rw [List.length_take] at this; simp at this; omega
  obtain ⟨ds, e1, e2, e3⟩ := segF_some _ _ _ cs (by rw [List.length_drop]; omega) h
  rw [List.nil_append] at e1
  subst e1
  rw [List.length_drop] at e3
  refine ⟨List.all_eq_true.2 e2, ?_, by omega, fun it hit => (good_parts (e2 it hit)).2.2.2.2.1, fun it hit => by have := hv it hit; omega⟩
  simp only [writeS, List.length_append, List.length_cons, List.length_nil] at e3 ⊢
  omega
theorem write_back {its : List Itm} (hg : its.all goodI = true) (hl : (writeS its).length ≤ 1048576) : parseS (writeS its) = (its, 0) := parseS_write its (all_good hg) hl
/-- the law's second half: the items are written and parsed -/
theorem gt_no (n m : Nat) (h : n ≤ m) : decide ((m : Int) < (n : Int)) = false := by rw [decide_eq_false_iff_not]; omega
set_option maxRecDepth 20000 in
set_option maxHeartbeats 8000000 in
theorem lawBack_any (v : Value) (its : List Itm) (u : Value) (l : List UInt8) (w : World) (hb : Its w v its) (hl : its.length ≤ 140737488351232) (hi : ∀ it ∈ its, it.2.1.length ≤ 140737488351232 ∧ it.2.2.length ≤ 140737488351232 ∧ ∀ p ∈ it.2.2, p.length ≤ 140737488351232) (hu : Bs w u l) (hul : l.length ≤ 140737488351232) :
    Calls Try.prog 6 #[v, u] w fun e w' => e = .returned (.bool true) ∧ Below w.heap.size w w' := by
  have HB := Lib.hid hb
  have HI := Lib.hid hi
  have HL := Lib.hid hl
  have HU := Lib.hid hu
  have UL := Lib.hid hul
  obtain ⟨a0, c0, rfl, _⟩ := Els.len hb
  obtain ⟨ua, uc, rfl⟩ := hu.len
  clear hb hi hl hu hul
  go_enter Try.func6, Try.ntmps6
  go_wp2_with fail
  refine (alive_any _).mono ?_; rintro e w1 ⟨rfl, hb1⟩
  have B1 := Lib.hid hb1
  clear hb1
  go_wp2_with fail
  refine (large_any _ its _ (HB.out.old B1.out) HL.out (fun it h => (HI.out it h).1) (fun it h => (HI.out it h).2.1) (fun it h => (HI.out it h).2.2)).mono ?_
  rintro e w2 ⟨rfl, hb2⟩
  have B2 := Lib.hid (B1.out.trans (hb2.mono B1.out.size))
  clear hb2
  by_cases hlg : 10000 < sumM its
  · rw [decide_eq_true hlg]
    clear hlg
    go_wp2_with fail
    go_ret
    exact ⟨rfl, B2.out⟩
  rw [decide_eq_false hlg]
  have SM := Lib.hid (small_all hlg)
  clear hlg
  by_cases hbig : 10000 < l.length
  · have d1 : decide ((10000 : Int) < (l.length : Int)) = true := by rw [decide_eq_true_eq]; omega
    clear hbig
    go_wp2_with fail
    go_ret
    exact ⟨rfl, B2.out⟩
  have d1 : decide ((10000 : Int) < (l.length : Int)) = false := by rw [decide_eq_false_iff_not]; omega
  have LS : Hid (l.length ≤ 10000) := Lib.hid (by omega)
  clear hbig
  go_wp2_with fail
  obtain ⟨⟨cs, n⟩, hr⟩ : ∃ r, parseS l = r := ⟨_, rfl⟩
  have PA := parse_any _ l w2 (HU.out.old B2.out) UL.out
  rw [hr] at PA
  refine PA.mono ?_
  rintro e w3 ⟨v3, ps, rfl, hv3, hps, hb3⟩
  simp only at hps ⊢
  have B3 := Lib.hid (B2.out.trans (hb3.mono B2.out.size))
  have P3 := Lib.hid hv3
  have PS := Lib.hid hps
  have HR := Lib.hid hr
  have I3 : Hid (Its w3 v3 cs) := Lib.hid (by have := hv3.its; rwa [hps] at this)
  obtain ⟨a3, c3, rfl⟩ := owns_len hv3.row
  have PSL : Hid (ps.length = cs.length) := Lib.hid (by rw [← hps]; simp)
  clear PA hv3 hps hb3 hr d1
  -- the rest, from any world behind
  by_cases hn : n = 0
  case' pos =>
    subst hn
    have SP := Lib.hid (parse_small LS.out HR.out)
    have WB := Lib.hid (write_back SP.out.1 (by have := SP.out.2.1; have := LS.out; omega))
    rw [show errV ((0 : Nat) : Int) = .nilIface from rfl]
    rw [PSL.out] at I3 ⊢
    go_wp2_with fail
    refine (mwrite_any _ cs _ I3.out (by have := SP.out.2.2.1; omega) (fun it h => by have := SP.out.2.2.2.1 it h; omega) (fun it h => by have := SP.out.2.2.2.2 it h; omega) (fun _ => by have := SP.out.2.1; have := LS.out; omega)).mono ?_
    rintro e w4 ⟨hb4, hw4⟩
    have B4 := Lib.hid (B3.out.trans (hb4.mono B3.out.size))
    have I4 := Lib.hid (I3.out.old hb4)
    rw [if_pos SP.out.1] at hw4
    obtain ⟨v4, rfl, ho4⟩ := hw4
    obtain ⟨z, hz⟩ : ∃ z, writeS cs = z := ⟨_, rfl⟩
    rw [hz] at ho4 WB
    have ZL : Hid (z.length ≤ l.length) := Lib.hid (by rw [← hz]; exact SP.out.2.1)
    have g1 := gt_no z.length l.length ZL.out
    have g2 : decide (l.length < z.length) = false := by rw [decide_eq_false_iff_not]; have := ZL.out; omega
    obtain ⟨a4, c4, rfl⟩ := owns_len ho4
    have V4 : Hid (Bs w4 (.slice a4 z.length c4) z) := Lib.hid (sl_of_owns ho4)
    clear hb4 ho4 hz
    go_wp2_with fail
    have PB := parse_any _ z w4 V4.out (by have := ZL.out; have := UL.out; omega)
    rw [WB.out] at PB
    refine PB.mono ?_
    rintro e w5 ⟨v5, qs, rfl, hv5, hqs, hb5⟩
    simp only at hqs ⊢
    have B5 := Lib.hid (B4.out.trans (hb5.mono B4.out.size))
    have I5 := Lib.hid (I4.out.old hb5)
    have J5 : Hid (Its w5 v5 cs) := Lib.hid (by have := hv5.its; rwa [hqs] at this)
    obtain ⟨a5, c5, rfl⟩ := owns_len hv5.row
    have QL : Hid (qs.length = cs.length) := Lib.hid (by rw [← hqs]; simp)
    rw [QL.out] at J5 ⊢
    rw [show errV ((0 : Nat) : Int) = .nilIface from rfl]
    clear PB hv5 hqs hb5 g1 g2
    go_wp2_with fail
    refine (back_any _ cs _ I5.out (by have := SP.out.2.2.1; omega)).mono ?_
    rintro e w6 ⟨v6, rfl, hv6, hb6⟩
    have B6 := Lib.hid (B5.out.trans (hb6.mono B5.out.size))
    have J6 := Lib.hid (J5.out.old hb6)
    have V6 := Lib.hid hv6
    obtain ⟨a6, c6, rfl, _⟩ := Els.len hv6
    clear hv6 hb6
    go_wp2_with fail
    refine (back_any _ cs _ J6.out (by have := SP.out.2.2.1; omega)).mono ?_
    rintro e w7 ⟨v7, rfl, hv7, hb7⟩
    have B7 := Lib.hid (B6.out.trans (hb7.mono B6.out.size))
    have V7 := Lib.hid hv7
    have W7 := Lib.hid (V6.out.old hb7)
    obtain ⟨a7, c7, rfl, _⟩ := Els.len hv7
    clear hv7 hb7
    go_wp2_with fail
    refine (msame_any _ _ cs _ W7.out V7.out (by have := SP.out.2.2.1; omega) (fun it h => by have := SP.out.2.2.2.2 it h; omega)).mono ?_
    rintro e w8 ⟨rfl, hb8⟩
    have B8 := Lib.hid (B7.out.trans (hb8.mono B7.out.size))
    clear hb8
    go_wp2_with fail
  case' neg =>
    have N0 : Hid ((n : Int) ≠ 0) := Lib.hid (by omega)
    rw [errV_some N0.out]
    have B8 := Lib.hid B3.out
    clear hn
    go_wp2_with fail
  all_goals
    refine (items_any _ its _ (HB.out.old B8.out) (by have := SM.out.1; omega) (fun it h => (HI.out it h).1) (fun it h => by have := (SM.out.2.2 it h).2.1; omega) (fun it h => (HI.out it h).2.2)).mono ?_
    rintro e w9 ⟨v9, xs, rfl, hv9, hxs, hb9⟩
    have B9 := Lib.hid (B8.out.trans (hb9.mono B8.out.size))
    have I9 : Hid (Its w9 v9 its) := Lib.hid (by have := hv9.its; rwa [hxs] at this)
    obtain ⟨a9, c9, rfl⟩ := owns_len hv9.row
    clear hb9 hv9 hxs
    go_wp2_with fail
    refine (mwrite_any _ its _ I9.out (by have := SM.out.1; omega) (fun it h => (HI.out it h).1) (fun it h => (HI.out it h).2.1) (fun _ => SM.out.2.1)).mono ?_
    rintro e w10 ⟨hb10, hw10⟩
    have B10 := Lib.hid (B9.out.trans (hb10.mono B9.out.size))
    rcases hA : its.all goodI with _ | _
    · rw [if_neg (by rw [hA]; simp)] at hw10
      subst hw10
      clear hb10 hA
      go_wp2_with fail
      go_ret
      exact ⟨rfl, B10.out⟩
    rw [if_pos hA] at hw10
    obtain ⟨v10, rfl, ho10⟩ := hw10
    have WB2 := Lib.hid (write_back hA SM.out.2.1)
    obtain ⟨y, hy⟩ : ∃ y, writeS its = y := ⟨_, rfl⟩
    have YL : Hid (y.length ≤ 140737488351232) := Lib.hid (by rw [← hy]; have := SM.out.2.1; omega)
    rw [hy] at ho10 WB2
    obtain ⟨a10, c10, rfl⟩ := owns_len ho10
    have V10 : Hid (Bs w10 (.slice a10 y.length c10) y) := Lib.hid (sl_of_owns ho10)
    clear hb10 ho10 hy hA
    go_wp2_with fail
    have PC := parse_any _ y w10 V10.out YL.out
    rw [WB2.out] at PC
    refine PC.mono ?_
    rintro e w11 ⟨v11, ys, rfl, hv11, hys, hb11⟩
    simp only at hys ⊢
    have B11 := Lib.hid (B10.out.trans (hb11.mono B10.out.size))
    have I11 : Hid (Its w11 v11 its) := Lib.hid (by have := hv11.its; rwa [hys] at this)
    obtain ⟨a11, c11, rfl⟩ := owns_len hv11.row
    rw [show errV ((0 : Nat) : Int) = .nilIface from rfl]
    clear PC hv11 hys hb11
    go_wp2_with fail
    refine (back_any _ its _ I11.out (by have := SM.out.1; omega)).mono ?_
    rintro e w12 ⟨v12, rfl, hv12, hb12⟩
    have B12 := Lib.hid (B11.out.trans (hb12.mono B11.out.size))
    have V12 := Lib.hid hv12
    obtain ⟨a12, c12, rfl, _⟩ := Els.len hv12
    clear hv12 hb12
    go_wp2_with fail
    refine (msame_any _ _ its _ V12.out (HB.out.old B12.out) (by have := SM.out.1; omega) (fun it h => by have := (SM.out.2.2 it h).2.1; omega)).mono ?_
    rintro e w13 ⟨rfl, hb13⟩
    have B13 := Lib.hid (B12.out.trans (hb13.mono B12.out.size))
    clear hb13
    go_wp2_with fail
    go_ret
    exact ⟨rfl, B13.out⟩
end Go.Proofs.Ytlljooncoingnaa
