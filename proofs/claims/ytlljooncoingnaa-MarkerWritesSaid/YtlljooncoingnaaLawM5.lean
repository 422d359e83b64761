/- MarkerWrites: the law's walk. By an AI agent. -/
import Derived.Test.YtlljooncoingnaaSegX
import Derived.Test.YtlljooncoingnaaLawM3
namespace Go.Proofs.Ytlljooncoingnaa
open Go.RowKit Go.BigFrame
set_option linter.unusedVariables false
set_option linter.unusedSimpArgs false

theorem same_yes (v v2 : Value) (l : List UInt8) (w : World) (hb : Bs w v l) (hb2 : Bs w v2 l) :
    Calls Try.prog 27 #[v, v2] w fun e w' => e = .returned (.bool true) ∧ w = w' :=
  (same_any v v2 l l w hb hb2).mono fun e w' ⟨h1, h2⟩ => ⟨by rw [h1, decide_eq_true rfl], h2⟩
theorem good_upto {its : List Itm} (k : Nat) (h : k < its.length) (ha : (its.take k).all goodI = true) : (its.take (k + 1)).all goodI = goodI its[k] := by rw [good_take its k h, ha]; rfl
set_option maxRecDepth 20000 in
set_option maxHeartbeats 8000000 in
theorem lawWrites_any (v : Value) (its : List Itm) (w : World) (hb : Its w v its) (hl : its.length ≤ 140737488351232) (hi : ∀ it ∈ its, it.2.1.length ≤ 140737488351232 ∧ it.2.2.length ≤ 140737488351232 ∧ ∀ p ∈ it.2.2, p.length ≤ 140737488351232) :
    Calls Try.prog 5 #[v] w fun e w' => e = .returned (.bool true) ∧ Below w.heap.size w w' := by
  have HB := Lib.hid hb
  have HI := Lib.hid hi
  have HL := Lib.hid hl
  obtain ⟨a0, c0, rfl, hc0, hx⟩ := its_at hb
  have HX := Lib.hid hx
  clear hb hi hl hx
  go_enter Try.func5, Try.ntmps5
  go_wp2_with fail
  refine (alive_any _).mono ?_; rintro e w1 ⟨rfl, hb1⟩
  have B1 := Lib.hid hb1
  clear hb1
  go_wp2_with fail
  refine (large_any _ its _ (HB.out.old B1.out) HL.out (fun it h => (HI.out it h).1) (fun it h => (HI.out it h).2.1) (fun it h => (HI.out it h).2.2)).mono ?_
  rintro e w2 ⟨rfl, hb2⟩
  have B2 := Lib.hid (B1.out.trans (hb2.mono B1.out.size))
  clear hb2
  by_cases hlg : 10000 < sumM its
  · rw [decide_eq_true hlg]
    clear hlg
    go_wp2_with fail
    go_ret
    exact ⟨rfl, B2.out⟩
  rw [decide_eq_false hlg]
  have SM := Lib.hid (small_all hlg)
  clear hlg
  go_wp2_with fail
  refine (items_any _ its _ (HB.out.old B2.out) (by have := SM.out.1; omega) (fun it h => (HI.out it h).1) (fun it h => by have := (SM.out.2.2 it h).2.1; omega) (fun it h => (HI.out it h).2.2)).mono ?_
  rintro e w3 ⟨v3, xs, rfl, hv3, hxs, hb3⟩
  have B3 := Lib.hid (B2.out.trans (hb3.mono B2.out.size))
  have I3 : Hid (Its w3 v3 its) := Lib.hid (by have := hv3.its; rwa [hxs] at this)
  obtain ⟨a3, c3, rfl⟩ := owns_len hv3.row
  clear hb3 hv3 hxs
  go_wp2_with fail
  refine (mwrite_any _ its _ I3.out (by have := SM.out.1; omega) (fun it h => (HI.out it h).1) (fun it h => (HI.out it h).2.1) (fun _ => SM.out.2.1)).mono ?_
  rintro e w4 ⟨hb4, hw4⟩
  have B4 := Lib.hid (B3.out.trans (hb4.mono B3.out.size))
  have I4 := Lib.hid (I3.out.old hb4)
  -- what was written
  obtain ⟨a4, n4, c4, E4, he, h4⟩ : ∃ (a4 : Option Addr) (n4 c4 : Nat) (E4 : Value), e = .returned (.tuple #[.slice a4 n4 c4, E4]) ∧ ((its.all goodI = true ∧ E4 = .nilIface ∧ Bs w4 (.slice a4 n4 c4) (writeS its)) ∨ (its.all goodI = false ∧ E4 = errV 6 ∧ n4 = 0)) := by
    rcases hA : its.all goodI with _ | _
    · rw [if_neg (by rw [hA]; simp)] at hw4
      exact ⟨none, 0, 0, _, hw4, .inr ⟨rfl, rfl, rfl⟩⟩
    · rw [if_pos hA] at hw4
      obtain ⟨v4, h1, ho⟩ := hw4
      obtain ⟨a, c, rfl⟩ := owns_len ho
      exact ⟨a, _, c, _, h1, .inl ⟨rfl, rfl, sl_of_owns ho⟩⟩
  subst he
  have H4 := Lib.hid h4
  clear hb4 hw4 h4
  go_wp2_with fail
  refine (back_any _ its _ I4.out (by have := SM.out.1; omega)).mono ?_
  rintro e w5 ⟨v5, rfl, hv5, hb5⟩
  have B5 := Lib.hid (B4.out.trans (hb5.mono B4.out.size))
  have V5 := Lib.hid hv5
  have H5 : Hid ((its.all goodI = true ∧ E4 = .nilIface ∧ Bs w5 (.slice a4 n4 c4) (writeS its)) ∨ (its.all goodI = false ∧ E4 = errV 6 ∧ n4 = 0)) := Lib.hid (by
    rcases H4.out with ⟨h1, h2, h3⟩ | h
    · exact .inl ⟨h1, h2, h3.old hb5⟩
    · exact .inr h)
  obtain ⟨a5, c5, rfl, _⟩ := Els.len hv5
  clear hv5 hb5
  go_wp2_with fail
  refine (msame_any _ _ its _ V5.out (HB.out.old B5.out) (by have := SM.out.1; omega) (fun it h => by have := (SM.out.2.2 it h).2.1; omega)).mono ?_
  rintro e w6 ⟨rfl, hb6⟩
  have B6 := Lib.hid (B5.out.trans (hb6.mono B5.out.size))
  have H6 : Hid ((its.all goodI = true ∧ E4 = .nilIface ∧ ∀ W, Below w6.heap.size w6 W → Bs W (.slice a4 n4 c4) (writeS its)) ∨ (its.all goodI = false ∧ E4 = errV 6 ∧ n4 = 0)) := Lib.hid (by
    rcases H5.out with ⟨h1, h2, h3⟩ | h
    · exact .inl ⟨h1, h2, fun W hW => (h3.old hb6).old hW⟩
    · exact .inr h)
  clear hb6
  go_wp2_with fail
  go_loopw [26] (fun i W => ∃ k : Nat, k ≤ its.length ∧ i = .int .i64 k ∧ (its.take k).all goodI = true ∧ Below w6.heap.size w6 W) (fun i _ => its.length - (intOf i).toNat)
  case atStart => exact ⟨0, Nat.zero_le _, rfl, rfl, Below.refl _ _⟩
  case round =>
    obtain ⟨k, hk, rfl, hall, hbel⟩ := hrel
    have BE := Lib.hid (B6.out.trans (hbel.mono B6.out.size))
    have BW := Lib.hid hbel
    have AL := Lib.hid hall
    by_cases hkl : k < its.length
    · have k1 : k < 1000000 := by have := SM.out.1; omega
      obtain ⟨b, off, dv, iv, rfl, p1, p2, p3, p4, p5⟩ := HX.out k hkl
      obtain ⟨da, dc, rfl⟩ := p1.len
      obtain ⟨va, vc, rfl, _⟩ := p2.read
      have q3 := cell_old BE.out p3
      have q4 := cell_old BE.out p4
      have q5 := cell_old BE.out p5
      have DL := Lib.hid (HI.out _ (List.getElem_mem hkl))
      have GT := Lib.hid (good_upto k hkl hall)
      have BA := Lib.hid (@bad_any its k hkl)
      obtain ⟨⟨m, d, ivs⟩, hc⟩ : ∃ c, its[k] = c := ⟨_, rfl⟩
      rw [hc] at q3 q4 q5 DL GT BA
      simp only at q3 q4 q5 DL
      have e1 : decide ((k : Int) < (its.length : Int)) = true := by rw [decide_eq_true_eq]; omega
      have e2 : decide (k < its.length) = true := by rw [decide_eq_true_eq]; omega
      have SW : Hid (w.heap.size ≤ wr.heap.size) := Lib.hid BE.out.size
      have SW6 : Hid (w6.heap.size ≤ wr.heap.size) := Lib.hid hbel.size
      clear p1 p2 p3 p4 p5 hc hall hbel
      go_wp2_with fail
      refine (refGood_any m d ivs da va dc vc _ DL.out.1 DL.out.2.1).mono ?_; rintro e w7 ⟨rfl, hb7⟩
      have B7 := Lib.hid ((BE.out.alloc BE.out.size _).trans (hb7.mono (by have := SW.out; simp; omega)))
      have W7 := Lib.hid ((BW.out.alloc BW.out.size _).trans (hb7.mono (by have := SW6.out; simp; omega)))
      clear hb7
      rcases hG : goodI (m, d, ivs) with _ | _
      · have WA := BA.out hG
        rcases H6.out with ⟨h1, _⟩ | ⟨_, h2, h3⟩
        · rw [WA] at h1; cases h1
        subst h3
        clear hG WA
        rw [h2]
        obtain ⟨E5, hE5⟩ : ∃ E, errV 6 = E := ⟨_, rfl⟩
        have HE5 := Lib.hid hE5
        rw [hE5]
        clear h2 hE5
        go_wp2_with fail
        rw [← HE5.out]
        refine (is_any 6 6 _).mono ?_; rintro e w8 ⟨rfl, rfl⟩
        rw [show (((6 : Int)) == 6) = true from rfl]
        go_wp2_with fail
        go_ret
        exact ⟨rfl, B7.out⟩
      · rw [hG] at GT
        clear hG
        go_wp2_with fail
        go_roundw
        case rel => exact ⟨k + 1, by omega, by go_num, GT.out, W7.out⟩
        case measure => simp [intOf]; omega
    · obtain rfl : k = its.length := by omega
      have e1 : decide ((its.length : Int) < (its.length : Int)) = false := by rw [decide_eq_false_iff_not]; omega
      rw [List.take_length] at hall
      have GA := Lib.hid hall
      rcases H6.out with ⟨_, h2, h3⟩ | ⟨h1, _⟩
      rotate_left
      · rw [hall] at h1; cases h1
      have VW := Lib.hid h3
      subst h2
      clear hbel hall h3
      go_wp2_with fail
      refine (refWrite_any _ its _ (HB.out.old BE.out) (by have := SM.out.1; omega) GA.out SM.out.2.1).mono ?_
      rintro e w8 ⟨v8, rfl, hv8, hb8⟩
      have B8 := Lib.hid (BE.out.trans (hb8.mono BE.out.size))
      have V8 := Lib.hid hv8
      have U8 := Lib.hid (VW.out _ (BW.out.trans (hb8.mono BW.out.size)))
      obtain ⟨a8, c8, rfl⟩ := hv8.len
      clear hv8 hb8
      go_wp2_with fail
      refine (same_yes _ _ (writeS its) _ U8.out V8.out).mono ?_; rintro e w9 ⟨rfl, rfl⟩
      go_wp2_with fail
      go_ret
      exact ⟨rfl, B8.out⟩
end Go.Proofs.Ytlljooncoingnaa
