/- SumsTake: the law's walk. By an AI agent. -/
import Derived.Test.YtfkdfdcnmbaheaaTakeO
import Derived.Test.YtfkdfdcnmbaheaaLawPut
namespace Go.Proofs.Ytfkdfdcnmbaheaa
open Go.RowKit
set_option linter.unusedVariables false
set_option linter.unusedSimpArgs false

theorem take_300 (v : Value) (w : World) (hb : Bs w v [1, 44, 7]) : Calls Try.prog 21 #[v, .int .i64 2] w fun e w' => ∃ a c, e = .returned (.tuple #[.int .i64 300, .slice a 1 c, .nilIface]) ∧ Below w.heap.size w w' :=
  (take_good v [1, 44, 7] 2 w hb (by decide) (by decide) (by decide)).mono (by
    rintro e w' ⟨v', he, hv, hb⟩
    obtain ⟨a, c, hv'⟩ := hv.len
    refine ⟨a, c, ?_, hb⟩
    rw [he, hv']
    rfl)
set_option maxHeartbeats 3200000 in
theorem sumsTake_bad (v : Value) (l : List UInt8) (S c : Int) (w : World) (hb : Bs w v l) (hl : l.length ≤ 140737488351232) (hc : c ≠ 0) (hp : ∀ v w, Bs w v l → Calls Try.prog 21 #[v, .int .i64 S] w fun e w' => e = .returned (.tuple #[.int .i64 0, .slice none 0 0, errV c]) ∧ w = w')
    (hq : ∀ v w, Bs w v l → Calls Try.prog 22 #[v, .int .i64 S] w fun e w' => e = .returned (.tuple #[.int .i64 0, .int .i64 c]) ∧ w = w') :
    Calls Try.prog 8 #[v, .int .i64 S] w fun e w' => e = .returned (.bool true) ∧ Below w.heap.size w w' := by
  obtain ⟨av, cap, rfl⟩ := hb.len
  have HB := Lib.hid hb
  have HL := Lib.hid hl
  have HP := Lib.hid hp
  have HQ := Lib.hid hq
  have HC := Lib.hid hc
  clear hp hq hc
  clear hb hl
  go_enter Try.func8, Try.ntmps8
  go_wp2_with fail
  refine (take_300 _ _ (bs_heap (n := 3) (cap := 3) _ (heap_alloc_new _ _) rfl rfl (by decide))).mono ?_; rintro e w1 ⟨a1, c1, rfl, hb1⟩
  have B1 : Hid (Below w.heap.size w w1) := Lib.hid (((Below.refl _ _).alloc (Nat.le_refl _) _).trans (hb1.mono (by simp)))
  clear hb1
  go_wp2_with fail
  refine (copy_any _ l _ (HB.out.old B1.out) HL.out).mono ?_; rintro e w2 ⟨v2, rfl, hc2, hb2, hz2⟩
  obtain rfl := hc2.1
  have P2 := Lib.hid hc2
  have B2 := Lib.hid (B1.out.trans (hb2.mono B1.out.size))
  have Z1 : Hid (w.heap.size ≤ w1.heap.size) := Lib.hid B1.out.size
  have Z2 := Lib.hid hz2
  clear hc2 hb2 hz2
  go_wp2_with fail
  refine (HP.out _ _ P2.out.bs).mono ?_; rintro e w3 ⟨rfl, rfl⟩
  go_wp2_with fail
  refine (HQ.out _ _ (HB.out.old B2.out)).mono ?_; rintro e w3 ⟨rfl, rfl⟩
  have e3 : (c != 0) = true := by rw [bne_iff_ne]; exact HC.out
  have e4 : (c != c) = false := by simp
  go_wp2_with fail
  refine (num_any c _).mono ?_; rintro e w3 ⟨rfl, rfl⟩
  go_wp2_with fail
  refine (kept_any _ _ _ l _ P2.out (HB.out.old B2.out) HL.out).mono ?_; rintro e w3 ⟨rfl, rfl⟩
  go_wp2_with fail
  go_ret
  exact ⟨rfl, B2.out⟩
set_option maxHeartbeats 3200000 in
theorem sumsTake_good (v : Value) (l : List UInt8) (s : Nat) (w : World) (hb : Bs w v l) (hl : l.length ≤ 140737488351232) (hs : 1 ≤ s ∧ s ≤ 4) (h : s ≤ l.length) :
    Calls Try.prog 8 #[v, .int .i64 (s : Int)] w fun e w' => e = .returned (.bool true) ∧ Below w.heap.size w w' := by
  obtain ⟨av, cap, rfl⟩ := hb.len
  have HB := Lib.hid hb
  have HL := Lib.hid hl
  have HS := Lib.hid hs
  have HH := Lib.hid h
  clear hs h
  clear hb hl
  go_enter Try.func8, Try.ntmps8
  go_wp2_with fail
  refine (take_300 _ _ (bs_heap (n := 3) (cap := 3) _ (heap_alloc_new _ _) rfl rfl (by decide))).mono ?_; rintro e w1 ⟨a1, c1, rfl, hb1⟩
  have B1 : Hid (Below w.heap.size w w1) := Lib.hid (((Below.refl _ _).alloc (Nat.le_refl _) _).trans (hb1.mono (by simp)))
  clear hb1
  go_wp2_with fail
  refine (copy_any _ l _ (HB.out.old B1.out) HL.out).mono ?_; rintro e w2 ⟨v2, rfl, hc2, hb2, hz2⟩
  obtain rfl := hc2.1
  have P2 := Lib.hid hc2
  have B2 := Lib.hid (B1.out.trans (hb2.mono B1.out.size))
  have Z1 : Hid (w.heap.size ≤ w1.heap.size) := Lib.hid B1.out.size
  have Z2 := Lib.hid hz2
  clear hc2 hb2 hz2
  go_wp2_with fail
  obtain ⟨D, hD⟩ : ∃ D, l.drop s = D := ⟨_, rfl⟩
  have tk := fun u W hW => take_own u l s W hW HL.out HS.out HH.out
  simp only [hD] at tk
  have hcat : l.take s ++ D = l := by rw [← hD]; exact List.take_append_drop s l
  have hDl : D.length ≤ 140737488351232 := by rw [← hD, List.length_drop]; have := HL.out; omega
  have TK := Lib.hid tk
  have CAT := Lib.hid hcat
  have DL := Lib.hid hDl
  clear tk hcat hDl hD
  refine (TK.out _ _ P2.out.bs).mono ?_; rintro e w3 ⟨v3, rfl, hv3, hb3⟩
  obtain ⟨a3, c3, rfl⟩ := own_len hv3
  have O3 := Lib.hid hv3
  have P3 := Lib.hid (P2.out.old hb3)
  have B3 := Lib.hid (B2.out.trans (hb3.mono B2.out.size))
  clear hv3 hb3 P2
  go_wp2_with fail
  refine (refTake_good _ l s _ (HB.out.old B3.out) HS.out HH.out).mono ?_; rintro e w4 ⟨rfl, rfl⟩
  have BACK := Lib.hid (putL_back l s HS.out HH.out)
  have NLT := Lib.hid (numL_lt l s)
  obtain ⟨n, hn⟩ : ∃ n, numL (l.take s) = n := ⟨_, rfl⟩
  rw [hn] at BACK NLT
  rw [hn]
  clear hn
  have e4 : ((n : Int) != (n : Int)) = false := by simp
  have e4' : (n != n) = false := by simp
  go_wp2_with fail
  have hnum := num_any 0 w3
  rw [errV_zero] at hnum
  refine hnum.mono ?_; rintro e w4 ⟨rfl, rfl⟩
  clear hnum e4 e4'
  go_wp2_with fail
  refine (kept_any _ _ _ l _ P3.out (HB.out.old B3.out) HL.out).mono ?_; rintro e w4 ⟨rfl, rfl⟩
  go_wp2_with fail
  refine (put_good (.slice none 0 0) [] s n _ (Bs.nil _ _ _) (by decide) HS.out NLT.out).mono ?_; rintro e w4 ⟨v4, rfl, hv4, hb4⟩
  have O4 := Lib.hid (own_old O3.out (fun b hb => hb4.block b (O3.out.lt b hb).2))
  have P4 := Lib.hid (P3.out.old hb4)
  have B4 := Lib.hid (B3.out.trans (hb4.mono B3.out.size))
  have hbs4 : Bs w4 v4 (l.take s) := by
    have h := sl_of_owns hv4
    rw [List.nil_append, BACK.out] at h
    unfold Bs
    have hl4 : (l.take s).length = s := by rw [List.length_take]; have := HH.out; omega
    rw [hl4]
    simpa using h
  have hbs3 : Bs w4 (.slice a3 D.length c3) D := sl_of_owns O4.out
  have s1 := run_str (P := Try.prog) w4 22 5 9 Try.underlying22 Try.underlying5 Try.underlying9 hbs4
  have s2 := run_str (P := Try.prog) w4 22 5 9 Try.underlying22 Try.underlying5 Try.underlying9 hbs3
  have s3 := run_str (P := Try.prog) w4 22 5 9 Try.underlying22 Try.underlying5 Try.underlying9 (HB.out.old B4.out)
  have cat : strOf (l.take s) ++ strOf D = strOf l := by
    have h : (strOf (l.take s) ++ strOf D).data = (strOf l).data := by
      rw [← CAT.out]
      simp [strOf, ByteArray.data_append, CAT.out]
    exact ByteArray.ext h
  have sz : (strOf (l.take s)).size + (strOf D).size ≤ 9223372036854775807 := by rw [strOf_size, strOf_size, List.length_take]; have := HL.out; have := DL.out; omega
  clear hv4 hb4 P3 O3 hbs4 hbs3
  go_wp2_with fail
  refine (apart_two w w4 _ _ D.length w1.heap.size w2.heap.size D l B4.out O4.out (Nat.le_trans Z1.out (Nat.le_of_lt Z2.out)) P4.out Z1.out Z2.out DL.out HL.out).mono ?_; rintro e w5 ⟨rfl, hb5⟩
  have B5 := Lib.hid hb5
  clear hb5
  go_wp2_with fail
  go_ret
  exact ⟨rfl, B5.out⟩
theorem sumsTake_any (v : Value) (l : List UInt8) (S : Int) (w : World) (hb : Bs w v l) (hl : l.length ≤ 140737488351232) (hS : -9223372036854775808 ≤ S ∧ S ≤ 9223372036854775807) :
    Calls Try.prog 8 #[v, .int .i64 S] w fun e w' => e = .returned (.bool true) ∧ Below w.heap.size w w' := by
  by_cases h : S < 1 ∨ 4 < S
  · exact sumsTake_bad v l S 6 w hb hl (by decide) (fun u W _ => take_bad u S W h) (fun u W _ => refTake_bad u S W h)
  obtain ⟨s, rfl⟩ : ∃ s : Nat, S = (s : Int) := ⟨S.toNat, by omega⟩
  have hs : 1 ≤ s ∧ s ≤ 4 := by omega
  by_cases h2 : s ≤ l.length
  · exact sumsTake_good v l s w hb hl hs h2
  · exact sumsTake_bad v l s 8 w hb hl (by decide) (fun u W hW => take_short u l s W hW hs (by omega)) (fun u W hW => refTake_short u l s W hW hs (by omega))
end Go.Proofs.Ytfkdfdcnmbaheaa
