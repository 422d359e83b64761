/- MarkerCuts: the law's walk. By an AI agent. -/
import Derived.Test.YtlljooncoingnaaSegL
import Derived.Test.YtlljooncoingnaaLawM2
namespace Go.Proofs.Ytlljooncoingnaa
open Go.RowKit Go.BigFrame
set_option linter.unusedVariables false
set_option linter.unusedSimpArgs false

theorem all_good {its : List Itm} (h : its.all goodI = true) : ∀ it ∈ its, goodI it = true := List.all_eq_true.1 h
theorem write_len (its : List Itm) : 4 ≤ (writeS its).length := by simp only [writeS, List.length_append, List.length_cons, List.length_nil]; omega
theorem seg_of {its : List Itm} (hg : its.all goodI = true) : ∃ f r, (writeS its).drop 2 = r ∧ segF f r [] = (its, 0) := by
  have hlen : its.length < (writeS its).length + its.length := by have := write_len its; omega
  refine ⟨(writeS its).length + its.length, _, rfl, ?_⟩
  have e : (writeS its).drop 2 = (its.map itemL).flatten ++ [255, 217] := by simp [writeS]
  rw [e, segF_write its _ [] (all_good hg) hlen]
  rfl
theorem cut_parse {its : List Itm} (hg : its.all goodI = true) (hl : (writeS its).length ≤ 1048576) (k : Nat) (hk : k < (writeS its).length) : parseS ((writeS its).take k) = ([], if k < 2 then 2 else 8) := by
  obtain ⟨f, r, hr, hs⟩ := seg_of hg
  have ht : ((writeS its).take k).length = k := by rw [List.length_take]; omega
  unfold parseS
  rw [ht, if_neg (by omega)]
  by_cases h2 : k < 2
  · rw [if_pos (by intro e; have := congrArg List.length e; simp at this; omega), if_pos h2]
  · have e2 : ((writeS its).take k).take 2 = [255, 216] := by rw [List.take_take, Nat.min_eq_left (by omega)]; simp [writeS]
    rw [if_neg (by rw [e2]; simp), if_neg h2]
    have e3 : ((writeS its).take k).drop 2 = r.take (k - 2) := by rw [← hr, List.drop_take]
    have hrl : r.length = (writeS its).length - 2 := by rw [← hr, List.length_drop]
    rw [e3]
    exact segF_cut f r [] its (k - 2) (by omega) hs k (by omega)
theorem more_parse {its : List Itm} (hg : its.all goodI = true) (hl : (writeS its).length < 1048576) : parseS (writeS its ++ [0]) = ([], 2) := by
  obtain ⟨f, r, hr, hs⟩ := seg_of hg
  have h4 := write_len its
  unfold parseS
  have e2 : (writeS its ++ [0]).take 2 = [255, 216] := by rw [List.take_append_of_le_length (by omega)]; simp [writeS]
  have hrl : r.length = (writeS its).length - 2 := by rw [← hr, List.length_drop]
  rw [if_neg (by simp; omega), if_neg (by rw [e2]; simp), List.drop_append_of_le_length (by omega), hr]
  exact segF_more f r [] its [0] (by simp) hs _ (by simp; omega)
theorem cut_at (k : Int) (L : Nat) (h0 : 0 < L) (hL : L ≤ 1048576) : ∃ q : Nat, q < L ∧ wrap64 ((IntKind.u64.wrap k).tmod (L : Int)) = (q : Int) := by
  have h1 : 0 ≤ IntKind.u64.wrap k := by unfold IntKind.wrap; simp [IntKind.bits, IntKind.signed]; omega
  obtain ⟨u, hu⟩ : ∃ u, IntKind.u64.wrap k = u := ⟨_, rfl⟩
  rw [hu] at h1 ⊢
  rw [Int.tmod_eq_emod_of_nonneg h1]
  have h2 := Int.emod_nonneg u (show (L : Int) ≠ 0 by omega)
  have h3 := Int.emod_lt_of_pos u (show (0 : Int) < (L : Int) by omega)
  generalize u % (L : Int) = r at h2 h3
  exact ⟨r.toNat, by omega, by rw [IntWalk.wrap64_in _ (by omega)]; omega⟩
set_option maxRecDepth 20000 in
set_option maxHeartbeats 6400000 in
theorem lawCuts_any (v : Value) (its : List Itm) (at' : Int) (w : World) (hb : Its w v its) (hl : its.length ≤ 140737488351232) (hi : ∀ it ∈ its, it.2.1.length ≤ 140737488351232 ∧ it.2.2.length ≤ 140737488351232 ∧ ∀ p ∈ it.2.2, p.length ≤ 140737488351232) (ha : -9223372036854775808 ≤ at' ∧ at' ≤ 9223372036854775807) :
    Calls Try.prog 7 #[v, .int .i64 at'] w fun e w' => e = .returned (.bool true) ∧ Below w.heap.size w w' := by
  have HB := Lib.hid hb
  have HI := Lib.hid hi
  have HL := Lib.hid hl
  obtain ⟨a0, c0, rfl, _⟩ := Els.len hb
  clear hb hi hl
  go_enter Try.func7, Try.ntmps7
  go_wp2_with fail
  refine (alive_any _).mono ?_; rintro e w1 ⟨rfl, hb1⟩
  have B1 := Lib.hid hb1
  clear hb1
  go_wp2_with fail
  refine (large_any _ its _ (HB.out.old B1.out) HL.out (fun it h => (HI.out it h).1) (fun it h => (HI.out it h).2.1) (fun it h => (HI.out it h).2.2)).mono ?_
  rintro e w2 ⟨rfl, hb2⟩
  have B2 := Lib.hid (B1.out.trans (hb2.mono B1.out.size))
  clear hb2
  by_cases hlg : 10000 < sumM its
  · rw [decide_eq_true hlg]
    clear hlg
    go_wp2_with fail
    go_ret
    exact ⟨rfl, B2.out⟩
  rw [decide_eq_false hlg]
  have SM := Lib.hid (small_all hlg)
  have WS : Hid ((writeS its).length ≤ 20004) := Lib.hid (by have := writeS_sum its; omega)
  clear hlg
  go_wp2_with fail
  refine (items_any _ its _ (HB.out.old B2.out) (by have := SM.out.1; omega) (fun it h => (HI.out it h).1) (fun it h => by have := (SM.out.2.2 it h).2.1; omega) (fun it h => (HI.out it h).2.2)).mono ?_
  rintro e w3 ⟨v3, xs, rfl, hv3, hxs, hb3⟩
  have B3 := Lib.hid (B2.out.trans (hb3.mono B2.out.size))
  have I3 : Hid (Its w3 v3 its) := Lib.hid (by have := hv3.its; rwa [hxs] at this)
  obtain ⟨a3, c3, rfl⟩ := owns_len hv3.row
  clear hb3 hv3 hxs
  go_wp2_with fail
  refine (mwrite_any _ its _ I3.out (by have := SM.out.1; omega) (fun it h => (HI.out it h).1) (fun it h => (HI.out it h).2.1) (fun _ => SM.out.2.1)).mono ?_
  rintro e w4 ⟨hb4, hw4⟩
  have B4 := Lib.hid (B3.out.trans (hb4.mono B3.out.size))
  have S3 : Hid (w.heap.size ≤ w3.heap.size) := Lib.hid B3.out.size
  rcases hA : its.all goodI with _ | _
  · rw [if_neg (by rw [hA]; simp)] at hw4
    subst hw4
    clear hb4 hA
    go_wp2_with fail
    go_ret
    exact ⟨rfl, B4.out⟩
  rw [if_pos hA] at hw4
  obtain ⟨v4, rfl, ho4⟩ := hw4
  obtain ⟨l, hlw⟩ : ∃ l, writeS its = l := ⟨_, rfl⟩
  have CP : Hid (∀ k, k < l.length → parseS (l.take k) = ([], if k < 2 then 2 else 8)) := Lib.hid (fun k hk => by rw [← hlw] at hk ⊢; exact cut_parse hA SM.out.2.1 k hk)
  have LL : Hid (4 ≤ l.length ∧ l.length ≤ 20010) := Lib.hid (by rw [← hlw]; exact ⟨write_len its, by have := WS.out; omega⟩)
  have MP : Hid (parseS (l ++ [0]) = ([], 2)) := Lib.hid (by rw [← hlw]; exact more_parse hA (by have := LL.out; rw [← hlw] at this; omega))
  rw [hlw] at ho4
  obtain ⟨a4, c4, rfl⟩ := owns_len ho4
  have O4 := Lib.hid (World.ownsRow.mono ho4 S3.out)
  have V4 : Hid (Bs w4 (.slice a4 l.length c4) l) := Lib.hid (sl_of_owns ho4)
  obtain ⟨q, hq, hqw⟩ := cut_at at' l.length (by have := LL.out; omega) (by have := LL.out; omega)
  have HQ := Lib.hid hq
  have hc4 := bs_cap V4.out
  have L0 : ¬ l.length = 0 := by have := LL.out; omega
  have j1 : (q : Int) ≤ (c4 : Int) := by omega
  have j2 : q ≤ c4 := by omega
  have l64 : IntKind.u64.wrap (l.length : Int) = (l.length : Int) := by
    have := LL.out; unfold IntKind.wrap; simp [IntKind.bits, IntKind.signed]; omega
  have E0 : ((0 : Nat) : Int) = 0 := rfl
  clear hb4 hA ho4 hlw hq
  go_wp2_with fail
  by_cases hq2 : q < 2
  · have CQ := CP.out q HQ.out
    rw [if_pos hq2] at CQ
    have d1 : decide ((q : Int) < 2) = true := by rw [decide_eq_true_eq]; omega
    have d2 : decide (q < 2) = true := by rw [decide_eq_true_eq]; omega
    have PA := parse_any _ (l.take q) w4 (V4.out.take q (by have := HQ.out; omega)) (by rw [List.length_take]; have := LL.out; omega)
    rw [CQ] at PA
    refine PA.mono ?_
    rintro e w5 ⟨v5, ys, rfl, hv5, hys, hb5⟩
    have hy0 : ys = [] := by simpa using hys
    subst hy0
    obtain ⟨a5, c5, rfl⟩ := owns_len hv5.row
    have B5 := Lib.hid (B4.out.trans (hb5.mono B4.out.size))
    have O5 := Lib.hid (owns_below O4.out hb5)
    simp only
    obtain ⟨E1, hE1⟩ : ∃ E, errV (((2 : Nat) : Int)) = E := ⟨_, rfl⟩
    have HE1 := Lib.hid hE1
    rw [hE1]
    clear PA CQ hv5 hys hb5 hE1 hq2
    go_wp2_with (at_builtin; refine stop ?_)
    refine unstop (wpList_appB rfl _ _ rfl w.heap.size _ l rfl (O5.out.alloc _) w5.heap.size 0 rfl (heap_alloc_new _ _) (by have := LL.out; omega) (by have := B5.out.size; simp; omega) ?_)
    intro v6 w6 o6 g6 _
    have B6 := Lib.hid (run_app_below (O5.out.alloc _) g6 (B5.out.alloc B5.out.size _) (Nat.le_refl _))
    have V6 : Hid (Bs w6 v6 (l ++ [0])) := Lib.hid (sl_of_owns o6)
    have L6 : Hid ((l ++ [0]).length ≤ 140737488351232) := Lib.hid (by have := LL.out; simp; omega)
    obtain ⟨a6, c6, rfl⟩ := owns_len o6
    obtain ⟨l2, hl2⟩ : ∃ l2, l ++ [(0 : UInt8)] = l2 := ⟨_, rfl⟩
    rw [hl2] at V6 MP L6 ⊢
    clear o6 g6 hl2
    go_wp2_with fail
    have PB := parse_any _ l2 w6 V6.out L6.out
    rw [MP.out] at PB
    refine PB.mono ?_
    rintro e w7 ⟨v7, ys, rfl, hv7, hys, hb7⟩
    have hy0 : ys = [] := by simpa using hys
    subst hy0
    obtain ⟨a7, c7, rfl⟩ := owns_len hv7.row
    have B7 := Lib.hid (B6.out.trans (hb7.mono B6.out.size))
    simp only
    obtain ⟨E2, hE2⟩ : ∃ E, errV (((2 : Nat) : Int)) = E := ⟨_, rfl⟩
    have HE2 := Lib.hid hE2
    rw [hE2]
    clear PB hv7 hys hb7 hE2
    go_wp2_with fail
    rw [← HE1.out]
    refine (is_any _ 2 w7).mono ?_; rintro e w8 ⟨rfl, rfl⟩
    rw [show ((((2 : Nat) : Int)) == 2) = true from rfl]
    go_wp2_with fail
    rw [← HE2.out]
    refine (is_any _ 2 w7).mono ?_; rintro e w8 ⟨rfl, rfl⟩
    rw [show ((((2 : Nat) : Int)) == 2) = true from rfl]
    go_wp2_with fail
    go_ret
    exact ⟨rfl, B7.out⟩
  · have CQ := CP.out q HQ.out
    rw [if_neg hq2] at CQ
    have d1 : decide ((q : Int) < 2) = false := by rw [decide_eq_false_iff_not]; omega
    have d2 : decide (q < 2) = false := by rw [decide_eq_false_iff_not]; omega
    have PA := parse_any _ (l.take q) w4 (V4.out.take q (by have := HQ.out; omega)) (by rw [List.length_take]; have := LL.out; omega)
    rw [CQ] at PA
    refine PA.mono ?_
    rintro e w5 ⟨v5, ys, rfl, hv5, hys, hb5⟩
    have hy0 : ys = [] := by simpa using hys
    subst hy0
    obtain ⟨a5, c5, rfl⟩ := owns_len hv5.row
    have B5 := Lib.hid (B4.out.trans (hb5.mono B4.out.size))
    have O5 := Lib.hid (owns_below O4.out hb5)
    simp only
    obtain ⟨E1, hE1⟩ : ∃ E, errV (((8 : Nat) : Int)) = E := ⟨_, rfl⟩
    have HE1 := Lib.hid hE1
    rw [hE1]
    clear PA CQ hv5 hys hb5 hE1 hq2
    go_wp2_with (at_builtin; refine stop ?_)
    refine unstop (wpList_appB rfl _ _ rfl w.heap.size _ l rfl (O5.out.alloc _) w5.heap.size 0 rfl (heap_alloc_new _ _) (by have := LL.out; omega) (by have := B5.out.size; simp; omega) ?_)
    intro v6 w6 o6 g6 _
    have B6 := Lib.hid (run_app_below (O5.out.alloc _) g6 (B5.out.alloc B5.out.size _) (Nat.le_refl _))
    have V6 : Hid (Bs w6 v6 (l ++ [0])) := Lib.hid (sl_of_owns o6)
    have L6 : Hid ((l ++ [0]).length ≤ 140737488351232) := Lib.hid (by have := LL.out; simp; omega)
    obtain ⟨a6, c6, rfl⟩ := owns_len o6
    obtain ⟨l2, hl2⟩ : ∃ l2, l ++ [(0 : UInt8)] = l2 := ⟨_, rfl⟩
    rw [hl2] at V6 MP L6 ⊢
    clear o6 g6 hl2
    go_wp2_with fail
    have PB := parse_any _ l2 w6 V6.out L6.out
    rw [MP.out] at PB
    refine PB.mono ?_
    rintro e w7 ⟨v7, ys, rfl, hv7, hys, hb7⟩
    have hy0 : ys = [] := by simpa using hys
    subst hy0
    obtain ⟨a7, c7, rfl⟩ := owns_len hv7.row
    have B7 := Lib.hid (B6.out.trans (hb7.mono B6.out.size))
    simp only
    obtain ⟨E2, hE2⟩ : ∃ E, errV (((2 : Nat) : Int)) = E := ⟨_, rfl⟩
    have HE2 := Lib.hid hE2
    rw [hE2]
    clear PB hv7 hys hb7 hE2
    go_wp2_with fail
    rw [← HE1.out]
    refine (is_any _ 8 w7).mono ?_; rintro e w8 ⟨rfl, rfl⟩
    rw [show ((((8 : Nat) : Int)) == 8) = true from rfl]
    go_wp2_with fail
    rw [← HE2.out]
    refine (is_any _ 2 w7).mono ?_; rintro e w8 ⟨rfl, rfl⟩
    rw [show ((((2 : Nat) : Int)) == 2) = true from rfl]
    go_wp2_with fail
    go_ret
    exact ⟨rfl, B7.out⟩
end Go.Proofs.Ytlljooncoingnaa
