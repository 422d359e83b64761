/- LaceSpreads: the law's walk. By an AI agent. -/
import Derived.Test.YtfmkcpilljfidaaSpreadB
import Derived.Test.YtfmkcpilljfidaaSame
import Derived.Deep.RegionHeld3
namespace Go.Proofs.Ytfmkcpilljfidaa
open Go.RowKit
set_option linter.unusedVariables false
set_option linter.unusedSimpArgs false

/-- what a call of the two at any arguments comes to -/
def Sp (W H L : Int) (l : List Int) (ok : Bool) : Prop := (∀ w, Calls Try.prog 14 #[.int .i64 W, .int .i64 H, .int .i64 L] w fun e w' => ∃ v, e = .returned (.tuple #[v, errV (if ok then 0 else 6)]) ∧ Ns w' v l ∧ Below w.heap.size w w') ∧
  (∀ w, Calls Try.prog 16 #[.int .i64 W, .int .i64 H, .int .i64 L] w fun e w' => ∃ v, e = .returned (.tuple #[v, .bool ok]) ∧ Ns w' v l ∧ Below w.heap.size w w') ∧ l.length ≤ 140737488355328
theorem passL_one (W H : Nat) : passL (selP 0) W H 7 = passL (selP 0) W H 1 := by
  have h0 : ∀ k, 1 ≤ k → rowsL (selP 0 k) W H = [] := by
    intro k hk
    rw [rowsL_none (selP 0 k) W 0 H (fun y _ _ x => by simp [selP]; omega) (Nat.zero_le _)]
    rfl
  rw [passL_succ, passL_succ, passL_succ, passL_succ, passL_succ, passL_succ, h0 1 (by omega), h0 2 (by omega), h0 3 (by omega), h0 4 (by omega), h0 5 (by omega), h0 6 (by omega)]
  simp
theorem sp_any (W H L : Int) : ∃ l ok, Sp W H L l ok := by
  by_cases h1 : W < 1 ∨ H < 1
  · exact ⟨[], false, fun w => (spread_neg W H L w h1).mono fun e w' ⟨he, hw⟩ => ⟨.slice none 0 0, by rw [he]; rfl, Ns.nil _ _ _, hw ▸ Below.refl _ _⟩,
      fun w => (refSpread_neg W H L w h1).mono fun e w' ⟨he, hw⟩ => ⟨_, he, Ns.nil _ _ _, hw ▸ Below.refl _ _⟩, by simp⟩
  obtain ⟨a, rfl⟩ : ∃ a : Nat, W = (a : Int) := ⟨W.toNat, by omega⟩
  obtain ⟨b, rfl⟩ : ∃ b : Nat, H = (b : Int) := ⟨H.toNat, by omega⟩
  have ha : 1 ≤ a := by omega
  have hb : 1 ≤ b := by omega
  by_cases h2 : 262144 < a * b ∨ L < 0 ∨ 1 < L
  · exact ⟨[], false, fun w => (spread_out a b L w ha hb h2).mono fun e w' ⟨he, hw⟩ => ⟨.slice none 0 0, by rw [he]; rfl, Ns.nil _ _ _, hw ▸ Below.refl _ _⟩,
      fun w => (refSpread_out a b L w ha hb h2).mono fun e w' ⟨he, hw⟩ => ⟨_, he, Ns.nil _ _ _, hw ▸ Below.refl _ _⟩, by simp⟩
  have hab : a * b ≤ 262144 := by omega
  have ha2 : a ≤ 262144 := Nat.le_trans (Nat.le_mul_of_pos_right a hb) hab
  have hb2 : b ≤ 262144 := Nat.le_trans (Nat.le_mul_of_pos_left b ha) hab
  have hlen : ∀ S, (passL S a b 7).length ≤ 140737488355328 := fun S => by
    have h3 := passL_len S a b 7
    have h4 : b * a ≤ 262144 := by rw [Nat.mul_comm]; exact hab
    omega
  rcases (by omega : L = 0 ∨ L = 1) with rfl | rfl
  · refine ⟨passL (selP 0) a b 7, true, fun w => (spread_0 a b w ⟨ha, ha2⟩ ⟨hb, hb2⟩ hab).mono ?_, fun w => refSpread_0 a b w ⟨ha, ha2⟩ ⟨hb, hb2⟩ hab, hlen _⟩
    rintro e w' ⟨v, he, hv, hw⟩
    exact ⟨v, he, by rw [passL_one]; exact hv, hw⟩
  · exact ⟨passL (selP 1) a b 7, true, fun w => spread_1 a b w ⟨ha, ha2⟩ ⟨hb, hb2⟩ hab, fun w => refSpread_1 a b w ⟨ha, ha2⟩ ⟨hb, hb2⟩ hab, hlen _⟩
theorem sp_two (w : World) : Calls Try.prog 14 #[.int .i64 2, .int .i64 2, .int .i64 1] w fun e w' => ∃ v, e = .returned (.tuple #[v, .nilIface]) ∧ Ns w' v [0, 1, 2, 3] ∧ Below w.heap.size w w' := by
  have h := spread_1 2 2 w (by decide) (by decide) (by decide)
  have h2 : passL (selP 1) 2 2 7 = [0, 1, 2, 3] := by decide +kernel
  rw [h2] at h
  exact h

set_option maxHeartbeats 3200000 in
theorem spreads_yes (W H L : Int) (w : World) (l : List Int) (h : Sp W H L l true) :
    Calls Try.prog 5 #[.int .i64 W, .int .i64 H, .int .i64 L] w fun e w' => e = .returned (.bool true) ∧ Below w.heap.size w w' := by
  obtain ⟨hs, hr, hlen⟩ := h
  have S1 : Hid (∀ w, Calls Try.prog 14 #[.int .i64 W, .int .i64 H, .int .i64 L] w fun e w' => ∃ v, e = .returned (.tuple #[v, .nilIface]) ∧ Ns w' v l ∧ Below w.heap.size w w') := Lib.hid hs
  have R1 := Lib.hid hr
  have HLEN := Lib.hid hlen
  have c : (decide ((300 : Int) < W) = true ∧ decide ((30 : Int) < H) = true ∧ decide (W ≤ 262144) = true ∧ decide (H ≤ 262144) = true) ∨ decide ((300 : Int) < W) = false ∨
      (decide ((300 : Int) < W) = true ∧ decide ((30 : Int) < H) = false) ∨ (decide ((300 : Int) < W) = true ∧ decide ((30 : Int) < H) = true ∧ decide (W ≤ 262144) = false) ∨
      (decide ((300 : Int) < W) = true ∧ decide ((30 : Int) < H) = true ∧ decide (W ≤ 262144) = true ∧ decide (H ≤ 262144) = false) := by
    simp only [decide_eq_true_eq, decide_eq_false_iff_not]; omega
  have HC := Lib.hid c
  clear hs hr hlen c
  go_enter Try.func5, Try.ntmps5
  go_wp2_with fail
  refine (sp_two _).mono ?_; rintro e w1 ⟨v1, rfl, hv1, hb1⟩
  have V1 := Lib.hid hv1
  have B1 := Lib.hid hb1
  clear hv1 hb1
  go_wp2_with fail
  have hl0 : Ns (w1.alloc (.cells #[.int .i64 0, .int .i64 1, .int .i64 2, .int .i64 3] 3)) (.slice (some ⟨w1.heap.size, 0, none⟩) 4 4) [0, 1, 2, 3] := ns_heap [0, 1, 2, 3] (heap_alloc_new _ _) rfl rfl (by decide)
  refine (ints_any _ _ _ _ _ (V1.out.old ((Below.refl _ _).alloc (Nat.le_refl _) _)) hl0 (by decide) (by decide)).mono ?_; rintro e w2 ⟨rfl, q, rfl⟩
  clear hl0
  obtain ⟨w3, hw3⟩ : ∃ w3, (w1.alloc (.cells #[.int .i64 0, .int .i64 1, .int .i64 2, .int .i64 3] 3)).drewN q = w3 := ⟨_, rfl⟩
  have hb3 : Below w.heap.size w w3 := by rw [← hw3]; exact below_drewN (B1.out.alloc B1.out.size _) _
  rw [hw3]
  have B3 := Lib.hid hb3
  clear hw3 hb3
  have t4 : decide (([0, 1, 2, 3] : List Int) = [0, 1, 2, 3]) = true := by decide
  rw [t4]
  clear t4
  rcases HC.out with ⟨c1, c2, c3, c4⟩ | c1 | ⟨c1, c2⟩ | ⟨c1, c2, c3⟩ | ⟨c1, c2, c3, c4⟩
  · go_wp2_with fail
    go_ret
    exact ⟨rfl, B3.out⟩
  all_goals
    go_wp2_with fail
    refine (S1.out _).mono ?_; rintro e w4 ⟨v4, rfl, hv4, hb4⟩
    have V4 := Lib.hid hv4
    have B4 := Lib.hid (B3.out.trans (hb4.mono B3.out.size))
    clear hv4 hb4
    go_wp2_with fail
    refine (R1.out _).mono ?_; rintro e w5 ⟨v5, rfl, hv5, hb5⟩
    have V5 := Lib.hid hv5
    have V45 := Lib.hid (V4.out.old hb5)
    have B5 := Lib.hid (B4.out.trans (hb5.mono B4.out.size))
    clear hv5 hb5
    go_wp2_with fail
    refine (ints_any _ _ _ _ _ V45.out V5.out HLEN.out HLEN.out).mono ?_; rintro e w6 ⟨rfl, q6, rfl⟩
    have tl : decide (l = l) = true := by simp
    rw [tl]
    clear tl
    have B6 := Lib.hid (below_drewN B5.out q6)
    go_wp2_with fail
    go_ret
    exact ⟨rfl, B6.out⟩
set_option maxHeartbeats 3200000 in
theorem spreads_no (W H L : Int) (w : World) (l : List Int) (h : Sp W H L l false) :
    Calls Try.prog 5 #[.int .i64 W, .int .i64 H, .int .i64 L] w fun e w' => e = .returned (.bool true) ∧ Below w.heap.size w w' := by
  obtain ⟨hs, hr, hlen⟩ := h
  have S1 : Hid (∀ w, Calls Try.prog 14 #[.int .i64 W, .int .i64 H, .int .i64 L] w fun e w' => ∃ v, e = .returned (.tuple #[v, errV 6]) ∧ Ns w' v l ∧ Below w.heap.size w w') := Lib.hid hs
  have R1 := Lib.hid hr
  have HLEN := Lib.hid hlen
  have c : (decide ((300 : Int) < W) = true ∧ decide ((30 : Int) < H) = true ∧ decide (W ≤ 262144) = true ∧ decide (H ≤ 262144) = true) ∨ decide ((300 : Int) < W) = false ∨
      (decide ((300 : Int) < W) = true ∧ decide ((30 : Int) < H) = false) ∨ (decide ((300 : Int) < W) = true ∧ decide ((30 : Int) < H) = true ∧ decide (W ≤ 262144) = false) ∨
      (decide ((300 : Int) < W) = true ∧ decide ((30 : Int) < H) = true ∧ decide (W ≤ 262144) = true ∧ decide (H ≤ 262144) = false) := by
    simp only [decide_eq_true_eq, decide_eq_false_iff_not]; omega
  have HC := Lib.hid c
  clear hs hr hlen c
  go_enter Try.func5, Try.ntmps5
  go_wp2_with fail
  refine (sp_two _).mono ?_; rintro e w1 ⟨v1, rfl, hv1, hb1⟩
  have V1 := Lib.hid hv1
  have B1 := Lib.hid hb1
  clear hv1 hb1
  go_wp2_with fail
  have hl0 : Ns (w1.alloc (.cells #[.int .i64 0, .int .i64 1, .int .i64 2, .int .i64 3] 3)) (.slice (some ⟨w1.heap.size, 0, none⟩) 4 4) [0, 1, 2, 3] := ns_heap [0, 1, 2, 3] (heap_alloc_new _ _) rfl rfl (by decide)
  refine (ints_any _ _ _ _ _ (V1.out.old ((Below.refl _ _).alloc (Nat.le_refl _) _)) hl0 (by decide) (by decide)).mono ?_; rintro e w2 ⟨rfl, q, rfl⟩
  clear hl0
  obtain ⟨w3, hw3⟩ : ∃ w3, (w1.alloc (.cells #[.int .i64 0, .int .i64 1, .int .i64 2, .int .i64 3] 3)).drewN q = w3 := ⟨_, rfl⟩
  have hb3 : Below w.heap.size w w3 := by rw [← hw3]; exact below_drewN (B1.out.alloc B1.out.size _) _
  rw [hw3]
  have B3 := Lib.hid hb3
  clear hw3 hb3
  have t4 : decide (([0, 1, 2, 3] : List Int) = [0, 1, 2, 3]) = true := by decide
  rw [t4]
  clear t4
  rcases HC.out with ⟨c1, c2, c3, c4⟩ | c1 | ⟨c1, c2⟩ | ⟨c1, c2, c3⟩ | ⟨c1, c2, c3, c4⟩
  · go_wp2_with fail
    go_ret
    exact ⟨rfl, B3.out⟩
  all_goals
    go_wp2_with fail
    refine (S1.out _).mono ?_; rintro e w4 ⟨v4, rfl, hv4, hb4⟩
    have V4 := Lib.hid hv4
    have B4 := Lib.hid (B3.out.trans (hb4.mono B3.out.size))
    clear hv4 hb4
    go_wp2_with fail
    refine (R1.out _).mono ?_; rintro e w5 ⟨v5, rfl, hv5, hb5⟩
    have V5 := Lib.hid hv5
    have V45 := Lib.hid (V4.out.old hb5)
    have B5 := Lib.hid (B4.out.trans (hb5.mono B4.out.size))
    clear hv5 hb5
    go_wp2_with fail
    refine (ints_any _ _ _ _ _ V45.out V5.out HLEN.out HLEN.out).mono ?_; rintro e w6 ⟨rfl, q6, rfl⟩
    have tl : decide (l = l) = true := by simp
    rw [tl]
    clear tl
    have B6 := Lib.hid (below_drewN B5.out q6)
    go_wp2_with fail
    refine (is_any 6 6 _).mono ?_; rintro e w7 ⟨rfl, rfl⟩
    go_wp2_with fail
    go_ret
    exact ⟨rfl, B6.out⟩
theorem laceSpreads_any (W H L : Int) (w : World) (hW : -9223372036854775808 ≤ W ∧ W ≤ 9223372036854775807) (hH : -9223372036854775808 ≤ H ∧ H ≤ 9223372036854775807) (hL : -9223372036854775808 ≤ L ∧ L ≤ 9223372036854775807) :
    Calls Try.prog 5 #[.int .i64 W, .int .i64 H, .int .i64 L] w fun e w' => e = .returned (.bool true) ∧ Below w.heap.size w w' := by
  obtain ⟨l, ok, h⟩ := sp_any W H L
  cases ok with
  | true => exact spreads_yes W H L w l h
  | false => exact spreads_no W H L w l h
end Go.Proofs.Ytfmkcpilljfidaa
