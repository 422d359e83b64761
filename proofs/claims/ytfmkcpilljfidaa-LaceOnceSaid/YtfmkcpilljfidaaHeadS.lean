/- The walks of head.RowSize, burnishref13.RowSize. By an AI agent. -/
import Derived.Test.YtfmkcpilljfidaaHeadC
import Derived.Test.YtfmkcpilljfidaaHeadR
namespace Go.Proofs.Ytfmkcpilljfidaa
open Go.RowKit
set_option linter.unusedVariables false
set_option linter.unusedSimpArgs false

/-- how many bytes a row has -/
def rowN (W H D C L x : Int) : Int := if headC W H D C L ≠ 0 ∨ x < 1 ∨ 65535 < x then 0 else (x * chanN C * D + 7) / 8
def RowCases (W H D C L x : Int) : Prop :=
  (∃ n, headC W H D C L = n ∧ n ≠ 0 ∧ (n != 0) = true ∧ Hid (rowN W H D C L x = 0)) ∨
  (headC W H D C L = 0 ∧ decide (x < 1) = true ∧ Hid (rowN W H D C L x = 0)) ∨
  (headC W H D C L = 0 ∧ decide (x < 1) = false ∧ decide (65535 < x) = true ∧ Hid (rowN W H D C L x = 0)) ∨
  (headC W H D C L = 0 ∧ decide (x < 1) = false ∧ decide (65535 < x) = false ∧ ∃ b : Nat, b ≤ 4194240 ∧ wrap64 (wrap64 (x * chanN C) * D) = (b : Int) ∧ Hid (rowN W H D C L x = ((b + 7) / 8 : Nat)))
theorem chan_bound (C : Int) : 0 ≤ chanN C ∧ chanN C ≤ 4 := by
  unfold chanN
  repeat' split
  all_goals decide
theorem depth_bound {C D : Int} (h : D ∈ depthsL C) : 1 ≤ D ∧ D ≤ 16 := by
  unfold depthsL at h
  split at h
  · simp at h; omega
  split at h
  · simp at h; omega
  split at h
  · simp at h; omega
  · simp at h
theorem row_cases (W H D C L x : Int) : RowCases W H D C L x := by
  unfold RowCases
  by_cases h0 : headC W H D C L = 0
  case neg => exact Or.inl ⟨_, rfl, h0, by rw [bne_iff_ne]; exact h0, Lib.hid (by unfold rowN; rw [if_pos (Or.inl h0)])⟩
  refine Or.inr ?_
  by_cases h1 : x < 1
  · exact Or.inl ⟨h0, decide_eq_true h1, Lib.hid (by unfold rowN; rw [if_pos (Or.inr (Or.inl h1))])⟩
  refine Or.inr ?_
  by_cases h2 : 65535 < x
  · exact Or.inl ⟨h0, decide_eq_false h1, decide_eq_true h2, Lib.hid (by unfold rowN; rw [if_pos (Or.inr (Or.inr h2))])⟩
  refine Or.inr ⟨h0, decide_eq_false h1, decide_eq_false h2, ?_⟩
  have hD : D ∈ depthsL C := by
    apply Classical.byContradiction
    intro h
    unfold headC at h0
    rw [if_pos (Or.inr (Or.inr (Or.inl h)))] at h0
    exact absurd h0 (by decide)
  obtain ⟨b1, b2⟩ := depth_bound hD
  obtain ⟨c1, c2⟩ := chan_bound C
  have hrow : rowN W H D C L x = (x * chanN C * D + 7) / 8 := by unfold rowN; rw [if_neg (by rintro (h | h | h); exact h h0; exact h1 h; exact h2 h)]
  rw [hrow]
  generalize chanN C = c at *
  obtain ⟨x, rfl⟩ : ∃ y : Nat, x = (y : Int) := ⟨x.toNat, by omega⟩
  obtain ⟨c, rfl⟩ : ∃ y : Nat, c = (y : Int) := ⟨c.toNat, by omega⟩
  obtain ⟨D, rfl⟩ : ∃ y : Nat, D = (y : Int) := ⟨D.toNat, by omega⟩
  have m1 : x * c ≤ 65535 * 4 := Nat.mul_le_mul (by omega) (by omega)
  have m2 : x * c * D ≤ 65535 * 4 * 16 := Nat.mul_le_mul m1 (by omega)
  refine ⟨x * c * D, m2, ?_, Lib.hid ?_⟩
  · have e1 : wrap64 ((x : Int) * (c : Int)) = ((x * c : Nat) : Int) := by
      rw [← Int.natCast_mul]
      generalize x * c = y at m1
      exact IntWalk.wrap64_in _ (by omega)
    rw [e1, ← Int.natCast_mul]
    generalize x * c * D = z at m2
    exact IntWalk.wrap64_in _ (by omega)
  · rw [← Int.natCast_mul, ← Int.natCast_mul]
    generalize x * c * D = z
    omega

set_option maxHeartbeats 3200000 in
theorem rowSize_any (W H D C L x : Int) (w : World) :
    Calls Try.prog 30 #[headV W H D C L, .int .i64 x] w fun e w' => e = .returned (.int .i64 (rowN W H D C L x)) ∧ Below w.heap.size w w' := by
  have HC := Lib.hid (row_cases W H D C L x)
  have ck := check_any W H D C L
  unfold headV at *
  have CK := Lib.hid ck
  clear ck
  go_enter Try.func30, Try.ntmps30
  go_wp2_with fail
  refine (CK.out _).mono ?_; rintro e w1 ⟨rfl, hb1⟩
  have hb2 : Below w.heap.size w w1 := ((Below.refl _ _).alloc (Nat.le_refl _) _).trans (hb1.mono (by simp))
  have hbox : Box w.heap.size W H D C L w1 := (box_of (heap_alloc_new _ _)).old hb1
  have HB := Lib.hid hb2
  obtain ⟨k0, k1, k2, k3, k4⟩ := hbox
  clear hb1 hb2
  rcases HC.out with ⟨n, hn, hn0, e0, F⟩ | ⟨hn, e1, F⟩ | ⟨hn, e1, e2, F⟩ | ⟨hn, e1, e2, b, hb, hw, F⟩
  · rw [hn, errV_some hn0]
    clear hn hn0
    go_wp2_with fail
    go_ret
    exact ⟨ri F.out.symm, HB.out⟩
  · rw [hn, errV_zero]
    go_wp2_with fail
    go_ret
    exact ⟨ri F.out.symm, HB.out⟩
  · rw [hn, errV_zero]
    go_wp2_with fail
    go_ret
    exact ⟨ri F.out.symm, HB.out⟩
  · rw [hn, errV_zero]
    clear hn
    have w1 : wrap64 ((b : Int) + 7) = (b : Int) + 7 := IntWalk.wrap64_in _ (by omega)
    have t1 : ((b : Int) + 7).tdiv 8 = (((b + 7) / 8 : Nat) : Int) := by rw [Int.tdiv_eq_ediv_of_nonneg (by omega)]; omega
    have w2 : wrap64 (((b + 7) / 8 : Nat) : Int) = (((b + 7) / 8 : Nat) : Int) := IntWalk.wrap64_in _ (by omega)
    have HBB := Lib.hid hb
    clear hb
    go_wp2_with fail
    go_quiet ((go_at_call 34; exact Calls.quiet_of_same (channels_any _ _)))
    go_wp2_with fail
    go_ret
    exact ⟨ri (by have := HBB.out; rw [F.out, IntWalk.wrap64_in _ (by omega)]; omega), below_drewN HB.out _⟩

end Go.Proofs.Ytfmkcpilljfidaa
