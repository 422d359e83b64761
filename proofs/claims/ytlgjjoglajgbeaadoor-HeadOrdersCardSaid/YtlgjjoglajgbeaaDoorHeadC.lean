/- The walk of head.Check. By an AI agent. -/
import Derived.Test.YtlgjjoglajgbeaaDoorHead
import Derived.Deep.QuietTactic
import Derived.BigQuiet
import Derived.Deep.RegionWith
namespace Go.Proofs.YtlgjjoglajgbeaaDoor
open Go.RowKit
set_option linter.unusedVariables false
set_option linter.unusedSimpArgs false

def Held5 (w : World) (g : Nat) (W H D C L : Int) (V : World) : Prop := V.cell? ⟨g, 0, none⟩ = some (.int .i64 W) ∧ V.cell? ⟨g, 1, none⟩ = some (.int .i64 H) ∧ V.cell? ⟨g, 2, none⟩ = some (.int .i64 D) ∧ V.cell? ⟨g, 3, none⟩ = some (.int .i64 C) ∧ V.cell? ⟨g, 4, none⟩ = some (.int .i64 L) ∧ Below w.heap.size w V
theorem keep5 {w : World} {g : Nat} {W H D C L : Int} {V V' : World} (h : Held5 w g W H D C L V) (hb : Below V.heap.size V V') : Held5 w g W H D C L V' :=
  ⟨cell_old hb h.1, cell_old hb h.2.1, cell_old hb h.2.2.1, cell_old hb h.2.2.2.1, cell_old hb h.2.2.2.2.1, h.2.2.2.2.2.trans (hb.mono h.2.2.2.2.2.size)⟩

set_option maxHeartbeats 3200000 in
theorem check_any (W H D C L : Int) (w : World) :
    Calls Tryd.prog 23 #[headV W H D C L] w fun e w' => e = .returned (errV (headC W H D C L)) ∧ Below w.heap.size w w' := by
  unfold headV
  by_cases h1 : W < 1
  · have d1 : decide (W < 1) = true := by rw [decide_eq_true_eq]; exact h1
    have F : Hid (headC W H D C L = 2) := Lib.hid (by unfold headC; rw [if_pos (Or.inl h1)])
    clear h1
    go_enter Tryd.func23, Tryd.ntmps23
    go_wp2_with fail
    go_quiet (fail)
    go_wp2_with fail
    go_ret
    exact ⟨by rw [F.out]; rfl, below_drewN ((Below.refl _ _).alloc (Nat.le_refl _) _) _⟩
  by_cases h2 : H < 1
  · have d1 : decide (W < 1) = false := by rw [decide_eq_false_iff_not]; exact h1
    have d2 : decide (H < 1) = true := by rw [decide_eq_true_eq]; exact h2
    have F : Hid (headC W H D C L = 2) := Lib.hid (by unfold headC; rw [if_pos (Or.inr (Or.inl h2))])
    clear h1 h2
    go_enter Tryd.func23, Tryd.ntmps23
    go_wp2_with fail
    go_quiet (fail)
    go_wp2_with fail
    go_ret
    exact ⟨by rw [F.out]; rfl, below_drewN ((Below.refl _ _).alloc (Nat.le_refl _) _) _⟩
  have d1 : decide (W < 1) = false := by rw [decide_eq_false_iff_not]; exact h1
  have d2 : decide (H < 1) = false := by rw [decide_eq_false_iff_not]; exact h2
  by_cases h3 : D ∉ depthsL C ∨ L < 0 ∨ 1 < L
  · have F : Hid (headC W H D C L = 2) := Lib.hid (by unfold headC; rw [if_pos (Or.inr (Or.inr h3))])
    have hd : (∃ r : Bool, decide (D ∈ depthsL C) = r ∧ r = false) ∨ ((∃ r : Bool, decide (D ∈ depthsL C) = r ∧ r = true) ∧ (decide (L < 0) = true ∨ (decide (L < 0) = false ∧ decide (1 < L) = true))) := by
      by_cases hD : D ∈ depthsL C
      · refine Or.inr ⟨⟨_, rfl, decide_eq_true hD⟩, ?_⟩
        simp only [decide_eq_true_eq, decide_eq_false_iff_not]
        rcases h3 with h | h | h
        · exact absurd hD h
        · exact Or.inl h
        · exact Or.inr ⟨by omega, h⟩
      · exact Or.inl ⟨_, rfl, decide_eq_false hD⟩
    clear h1 h2 h3
    rcases hd with ⟨r, hr, rfl⟩ | ⟨⟨r, hr, rfl⟩, d3 | ⟨d3, d4⟩⟩
    all_goals
      have HR := Lib.hid hr
      clear hr
      have HL := Lib.hid (depthsL_len C)
      go_enter Tryd.func23, Tryd.ntmps23
      go_wp2_with fail
      have hb0 : Held5 w w.heap.size W H D C L ((w.alloc (.cells #[.int .i64 W, .int .i64 H, .int .i64 D, .int .i64 C, .int .i64 L] 29)).drew) := ⟨(box_of (heap_alloc_new _ _)).1, (box_of (heap_alloc_new _ _)).2.1, (box_of (heap_alloc_new _ _)).2.2.1, (box_of (heap_alloc_new _ _)).2.2.2.1, (box_of (heap_alloc_new _ _)).2.2.2.2, ((Below.refl _ _).alloc (Nat.le_refl _) _).drew⟩
      first | go_region_with (first | (go_at_call 39; refine (depths_any C _).mono ?_; rintro e w' ⟨v, rfl, hns, hbx⟩; obtain ⟨k0, k1, k2, k3, k4, hfin⟩ := keep5 hb0 hbx; have HNS := Lib.hid hns; have HF := Lib.hid hfin; clear hfin hns hbx) | (go_at_call 38; refine (contains_at _ _ D _ _ (Hid.out (by assumption)) HL.out HR.out).mono ?_; rintro e w' ⟨rfl, rfl⟩)) | fail "region"
      all_goals
        have hfin := (show Hid (Below w.heap.size w _) by assumption)
        go_wp2_with fail
        go_ret
        exact ⟨by rw [F.out]; rfl, hfin.out⟩
  · have e3 : decide (L < 0) = false := by rw [decide_eq_false_iff_not]; omega
    have e4 : decide (1 < L) = false := by rw [decide_eq_false_iff_not]; omega
    have HR : Hid (decide (D ∈ depthsL C) = true) := Lib.hid (decide_eq_true (Classical.byContradiction fun h => h3 (Or.inl h)))
    have HL := Lib.hid (depthsL_len C)
    have hF : headC W H D C L = if 65535 < W ∨ 65535 < H ∨ 262144 < W * H then 4 else 0 := by unfold headC; rw [if_neg (by rintro (h | h | h); exact h1 h; exact h2 h; exact h3 h)]
    have hd : (decide (65535 < W) = true ∧ Hid (headC W H D C L = 4)) ∨ (decide (65535 < W) = false ∧ decide (65535 < H) = true ∧ Hid (headC W H D C L = 4)) ∨ (∃ M, decide (65535 < W) = false ∧ decide (65535 < H) = false ∧ IntKind.i64.wrap (W * H) = M ∧ ((decide (262144 < M) = true ∧ Hid (headC W H D C L = 4)) ∨ (decide (262144 < M) = false ∧ Hid (headC W H D C L = 0)))) := by
      by_cases g1 : 65535 < W
      · exact Or.inl ⟨decide_eq_true g1, Lib.hid (by rw [hF, if_pos (Or.inl g1)])⟩
      by_cases g2 : 65535 < H
      · exact Or.inr (Or.inl ⟨decide_eq_false g1, decide_eq_true g2, Lib.hid (by rw [hF, if_pos (Or.inr (Or.inl g2))])⟩)
      refine Or.inr (Or.inr ⟨W * H, decide_eq_false g1, decide_eq_false g2, wrap_mul (by omega) (by omega) (by omega) (by omega), ?_⟩)
      by_cases g3 : 262144 < W * H
      · exact Or.inl ⟨decide_eq_true g3, Lib.hid (by rw [hF, if_pos (Or.inr (Or.inr g3))])⟩
      · exact Or.inr ⟨decide_eq_false g3, Lib.hid (by rw [hF, if_neg (by rintro (h | h | h); exact g1 h; exact g2 h; exact g3 h)])⟩
    clear h1 h2 h3 hF
    have HD := Lib.hid hd
    clear hd
    all_goals
      go_enter Tryd.func23, Tryd.ntmps23
      go_wp2_with fail
      have hb0 : Held5 w w.heap.size W H D C L ((w.alloc (.cells #[.int .i64 W, .int .i64 H, .int .i64 D, .int .i64 C, .int .i64 L] 29)).drew) := ⟨(box_of (heap_alloc_new _ _)).1, (box_of (heap_alloc_new _ _)).2.1, (box_of (heap_alloc_new _ _)).2.2.1, (box_of (heap_alloc_new _ _)).2.2.2.1, (box_of (heap_alloc_new _ _)).2.2.2.2, ((Below.refl _ _).alloc (Nat.le_refl _) _).drew⟩
      first | go_region_with (first | (go_at_call 39; refine (depths_any C _).mono ?_; rintro e w' ⟨v, rfl, hns, hbx⟩; obtain ⟨k0, k1, k2, k3, k4, hfin⟩ := keep5 hb0 hbx; have HNS := Lib.hid hns; have HF := Lib.hid hfin; clear hfin hns hbx) | (go_at_call 38; refine (contains_at _ _ D _ _ (Hid.out (by assumption)) HL.out HR.out).mono ?_; rintro e w' ⟨rfl, rfl⟩)) | fail "region"
      all_goals
        have hfin := (show Hid (Below w.heap.size w _) by assumption)
        rcases HD.out with ⟨g1, F⟩ | ⟨g1, g2, F⟩ | ⟨M, g1, g2, hM, ⟨g3, F⟩ | ⟨g3, F⟩⟩
        all_goals
          go_wp2_with fail
          go_ret
          exact ⟨by rw [F.out]; rfl, hfin.out⟩
end Go.Proofs.YtlgjjoglajgbeaaDoor
