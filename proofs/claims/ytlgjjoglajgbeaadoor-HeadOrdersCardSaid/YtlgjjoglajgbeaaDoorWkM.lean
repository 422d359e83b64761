/- head's walk over chunks: plte, trns. By an AI agent. -/
import Derived.Test.YtlgjjoglajgbeaaDoorWkN
import Derived.Test.YtlgjjoglajgbeaaDoorKeysB
namespace Go.Proofs.YtlgjjoglajgbeaaDoor
open Go.RowKit Go.BigFrame
set_option linter.unusedVariables false
set_option linter.unusedSimpArgs false

theorem Wk.pal {W : World} {B M : Nat} {x y D C L : Int} {pal : Nat} {en : Bool} (h : Wk W B M x y D C L pal en) (p : Nat) : Wk (W.setCell ⟨B, 6, none⟩ (.int .i64 (p : Nat))) B M x y D C L p en := by
  have h1 := heap_setCell_same W B 6 _ _ (.int .i64 (p : Nat)) h
  exact h1
theorem Wk.ended {W : World} {B M : Nat} {x y D C L : Int} {pal : Nat} {en : Bool} (h : Wk W B M x y D C L pal en) (e : Bool) : Wk (W.setCell ⟨B, 7, none⟩ (.bool e)) B M x y D C L pal e := by
  have h1 := heap_setCell_same W B 7 _ _ (.bool e) h
  exact h1
theorem Wk.frozen {W : World} {B M : Nat} {x y D C L : Int} {pal : Nat} {en : Bool} (h : Wk W B M x y D C L pal en) (i : Nat) : W.frozen? ⟨B, i, none⟩ = false := by
  have h1 : W.heap[B]? = some (.cells #[.int .i64 x, .int .i64 y, .int .i64 D, .int .i64 C, .int .i64 L, .map (some M), .int .i64 (pal : Nat), .bool en] 47 (0, 0)) := h
  unfold World.frozen?
  rw [h1]
  simp
set_option maxRecDepth 20000 in
set_option maxHeartbeats 6400000 in
theorem plte_any (v : Value) (l : List UInt8) (w : World) (B M : Nat) (x y D C L : Int) (pal : Nat) (en : Bool) (hw : Wk w B M x y D C L pal en) (hb : Bs w v l) (hl : l.length ≤ 2000) (hD : D ∈ depthsL C) :
    Calls Tryd.prog 31 #[.pointer (some ⟨B, 0, none⟩), v] w fun e w' => e = .returned (.bool (!plteBad C D l)) ∧ w' = w.setCell ⟨B, 6, none⟩ (.int .i64 ((l.length / 3 : Nat) : Int)) := by
  obtain ⟨a, c, rfl⟩ := hb.len
  obtain ⟨c2, c3, c5, c6, c7⟩ := hw.cells
  obtain ⟨d2, d3, -, -, -⟩ := (hw.pal (l.length / 3)).cells
  have f6 := hw.frozen 6
  obtain ⟨n, hn⟩ : ∃ n, l.length / 3 = n := ⟨_, rfl⟩
  obtain ⟨r, hr⟩ : ∃ r, l.length % 3 = r := ⟨_, rfl⟩
  rw [hn] at d2 d3 ⊢
  have PB : Hid (plteBad C D l = (decide (r ≠ 0) || decide (n < 1) || decide (256 < n) || decide (C = 0) || decide (C = 4) || (decide (C = 3) && decide (2 ^ D.toNat < n)))) := Lib.hid (by unfold plteBad; rw [hn, hr])
  obtain ⟨k, hk⟩ : ∃ k, l.length = k := ⟨_, rfl⟩
  rw [hk] at hn hr hl ⊢
  have t1 : (k : Int).tdiv 3 = (n : Int) := by rw [Int.tdiv_eq_ediv_of_nonneg (by omega)]; omega
  have t2 : (k : Int).tmod 3 = (r : Int) := by rw [Int.tmod_eq_emod_of_nonneg (by omega)]; omega
  have t3 : wrap64 (n : Int) = (n : Int) := IntWalk.wrap64_in _ (by omega)
  have t4 : wrap64 (r : Int) = (r : Int) := IntWalk.wrap64_in _ (by omega)
  have g0 : (((r : Int) == 0) = true ∧ (r == 0) = true ∧ decide (r ≠ 0) = false) ∨ (((r : Int) == 0) = false ∧ (r == 0) = false ∧ decide (r ≠ 0) = true) := by
    by_cases h : r = 0
    · left; subst h; exact ⟨rfl, rfl, rfl⟩
    · right; exact ⟨by rw [beq_eq_false_iff_ne]; omega, by rw [beq_eq_false_iff_ne]; exact h, decide_eq_true h⟩
  have g1 : (decide ((1 : Int) ≤ (n : Int)) = true ∧ decide (1 ≤ n) = true ∧ decide (n < 1) = false) ∨ (decide ((1 : Int) ≤ (n : Int)) = false ∧ decide (1 ≤ n) = false ∧ decide (n < 1) = true) := by
    simp only [decide_eq_true_eq, decide_eq_false_iff_not]; omega
  have g2 : (decide ((n : Int) ≤ 256) = true ∧ decide (n ≤ 256) = true ∧ decide (256 < n) = false) ∨ (decide ((n : Int) ≤ 256) = false ∧ decide (n ≤ 256) = false ∧ decide (256 < n) = true) := by
    simp only [decide_eq_true_eq, decide_eq_false_iff_not]; omega
  have hC : (C = 0 ∨ C = 4) ∨ (C = 3 ∧ (D = 1 ∨ D = 2 ∨ D = 4 ∨ D = 8)) ∨ C = 2 ∨ C = 6 := by
    unfold depthsL at hD
    split at hD
    · omega
    · split at hD
      · simp at hD; omega
      · split at hD
        · omega
        · simp at hD
  have HN := Lib.hid hn
  clear hn hr hl hk hD hw hb c5 c7
  rcases hC with hC | ⟨rfl, hD⟩ | hC
  · have RE : Hid (plteBad C D l = true) := Lib.hid (by rw [PB.out]; rcases hC with rfl | rfl <;> simp)
    rcases hC with rfl | rfl
    all_goals
      clear g0 g1 g2
      go_enter Tryd.func31, Tryd.ntmps31
      go_wp2_with fail
      go_ret
      exact ⟨rb (by rw [RE.out]; rfl), rfl⟩
  · rcases hD with rfl | rfl | rfl | rfl
    · have PB2 : Hid (plteBad 3 1 l = (decide (r ≠ 0) || decide (n < 1) || decide (256 < n) || decide (2 < n))) := Lib.hid (by rw [PB.out]; simp)
      have g3 : (decide ((2 : Int) < (n : Int)) = true ∧ decide (2 < n) = true) ∨ (decide ((2 : Int) < (n : Int)) = false ∧ decide (2 < n) = false) := by
        simp only [decide_eq_true_eq, decide_eq_false_iff_not]; omega
      clear PB
      rcases g3 with ⟨g3, g3'⟩ | ⟨g3, g3'⟩
      · have RE : Hid (plteBad 3 1 l = true) := Lib.hid (by rw [PB2.out, g3']; simp)
        clear g0 g1 g2 PB2
        go_enter Tryd.func31, Tryd.ntmps31
        go_wp2_with fail
        go_ret
        exact ⟨rb (by rw [RE.out]; rfl), rfl⟩
      · have G3 := Lib.hid g3'
        rcases g0 with ⟨g0, g0', g0''⟩ | ⟨g0, g0', g0''⟩ <;> rcases g1 with ⟨g1, g1', g1''⟩ | ⟨g1, g1', g1''⟩ <;> rcases g2 with ⟨g2, g2', g2''⟩ | ⟨g2, g2', g2''⟩
        all_goals
          have RE := PB2.out
          first | rw [g0'', g1'', g2'', G3.out] at RE | rw [g0'', g1'', g2''] at RE
          have RE2 := Lib.hid RE
          clear RE PB2 g0'' g1'' g2''
          go_enter Tryd.func31, Tryd.ntmps31
          go_wp2_with fail
          go_ret
          exact ⟨rb (by rw [RE2.out]; rfl), rfl⟩
    · have PB2 : Hid (plteBad 3 2 l = (decide (r ≠ 0) || decide (n < 1) || decide (256 < n) || decide (4 < n))) := Lib.hid (by rw [PB.out]; simp)
      have g3 : (decide ((4 : Int) < (n : Int)) = true ∧ decide (4 < n) = true) ∨ (decide ((4 : Int) < (n : Int)) = false ∧ decide (4 < n) = false) := by
        simp only [decide_eq_true_eq, decide_eq_false_iff_not]; omega
      clear PB
      rcases g3 with ⟨g3, g3'⟩ | ⟨g3, g3'⟩
      · have RE : Hid (plteBad 3 2 l = true) := Lib.hid (by rw [PB2.out, g3']; simp)
        clear g0 g1 g2 PB2
        go_enter Tryd.func31, Tryd.ntmps31
        go_wp2_with fail
        go_ret
        exact ⟨rb (by rw [RE.out]; rfl), rfl⟩
      · have G3 := Lib.hid g3'
        rcases g0 with ⟨g0, g0', g0''⟩ | ⟨g0, g0', g0''⟩ <;> rcases g1 with ⟨g1, g1', g1''⟩ | ⟨g1, g1', g1''⟩ <;> rcases g2 with ⟨g2, g2', g2''⟩ | ⟨g2, g2', g2''⟩
        all_goals
          have RE := PB2.out
          first | rw [g0'', g1'', g2'', G3.out] at RE | rw [g0'', g1'', g2''] at RE
          have RE2 := Lib.hid RE
          clear RE PB2 g0'' g1'' g2''
          go_enter Tryd.func31, Tryd.ntmps31
          go_wp2_with fail
          go_ret
          exact ⟨rb (by rw [RE2.out]; rfl), rfl⟩
    · have PB2 : Hid (plteBad 3 4 l = (decide (r ≠ 0) || decide (n < 1) || decide (256 < n) || decide (16 < n))) := Lib.hid (by rw [PB.out]; simp)
      have g3 : (decide ((16 : Int) < (n : Int)) = true ∧ decide (16 < n) = true) ∨ (decide ((16 : Int) < (n : Int)) = false ∧ decide (16 < n) = false) := by
        simp only [decide_eq_true_eq, decide_eq_false_iff_not]; omega
      clear PB
      rcases g3 with ⟨g3, g3'⟩ | ⟨g3, g3'⟩
      · have RE : Hid (plteBad 3 4 l = true) := Lib.hid (by rw [PB2.out, g3']; simp)
        clear g0 g1 g2 PB2
        go_enter Tryd.func31, Tryd.ntmps31
        go_wp2_with fail
        go_ret
        exact ⟨rb (by rw [RE.out]; rfl), rfl⟩
      · have G3 := Lib.hid g3'
        rcases g0 with ⟨g0, g0', g0''⟩ | ⟨g0, g0', g0''⟩ <;> rcases g1 with ⟨g1, g1', g1''⟩ | ⟨g1, g1', g1''⟩ <;> rcases g2 with ⟨g2, g2', g2''⟩ | ⟨g2, g2', g2''⟩
        all_goals
          have RE := PB2.out
          first | rw [g0'', g1'', g2'', G3.out] at RE | rw [g0'', g1'', g2''] at RE
          have RE2 := Lib.hid RE
          clear RE PB2 g0'' g1'' g2''
          go_enter Tryd.func31, Tryd.ntmps31
          go_wp2_with fail
          go_ret
          exact ⟨rb (by rw [RE2.out]; rfl), rfl⟩
    · have PB2 : Hid (plteBad 3 8 l = (decide (r ≠ 0) || decide (n < 1) || decide (256 < n) || decide (256 < n))) := Lib.hid (by rw [PB.out]; simp)
      have g3 : (decide ((256 : Int) < (n : Int)) = true ∧ decide (256 < n) = true) ∨ (decide ((256 : Int) < (n : Int)) = false ∧ decide (256 < n) = false) := by
        simp only [decide_eq_true_eq, decide_eq_false_iff_not]; omega
      clear PB
      rcases g3 with ⟨g3, g3'⟩ | ⟨g3, g3'⟩
      · have RE : Hid (plteBad 3 8 l = true) := Lib.hid (by rw [PB2.out, g3']; simp)
        clear g0 g1 g2 PB2
        go_enter Tryd.func31, Tryd.ntmps31
        go_wp2_with fail
        go_ret
        exact ⟨rb (by rw [RE.out]; rfl), rfl⟩
      · have G3 := Lib.hid g3'
        rcases g0 with ⟨g0, g0', g0''⟩ | ⟨g0, g0', g0''⟩ <;> rcases g1 with ⟨g1, g1', g1''⟩ | ⟨g1, g1', g1''⟩ <;> rcases g2 with ⟨g2, g2', g2''⟩ | ⟨g2, g2', g2''⟩
        all_goals
          have RE := PB2.out
          first | rw [g0'', g1'', g2'', G3.out] at RE | rw [g0'', g1'', g2''] at RE
          have RE2 := Lib.hid RE
          clear RE PB2 g0'' g1'' g2''
          go_enter Tryd.func31, Tryd.ntmps31
          go_wp2_with fail
          go_ret
          exact ⟨rb (by rw [RE2.out]; rfl), rfl⟩
  · have RE : Hid (plteBad C D l = (decide (r ≠ 0) || decide (n < 1) || decide (256 < n))) := Lib.hid (by rw [PB.out]; rcases hC with rfl | rfl <;> simp)
    rcases hC with rfl | rfl <;> rcases g0 with ⟨g0, g0', g0''⟩ | ⟨g0, g0', g0''⟩ <;> rcases g1 with ⟨g1, g1', g1''⟩ | ⟨g1, g1', g1''⟩ <;> rcases g2 with ⟨g2, g2', g2''⟩ | ⟨g2, g2', g2''⟩
    all_goals
      have RE1 := RE.out
      rw [g0'', g1'', g2''] at RE1
      have RE2 := Lib.hid RE1
      clear RE RE1 PB g0'' g1'' g2''
      go_enter Tryd.func31, Tryd.ntmps31
      go_wp2_with fail
      go_ret
      exact ⟨rb (by rw [RE2.out]; rfl), rfl⟩
theorem okD_of {C D : Int} (h : D ∈ depthsL C) : ∃ d : Nat, D = (d : Int) ∧ okD d := by
  have hD : D = 1 ∨ D = 2 ∨ D = 4 ∨ D = 8 ∨ D = 16 := by
    unfold depthsL at h
    split at h
    · simp at h; omega
    · split at h
      · simp at h; omega
      · split at h
        · simp at h; omega
        · simp at h
  exact ⟨D.toNat, by omega, by unfold okD; omega⟩
set_option maxRecDepth 20000 in
set_option maxHeartbeats 6400000 in
theorem trns_any (v : Value) (l : List UInt8) (w : World) (B M : Nat) (x y D C L : Int) (pal : Nat) (en : Bool) (hw : Wk w B M x y D C L pal en) (hb : Bs w v l) (hl : l.length ≤ 2000) (hD : D ∈ depthsL C) :
    Calls Tryd.prog 32 #[.pointer (some ⟨B, 0, none⟩), v] w fun e w' => e = .returned (.bool (!trnsBad C D pal l)) ∧ Below w.heap.size w w' := by
  obtain ⟨d, rfl, hd⟩ := okD_of hD
  have KA := Lib.hid (fun m hm => keys_any v l m d w hb hm hd (by omega))
  obtain ⟨a, c, rfl⟩ := hb.len
  obtain ⟨c2, c3, c5, c6, c7⟩ := hw.cells
  have hC : C = 0 ∨ C = 3 ∨ C = 2 ∨ C = 4 ∨ C = 6 := by
    unfold depthsL at hD
    split at hD
    · omega
    · split at hD
      · omega
      · split at hD
        · omega
        · simp at hD
  have B0 := Lib.hid (Below.refl w.heap.size w)
  clear hD hw hb c5 c7 hd
  rcases hC with rfl | rfl | rfl | hC
  · have RE : Hid ((!trnsBad 0 (d : Int) pal l) = (decide (l.length = 2 * 1) && !keysBad d l)) := Lib.hid (by
      unfold trnsBad
      rw [if_neg (by decide)]
      by_cases h : l.length = 2 <;> simp [h])
    have K1 := Lib.hid (KA.out 1 (.inl rfl))
    clear KA
    go_enter Tryd.func32, Tryd.ntmps32
    go_wp2_with fail
    refine K1.out.mono ?_; rintro e w1 ⟨rfl, hb1⟩
    go_wp2_with fail
    go_ret
    exact ⟨rb RE.out.symm, hb1⟩
  · obtain ⟨n, hn⟩ : ∃ n, l.length = n := ⟨_, rfl⟩
    have g1 : (decide ((1 : Int) ≤ (n : Int)) = true ∧ decide (1 ≤ n) = true ∧ decide (n < 1) = false) ∨ (decide ((1 : Int) ≤ (n : Int)) = false ∧ decide (1 ≤ n) = false ∧ decide (n < 1) = true) := by
      simp only [decide_eq_true_eq, decide_eq_false_iff_not]; omega
    have g2 : (decide ((n : Int) ≤ (pal : Int)) = true ∧ decide (n ≤ pal) = true ∧ decide (pal < n) = false) ∨ (decide ((n : Int) ≤ (pal : Int)) = false ∧ decide (n ≤ pal) = false ∧ decide (pal < n) = true) := by
      simp only [decide_eq_true_eq, decide_eq_false_iff_not]; omega
    have RE : Hid (trnsBad 3 (d : Int) pal l = (decide (n < 1) || decide (pal < n))) := Lib.hid (by unfold trnsBad; rw [if_pos rfl, hn])
    rw [hn]
    clear KA hn hl
    rcases g1 with ⟨g1, g1', g1''⟩ | ⟨g1, g1', g1''⟩ <;> rcases g2 with ⟨g2, g2', g2''⟩ | ⟨g2, g2', g2''⟩
    all_goals
      have RE1 := RE.out
      rw [g1'', g2''] at RE1
      have RE2 := Lib.hid RE1
      clear RE RE1 g1'' g2''
      go_enter Tryd.func32, Tryd.ntmps32
      go_wp2_with fail
      go_ret
      exact ⟨rb (by rw [RE2.out]; rfl), B0.out⟩
  · have RE : Hid ((!trnsBad 2 (d : Int) pal l) = (decide (l.length = 2 * 3) && !keysBad d l)) := Lib.hid (by
      unfold trnsBad
      rw [if_neg (by decide)]
      by_cases h : l.length = 6 <;> simp [h])
    have K1 := Lib.hid (KA.out 3 (.inr rfl))
    clear KA
    go_enter Tryd.func32, Tryd.ntmps32
    go_wp2_with fail
    refine K1.out.mono ?_; rintro e w1 ⟨rfl, hb1⟩
    go_wp2_with fail
    go_ret
    exact ⟨rb RE.out.symm, hb1⟩
  · have RE : Hid (trnsBad C (d : Int) pal l = true) := Lib.hid (by
      unfold trnsBad
      rcases hC with rfl | rfl
      · rw [if_neg (by decide)]; simp
      · rw [if_neg (by decide)]; simp)
    clear KA
    rcases hC with rfl | rfl
    all_goals
      go_enter Tryd.func32, Tryd.ntmps32
      go_wp2_with fail
      go_ret
      exact ⟨rb (by rw [RE.out]; rfl), B0.out⟩
end Go.Proofs.YtlgjjoglajgbeaaDoor
