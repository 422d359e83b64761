/- burnishlaw09.prices walked. By an AI agent. -/
import Derived.Test.YtheomjoadgfkeaaCopyI
import Derived.Deep.RegionHeld3
import Derived.RegionTactic
namespace Go.Proofs.Ytheomjoadgfkeaa
open Go.RowKit
set_option linter.unusedVariables false
set_option linter.unusedSimpArgs false

theorem copyInts_at (v : Value) (l : List Int) (w : World) (hb : Ns w v l) (hlen : l.length ≤ 1000) :
    Calls Try.prog 37 #[v] w fun e w' => ∃ g, e = .returned (.slice (some ⟨g, 0, none⟩) l.length (l.length + 1)) ∧ CpI w' (.slice (some ⟨g, 0, none⟩) l.length (l.length + 1)) g l ∧ Below w.heap.size w w' := by
  refine (copyInts_any v l w hb hlen).mono ?_
  rintro e w' ⟨v', rfl, ⟨rfl, h2⟩, hb2, _⟩
  exact ⟨_, rfl, ⟨rfl, h2⟩, hb2⟩
theorem frozen_old {W W' : World} (hb : Below W.heap.size W W') {a : Addr} {v : Value} (h : W.cell? a = some v) (hf : W.frozen? a = false) : W'.frozen? a = false := by
  rw [← hf]
  refine World.frozen?_of_block (hb.block _ ?_)
  refine Nat.lt_of_not_le fun hn => ?_
  simp [World.cell?, Array.getElem?_eq_none hn] at h
theorem cpi_set {W : World} {v y : Value} {g P i : Nat} {l : List Int} {C : Array Value} {fr : Nat × Nat} (h : CpI W v g l) (hp : W.heap[P]? = some (.cells C 38 fr)) : CpI (W.setCell ⟨P, i, none⟩ y) v g l := by
  refine ⟨h.1, ?_⟩
  have hne : g ≠ P := fun e => by
    have h2 := h.2
    rw [e, hp] at h2
    injection h2 with h2
    injection h2 with _ h3 _
    exact absurd h3 (by decide)
  rw [heap_setCell_other _ _ _ _ hne]
  exact h.2
def rd (W : World) (a : Addr) : Value := (W.cell? a).getD undef
theorem rd_of {W : World} {a : Addr} {v : Value} (h : W.cell? a = some v) : W.cell? a = some (rd W a) := by unfold rd; rw [h]; rfl
abbrev CP (w : World) (u v x : Value) (W : World) : Prop := W.cell? ⟨w.heap.size, 0, none⟩ = some u ∧ W.cell? ⟨w.heap.size, 1, none⟩ = some v ∧ W.cell? ⟨w.heap.size, 2, none⟩ = some x ∧ Below w.heap.size w W ∧ W.cell? ⟨w.heap.size + 1, 0, none⟩ = some (rd W ⟨w.heap.size + 1, 0, none⟩) ∧ W.cell? ⟨w.heap.size + 1, 1, none⟩ = some (rd W ⟨w.heap.size + 1, 1, none⟩) ∧ W.cell? ⟨w.heap.size + 1, 2, none⟩ = some (rd W ⟨w.heap.size + 1, 2, none⟩) ∧ W.frozen? ⟨w.heap.size + 1, 0, none⟩ = false ∧ W.frozen? ⟨w.heap.size + 1, 1, none⟩ = false ∧ W.frozen? ⟨w.heap.size + 1, 2, none⟩ = false
theorem keepQ {w W W' : World} {u v x : Value} (h : CP w u v x W) (hb : Below W.heap.size W W') : CP w u v x W' := by
  obtain ⟨h1, h2, h3, h7, h4, h5, h6, f4, f5, f6⟩ := h
  exact ⟨cell_old hb h1, cell_old hb h2, cell_old hb h3, h7.trans (hb.mono h7.size), rd_of (cell_old hb h4), rd_of (cell_old hb h5), rd_of (cell_old hb h6), frozen_old hb h4 f4, frozen_old hb h5 f5, frozen_old hb h6 f6⟩
theorem set_some {W : World} {a b : Addr} {v y : Value} (h : W.cell? a = some v) : ∃ z, (W.setCell b y).cell? a = some z := by
  by_cases hab : b = a
  · subst hab; exact ⟨y, World.cell?_setCell_same' W b y (by rw [h]; rfl)⟩
  · exact ⟨v, by rw [World.cell?_setCell_other W b a y hab]; exact h⟩
theorem keepS {w W : World} {u v x y1 y2 y3 : Value} (h : CP w u v x W) : CP w u v x (((W.setCell ⟨w.heap.size + 1, 0, none⟩ y1).setCell ⟨w.heap.size + 1, 1, none⟩ y2).setCell ⟨w.heap.size + 1, 2, none⟩ y3) := by
  obtain ⟨h1, h2, h3, h7, h4, h5, h6, f4, f5, f6⟩ := h
  have hb : Below w.heap.size w (((W.setCell ⟨w.heap.size + 1, 0, none⟩ y1).setCell ⟨w.heap.size + 1, 1, none⟩ y2).setCell ⟨w.heap.size + 1, 2, none⟩ y3) := ((h7.setCell (by simp) _).setCell (by simp) _).setCell (by simp) _
  have far : ∀ k : Nat, (((W.setCell ⟨w.heap.size + 1, 0, none⟩ y1).setCell ⟨w.heap.size + 1, 1, none⟩ y2).setCell ⟨w.heap.size + 1, 2, none⟩ y3).cell? ⟨w.heap.size, k, none⟩ = W.cell? ⟨w.heap.size, k, none⟩ := fun k => by
    rw [World.cell?_setCell_far _ _ _ _ (by simp), World.cell?_setCell_far _ _ _ _ (by simp), World.cell?_setCell_far _ _ _ _ (by simp)]
  have fz : ∀ k : Nat, (((W.setCell ⟨w.heap.size + 1, 0, none⟩ y1).setCell ⟨w.heap.size + 1, 1, none⟩ y2).setCell ⟨w.heap.size + 1, 2, none⟩ y3).frozen? ⟨w.heap.size + 1, k, none⟩ = W.frozen? ⟨w.heap.size + 1, k, none⟩ := fun k =>
    World.frozen?_setCells (w.heap.size + 1) [y1, y2, y3] 0 W _
  have near : ∀ (k : Nat) (z : Value), W.cell? ⟨w.heap.size + 1, k, none⟩ = some z → ∃ z', (((W.setCell ⟨w.heap.size + 1, 0, none⟩ y1).setCell ⟨w.heap.size + 1, 1, none⟩ y2).setCell ⟨w.heap.size + 1, 2, none⟩ y3).cell? ⟨w.heap.size + 1, k, none⟩ = some z' := fun k z hz => by
    obtain ⟨z1, e1⟩ := set_some (b := ⟨w.heap.size + 1, 0, none⟩) (y := y1) hz
    obtain ⟨z2, e2⟩ := set_some (b := ⟨w.heap.size + 1, 1, none⟩) (y := y2) e1
    exact set_some e2
  obtain ⟨_, n4⟩ := near 0 _ h4
  obtain ⟨_, n5⟩ := near 1 _ h5
  obtain ⟨_, n6⟩ := near 2 _ h6
  exact ⟨(far 0).trans h1, (far 1).trans h2, (far 2).trans h3, hb, rd_of n4, rd_of n5, rd_of n6, (fz 0).trans f4, (fz 1).trans f5, (fz 2).trans f6⟩

set_option maxRecDepth 20000 in
set_option maxHeartbeats 6400000 in
theorem prices_any (u v x : Value) (a b c : List Int) (w : World) (hu : Ns w u a) (hv : Ns w v b) (hx : Ns w x c) (ha : a.length ≤ 1000) (hb : b.length ≤ 1000) (hc : c.length ≤ 1000) :
    Calls Try.prog 14 #[.agg #[u, v, x]] w fun e w' => ∃ u' v' x' g1 g2 g3, e = .returned (.agg #[u', v', x']) ∧ CpI w' u' g1 a ∧ CpI w' v' g2 b ∧ CpI w' x' g3 c ∧ Below w.heap.size w w' := by
  obtain ⟨w2, hw2⟩ : ∃ w2, w2 = (w.alloc (.cells #[u, v, x] 33)).alloc (.cells #[.slice none 0 0, .slice none 0 0, .slice none 0 0] 38) := ⟨_, rfl⟩
  have hw : Below w.heap.size w w2 := by rw [hw2]; exact ((Below.refl _ _).alloc (Nat.le_refl _) _).alloc (by simp) _
  have k0 : w2.cell? ⟨w.heap.size, 0, none⟩ = some u := by rw [hw2, cell_of_row _ w.heap.size 0 _ _ (0, 0) (heap_new0 _ _ _)]; rfl
  have k1 : w2.cell? ⟨w.heap.size, 1, none⟩ = some v := by rw [hw2, cell_of_row _ w.heap.size 1 _ _ (0, 0) (heap_new0 _ _ _)]; rfl
  have k2 : w2.cell? ⟨w.heap.size, 2, none⟩ = some x := by rw [hw2, cell_of_row _ w.heap.size 2 _ _ (0, 0) (heap_new0 _ _ _)]; rfl
  have Z : Hid (w2.heap[w.heap.size + 1]? = some (.cells #[.slice none 0 0, .slice none 0 0, .slice none 0 0] 38 (0, 0))) := Lib.hid (by rw [hw2]; exact heap_new1 _ _ _)
  have q0 : w2.cell? ⟨w.heap.size + 1, 0, none⟩ = some (.slice none 0 0) := by rw [cell_of_row _ (w.heap.size + 1) 0 _ _ _ Z.out]; rfl
  have q1 : w2.cell? ⟨w.heap.size + 1, 1, none⟩ = some (.slice none 0 0) := by rw [cell_of_row _ (w.heap.size + 1) 1 _ _ _ Z.out]; rfl
  have q2 : w2.cell? ⟨w.heap.size + 1, 2, none⟩ = some (.slice none 0 0) := by rw [cell_of_row _ (w.heap.size + 1) 2 _ _ _ Z.out]; rfl
  have r0 := frozen_of_row w2 (w.heap.size + 1) 0 _ _ Z.out
  have r1 := frozen_of_row w2 (w.heap.size + 1) 1 _ _ Z.out
  have r2 := frozen_of_row w2 (w.heap.size + 1) 2 _ _ Z.out
  have ZZ : Hid (w2.heap.size = w.heap.size + 1 + 1) := Lib.hid (by rw [hw2]; simp)
  have HU := Lib.hid hu
  have HV := Lib.hid hv
  have HX := Lib.hid hx
  have HA := Lib.hid ha
  have HB := Lib.hid hb
  have HC := Lib.hid hc
  have HW := Lib.hid hw
  obtain ⟨a1, j1, rfl⟩ := hu.len
  obtain ⟨a2, j2, rfl⟩ := hv.len
  obtain ⟨a3, j3, rfl⟩ := hx.len
  clear hw hu hv hx ha hb hc
  go_enter Try.func14, Try.ntmps14
  go_wp2_with fail
  rw [← hw2]
  clear hw2
  have CU : Hid (∀ W, Below w.heap.size w W → Calls Try.prog 37 #[.slice a1 a.length j1] W fun e w' => ∃ g, e = .returned (.slice (some ⟨g, 0, none⟩) a.length (a.length + 1)) ∧ CpI w' (.slice (some ⟨g, 0, none⟩) a.length (a.length + 1)) g a ∧ Below W.heap.size W w') := Lib.hid (fun W hW => copyInts_at _ a W (HU.out.old hW) HA.out)
  have CV : Hid (∀ W, Below w.heap.size w W → Calls Try.prog 37 #[.slice a2 b.length j2] W fun e w' => ∃ g, e = .returned (.slice (some ⟨g, 0, none⟩) b.length (b.length + 1)) ∧ CpI w' (.slice (some ⟨g, 0, none⟩) b.length (b.length + 1)) g b ∧ Below W.heap.size W w') := Lib.hid (fun W hW => copyInts_at _ b W (HV.out.old hW) HB.out)
  have CX : Hid (∀ W, Below w.heap.size w W → Calls Try.prog 37 #[.slice a3 c.length j3] W fun e w' => ∃ g, e = .returned (.slice (some ⟨g, 0, none⟩) c.length (c.length + 1)) ∧ CpI w' (.slice (some ⟨g, 0, none⟩) c.length (c.length + 1)) g c ∧ Below W.heap.size W w') := Lib.hid (fun W hW => copyInts_at _ c W (HX.out.old hW) HC.out)
  have W0 := HW.out
  obtain ⟨n1, hn1⟩ : ∃ n, a.length = n := ⟨_, rfl⟩
  obtain ⟨n2, hn2⟩ : ∃ n, b.length = n := ⟨_, rfl⟩
  obtain ⟨n3, hn3⟩ : ∃ n, c.length = n := ⟨_, rfl⟩
  rw [hn1] at k0 CU
  rw [hn2] at k1 CV
  rw [hn3] at k2 CX
  rw [hn1, hn2, hn3]
  clear hn1 hn2 hn3 HU HV HX
  go_region_held3 (fun W => W.cell? ⟨w.heap.size, 0, none⟩ = some (.slice a1 n1 j1) ∧ W.cell? ⟨w.heap.size, 1, none⟩ = some (.slice a2 n2 j2) ∧ W.cell? ⟨w.heap.size, 2, none⟩ = some (.slice a3 n3 j3) ∧ Below w.heap.size w W ∧ W.cell? ⟨w.heap.size + 1, 0, none⟩ = some (rd W ⟨w.heap.size + 1, 0, none⟩) ∧ W.cell? ⟨w.heap.size + 1, 1, none⟩ = some (rd W ⟨w.heap.size + 1, 1, none⟩) ∧ W.cell? ⟨w.heap.size + 1, 2, none⟩ = some (rd W ⟨w.heap.size + 1, 2, none⟩) ∧ W.frozen? ⟨w.heap.size + 1, 0, none⟩ = false ∧ W.frozen? ⟨w.heap.size + 1, 1, none⟩ = false ∧ W.frozen? ⟨w.heap.size + 1, 2, none⟩ = false) (first | exact ⟨k0, k1, k2, W0.drew, rd_of q0, rd_of q1, rd_of q2, r0, r1, r2⟩ | assumption | exact keepQ (by assumption) hbx | exact keepS (by assumption))
    (first
      | (go_at_call 37; with_reducible refine (CU.out _ (show _ ∧ _ ∧ _ ∧ Below w.heap.size w _ ∧ _ by assumption).2.2.2.1).mono ?_; rintro e w' ⟨gu, rfl, hcu, hbx⟩; have hbu := hbx)
      | (go_at_call 37; with_reducible refine (CV.out _ (show _ ∧ _ ∧ _ ∧ Below w.heap.size w _ ∧ _ by assumption).2.2.2.1).mono ?_; rintro e w' ⟨gv, rfl, hcv, hbx⟩; have hbv := hbx)
      | (go_at_call 37; with_reducible refine (CX.out _ (show _ ∧ _ ∧ _ ∧ Below w.heap.size w _ ∧ _ by assumption).2.2.2.1).mono ?_; rintro e w' ⟨gx, rfl, hcx, hbx⟩; have hbw := hbx))
  have zr : w'.heap[w.heap.size + 1]? = some (.cells #[.slice none 0 0, .slice none 0 0, .slice none 0 0] 38 (0, 0)) := by
    have s0 := ZZ.out
    have s1 : w2.heap.size ≤ _ := hbu.size
    have s2 := hbv.size
    have s3 := hbw.size
    rw [hbw.block _ (by omega), hbv.block _ (by omega), hbu.block _ (show w.heap.size + 1 < w2.heap.size by omega)]
    exact Z.out
  have hW' : Below w.heap.size w w' := by
    have h0 : Below w.heap.size w w2.drew := HW.out.drew
    have h1 := h0.trans (hbu.mono h0.size)
    have h2 := h1.trans (hbv.mono h1.size)
    exact h2.trans (hbw.mono h2.size)
  have cu := (hcu.old hbv).old hbw
  have cv := hcv.old hbw
  have g1 := heap_setCell_same w' (w.heap.size + 1) 0 _ _ (.slice (some ⟨gu, 0, none⟩) n1 (n1 + 1)) zr
  have g2 := heap_setCell_same _ (w.heap.size + 1) 1 _ _ (.slice (some ⟨gv, 0, none⟩) n2 (n2 + 1)) g1
  have g3 := heap_setCell_same _ (w.heap.size + 1) 2 _ _ (.slice (some ⟨gx, 0, none⟩) n3 (n3 + 1)) g2
  have hcx' := hcx
  go_wp2_with fail
  refine bodyPost_ret (v := .agg #[.slice (some ⟨gu, 0, none⟩) n1 (n1 + 1), .slice (some ⟨gv, 0, none⟩) n2 (n2 + 1), .slice (some ⟨gx, 0, none⟩) n3 (n3 + 1)]) (results_cell_row rfl _ _ (w.heap.size + 1) 38 #[.slice (some ⟨gu, 0, none⟩) n1 (n1 + 1), .slice (some ⟨gv, 0, none⟩) n2 (n2 + 1), .slice (some ⟨gx, 0, none⟩) n3 (n3 + 1)] (0, 0) _ rfl ?_ Try.underlying38 rfl (by kernel_rfl)) rfl ⟨_, _, _, gu, gv, gx, rfl, ?_, ?_, ?_, ?_⟩
  · exact g3
  · exact cpi_set (cpi_set (cpi_set cu zr) g1) g2
  · exact cpi_set (cpi_set (cpi_set cv zr) g1) g2
  · exact cpi_set (cpi_set (cpi_set hcx' zr) g1) g2
  · exact ((hW'.setCell (by simp) _).setCell (by simp) _).setCell (by simp) _
end Go.Proofs.Ytheomjoadgfkeaa
