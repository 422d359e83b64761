/- The walk of burnishref13.Take. By an AI agent. -/
import Derived.Test.YtlgjjoglajgbeaaDoorHeadT
namespace Go.Proofs.YtlgjjoglajgbeaaDoor
open Go.RowKit
set_option linter.unusedVariables false
set_option linter.unusedSimpArgs false

theorem refTake4 (v : Value) (l : List UInt8) (w : World) (hb : Bs w v l) (h : 4 ≤ l.length) :
    Calls Tryd.prog 34 #[v, .int .i64 4] w fun e w' => e = .returned (.tuple #[.int .i64 (numL (l.take 4) : Int), .int .i64 0]) ∧ w = w' := refTake_good v l 4 w hb (by decide) h

set_option maxHeartbeats 1600000 in
theorem refTakeHead_any (v : Value) (l : List UInt8) (w : World) (hb : Bs w v l) :
    Calls Tryd.prog 17 #[v] w fun e w' => e = .returned (.tuple #[takeV l, .int .i64 (takeC l)]) ∧ Below w.heap.size w w' := by
  by_cases h13 : l.length = 13
  case neg =>
    obtain ⟨a, cap, rfl⟩ := hb.len
    have e1 : ((l.length : Int) != 13) = true := by rw [bne_iff_ne]; omega
    have e2 : (l.length != 13) = true := by rw [bne_iff_ne]; omega
    have hc : takeC l = 2 := by unfold takeC; rw [if_pos (Or.inl h13)]
    have hv : takeV l = headV 0 0 0 0 0 := by unfold takeV; rw [hc]; rfl
    rw [hv, hc]
    unfold headV
    clear hb h13 hc hv
    go_enter Tryd.func17, Tryd.ntmps17
    go_wp2_with fail
    go_returns
    exact ⟨rfl, (Below.refl _ _).alloc (Nat.le_refl _) _⟩
  rcases hb.shape with ⟨_, _, _, h0⟩ | ⟨b, off, cap, rfl, hcap, _, hx⟩
  · rw [h0] at h13; simp at h13
  have c8 := hx 8 (by omega)
  have c9 := hx 9 (by omega)
  have c10 := hx 10 (by omega)
  have c11 := hx 11 (by omega)
  have c12 := hx 12 (by omega)
  have hat : ∀ i (h : i < l.length), (l[i].toNat : Nat) = (l.getD i 0).toNat := by
    intro i hi
    rw [List.getD_eq_getElem?_getD, List.getElem?_eq_getElem hi]
    rfl
  rw [hat] at c8 c9 c10 c11 c12
  have hlt : ∀ i, (l.getD i 0).toNat < 256 := fun i => (l.getD i 0).toNat_lt
  have hlt8 := hlt 8
  have hlt9 := hlt 9
  have hlt10 := hlt 10
  have hlt11 := hlt 11
  have hlt12 := hlt 12
  have F : Hid (takeC l = if ((l.getD 10 0).toNat : Int) ≠ 0 ∨ ((l.getD 11 0).toNat : Int) ≠ 0 then 2 else headC ((numL (l.take 4) : Nat) : Int) ((numL ((l.drop 4).take 4) : Nat) : Int) ((l.getD 8 0).toNat : Int) ((l.getD 9 0).toNat : Int) ((l.getD 12 0).toNat : Int)) := Lib.hid (by
    change takeC l = if bOf l 10 ≠ 0 ∨ bOf l 11 ≠ 0 then 2 else headC (wOf l) (hOf l) (bOf l 8) (bOf l 9) (bOf l 12)
    unfold takeC
    by_cases h : bOf l 10 ≠ 0 ∨ bOf l 11 ≠ 0
    · rw [if_pos (Or.inr h), if_pos h]
    · rw [if_neg (by rintro (h' | h'); exact h' h13; exact h h'), if_neg h])
  have F2 : Hid (takeV l = if takeC l = 0 then headV ((numL (l.take 4) : Nat) : Int) ((numL ((l.drop 4).take 4) : Nat) : Int) ((l.getD 8 0).toNat : Int) ((l.getD 9 0).toNat : Int) ((l.getD 12 0).toNat : Int) else headV 0 0 0 0 0) := Lib.hid rfl
  generalize (l.getD 8 0).toNat = x8 at *
  generalize (l.getD 9 0).toNat = x9 at *
  generalize (l.getD 10 0).toNat = x10 at *
  generalize (l.getD 11 0).toNat = x11 at *
  generalize (l.getD 12 0).toNat = x12 at *
  have HBS : Hid (∀ W, Below w.heap.size w W → Bs W (.slice (some ⟨b, off, none⟩) 13 cap) l ∧ Bs W (.slice (some ⟨b, off + 4, none⟩) 9 (cap - 4)) (l.drop 4)) := Lib.hid (by
    intro W hW
    have h1 : Bs w (.slice (some ⟨b, off, none⟩) 13 cap) l := by have := hb; rwa [h13] at this
    have h2 : Bs w (.slice (some ⟨b, off + 4, none⟩) 9 (cap - 4)) (l.drop 4) := Bs.some_slice (fun i hi => by
      have := hx (4 + i) (by simp at hi; omega)
      rw [show off + (4 + i) = off + 4 + i by omega] at this
      simpa [List.getElem_drop] using this) (by simp; omega) (by omega)
    exact ⟨h1.old hW, h2.old hW⟩)
  have hT := fun W hW => refTake4 (.slice (some ⟨b, off, none⟩) 13 cap) l W hW (by omega)
  have hT2 := fun W hW => refTake4 (.slice (some ⟨b, off + 4, none⟩) 9 (cap - 4)) (l.drop 4) W hW (by simp; omega)
  rw [h13]
  have T1 := Lib.hid hT
  have T2 := Lib.hid hT2
  have q1 : ¬ cap = 4 := by omega
  have q2 : 4 ≤ cap := by omega
  have q3 : (4 : Int) ≤ (cap : Int) := by omega
  have q4 : 13 ≤ cap := by omega
  clear hb hcap hx hat hlt hT hT2 h13
  have z8 : IntKind.i64.wrap (x8 : Int) = x8 := IntWalk.i64_in _ (by omega)
  have z9 : IntKind.i64.wrap (x9 : Int) = x9 := IntWalk.i64_in _ (by omega)
  have z12 : IntKind.i64.wrap (x12 : Int) = x12 := IntWalk.i64_in _ (by omega)
  clear hlt8 hlt9 hlt10 hlt11 hlt12
  have HI : Hid ((Tryd.prog.info? 29).map (·.size) = some 5) := Lib.hid (by kernel_rfl)
  have H1 : Hid (∀ a0 a1 a2 a3 a4 : Int, (#[.int .i64 a0, .int .i64 a1, .int .i64 a2, .int .i64 a3, .int .i64 a4] : Array Value).all (·.oneCell') = true) := Lib.hid (fun a0 a1 a2 a3 a4 => by kernel_rfl)
  have hA : Below w.heap.size w (w.alloc (.cells #[.int .i64 0, .int .i64 0, .int .i64 0, .int .i64 0, .int .i64 0] 29)) := (Below.refl _ _).alloc (Nat.le_refl _) _
  have c10a := cell_old hA c10
  have c11a := cell_old hA c11
  clear hA
  by_cases hq : x10 = 0 ∧ x11 = 0
  case neg =>
    have hd : ((x10 : Int) != 0) = true ∧ (x10 != 0) = true ∨ ((x10 : Int) != 0) = false ∧ (x10 != 0) = false ∧ ((x11 : Int) != 0) = true ∧ (x11 != 0) = true := by
      simp only [bne_iff_ne, bne_eq_false_iff_eq]; omega
    have hc : takeC l = 2 := by rw [F.out, if_pos (by omega)]
    have hv : takeV l = headV 0 0 0 0 0 := by rw [F2.out, hc]; rfl
    rw [hv, hc]
    unfold headV
    clear hc hv hq F F2
    rcases hd with ⟨q1, q2⟩ | ⟨q1, q2, q3, q4⟩
    all_goals
      go_enter Tryd.func17, Tryd.ntmps17
      go_wp2_with fail
      go_returns
      exact ⟨rfl, (Below.refl _ _).alloc (Nat.le_refl _) _⟩
  obtain ⟨rfl, rfl⟩ := hq
  have hc : takeC l = headC ((numL (l.take 4) : Nat) : Int) ((numL ((l.drop 4).take 4) : Nat) : Int) (x8 : Int) (x9 : Int) (x12 : Int) := by rw [F.out, if_neg (by simp)]
  have hv := F2.out
  rw [hc] at hv
  have HV := Lib.hid hv
  have HC := Lib.hid hc
  clear hc hv F F2
  go_enter Tryd.func17, Tryd.ntmps17
  go_wp2_with fail
  refine (T1.out _ (HBS.out _ ((Below.refl _ _).alloc (Nat.le_refl _) _)).1).mono ?_; rintro e w1 ⟨rfl, rfl⟩
  go_wp2_with fail
  refine (T2.out _ (HBS.out _ ((Below.refl _ _).alloc (Nat.le_refl _) _)).2).mono ?_; rintro e w1 ⟨rfl, rfl⟩
  obtain ⟨w2, hw2⟩ : ∃ w2, w.alloc (.cells #[.int .i64 0, .int .i64 0, .int .i64 0, .int .i64 0, .int .i64 0] 29) = w2 := ⟨_, rfl⟩
  rw [hw2]
  have hb2 : Below w.heap.size w w2 := by rw [← hw2]; exact (Below.refl _ _).alloc (Nat.le_refl _) _
  have hg2 : w2.heap[w.heap.size]? = some (.cells #[.int .i64 0, .int .i64 0, .int .i64 0, .int .i64 0, .int .i64 0] 29 (0, 0)) := by rw [← hw2]; exact heap_alloc_new _ _
  have hz2 : w.heap.size < w2.heap.size := by rw [← hw2]; simp
  replace c8 := cell_old hb2 c8
  replace c9 := cell_old hb2 c9
  replace c12 := cell_old hb2 c12
  have G2 := Lib.hid hg2
  have L2 := Lib.hid hb2
  have Z2 := Lib.hid hz2
  clear hw2 hb2 hg2 hz2 c10 c11 c10a c11a
  have ck := refCheck_any ((numL (l.take 4) : Nat) : Int) ((numL ((l.drop 4).take 4) : Nat) : Int) (x8 : Int) (x9 : Int) (x12 : Int)
  have hv := HV.out
  have hc := HC.out
  generalize headC ((numL (l.take 4) : Nat) : Int) ((numL ((l.drop 4).take 4) : Nat) : Int) (x8 : Int) (x9 : Int) (x12 : Int) = n at ck hc hv
  generalize numL (l.take 4) = n1 at *
  generalize numL ((l.drop 4).take 4) = n2 at *
  unfold headV at ck hv
  have CK := Lib.hid ck
  clear HV HC
  have HV := Lib.hid hv
  have HC := Lib.hid hc
  clear hc ck hv T1 T2 HBS
  go_wp2_with fail
  go_region_held3 (fun W => W.cell? ⟨b, off + 8, none⟩ = some (.int .u8 (x8 : Int)) ∧ W.cell? ⟨b, off + 9, none⟩ = some (.int .u8 (x9 : Int)) ∧ W.cell? ⟨b, off + 12, none⟩ = some (.int .u8 (x12 : Int))) (first | exact ⟨c8, c9, c12⟩ | go_keep) (fail)
  obtain ⟨w3, hw3⟩ : ∃ w3, (w2.alloc (.cells #[.int .i64 (n1 : Int), .int .i64 (n2 : Int), .int .i64 (x8 : Int), .int .i64 (x9 : Int), .int .i64 (x12 : Int)] 29)).drew = w3 := ⟨_, rfl⟩
  rw [hw3]
  have hb3 : Below w2.heap.size w2 w3 := by rw [← hw3]; exact ((Below.refl _ _).alloc (Nat.le_refl _) _).drew
  have hx3 : w3.heap[w2.heap.size]? = some (.cells #[.int .i64 (n1 : Int), .int .i64 (n2 : Int), .int .i64 (x8 : Int), .int .i64 (x9 : Int), .int .i64 (x12 : Int)] 29 (0, 0)) := by rw [← hw3]; exact heap_alloc_new _ _
  obtain ⟨k0, k1, k2, k3, k4⟩ := box_of hx3
  have hg3 : w3.heap[w.heap.size]? = some (.cells #[.int .i64 0, .int .i64 0, .int .i64 0, .int .i64 0, .int .i64 0] 29 (0, 0)) := by rw [hb3.block _ Z2.out]; exact G2.out
  have G3 := Lib.hid hg3
  have L3 := Lib.hid (L2.out.trans (hb3.mono L2.out.size))
  have X3 := Lib.hid hx3
  have Z3 : Hid (w.heap.size < w3.heap.size) := Lib.hid (by have := Z2.out; have := hb3.size; omega)
  have fin : ∀ (W : World) (a0 a1 a2 a3 a4 : Int), w.heap.size < W.heap.size → Below w.heap.size w W → W.heap[w.heap.size]? = some (.cells #[.int .i64 0, .int .i64 0, .int .i64 0, .int .i64 0, .int .i64 0] 29 (0, 0)) →
      (W.setRow w.heap.size #[.int .i64 a0, .int .i64 a1, .int .i64 a2, .int .i64 a3, .int .i64 a4]).heap[w.heap.size]? = some (.cells #[.int .i64 a0, .int .i64 a1, .int .i64 a2, .int .i64 a3, .int .i64 a4] 29 (0, 0)) ∧ Below w.heap.size w (W.setRow w.heap.size #[.int .i64 a0, .int .i64 a1, .int .i64 a2, .int .i64 a3, .int .i64 a4]) :=
    fun W a0 a1 a2 a3 a4 _ hB hG => ⟨setRow_heap _ _ _ _ _ _ hG, below_setRow hB (Nat.le_refl _) _⟩
  have FIN := Lib.hid fin
  clear hw3 hb3 hx3 c8 c9 c12 hg3 fin
  go_wp2_with fail
  refine (CK.out _).mono ?_; rintro e w4 ⟨rfl, hb4⟩
  have hg4 : w4.heap[w.heap.size]? = some (.cells #[.int .i64 0, .int .i64 0, .int .i64 0, .int .i64 0, .int .i64 0] 29 (0, 0)) := by rw [hb4.block _ Z3.out]; exact G3.out
  have hx4 : w4.heap[w2.heap.size]? = some (.cells #[.int .i64 (n1 : Int), .int .i64 (n2 : Int), .int .i64 (x8 : Int), .int .i64 (x9 : Int), .int .i64 (x12 : Int)] 29 (0, 0)) := by
    rw [hb4.block _ (Array.getElem?_eq_some_iff.1 X3.out).1]; exact X3.out
  have G4 := Lib.hid hg4
  have L4 := Lib.hid (L3.out.trans (hb4.mono L3.out.size))
  have Z4 : Hid (w.heap.size < w4.heap.size) := Lib.hid (by have := Z3.out; have := hb4.size; omega)
  clear k0 k1 k2 k3 k4 hb4 hg4
  obtain ⟨k0, k1, k2, k3, k4⟩ := box_of hx4
  clear hx4
  by_cases hn : n = 0
  · subst hn
    go_wp2_with (refine wpList_store_row rfl _ _ _ rfl w.heap.size #[.int .i64 (n1 : Int), .int .i64 (n2 : Int), .int .i64 (x8 : Int), .int .i64 (x9 : Int), .int .i64 (x12 : Int)] rfl rfl 29 _ G4.out HI.out rfl (H1.out _ _ _ _ _) ?_)
    obtain ⟨hw4, hb4⟩ := FIN.out w4 (n1 : Int) (n2 : Int) (x8 : Int) (x9 : Int) (x12 : Int) Z4.out L4.out G4.out
    have B4 := Lib.hid hb4
    obtain ⟨w5, hw5⟩ : ∃ w5, w4.setRow w.heap.size #[.int .i64 (n1 : Int), .int .i64 (n2 : Int), .int .i64 (x8 : Int), .int .i64 (x9 : Int), .int .i64 (x12 : Int)] = w5 := ⟨_, rfl⟩
    rw [hw5] at hw4 B4
    rw [hw5]
    clear hb4 hw5
    obtain ⟨r0, r1, r2, r3, r4⟩ := box_of hw4
    refine bodyPost_ret (v := .tuple #[.agg #[.int .i64 (n1 : Int), .int .i64 (n2 : Int), .int .i64 (x8 : Int), .int .i64 (x9 : Int), .int .i64 (x12 : Int)], .int .i64 0]) (by simp [results, Tryd.results17, go_sem, r0, r1, r2, r3, r4]; try rfl) rfl ⟨?_, B4.out⟩
    rw [HV.out, HC.out]
    rfl
  · have e0 : (n != 0) = true := by rw [bne_iff_ne]; exact hn
    have HN := Lib.hid hn
    clear hn
    go_wp2_with (refine wpList_store_row rfl _ _ _ rfl w.heap.size #[.int .i64 0, .int .i64 0, .int .i64 0, .int .i64 0, .int .i64 0] rfl rfl 29 _ G4.out HI.out rfl (H1.out 0 0 0 0 0) ?_)
    obtain ⟨hw4, hb4⟩ := FIN.out w4 0 0 0 0 0 Z4.out L4.out G4.out
    have B4 := Lib.hid hb4
    obtain ⟨w5, hw5⟩ : ∃ w5, w4.setRow w.heap.size #[.int .i64 0, .int .i64 0, .int .i64 0, .int .i64 0, .int .i64 0] = w5 := ⟨_, rfl⟩
    rw [hw5] at hw4 B4
    rw [hw5]
    clear hb4 hw5
    obtain ⟨r0, r1, r2, r3, r4⟩ := box_of hw4
    refine bodyPost_ret (v := .tuple #[.agg #[.int .i64 0, .int .i64 0, .int .i64 0, .int .i64 0, .int .i64 0], .int .i64 n]) (by simp [results, Tryd.results17, go_sem, r0, r1, r2, r3, r4]; try rfl) rfl ⟨?_, B4.out⟩
    rw [HV.out, HC.out, if_neg HN.out]
end Go.Proofs.YtlgjjoglajgbeaaDoor
