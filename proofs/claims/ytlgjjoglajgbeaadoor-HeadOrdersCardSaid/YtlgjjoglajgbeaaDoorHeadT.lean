/- The walks of head.Take, burnishref13.Take. By an AI agent. -/
import Derived.Test.YtlgjjoglajgbeaaDoorHeadC
import Derived.Test.YtlgjjoglajgbeaaDoorHeadR
import Derived.Test.YtlgjjoglajgbeaaDoorTake
import Derived.Handy
import Derived.Laws.Tables
namespace Go.Proofs.YtlgjjoglajgbeaaDoor
open Go.RowKit
set_option linter.unusedVariables false
set_option linter.unusedSimpArgs false

def wOf (l : List UInt8) : Int := (numL (l.take 4) : Nat)
def hOf (l : List UInt8) : Int := (numL ((l.drop 4).take 4) : Nat)
def bOf (l : List UInt8) (i : Nat) : Int := ((l.getD i 0).toNat : Nat)
/-- the error's number of a head's data -/
def takeC (l : List UInt8) : Int := if l.length ≠ 13 ∨ bOf l 10 ≠ 0 ∨ bOf l 11 ≠ 0 then 2 else headC (wOf l) (hOf l) (bOf l 8) (bOf l 9) (bOf l 12)
def takeV (l : List UInt8) : Value := if takeC l = 0 then headV (wOf l) (hOf l) (bOf l 8) (bOf l 9) (bOf l 12) else headV 0 0 0 0 0

set_option maxHeartbeats 1600000 in
theorem takeHead_any (v : Value) (l : List UInt8) (w : World) (hb : Bs w v l) (hl : l.length ≤ 140737488351232) :
    Calls Tryd.prog 14 #[v] w fun e w' => e = .returned (.tuple #[takeV l, errV (takeC l)]) ∧ Below w.heap.size w w' := by
  by_cases h13 : l.length = 13
  case neg =>
    obtain ⟨a, cap, rfl⟩ := hb.len
    have e1 : ((l.length : Int) != 13) = true := by rw [bne_iff_ne]; omega
    have e2 : (l.length != 13) = true := by rw [bne_iff_ne]; omega
    have hc : takeC l = 2 := by unfold takeC; rw [if_pos (Or.inl h13)]
    have hv : takeV l = headV 0 0 0 0 0 := by unfold takeV; rw [hc]; rfl
    rw [hv, hc, errV_some (by decide)]
    unfold headV
    clear hb hl h13 hc hv
    go_enter Tryd.func14, Tryd.ntmps14
    go_wp2_with fail
    go_returns
    exact ⟨rfl, (Below.refl _ _).alloc (Nat.le_refl _) _⟩
  have HB := Lib.hid hb
  have HL := Lib.hid h13
  obtain ⟨a, cap, rfl⟩ := hb.len
  have e1 : ((l.length : Int) != 13) = false := by rw [bne_eq_false_iff_eq]; omega
  have e2 : (l.length != 13) = false := by rw [bne_eq_false_iff_eq]; omega
  have hz : l.length ≤ 140737488351232 := by omega
  have hz2 : (l.drop 4).length ≤ 140737488351232 := by simp; omega
  have h4 : 4 ≤ l.length := by omega
  have h42 : 4 ≤ (l.drop 4).length := by simp; omega
  have T1 := Lib.hid (fun W hW => take_good (.slice a l.length cap) l 4 W hW hz (by decide) h4)
  have T2 := Lib.hid (fun u W hW => take_good u (l.drop 4) 4 W hW hz2 (by decide) h42)
  clear hb hl hz hz2 h4 h42 h13
  go_enter Tryd.func14, Tryd.ntmps14
  go_wp2_with fail
  refine (T1.out _ (HB.out.old ((Below.refl _ _).alloc (Nat.le_refl _) _))).mono ?_; rintro e w1 ⟨v1, rfl, hb1, hl1⟩
  have hz1 := hl1.size
  have hg1 : w1.heap[w.heap.size]? = some (.cells #[.int .i64 0, .int .i64 0, .int .i64 0, .int .i64 0, .int .i64 0] 29 (0, 0)) := by
    rw [hl1.block _ (by simp)]; exact heap_alloc_new _ _
  have hbel1 : Below w.heap.size w w1 := ((Below.refl _ _).alloc (Nat.le_refl _) _).trans (hl1.mono (by simp))
  have B1 := Lib.hid hb1
  have G1 := Lib.hid hg1
  have L1 := Lib.hid hbel1
  have Z1 : Hid (w.heap.size < w1.heap.size) := Lib.hid (by simp at hz1; omega)
  clear hb1 hg1 hbel1 hl1 hz1
  go_wp2_with fail
  refine (T2.out _ _ B1.out).mono ?_; rintro e w2 ⟨v2, rfl, hb2, hl2⟩
  have hg2 : w2.heap[w.heap.size]? = some (.cells #[.int .i64 0, .int .i64 0, .int .i64 0, .int .i64 0, .int .i64 0] 29 (0, 0)) := by
    rw [hl2.block _ Z1.out]; exact G1.out
  have hbel2 : Below w.heap.size w w2 := L1.out.trans (hl2.mono L1.out.size)
  have G2 := Lib.hid hg2
  have L2 := Lib.hid hbel2
  have Z2 : Hid (w.heap.size < w2.heap.size) := Lib.hid (by have := Z1.out; have := hl2.size; omega)
  have hlen : ((l.drop 4).drop 4).length = 5 := by have := HL.out; simp; omega
  have hat : ∀ i (h : i < ((l.drop 4).drop 4).length), (((l.drop 4).drop 4)[i].toNat : Nat) = (l.getD (8 + i) 0).toNat := by
    intro i hi
    have h8 : 8 + i < l.length := by have := HL.out; omega
    rw [List.getD_eq_getElem?_getD, List.getElem?_eq_getElem h8]
    simp [List.getElem_drop, show 4 + (4 + i) = 8 + i by omega]
  rcases hb2.shape with ⟨_, _, _, h0⟩ | ⟨b, off, cap2, rfl, hcap2, _, hx⟩
  · rw [h0] at hlen; simp at hlen
  have c0 := hx 0 (by omega)
  have c1 := hx 1 (by omega)
  have c2 := hx 2 (by omega)
  have c3 := hx 3 (by omega)
  have c4 := hx 4 (by omega)
  rw [hat] at c0 c1 c2 c3 c4
  rw [hlen]
  have hlt : ∀ i, (l.getD i 0).toNat < 256 := fun i => (l.getD i 0).toNat_lt
  have hlt8 := hlt 8
  have hlt9 := hlt 9
  have hlt10 := hlt 10
  have hlt11 := hlt 11
  have hlt12 := hlt 12
  have F : Hid (takeC l = if ((l.getD 10 0).toNat : Int) ≠ 0 ∨ ((l.getD 11 0).toNat : Int) ≠ 0 then 2 else headC ((numL (l.take 4) : Nat) : Int) ((numL ((l.drop 4).take 4) : Nat) : Int) ((l.getD 8 0).toNat : Int) ((l.getD 9 0).toNat : Int) ((l.getD 12 0).toNat : Int)) := Lib.hid (by
    change takeC l = if bOf l 10 ≠ 0 ∨ bOf l 11 ≠ 0 then 2 else headC (wOf l) (hOf l) (bOf l 8) (bOf l 9) (bOf l 12)
    unfold takeC
    by_cases h : bOf l 10 ≠ 0 ∨ bOf l 11 ≠ 0
    · rw [if_pos (Or.inr h), if_pos h]
    · rw [if_neg (by rintro (h' | h'); exact h' HL.out; exact h h'), if_neg h])
  have F2 : Hid (takeV l = if takeC l = 0 then headV ((numL (l.take 4) : Nat) : Int) ((numL ((l.drop 4).take 4) : Nat) : Int) ((l.getD 8 0).toNat : Int) ((l.getD 9 0).toNat : Int) ((l.getD 12 0).toNat : Int) else headV 0 0 0 0 0) := Lib.hid rfl
  simp only [Nat.add_zero, Nat.reduceAdd] at c0 c1 c2 c3 c4
  generalize (l.getD 8 0).toNat = x8 at *
  generalize (l.getD 9 0).toNat = x9 at *
  generalize (l.getD 10 0).toNat = x10 at *
  generalize (l.getD 11 0).toNat = x11 at *
  generalize (l.getD 12 0).toNat = x12 at *
  generalize numL (l.take 4) = n1 at *
  generalize numL ((l.drop 4).take 4) = n2 at *
  have z8 : IntKind.i64.wrap (x8 : Int) = x8 := IntWalk.i64_in _ (by omega)
  have z9 : IntKind.i64.wrap (x9 : Int) = x9 := IntWalk.i64_in _ (by omega)
  have z12 : IntKind.i64.wrap (x12 : Int) = x12 := IntWalk.i64_in _ (by omega)
  clear hb2 hg2 hbel2 hl2 hlen hat hx hlt hlt8 hlt9 hlt10 hlt11 hlt12 hcap2
  go_wp2_with fail
  go_region_held3 (fun W => W.cell? ⟨b, off, none⟩ = some (.int .u8 (x8 : Int)) ∧ W.cell? ⟨b, off + 1, none⟩ = some (.int .u8 (x9 : Int)) ∧ W.cell? ⟨b, off + 4, none⟩ = some (.int .u8 (x12 : Int))) (first | exact ⟨c0, c1, c4⟩ | go_keep) (fail)
  obtain ⟨w3, hw3⟩ : ∃ w3, (w2.alloc (.cells #[.int .i64 (n1 : Int), .int .i64 (n2 : Int), .int .i64 (x8 : Int), .int .i64 (x9 : Int), .int .i64 (x12 : Int)] 29)).drew = w3 := ⟨_, rfl⟩
  rw [hw3]
  have hb3 : Below w2.heap.size w2 w3 := by rw [← hw3]; exact ((Below.refl _ _).alloc (Nat.le_refl _) _).drew
  have hx3 : w3.heap[w2.heap.size]? = some (.cells #[.int .i64 (n1 : Int), .int .i64 (n2 : Int), .int .i64 (x8 : Int), .int .i64 (x9 : Int), .int .i64 (x12 : Int)] 29 (0, 0)) := by rw [← hw3]; exact heap_alloc_new _ _
  have hs3 : w2.heap.size < w3.heap.size := by rw [← hw3]; simp
  obtain ⟨k0, k1, k2, k3, k4⟩ := box_of hx3
  have d2 := cell_old hb3 c2
  have d3 := cell_old hb3 c3
  have hg3 : w3.heap[w.heap.size]? = some (.cells #[.int .i64 0, .int .i64 0, .int .i64 0, .int .i64 0, .int .i64 0] 29 (0, 0)) := by rw [hb3.block _ Z2.out]; exact G2.out
  have G3 := Lib.hid hg3
  have L3 := Lib.hid (L2.out.trans (hb3.mono L2.out.size))
  have X3 := Lib.hid hx3
  have Z3 : Hid (w.heap.size < w3.heap.size) := Lib.hid (by have := Z2.out; omega)
  have HI : Hid ((Tryd.prog.info? 29).map (·.size) = some 5) := Lib.hid (by kernel_rfl)
  have H1 : Hid (∀ a0 a1 a2 a3 a4 : Int, (#[.int .i64 a0, .int .i64 a1, .int .i64 a2, .int .i64 a3, .int .i64 a4] : Array Value).all (·.oneCell') = true) := Lib.hid (fun a0 a1 a2 a3 a4 => by kernel_rfl)
  have fin : ∀ (W : World) (a0 a1 a2 a3 a4 : Int), w.heap.size < W.heap.size → Below w.heap.size w W → W.heap[w.heap.size]? = some (.cells #[.int .i64 0, .int .i64 0, .int .i64 0, .int .i64 0, .int .i64 0] 29 (0, 0)) →
      (W.setRow w.heap.size #[.int .i64 a0, .int .i64 a1, .int .i64 a2, .int .i64 a3, .int .i64 a4]).heap[w.heap.size]? = some (.cells #[.int .i64 a0, .int .i64 a1, .int .i64 a2, .int .i64 a3, .int .i64 a4] 29 (0, 0)) ∧ Below w.heap.size w (W.setRow w.heap.size #[.int .i64 a0, .int .i64 a1, .int .i64 a2, .int .i64 a3, .int .i64 a4]) :=
    fun W a0 a1 a2 a3 a4 _ hB hG => ⟨setRow_heap _ _ _ _ _ _ hG, below_setRow hB (Nat.le_refl _) _⟩
  have FIN := Lib.hid fin
  clear hw3 hb3 hx3 hs3 c0 c1 c2 c3 c4 hg3 fin
  by_cases hq : x10 = 0 ∧ x11 = 0
  case neg =>
    have hd : ((x10 : Int) != 0) = true ∧ (x10 != 0) = true ∨ ((x10 : Int) != 0) = false ∧ (x10 != 0) = false ∧ ((x11 : Int) != 0) = true ∧ (x11 != 0) = true := by
      simp only [bne_iff_ne, bne_eq_false_iff_eq]; omega
    have hc : takeC l = 2 := by rw [F.out, if_pos (by omega)]
    have hv : takeV l = headV 0 0 0 0 0 := by rw [F2.out, hc]; rfl
    have HV := Lib.hid hv
    have HC := Lib.hid hc
    clear hc hv hq
    rcases hd with ⟨q1, q2⟩ | ⟨q1, q2, q3, q4⟩
    all_goals
      go_wp2_with (refine wpList_store_row rfl _ _ _ rfl w.heap.size #[.int .i64 0, .int .i64 0, .int .i64 0, .int .i64 0, .int .i64 0] rfl rfl 29 _ G3.out HI.out rfl (H1.out 0 0 0 0 0) ?_)
      obtain ⟨hw4, hb4⟩ := FIN.out w3 0 0 0 0 0 Z3.out L3.out G3.out
      have B4 := Lib.hid hb4
      obtain ⟨w4, hw5⟩ : ∃ w4, w3.setRow w.heap.size #[.int .i64 0, .int .i64 0, .int .i64 0, .int .i64 0, .int .i64 0] = w4 := ⟨_, rfl⟩
      rw [hw5] at hw4 B4
      rw [hw5]
      clear hb4 hw5
      obtain ⟨r0, r1, r2, r3, r4⟩ := box_of hw4
      refine bodyPost_ret (v := .tuple #[.agg #[.int .i64 0, .int .i64 0, .int .i64 0, .int .i64 0, .int .i64 0], .iface 42 (.int .i64 2)]) (by simp [results, Tryd.results14, go_sem, r0, r1, r2, r3, r4]; try rfl) rfl ⟨?_, B4.out⟩
      rw [HV.out, HC.out]
      rfl
  obtain ⟨rfl, rfl⟩ := hq
  have hc : takeC l = headC (n1 : Int) (n2 : Int) (x8 : Int) (x9 : Int) (x12 : Int) := by rw [F.out, if_neg (by simp)]
  have ck := check_any (n1 : Int) (n2 : Int) (x8 : Int) (x9 : Int) (x12 : Int)
  have hv := F2.out
  rw [hc] at hv
  generalize headC (n1 : Int) (n2 : Int) (x8 : Int) (x9 : Int) (x12 : Int) = n at hc ck hv
  unfold headV at ck hv
  have CK := Lib.hid ck
  have HV := Lib.hid hv
  have HC := Lib.hid hc
  clear hc ck hv F F2
  go_wp2_with fail
  refine (CK.out _).mono ?_; rintro e w4 ⟨rfl, hb4⟩
  have hg4 : w4.heap[w.heap.size]? = some (.cells #[.int .i64 0, .int .i64 0, .int .i64 0, .int .i64 0, .int .i64 0] 29 (0, 0)) := by rw [hb4.block _ Z3.out]; exact G3.out
  have hx4 : w4.heap[w2.heap.size]? = some (.cells #[.int .i64 (n1 : Int), .int .i64 (n2 : Int), .int .i64 (x8 : Int), .int .i64 (x9 : Int), .int .i64 (x12 : Int)] 29 (0, 0)) := by
    rw [hb4.block _ (Array.getElem?_eq_some_iff.1 X3.out).1]; exact X3.out
  have G4 := Lib.hid hg4
  have L4 := Lib.hid (L3.out.trans (hb4.mono L3.out.size))
  have Z4 : Hid (w.heap.size < w4.heap.size) := Lib.hid (by have := Z3.out; have := hb4.size; omega)
  clear k0 k1 k2 k3 k4 d2 d3 hb4 hg4
  obtain ⟨k0, k1, k2, k3, k4⟩ := box_of hx4
  clear hx4
  by_cases hn : n = 0
  · subst hn
    rw [errV_zero]
    go_wp2_with (refine wpList_store_row rfl _ _ _ rfl w.heap.size #[.int .i64 (n1 : Int), .int .i64 (n2 : Int), .int .i64 (x8 : Int), .int .i64 (x9 : Int), .int .i64 (x12 : Int)] rfl rfl 29 _ G4.out HI.out rfl (H1.out _ _ _ _ _) ?_)
    obtain ⟨hw4, hb4⟩ := FIN.out w4 (n1 : Int) (n2 : Int) (x8 : Int) (x9 : Int) (x12 : Int) Z4.out L4.out G4.out
    have B4 := Lib.hid hb4
    obtain ⟨w5, hw5⟩ : ∃ w5, w4.setRow w.heap.size #[.int .i64 (n1 : Int), .int .i64 (n2 : Int), .int .i64 (x8 : Int), .int .i64 (x9 : Int), .int .i64 (x12 : Int)] = w5 := ⟨_, rfl⟩
    rw [hw5] at hw4 B4
    rw [hw5]
    clear hb4 hw5
    obtain ⟨r0, r1, r2, r3, r4⟩ := box_of hw4
    refine bodyPost_ret (v := .tuple #[.agg #[.int .i64 (n1 : Int), .int .i64 (n2 : Int), .int .i64 (x8 : Int), .int .i64 (x9 : Int), .int .i64 (x12 : Int)], .nilIface]) (by simp [results, Tryd.results14, go_sem, r0, r1, r2, r3, r4]; try rfl) rfl ⟨?_, B4.out⟩
    rw [HV.out, HC.out]
    rfl
  · rw [errV_some hn]
    have HN := Lib.hid hn
    clear hn
    go_wp2_with (refine wpList_store_row rfl _ _ _ rfl w.heap.size #[.int .i64 0, .int .i64 0, .int .i64 0, .int .i64 0, .int .i64 0] rfl rfl 29 _ G4.out HI.out rfl (H1.out 0 0 0 0 0) ?_)
    obtain ⟨hw4, hb4⟩ := FIN.out w4 0 0 0 0 0 Z4.out L4.out G4.out
    have B4 := Lib.hid hb4
    obtain ⟨w5, hw5⟩ : ∃ w5, w4.setRow w.heap.size #[.int .i64 0, .int .i64 0, .int .i64 0, .int .i64 0, .int .i64 0] = w5 := ⟨_, rfl⟩
    rw [hw5] at hw4 B4
    rw [hw5]
    clear hb4 hw5
    obtain ⟨r0, r1, r2, r3, r4⟩ := box_of hw4
    refine bodyPost_ret (v := .tuple #[.agg #[.int .i64 0, .int .i64 0, .int .i64 0, .int .i64 0, .int .i64 0], .iface 42 (.int .i64 n)]) (by simp [results, Tryd.results14, go_sem, r0, r1, r2, r3, r4]; try rfl) rfl ⟨?_, B4.out⟩
    rw [HV.out, HC.out, if_neg HN.out, errV_some HN.out]
end Go.Proofs.YtlgjjoglajgbeaaDoor
