/- head.Order. By an AI agent; printed by a program of its own. -/
import Derived.Test.YtlgjjoglajgbeaaDoorWkO
namespace Go.Proofs.YtlgjjoglajgbeaaDoor
open Go.RowKit Go.BigFrame
set_option linter.unusedVariables false
set_option linter.unusedSimpArgs false

set_option maxRecDepth 20000 in
set_option maxHeartbeats 16000000 in
theorem order_any (a : Option Addr) (cp : Nat) (cs : List Chk) (w : World) (hb : Cks w (.slice a cs.length cp) cs) (hcap : cs.length ≤ cp) (hl : cs.length ≤ 900) (hnm : ∀ c ∈ cs, c.1.length ≤ 100) (hd : ∀ c ∈ cs, c.2.length ≤ 2000) (ht : TabP w) :
    Calls Tryd.prog 6 #[.slice a cs.length cp] w fun e w' => e = .returned (.tuple #[orderV cs, errV (orderC cs)]) ∧ Below w.heap.size w w' := by
  have CB := Lib.hid hb
  have HL := Lib.hid hl
  have HCAP := Lib.hid hcap
  have HNM := Lib.hid hnm
  have HDT := Lib.hid hd
  have TB := Lib.hid ht
  obtain ⟨w1, hw1⟩ : ∃ w1, w.alloc (.cells #[.int .i64 0, .int .i64 0, .int .i64 0, .int .i64 0, .int .i64 0] 29) = w1 := ⟨_, rfl⟩
  have b1 : Below w.heap.size w w1 := by rw [← hw1]; exact (Below.refl _ _).alloc (Nat.le_refl _) _
  have G1 : Hid (w1.heap[w.heap.size]? = some (.cells #[.int .i64 0, .int .i64 0, .int .i64 0, .int .i64 0, .int .i64 0] 29 (0, 0))) := Lib.hid (by rw [← hw1]; exact heap_alloc_new _ _)
  have B1 := Lib.hid b1
  have HI : Hid ((Tryd.prog.info? 29).map (·.size) = some 5) := Lib.hid (by kernel_rfl)
  have H1 : Hid (∀ a0 a1 a2 a3 a4 : Int, (#[.int .i64 a0, .int .i64 a1, .int .i64 a2, .int .i64 a3, .int .i64 a4] : Array Value).all (·.oneCell') = true) := Lib.hid (fun a0 a1 a2 a3 a4 => by kernel_rfl)
  have fin : ∀ (W : World) (a0 a1 a2 a3 a4 : Int), w.heap.size < W.heap.size → Below w.heap.size w W → W.heap[w.heap.size]? = some (.cells #[.int .i64 0, .int .i64 0, .int .i64 0, .int .i64 0, .int .i64 0] 29 (0, 0)) →
      (W.setRow w.heap.size #[.int .i64 a0, .int .i64 a1, .int .i64 a2, .int .i64 a3, .int .i64 a4]).heap[w.heap.size]? = some (.cells #[.int .i64 a0, .int .i64 a1, .int .i64 a2, .int .i64 a3, .int .i64 a4] 29 (0, 0)) ∧ Below w.heap.size w (W.setRow w.heap.size #[.int .i64 a0, .int .i64 a1, .int .i64 a2, .int .i64 a3, .int .i64 a4]) :=
    fun W a0 a1 a2 a3 a4 _ hB hG => ⟨setRow_heap _ _ _ _ _ _ hG, below_setRow hB (Nat.le_refl _) _⟩
  have FIN := Lib.hid fin
  obtain ⟨n, hn⟩ : ∃ n, cs.length = n := ⟨_, rfl⟩
  rw [hn] at CB HL HCAP ⊢
  have HN := Lib.hid hn
  clear hb hl hcap hnm hd ht b1 fin hn
  go_enter Tryd.func6, Tryd.ntmps6
  go_wp2_with fail
  refine (sound_any _ cs w1 (CB.out.old B1.out) (by have := HL.out; have := HN.out; omega) HNM.out).mono ?_; rintro e w2 ⟨rfl, hb2⟩
  have G2 : Hid (w2.heap[w.heap.size]? = some (.cells #[.int .i64 0, .int .i64 0, .int .i64 0, .int .i64 0, .int .i64 0] 29 (0, 0))) := Lib.hid (by rw [hb2.block _ (Array.getElem?_eq_some_iff.1 G1.out).1]; exact G1.out)
  have B2 : Hid (Below w.heap.size w w2) := Lib.hid (B1.out.trans (hb2.mono B1.out.size))
  have Z2 : Hid (w.heap.size < w2.heap.size) := Lib.hid (Array.getElem?_eq_some_iff.1 G2.out).1
  clear hb2 hw1
  rcases hg : goodL cs with _ | _
  · have OB := Lib.hid (order_bad hg)
    clear hg
    go_wp2_with (refine wpList_store_row rfl _ _ _ rfl w.heap.size #[.int .i64 0, .int .i64 0, .int .i64 0, .int .i64 0, .int .i64 0] rfl rfl 29 _ G2.out HI.out rfl (H1.out 0 0 0 0 0) ?_)
    obtain ⟨hwE, hbE⟩ := FIN.out w2 0 0 0 0 0 Z2.out B2.out G2.out
    have BE := Lib.hid hbE
    obtain ⟨wE, hE⟩ : ∃ wE, (w2).setRow w.heap.size #[.int .i64 0, .int .i64 0, .int .i64 0, .int .i64 0, .int .i64 0] = wE := ⟨_, rfl⟩
    rw [hE] at hwE BE
    rw [hE]
    clear hbE hE
    obtain ⟨r0, r1, r2, r3, r4⟩ := box_of hwE
    refine bodyPost_ret (v := .tuple #[.agg #[.int .i64 0, .int .i64 0, .int .i64 0, .int .i64 0, .int .i64 0], .iface 42 (.int .i64 6)]) (by simp [results, Tryd.results6, go_sem, r0, r1, r2, r3, r4]; try rfl) rfl ⟨?_, BE.out⟩
    rw [OB.out.1, OB.out.2]
    rfl
  have GD := Lib.hid hg
  have n1 : 1 ≤ n := by
    rw [← HN.out]
    rcases cs with _ | ⟨c, r⟩
    · simp [goodL] at hg
    · simp
  have hlt : 0 < cs.length := by rw [HN.out]; omega
  obtain ⟨a0, cap0, hv0, hx0⟩ := CB.out
  obtain ⟨b, o, x, ha, c0, c1, hbx⟩ := hx0 0 hlt
  subst ha
  have HX := Lib.hid hx0
  simp only [Nat.zero_mul, Nat.add_zero] at c0 c1
  obtain ⟨a', c', rfl⟩ := hbx.len
  obtain ⟨⟨nm0, d0⟩, hc0⟩ : ∃ c, cs[0] = c := ⟨_, rfl⟩
  have AT := Lib.hid (show atC cs 0 = (nm0, d0) by rw [atC_get cs 0 hlt, hc0])
  have DL0 : Hid (d0.length ≤ 2000) := Lib.hid (by have := HDT.out _ (List.getElem_mem hlt); rw [hc0] at this; exact this)
  rw [hc0] at c0 c1 hbx
  simp only at c0 c1 hbx
  have q0 := cell_old B2.out c0
  have q1 := cell_old B2.out c1
  have DB := Lib.hid (hbx.old B2.out)
  obtain ⟨I, hI⟩ : ∃ I, decide (nm0 = nIHDR) = I := ⟨_, rfl⟩
  have e1 : ((strOf nm0).toList == [73, 72, 68, 82]) = I := by rw [strOf_toList, ← hI, beq_dec]; rfl
  have e2 : ((strOf nm0).toList != [73, 72, 68, 82]) = !I := by rw [← e1]; rfl
  have g0 : (0 : Int) < (n : Int) := by omega
  have HI0 := Lib.hid hI
  have NN : Hid (1 ≤ n) := Lib.hid n1
  cases hv0
  clear hg c0 c1 hbx hc0 hI hx0
  cases I with
  | false =>
    have OB := Lib.hid (order_first GD.out (by rw [AT.out]; exact of_decide_eq_false HI0.out))
    go_wp2_with (refine wpList_store_row rfl _ _ _ rfl w.heap.size #[.int .i64 0, .int .i64 0, .int .i64 0, .int .i64 0, .int .i64 0] rfl rfl 29 _ G2.out HI.out rfl (H1.out 0 0 0 0 0) ?_)
    obtain ⟨hwE, hbE⟩ := FIN.out w2 0 0 0 0 0 Z2.out B2.out G2.out
    have BE := Lib.hid hbE
    obtain ⟨wE, hE⟩ : ∃ wE, (w2).setRow w.heap.size #[.int .i64 0, .int .i64 0, .int .i64 0, .int .i64 0, .int .i64 0] = wE := ⟨_, rfl⟩
    rw [hE] at hwE BE
    rw [hE]
    clear hbE hE
    obtain ⟨r0, r1, r2, r3, r4⟩ := box_of hwE
    refine bodyPost_ret (v := .tuple #[.agg #[.int .i64 0, .int .i64 0, .int .i64 0, .int .i64 0, .int .i64 0], .iface 42 (.int .i64 2)]) (by simp [results, Tryd.results6, go_sem, r0, r1, r2, r3, r4]; try rfl) rfl ⟨?_, BE.out⟩
    rw [OB.out.1, OB.out.2]
    rfl
  | true =>
  have HD0 : Hid ((atC cs 0).1 = nIHDR) := Lib.hid (by rw [AT.out]; exact of_decide_eq_true HI0.out)
  go_wp2_with fail
  refine (takeHead_any _ d0 w2 DB.out (by have := DL0.out; omega)).mono ?_; rintro e w3 ⟨rfl, hb3⟩
  have G3 : Hid (w3.heap[w.heap.size]? = some (.cells #[.int .i64 0, .int .i64 0, .int .i64 0, .int .i64 0, .int .i64 0] 29 (0, 0))) := Lib.hid (by rw [hb3.block _ Z2.out]; exact G2.out)
  have B3 : Hid (Below w.heap.size w w3) := Lib.hid (B2.out.trans (hb3.mono B2.out.size))
  have Z3 : Hid (w.heap.size < w3.heap.size) := Lib.hid (Array.getElem?_eq_some_iff.1 G3.out).1
  clear hb3 q0 q1 e1 e2 G2 B2 Z2 DB
  by_cases htc : takeC d0 = 0
  rotate_left
  · have OB := Lib.hid (order_head GD.out HD0.out (by rw [AT.out]; exact htc))
    have TV : takeV d0 = .agg #[.int .i64 0, .int .i64 0, .int .i64 0, .int .i64 0, .int .i64 0] := by unfold takeV; rw [if_neg htc]; rfl
    obtain ⟨tn, htn⟩ : ∃ tn, takeC d0 = tn := ⟨_, rfl⟩
    rw [TV, htn]
    rw [htn] at htc
    have EV := Lib.hid (errV_some htc)
    rw [EV.out]
    have OB2 : Hid (orderC cs = tn ∧ orderV cs = headV 0 0 0 0 0) := Lib.hid (by rw [OB.out.1, OB.out.2, AT.out]; exact ⟨htn, rfl⟩)
    clear TV htn htc OB
    obtain ⟨w4, hw4⟩ : ∃ w4, w3.alloc (.cells #[.int .i64 0, .int .i64 0, .int .i64 0, .int .i64 0, .int .i64 0] 29) = w4 := ⟨_, rfl⟩
    have b4 : Below w3.heap.size w3 w4 := by rw [← hw4]; exact (Below.refl _ _).alloc (Nat.le_refl _) _
    have X4 : Hid (w4.heap[w3.heap.size]? = some (.cells #[.int .i64 0, .int .i64 0, .int .i64 0, .int .i64 0, .int .i64 0] 29 (0, 0))) := Lib.hid (by rw [← hw4]; exact heap_alloc_new _ _)
    have B4' := Lib.hid b4
    go_wp2_with (refine wpList_store_row rfl _ _ _ rfl w3.heap.size #[.int .i64 0, .int .i64 0, .int .i64 0, .int .i64 0, .int .i64 0] rfl rfl 29 _ X4.out HI.out rfl (H1.out 0 0 0 0 0) ?_; refine stop ?_)
    refine unstop ?_
    obtain ⟨w5, hw5⟩ : ∃ w5, w4.setRow w3.heap.size #[.int .i64 0, .int .i64 0, .int .i64 0, .int .i64 0, .int .i64 0] = w5 := ⟨_, rfl⟩
    rw [hw5]
    have b5 : Below w3.heap.size w3 w5 := by rw [← hw5]; exact below_setRow B4'.out (Nat.le_refl _) _
    have G4 : Hid (w5.heap[w.heap.size]? = some (.cells #[.int .i64 0, .int .i64 0, .int .i64 0, .int .i64 0, .int .i64 0] 29 (0, 0))) := Lib.hid (by rw [b5.block _ Z3.out]; exact G3.out)
    have B4 : Hid (Below w.heap.size w w5) := Lib.hid (B3.out.trans (b5.mono B3.out.size))
    have Z4 : Hid (w.heap.size < w5.heap.size) := Lib.hid (Array.getElem?_eq_some_iff.1 G4.out).1
    clear b4 b5 hw4 hw5 X4 B4'
    go_wp2_with (refine wpList_store_row rfl _ _ _ rfl w.heap.size #[.int .i64 0, .int .i64 0, .int .i64 0, .int .i64 0, .int .i64 0] rfl rfl 29 _ G4.out HI.out rfl (H1.out 0 0 0 0 0) ?_)
    obtain ⟨hwE, hbE⟩ := FIN.out w5 0 0 0 0 0 Z4.out B4.out G4.out
    have BE := Lib.hid hbE
    obtain ⟨wE, hE⟩ : ∃ wE, (w5).setRow w.heap.size #[.int .i64 0, .int .i64 0, .int .i64 0, .int .i64 0, .int .i64 0] = wE := ⟨_, rfl⟩
    rw [hE] at hwE BE
    rw [hE]
    clear hbE hE
    obtain ⟨r0, r1, r2, r3, r4⟩ := box_of hwE
    refine bodyPost_ret (v := .tuple #[.agg #[.int .i64 0, .int .i64 0, .int .i64 0, .int .i64 0, .int .i64 0], .iface 42 (.int .i64 tn)]) (by simp [results, Tryd.results6, go_sem, r0, r1, r2, r3, r4]; try rfl) rfl ⟨?_, BE.out⟩
    rw [OB2.out.1, OB2.out.2, EV.out]
    rfl
  have HT0 := Lib.hid htc
  obtain ⟨W, H, D, C, L, hvals⟩ : ∃ W H D C L : Int, takeV d0 = headV W H D C L ∧ colorO cs = C ∧ depthO cs = D ∧ D ∈ depthsL C := by
    refine ⟨wOf d0, hOf d0, bOf d0 8, bOf d0 9, bOf d0 12, ?_, ?_, ?_, ?_⟩
    · unfold takeV; rw [if_pos htc]
    · unfold colorO; rw [AT.out]
    · unfold depthO; rw [AT.out]
    · unfold takeC at htc
      split at htc
      · cases htc
      · unfold headC at htc
        split at htc
        · cases htc
        · rename_i h
          by_cases hm : bOf d0 8 ∈ depthsL (bOf d0 9)
          · exact hm
          · exact absurd (.inr (.inr (.inl hm))) h
  obtain ⟨hvv, hcol, hdep, hDm⟩ := hvals
  have HV := Lib.hid hvv
  have HC2 := Lib.hid (show colorO cs = C ∧ depthO cs = D ∧ D ∈ depthsL C from ⟨hcol, hdep, hDm⟩)
  rw [hvv, htc, errV_zero]
  unfold headV
  clear hvv hcol hdep hDm htc
  obtain ⟨w4, hw4⟩ : ∃ w4, w3.alloc (.cells #[.int .i64 0, .int .i64 0, .int .i64 0, .int .i64 0, .int .i64 0] 29) = w4 := ⟨_, rfl⟩
  have b4 : Below w3.heap.size w3 w4 := by rw [← hw4]; exact (Below.refl _ _).alloc (Nat.le_refl _) _
  have X4 : Hid (w4.heap[w3.heap.size]? = some (.cells #[.int .i64 0, .int .i64 0, .int .i64 0, .int .i64 0, .int .i64 0] 29 (0, 0))) := Lib.hid (by rw [← hw4]; exact heap_alloc_new _ _)
  have B4' := Lib.hid b4
  have Z4' : Hid (w4.heap.size = w3.heap.size + 1) := Lib.hid (by rw [← hw4]; simp)
  go_wp2_with (refine wpList_store_row rfl _ _ _ rfl w3.heap.size #[.int .i64 W, .int .i64 H, .int .i64 D, .int .i64 C, .int .i64 L] rfl rfl 29 _ X4.out HI.out rfl (H1.out W H D C L) ?_; refine stop ?_)
  refine unstop ?_
  obtain ⟨w5, hw5⟩ : ∃ w5, w4.setRow w3.heap.size #[.int .i64 W, .int .i64 H, .int .i64 D, .int .i64 C, .int .i64 L] = w5 := ⟨_, rfl⟩
  rw [hw5]
  have b5 : Below w3.heap.size w3 w5 := by rw [← hw5]; exact below_setRow B4'.out (Nat.le_refl _) _
  have X5 : Hid (w5.heap[w3.heap.size]? = some (.cells #[.int .i64 W, .int .i64 H, .int .i64 D, .int .i64 C, .int .i64 L] 29 (0, 0))) := Lib.hid (by rw [← hw5]; exact setRow_heap _ _ _ _ _ _ X4.out)
  have Z5 : Hid (w3.heap.size < w5.heap.size) := Lib.hid (Array.getElem?_eq_some_iff.1 X5.out).1
  have G5 : Hid (w5.heap[w.heap.size]? = some (.cells #[.int .i64 0, .int .i64 0, .int .i64 0, .int .i64 0, .int .i64 0] 29 (0, 0))) := Lib.hid (by rw [b5.block _ Z3.out]; exact G3.out)
  have B5 : Hid (Below w.heap.size w w5) := Lib.hid (B3.out.trans (b5.mono B3.out.size))
  obtain ⟨TX, hTX⟩ : ∃ T, w3.heap.size = T := ⟨_, rfl⟩
  have WT : Hid (w.heap.size < TX) := Lib.hid (by rw [← hTX]; exact Z3.out)
  rw [hTX] at X5 Z5 ⊢
  obtain ⟨k0, k1, k2, k3, k4⟩ := box_of X5.out
  clear b4 b5 hw4 hw5 X4 B4' G3 B3 Z3 Z4' hTX
  obtain ⟨M, hM⟩ : ∃ M, w5.heap.size = M := ⟨_, rfl⟩
  obtain ⟨w6, hw6⟩ : ∃ w6, (w5.alloc (.map #[] 0)).alloc (.cells #[.int .i64 W, .int .i64 H, .int .i64 D, .int .i64 C, .int .i64 L, .map (some M), .int .i64 0, .bool false] 47) = w6 := ⟨_, rfl⟩
  have b6 : Below w5.heap.size w5 w6 := by rw [← hw6]; exact ((Below.refl _ _).alloc (Nat.le_refl _) _).alloc (by simp) _
  have M6 : Hid (CntM w6 M (fun _ => 0) 0) := Lib.hid (by
    rw [← hw6, ← hM]
    exact (CntM.made w5).old ((Below.refl _ _).alloc (Nat.le_refl _) _))
  have W6 : Hid (Wk w6 (M + 1) M W H D C L 0 false) := Lib.hid (by
    rw [← hw6]
    have h := heap_alloc_new (w5.alloc (.map #[] 0)) (.cells #[.int .i64 W, .int .i64 H, .int .i64 D, .int .i64 C, .int .i64 L, .map (some M), .int .i64 0, .bool false] 47)
    rw [World.size_alloc, hM] at h
    exact h)
  have X6 : Hid (w6.heap[TX]? = some (.cells #[.int .i64 W, .int .i64 H, .int .i64 D, .int .i64 C, .int .i64 L] 29 (0, 0))) := Lib.hid (by rw [b6.block _ Z5.out]; exact X5.out)
  have G6 : Hid (w6.heap[w.heap.size]? = some (.cells #[.int .i64 0, .int .i64 0, .int .i64 0, .int .i64 0, .int .i64 0] 29 (0, 0))) := Lib.hid (by rw [b6.block _ (Array.getElem?_eq_some_iff.1 G5.out).1]; exact G5.out)
  have B6 : Hid (Below w.heap.size w w6) := Lib.hid (B5.out.trans (b6.mono B5.out.size))
  have LT : Hid (w.heap.size < TX ∧ TX < M ∧ w6.heap.size = M + 2) := Lib.hid ⟨WT.out, by rw [← hM]; exact Z5.out, by rw [← hw6, ← hM]; simp⟩
  have hmm := @run_makeMap Tryd.prog
  have n2 : Hid (2 ≤ cs.length) := Lib.hid (good_head GD.out HD0.out)
  have i1 : (1 : Int) ≤ (cs.length : Int) := by have := n2.out; omega
  have i2 : (cs.length : Int) ≤ (cp : Int) := by have := HCAP.out; omega
  have i3 : ¬ cp = 1 := by have := HCAP.out; have := n2.out; omega
  clear b6 G5 B5 X5 Z5 WT
  go_upto_region 9 with (fail)
  try rw [hM]
  try rw [hw6]
  clear k0 k1 k2 k3 k4 hmm hw6 hM
  go_wp2_with fail
  have OT : Hid (orderC cs = tailO cs) := Lib.hid (order_tail GD.out HD0.out (by rw [AT.out]; exact HT0.out))
  obtain ⟨q, hq⟩ : ∃ q, cs.length - 1 = q := ⟨_, rfl⟩
  rw [hq]
  have HQ : Hid (cs.length = q + 1 ∧ 1 ≤ q ∧ q ≤ 899) := Lib.hid (by have := n2.out; have := HL.out; omega)
  clear hq i1 i2 i3 n1 g0 hlt
  go_loopw [43] (fun i W' => ∃ (k : Nat) (f : List UInt8 → Nat) (pal : Nat) (en : Bool), i = .int .i64 (k : Nat) ∧ k ≤ q ∧ Seen (cs.take (k + 1)) f pal en ∧ (∀ z, f z ≤ k) ∧ Wk W' (M + 1) M W H D C L pal en ∧ CntM W' M f k ∧ (∀ j, 1 ≤ j → j < k + 1 → stepO C D cs j = 0) ∧ Below M w6 W' ∧ Below w.heap.size w W') (fun i _ => q - (intOf i).toNat)
  case atStart =>
    refine ⟨0, _, 0, false, rfl, Nat.zero_le _, ?_, fun z => Nat.le_refl _, W6.out, M6.out, fun j h1 h2 => by omega, Below.refl _ _, B6.out⟩
    have e : cs.take (0 + 1) = [(nIHDR, d0)] := by
      rcases cs with _ | ⟨c, r⟩
      · have := n2.out; simp at this
      · have h1 := AT.out
        have h2 := HD0.out
        simp only [atC, List.getD_cons_zero] at h1 h2
        subst h1
        simp only at h2
        subst h2
        rfl
    rw [e]
    exact Seen.start d0
  case round =>
    obtain ⟨k, f, pal, en, rfl, hk, hse, hf, hwk, hcm, hst, hbm, hbw⟩ := hrel
    have SE := Lib.hid hse
    have HF := Lib.hid hf
    have WK := Lib.hid hwk
    have CM := Lib.hid hcm
    have ST := Lib.hid hst
    have BM := Lib.hid hbm
    have BW := Lib.hid hbw
    have SZ : Hid (M + 2 ≤ wr.heap.size) := Lib.hid (by have := hbm.size; have := LT.out; omega)
    clear hse hf hwk hcm hst hbm hbw W6 M6 B6
    by_cases hkq : k < q
    · have f1 : decide ((k : Int) < (q : Int)) = true := by rw [decide_eq_true_eq]; omega
      have f1' : decide (k < q) = true := by rw [decide_eq_true_eq]; omega
      have f2 : (k : Int) < (q : Int) := by omega
      have hi : k + 1 < cs.length := by have := HQ.out; omega
      obtain ⟨b', o', x, he, c0, c1, hbx⟩ := HX.out (k + 1) hi
      cases he
      obtain ⟨a2, c2, rfl⟩ := hbx.len
      obtain ⟨⟨nm, d⟩, hcc⟩ : ∃ c, cs[k + 1] = c := ⟨_, rfl⟩
      have NL : Hid (nm.length ≤ 100) := Lib.hid (by have := HNM.out _ (List.getElem_mem hi); rw [hcc] at this; exact this)
      have DL : Hid (d.length ≤ 2000) := Lib.hid (by have := HDT.out _ (List.getElem_mem hi); rw [hcc] at this; exact this)
      have ATK : Hid (atC cs (k + 1) = (nm, d)) := Lib.hid (by rw [atC_get cs _ hi, hcc])
      have TK : Hid (cs.take (k + 1 + 1) = cs.take (k + 1) ++ [(nm, d)]) := Lib.hid (by rw [List.take_succ_eq_append_getElem hi, hcc])
      rw [hcc] at c0 c1 hbx
      simp only at c0 c1 hbx
      have q0 := cell_old BW.out c0
      have q1 := cell_old BW.out c1
      rw [show o + (k + 1) * 2 = o + 2 + k * 2 by omega] at q0 q1
      obtain ⟨w7, hw7⟩ : ∃ w7, wr.alloc (.cells #[.string (strOf nm), .slice a2 d.length c2] 26) = w7 := ⟨_, rfl⟩
      have b7 : Below wr.heap.size wr w7 := by rw [← hw7]; exact (Below.refl _ _).alloc (Nat.le_refl _) _
      have bx7 : w7.heap[wr.heap.size]? = some (.cells #[.string (strOf nm), .slice a2 d.length c2] 26 (0, 0)) := by rw [← hw7]; exact heap_alloc_new _ _
      have x0 : w7.cell? ⟨wr.heap.size, 0, none⟩ = some (.string (strOf nm)) := by rw [cell_of_row _ _ 0 _ _ _ bx7]; rfl
      have x1 : w7.cell? ⟨wr.heap.size, 1, none⟩ = some (.slice a2 d.length c2) := by rw [cell_of_row _ _ 1 _ _ _ bx7]; rfl
      have W7 := Lib.hid (WK.out.old b7)
      have C7 := Lib.hid (CM.out.old b7)
      have BM7 : Hid (Below M w6 w7) := Lib.hid (BM.out.trans (b7.mono (by have := SZ.out; omega)))
      have BW7 : Hid (Below w.heap.size w w7) := Lib.hid (BW.out.trans (b7.mono (by have := SZ.out; have := LT.out; omega)))
      have D7 := Lib.hid (hbx.old BW7.out)
      have gk : IntKind.i64.wrap ((k : Int) + 1) = (k : Int) + 1 := IntWalk.i64_in _ (by have := HQ.out; omega)
      have HKQ := Lib.hid hkq
      have NC : Hid (nextC C D f pal en nm d = stepO C D cs (k + 1)) := Lib.hid (by
        have h := step_eq (C := C) (D := D) GD.out hi SE.out
        rw [ATK.out] at h
        rw [← h]
        rfl)
      clear c0 c1 hbx hcc b7 bx7 hkq
      go_wp2_with fail
      refine (next_any nm d _ w7 (M + 1) M W H D C L pal en f k W7.out C7.out (by omega) (fun z => by have := HF.out z; have := HQ.out; have := HKQ.out; omega) (by have := HQ.out; have := HKQ.out; omega) D7.out DL.out NL.out HC2.out.2.2 (TB.out.old BW7.out)).mono ?_
      rintro e w8 ⟨rfl, hb8, hnx⟩
      rw [NC.out] at hnx ⊢
      obtain ⟨st, hst⟩ : ∃ st, stepO C D cs (k + 1) = st := ⟨_, rfl⟩
      rw [hst] at hnx ⊢
      have BM8 : Hid (Below M w6 w8) := Lib.hid (BM7.out.trans hb8)
      have BW8 : Hid (Below w.heap.size w w8) := Lib.hid (BW7.out.trans (hb8.mono (by have := LT.out; omega)))
      by_cases hs0 : st = 0
      · subst hs0
        obtain ⟨hw8, hc8⟩ := hnx rfl
        have W8 := Lib.hid hw8
        have C8 := Lib.hid hc8
        have BF : Hid (badW C D f pal en (nm, d) = false) := Lib.hid (by
          have h := NC.out
          rw [hst] at h
          unfold nextC at h
          split at h
          · cases h
          · split at h
            · cases h
            · rename_i h2; simpa using h2)
        have S8 : Hid (Seen (cs.take (k + 1 + 1)) (fun z => if z = nm then f z + 1 else f z) (palN nm d pal) (enN f en nm)) := Lib.hid (by
          rw [TK.out]
          exact SE.out.step (nm, d) (by
            intro h
            have h1 := congrArg List.length h
            rw [List.length_take, List.length_nil] at h1
            have := HQ.out
            omega) BF.out)
        have HS := Lib.hid hst
        rw [errV_zero]
        clear hb8 hnx hw8 hc8 hst x0 x1 q0 q1 hw7
        go_wp2_with fail
        go_roundw
        case rel =>
          refine ⟨k + 1, _, _, _, by go_num, HKQ.out, S8.out, fun z => ?_, W8.out, C8.out, fun j h1 h2 => ?_, BM8.out, BW8.out⟩
          · have := HF.out z
            show (if z = nm then f z + 1 else f z) ≤ k + 1
            split <;> omega
          · by_cases e : j = k + 1
            · subst e; exact HS.out
            · exact ST.out j h1 (by omega)
        case measure => simp [intOf]; have := HKQ.out; omega
      · have OB : Hid (orderC cs = st ∧ orderV cs = headV 0 0 0 0 0) := Lib.hid (by
          have e : orderC cs = st := by
            rw [OT.out]
            unfold tailO
            rw [HC2.out.1, HC2.out.2.1, ← hst]
            exact run_bad _ _ _ 1 (k + 1) (fun j h1 h2 => ST.out j h1 h2) (by omega) (by have := HQ.out; have := HKQ.out; omega) (by rw [hst]; exact hs0)
          exact ⟨e, by unfold orderV; rw [e, if_neg hs0]⟩)
        have G8 : Hid (w8.heap[w.heap.size]? = some (.cells #[.int .i64 0, .int .i64 0, .int .i64 0, .int .i64 0, .int .i64 0] 29 (0, 0))) := Lib.hid (by rw [BM8.out.block _ (by have := LT.out; omega)]; exact G6.out)
        have Z8 : Hid (w.heap.size < w8.heap.size) := Lib.hid (Array.getElem?_eq_some_iff.1 G8.out).1
        have EV := Lib.hid (errV_some hs0)
        rw [EV.out]
        clear hb8 hnx hst x0 x1 q0 q1 hw7 hs0
        go_wp2_with (refine wpList_store_row rfl _ _ _ rfl w.heap.size #[.int .i64 0, .int .i64 0, .int .i64 0, .int .i64 0, .int .i64 0] rfl rfl 29 _ G8.out HI.out rfl (H1.out 0 0 0 0 0) ?_)
        obtain ⟨hwE, hbE⟩ := FIN.out w8 0 0 0 0 0 Z8.out BW8.out G8.out
        have BE := Lib.hid hbE
        obtain ⟨wE, hE⟩ : ∃ wE, (w8).setRow w.heap.size #[.int .i64 0, .int .i64 0, .int .i64 0, .int .i64 0, .int .i64 0] = wE := ⟨_, rfl⟩
        rw [hE] at hwE BE
        rw [hE]
        clear hbE hE
        obtain ⟨r0, r1, r2, r3, r4⟩ := box_of hwE
        refine bodyPost_ret (v := .tuple #[.agg #[.int .i64 0, .int .i64 0, .int .i64 0, .int .i64 0, .int .i64 0], .iface 42 (.int .i64 st)]) (by simp [results, Tryd.results6, go_sem, r0, r1, r2, r3, r4]; try rfl) rfl ⟨?_, BE.out⟩
        rw [OB.out.1, OB.out.2, EV.out]
        rfl
    · obtain rfl : k = q := by omega
      have f1 : decide ((k : Int) < (k : Int)) = false := by rw [decide_eq_false_iff_not]; omega
      have SC : Hid (Seen cs f pal en) := Lib.hid (by
        have h := SE.out
        rw [List.take_of_length_le (by have := HQ.out; omega)] at h
        exact h)
      obtain ⟨a1, h1⟩ : ∃ a, f nIDAT = a := ⟨_, rfl⟩
      obtain ⟨a2, h2⟩ : ∃ a, f nPLTE = a := ⟨_, rfl⟩
      have l1 : (Instr.lookup 45 (.map (some M)) (.string ⟨#[73, 68, 65, 84]⟩) false).run Tryd.prog wr = .ok (.int .i64 (a1 : Nat)) wr := by rw [← h1]; exact CM.out.look nIDAT (by decide)
      have l2 : (Instr.lookup 45 (.map (some M)) (.string ⟨#[80, 76, 84, 69]⟩) false).run Tryd.prog wr = .ok (.int .i64 (a2 : Nat)) wr := by rw [← h2]; exact CM.out.look nPLTE (by decide)
      have c5 := WK.out.cells.2.2.1
      have XR : wr.heap[TX]? = some (.cells #[.int .i64 W, .int .i64 H, .int .i64 D, .int .i64 C, .int .i64 L] 29 (0, 0)) := by rw [BM.out.block _ (by have := LT.out; omega)]; exact X6.out
      obtain ⟨k0, k1, k2, k3, k4⟩ := box_of XR
      have GR : Hid (wr.heap[w.heap.size]? = some (.cells #[.int .i64 0, .int .i64 0, .int .i64 0, .int .i64 0, .int .i64 0] 29 (0, 0))) := Lib.hid (by rw [BM.out.block _ (by have := LT.out; omega)]; exact G6.out)
      have ZR : Hid (w.heap.size < wr.heap.size) := Lib.hid (Array.getElem?_eq_some_iff.1 GR.out).1
      have OE : Hid (orderC cs = if a1 = 0 ∨ (C = 3 ∧ a2 = 0) then 2 else 0) := Lib.hid (by
        rw [OT.out]
        unfold tailO
        rw [HC2.out.1, HC2.out.2.1, run_end _ _ _ 1 (fun j h1 h2 => ST.out j h1 (by have := HQ.out; omega))]
        unfold endO
        rw [← SC.out.cnt nIDAT (by decide), ← SC.out.cnt nPLTE (by decide), h1, h2])
      have g1 : (((a1 : Int) == 0) = true ∧ (a1 == 0) = true ∧ a1 = 0) ∨ (((a1 : Int) == 0) = false ∧ (a1 == 0) = false ∧ a1 ≠ 0) := by
        by_cases h : a1 = 0
        · left; subst h; exact ⟨rfl, rfl, rfl⟩
        · right; exact ⟨by rw [beq_eq_false_iff_ne]; omega, by rw [beq_eq_false_iff_ne]; exact h, h⟩
      have g2 : (((a2 : Int) == 0) = true ∧ (a2 == 0) = true ∧ a2 = 0) ∨ (((a2 : Int) == 0) = false ∧ (a2 == 0) = false ∧ a2 ≠ 0) := by
        by_cases h : a2 = 0
        · left; subst h; exact ⟨rfl, rfl, rfl⟩
        · right; exact ⟨by rw [beq_eq_false_iff_ne]; omega, by rw [beq_eq_false_iff_ne]; exact h, h⟩
      have g3 : ((C == 3) = true ∧ C = 3) ∨ ((C == 3) = false ∧ C ≠ 3) := by
        by_cases h : C = 3
        · left; exact ⟨by rw [beq_iff_eq]; exact h, h⟩
        · right; exact ⟨by rw [beq_eq_false_iff_ne]; exact h, h⟩
      clear h1 h2 XR
      rcases g1 with ⟨g1, g1', p1⟩ | ⟨g1, g1', p1⟩
      · have OB : Hid (orderC cs = 2 ∧ orderV cs = headV 0 0 0 0 0) := Lib.hid (by
          have e : orderC cs = 2 := by rw [OE.out]; exact if_pos (.inl p1)
          exact ⟨e, by unfold orderV; rw [e, if_neg (by decide)]⟩)
        clear p1 g2 g3 OE
        go_upto_region 17 with (fail)
        clear g1 g1' l1 l2 c5 k0 k1 k2 k3 k4 f1
        go_wp2_with (refine wpList_store_row rfl _ _ _ rfl w.heap.size #[.int .i64 0, .int .i64 0, .int .i64 0, .int .i64 0, .int .i64 0] rfl rfl 29 _ GR.out HI.out rfl (H1.out 0 0 0 0 0) ?_)
        obtain ⟨hwE, hbE⟩ := FIN.out wr 0 0 0 0 0 ZR.out BW.out GR.out
        have BE := Lib.hid hbE
        obtain ⟨wE, hE⟩ : ∃ wE, (wr).setRow w.heap.size #[.int .i64 0, .int .i64 0, .int .i64 0, .int .i64 0, .int .i64 0] = wE := ⟨_, rfl⟩
        rw [hE] at hwE BE
        rw [hE]
        clear hbE hE
        obtain ⟨r0, r1, r2, r3, r4⟩ := box_of hwE
        refine bodyPost_ret (v := .tuple #[.agg #[.int .i64 0, .int .i64 0, .int .i64 0, .int .i64 0, .int .i64 0], .iface 42 (.int .i64 2)]) (by simp [results, Tryd.results6, go_sem, r0, r1, r2, r3, r4]; try rfl) rfl ⟨?_, BE.out⟩
        rw [OB.out.1, OB.out.2]
        rfl
      rcases g3 with ⟨g3, p3⟩ | ⟨g3, p3⟩
      · rcases g2 with ⟨g2, g2', p2⟩ | ⟨g2, g2', p2⟩
        · have OB : Hid (orderC cs = 2 ∧ orderV cs = headV 0 0 0 0 0) := Lib.hid (by
            have e : orderC cs = 2 := by rw [OE.out]; exact if_pos (.inr ⟨p3, p2⟩)
            exact ⟨e, by unfold orderV; rw [e, if_neg (by decide)]⟩)
          clear p1 p2 p3 OE
          go_wp2_with (refine wpList_store_row rfl _ _ _ rfl w.heap.size #[.int .i64 0, .int .i64 0, .int .i64 0, .int .i64 0, .int .i64 0] rfl rfl 29 _ GR.out HI.out rfl (H1.out 0 0 0 0 0) ?_)
          obtain ⟨hwE, hbE⟩ := FIN.out wr 0 0 0 0 0 ZR.out BW.out GR.out
          have BE := Lib.hid hbE
          obtain ⟨wE, hE⟩ : ∃ wE, (wr).setRow w.heap.size #[.int .i64 0, .int .i64 0, .int .i64 0, .int .i64 0, .int .i64 0] = wE := ⟨_, rfl⟩
          rw [hE] at hwE BE
          rw [hE]
          clear hbE hE
          obtain ⟨r0, r1, r2, r3, r4⟩ := box_of hwE
          refine bodyPost_ret (v := .tuple #[.agg #[.int .i64 0, .int .i64 0, .int .i64 0, .int .i64 0, .int .i64 0], .iface 42 (.int .i64 2)]) (by simp [results, Tryd.results6, go_sem, r0, r1, r2, r3, r4]; try rfl) rfl ⟨?_, BE.out⟩
          rw [OB.out.1, OB.out.2]
          rfl
        · have OB : Hid (orderC cs = 0 ∧ orderV cs = headV W H D C L) := Lib.hid (by
            have e : orderC cs = 0 := by rw [OE.out]; exact if_neg (fun h => h.elim p1 (fun h => p2 h.2))
            exact ⟨e, by unfold orderV; rw [e, if_pos rfl, AT.out]; exact HV.out⟩)
          clear p1 p2 p3 OE
          go_wp2_with (refine wpList_store_row rfl _ _ _ rfl w.heap.size #[.int .i64 W, .int .i64 H, .int .i64 D, .int .i64 C, .int .i64 L] rfl rfl 29 _ GR.out HI.out rfl (H1.out W H D C L) ?_)
          obtain ⟨hwE, hbE⟩ := FIN.out wr W H D C L ZR.out BW.out GR.out
          have BE := Lib.hid hbE
          obtain ⟨wE, hE⟩ : ∃ wE, (wr).setRow w.heap.size #[.int .i64 W, .int .i64 H, .int .i64 D, .int .i64 C, .int .i64 L] = wE := ⟨_, rfl⟩
          rw [hE] at hwE BE
          rw [hE]
          clear hbE hE
          obtain ⟨r0, r1, r2, r3, r4⟩ := box_of hwE
          refine bodyPost_ret (v := .tuple #[.agg #[.int .i64 W, .int .i64 H, .int .i64 D, .int .i64 C, .int .i64 L], .nilIface]) (by simp [results, Tryd.results6, go_sem, r0, r1, r2, r3, r4]; try rfl) rfl ⟨?_, BE.out⟩
          rw [OB.out.1, OB.out.2]
          rfl
      · have OB : Hid (orderC cs = 0 ∧ orderV cs = headV W H D C L) := Lib.hid (by
          have e : orderC cs = 0 := by rw [OE.out]; exact if_neg (fun h => h.elim p1 (fun h => p3 h.1))
          exact ⟨e, by unfold orderV; rw [e, if_pos rfl, AT.out]; exact HV.out⟩)
        clear p1 p3 g2 OE
        go_wp2_with (refine wpList_store_row rfl _ _ _ rfl w.heap.size #[.int .i64 W, .int .i64 H, .int .i64 D, .int .i64 C, .int .i64 L] rfl rfl 29 _ GR.out HI.out rfl (H1.out W H D C L) ?_)
        obtain ⟨hwE, hbE⟩ := FIN.out wr W H D C L ZR.out BW.out GR.out
        have BE := Lib.hid hbE
        obtain ⟨wE, hE⟩ : ∃ wE, (wr).setRow w.heap.size #[.int .i64 W, .int .i64 H, .int .i64 D, .int .i64 C, .int .i64 L] = wE := ⟨_, rfl⟩
        rw [hE] at hwE BE
        rw [hE]
        clear hbE hE
        obtain ⟨r0, r1, r2, r3, r4⟩ := box_of hwE
        refine bodyPost_ret (v := .tuple #[.agg #[.int .i64 W, .int .i64 H, .int .i64 D, .int .i64 C, .int .i64 L], .nilIface]) (by simp [results, Tryd.results6, go_sem, r0, r1, r2, r3, r4]; try rfl) rfl ⟨?_, BE.out⟩
        rw [OB.out.1, OB.out.2]
        rfl
end Go.Proofs.YtlgjjoglajgbeaaDoor
