/- The document's Order. By an AI agent. -/
import Derived.Test.YtlgjjoglajgbeaaDoorOrdW
import Derived.Test.YtlgjjoglajgbeaaDoorOrdC
import Derived.Test.YtlgjjoglajgbeaaDoorRefGd
import Derived.Test.YtlgjjoglajgbeaaDoorHeadU
namespace Go.Proofs.YtlgjjoglajgbeaaDoor
open Go.RowKit Go.BigFrame
set_option linter.unusedVariables false
set_option linter.unusedSimpArgs false

theorem stepO_eq (C D : Int) (cs : List Chk) (i : Nat) (nm d : List UInt8) (s kn wr : Bool) (ha : atC cs i = (nm, d)) (hs : smallU (nm.getD 0 0) = s) (hk : knownL.contains nm = kn) (hw : wrongB C D (cs.take i) (nm, d) = wr) :
    stepO C D cs i = if (!s && !kn) = true then 3 else if wr = true then 2 else 0 := by
  unfold stepO
  rw [ha, hs, hk, hw]
set_option maxRecDepth 20000 in
set_option maxHeartbeats 16000000 in
theorem refOrder_any (a : Option Addr) (cp : Nat) (cs : List Chk) (w : World) (hb : Cks w (.slice a cs.length cp) cs) (hl : cs.length ≤ 900) (hnm : ∀ c ∈ cs, c.1.length ≤ 100) (hd : ∀ c ∈ cs, c.2.length ≤ 2000) :
    Calls Tryd.prog 7 #[.slice a cs.length cp] w fun e w' => e = .returned (.tuple #[orderV cs, .int .i64 (orderC cs)]) ∧ Below w.heap.size w w' := by
  have CB := Lib.hid hb
  have HL := Lib.hid hl
  have HNM := Lib.hid hnm
  have HDT := Lib.hid hd
  obtain ⟨w1, hw1⟩ : ∃ w1, w.alloc (.cells #[.int .i64 0, .int .i64 0, .int .i64 0, .int .i64 0, .int .i64 0] 29) = w1 := ⟨_, rfl⟩
  have b1 : Below w.heap.size w w1 := by rw [← hw1]; exact (Below.refl _ _).alloc (Nat.le_refl _) _
  have G1 : Hid (w1.heap[w.heap.size]? = some (.cells #[.int .i64 0, .int .i64 0, .int .i64 0, .int .i64 0, .int .i64 0] 29 (0, 0))) := Lib.hid (by rw [← hw1]; exact heap_alloc_new _ _)
  have B1 := Lib.hid b1
  have Z1 : Hid (w.heap.size < w1.heap.size) := Lib.hid (Array.getElem?_eq_some_iff.1 G1.out).1
  have HI : Hid ((Tryd.prog.info? 29).map (·.size) = some 5) := Lib.hid (by kernel_rfl)
  have H1 : Hid (∀ a0 a1 a2 a3 a4 : Int, (#[.int .i64 a0, .int .i64 a1, .int .i64 a2, .int .i64 a3, .int .i64 a4] : Array Value).all (·.oneCell') = true) := Lib.hid (fun a0 a1 a2 a3 a4 => by kernel_rfl)
  have fin : ∀ (W : World) (a0 a1 a2 a3 a4 : Int), w.heap.size < W.heap.size → Below w.heap.size w W → W.heap[w.heap.size]? = some (.cells #[.int .i64 0, .int .i64 0, .int .i64 0, .int .i64 0, .int .i64 0] 29 (0, 0)) →
      (W.setRow w.heap.size #[.int .i64 a0, .int .i64 a1, .int .i64 a2, .int .i64 a3, .int .i64 a4]).heap[w.heap.size]? = some (.cells #[.int .i64 a0, .int .i64 a1, .int .i64 a2, .int .i64 a3, .int .i64 a4] 29 (0, 0)) ∧ Below w.heap.size w (W.setRow w.heap.size #[.int .i64 a0, .int .i64 a1, .int .i64 a2, .int .i64 a3, .int .i64 a4]) :=
    fun W a0 a1 a2 a3 a4 _ hB hG => ⟨setRow_heap _ _ _ _ _ _ hG, below_setRow hB (Nat.le_refl _) _⟩
  have FIN := Lib.hid fin
  obtain ⟨n, hn⟩ : ∃ n, cs.length = n := ⟨_, rfl⟩
  rw [hn] at CB HL ⊢
  have HN := Lib.hid hn
  clear hb hl hnm hd b1 fin hn
  go_enter Tryd.func7, Tryd.ntmps7
  go_wp2_with fail
  refine (refGood_any _ cs w1 (CB.out.old B1.out) (by have := HL.out; have := HN.out; omega) (fun c hc => by have := HNM.out c hc; omega)).mono ?_; rintro e w2 ⟨rfl, rfl⟩
  clear hw1
  rcases hg : goodL cs with _ | _
  · have OB := Lib.hid (order_bad hg)
    clear hg
    go_wp2_with (refine wpList_store_row rfl _ _ _ rfl w.heap.size #[.int .i64 0, .int .i64 0, .int .i64 0, .int .i64 0, .int .i64 0] rfl rfl 29 _ G1.out HI.out rfl (H1.out 0 0 0 0 0) ?_)
    obtain ⟨hwE, hbE⟩ := FIN.out w1 0 0 0 0 0 Z1.out B1.out G1.out
    have BE := Lib.hid hbE
    obtain ⟨wE, hE⟩ : ∃ wE, (w1).setRow w.heap.size #[.int .i64 0, .int .i64 0, .int .i64 0, .int .i64 0, .int .i64 0] = wE := ⟨_, rfl⟩
    rw [hE] at hwE BE
    rw [hE]
    clear hbE hE
    obtain ⟨r0, r1, r2, r3, r4⟩ := box_of hwE
    refine bodyPost_ret (v := .tuple #[.agg #[.int .i64 0, .int .i64 0, .int .i64 0, .int .i64 0, .int .i64 0], .int .i64 6]) (by simp [results, Tryd.results7, go_sem, r0, r1, r2, r3, r4]; try rfl) rfl ⟨?_, BE.out⟩
    rw [OB.out.1, OB.out.2]
    rfl
  have GD := Lib.hid hg
  have n1 : 1 ≤ n := by
    rw [← HN.out]
    rcases cs with _ | ⟨c, r⟩
    · simp [goodL] at hg
    · simp
  have hlt : 0 < cs.length := by rw [HN.out]; omega
  have N4 : Hid (∀ c ∈ cs, c.1.length = 4) := Lib.hid (good_named hg)
  obtain ⟨a0, cap0, hv0, hx0⟩ := CB.out
  obtain ⟨b, o, x, ha, c0, c1, hbx⟩ := hx0 0 hlt
  subst ha
  have HX := Lib.hid hx0
  simp only [Nat.zero_mul, Nat.add_zero] at c0 c1
  obtain ⟨a', c', rfl⟩ := hbx.len
  obtain ⟨⟨nm0, d0⟩, hc0⟩ : ∃ c, cs[0] = c := ⟨_, rfl⟩
  have AT := Lib.hid (show atC cs 0 = (nm0, d0) by rw [atC_get cs 0 hlt, hc0])
  have DL0 : Hid (d0.length ≤ 2000) := Lib.hid (by have := HDT.out _ (List.getElem_mem hlt); rw [hc0] at this; exact this)
  rw [hc0] at c0 c1 hbx
  simp only at c0 c1 hbx
  have q0 := cell_old B1.out c0
  have q1 := cell_old B1.out c1
  have DB := Lib.hid (hbx.old B1.out)
  obtain ⟨I, hI⟩ : ∃ I, decide (nm0 = nIHDR) = I := ⟨_, rfl⟩
  have e1 : ((strOf nm0).toList == [73, 72, 68, 82]) = I := by rw [strOf_toList, ← hI, beq_dec]; rfl
  have e2 : ((strOf nm0).toList != [73, 72, 68, 82]) = !I := by rw [← e1]; rfl
  have g0 : (0 : Int) < (n : Int) := by omega
  have HI0 := Lib.hid hI
  have NN : Hid (1 ≤ n) := Lib.hid n1
  cases hv0
  clear hg c0 c1 hbx hc0 hI hx0
  cases I with
  | false =>
    have OB := Lib.hid (order_first GD.out (by rw [AT.out]; exact of_decide_eq_false HI0.out))
    go_wp2_with (refine wpList_store_row rfl _ _ _ rfl w.heap.size #[.int .i64 0, .int .i64 0, .int .i64 0, .int .i64 0, .int .i64 0] rfl rfl 29 _ G1.out HI.out rfl (H1.out 0 0 0 0 0) ?_)
    obtain ⟨hwE, hbE⟩ := FIN.out w1 0 0 0 0 0 Z1.out B1.out G1.out
    have BE := Lib.hid hbE
    obtain ⟨wE, hE⟩ : ∃ wE, (w1).setRow w.heap.size #[.int .i64 0, .int .i64 0, .int .i64 0, .int .i64 0, .int .i64 0] = wE := ⟨_, rfl⟩
    rw [hE] at hwE BE
    rw [hE]
    clear hbE hE
    obtain ⟨r0, r1, r2, r3, r4⟩ := box_of hwE
    refine bodyPost_ret (v := .tuple #[.agg #[.int .i64 0, .int .i64 0, .int .i64 0, .int .i64 0, .int .i64 0], .int .i64 2]) (by simp [results, Tryd.results7, go_sem, r0, r1, r2, r3, r4]; try rfl) rfl ⟨?_, BE.out⟩
    rw [OB.out.1, OB.out.2]
    rfl
  | true =>
  have HD0 : Hid ((atC cs 0).1 = nIHDR) := Lib.hid (by rw [AT.out]; exact of_decide_eq_true HI0.out)
  go_wp2_with fail
  refine (refTakeHead_any _ d0 w1 DB.out).mono ?_; rintro e w3 ⟨rfl, hb3⟩
  have G3 : Hid (w3.heap[w.heap.size]? = some (.cells #[.int .i64 0, .int .i64 0, .int .i64 0, .int .i64 0, .int .i64 0] 29 (0, 0))) := Lib.hid (by rw [hb3.block _ Z1.out]; exact G1.out)
  have B3 : Hid (Below w.heap.size w w3) := Lib.hid (B1.out.trans (hb3.mono B1.out.size))
  have Z3 : Hid (w.heap.size < w3.heap.size) := Lib.hid (Array.getElem?_eq_some_iff.1 G3.out).1
  clear hb3 q0 q1 e1 e2 DB
  by_cases htc : takeC d0 = 0
  rotate_left
  · have OB := Lib.hid (order_head GD.out HD0.out (by rw [AT.out]; exact htc))
    have TV : takeV d0 = .agg #[.int .i64 0, .int .i64 0, .int .i64 0, .int .i64 0, .int .i64 0] := by unfold takeV; rw [if_neg htc]; rfl
    obtain ⟨tn, htn⟩ : ∃ tn, takeC d0 = tn := ⟨_, rfl⟩
    rw [TV, htn]
    rw [htn] at htc
    have OB2 : Hid (orderC cs = tn ∧ orderV cs = headV 0 0 0 0 0) := Lib.hid (by rw [OB.out.1, OB.out.2, AT.out]; exact ⟨htn, rfl⟩)
    have tz : (tn != 0) = true := by rw [bne_iff_ne]; exact htc
    clear TV htn htc OB
    obtain ⟨w4, hw4⟩ : ∃ w4, w3.alloc (.cells #[.int .i64 0, .int .i64 0, .int .i64 0, .int .i64 0, .int .i64 0] 29) = w4 := ⟨_, rfl⟩
    have b4 : Below w3.heap.size w3 w4 := by rw [← hw4]; exact (Below.refl _ _).alloc (Nat.le_refl _) _
    have X4 : Hid (w4.heap[w3.heap.size]? = some (.cells #[.int .i64 0, .int .i64 0, .int .i64 0, .int .i64 0, .int .i64 0] 29 (0, 0))) := Lib.hid (by rw [← hw4]; exact heap_alloc_new _ _)
    have B4' := Lib.hid b4
    go_wp2_with (refine wpList_store_row rfl _ _ _ rfl w3.heap.size #[.int .i64 0, .int .i64 0, .int .i64 0, .int .i64 0, .int .i64 0] rfl rfl 29 _ X4.out HI.out rfl (H1.out 0 0 0 0 0) ?_; refine stop ?_)
    refine unstop ?_
    obtain ⟨w5, hw5⟩ : ∃ w5, w4.setRow w3.heap.size #[.int .i64 0, .int .i64 0, .int .i64 0, .int .i64 0, .int .i64 0] = w5 := ⟨_, rfl⟩
    rw [hw5]
    have b5 : Below w3.heap.size w3 w5 := by rw [← hw5]; exact below_setRow B4'.out (Nat.le_refl _) _
    have G4 : Hid (w5.heap[w.heap.size]? = some (.cells #[.int .i64 0, .int .i64 0, .int .i64 0, .int .i64 0, .int .i64 0] 29 (0, 0))) := Lib.hid (by rw [b5.block _ Z3.out]; exact G3.out)
    have B4 : Hid (Below w.heap.size w w5) := Lib.hid (B3.out.trans (b5.mono B3.out.size))
    have Z4 : Hid (w.heap.size < w5.heap.size) := Lib.hid (Array.getElem?_eq_some_iff.1 G4.out).1
    clear b4 b5 hw4 hw5 X4 B4'
    go_wp2_with (refine wpList_store_row rfl _ _ _ rfl w.heap.size #[.int .i64 0, .int .i64 0, .int .i64 0, .int .i64 0, .int .i64 0] rfl rfl 29 _ G4.out HI.out rfl (H1.out 0 0 0 0 0) ?_)
    obtain ⟨hwE, hbE⟩ := FIN.out w5 0 0 0 0 0 Z4.out B4.out G4.out
    have BE := Lib.hid hbE
    obtain ⟨wE, hE⟩ : ∃ wE, (w5).setRow w.heap.size #[.int .i64 0, .int .i64 0, .int .i64 0, .int .i64 0, .int .i64 0] = wE := ⟨_, rfl⟩
    rw [hE] at hwE BE
    rw [hE]
    clear hbE hE
    obtain ⟨r0, r1, r2, r3, r4⟩ := box_of hwE
    refine bodyPost_ret (v := .tuple #[.agg #[.int .i64 0, .int .i64 0, .int .i64 0, .int .i64 0, .int .i64 0], .int .i64 tn]) (by simp [results, Tryd.results7, go_sem, r0, r1, r2, r3, r4]; try rfl) rfl ⟨?_, BE.out⟩
    rw [OB2.out.1, OB2.out.2]
    rfl
  have HT0 := Lib.hid htc
  obtain ⟨W, H, D, C, L, hvals⟩ : ∃ W H D C L : Int, takeV d0 = headV W H D C L ∧ colorO cs = C ∧ depthO cs = D ∧ D ∈ depthsL C := by
    refine ⟨wOf d0, hOf d0, bOf d0 8, bOf d0 9, bOf d0 12, ?_, ?_, ?_, ?_⟩
    · unfold takeV; rw [if_pos htc]
    · unfold colorO; rw [AT.out]
    · unfold depthO; rw [AT.out]
    · unfold takeC at htc
      split at htc
      · cases htc
      · unfold headC at htc
        split at htc
        · cases htc
        · rename_i h
          by_cases hm : bOf d0 8 ∈ depthsL (bOf d0 9)
          · exact hm
          · exact absurd (.inr (.inr (.inl hm))) h
  obtain ⟨hvv, hcol, hdep, hDm⟩ := hvals
  have HV := Lib.hid hvv
  have HC2 := Lib.hid (show colorO cs = C ∧ depthO cs = D ∧ D ∈ depthsL C from ⟨hcol, hdep, hDm⟩)
  rw [hvv, htc]
  unfold headV
  clear hvv hcol hdep hDm htc
  have n2 : Hid (2 ≤ cs.length) := Lib.hid (good_head GD.out HD0.out)
  have OT : Hid (orderC cs = tailO cs) := Lib.hid (order_tail GD.out HD0.out (by rw [AT.out]; exact HT0.out))
  obtain ⟨w4, hw4⟩ : ∃ w4, w3.alloc (.cells #[.int .i64 0, .int .i64 0, .int .i64 0, .int .i64 0, .int .i64 0] 29) = w4 := ⟨_, rfl⟩
  have b4 : Below w3.heap.size w3 w4 := by rw [← hw4]; exact (Below.refl _ _).alloc (Nat.le_refl _) _
  have X4 : Hid (w4.heap[w3.heap.size]? = some (.cells #[.int .i64 0, .int .i64 0, .int .i64 0, .int .i64 0, .int .i64 0] 29 (0, 0))) := Lib.hid (by rw [← hw4]; exact heap_alloc_new _ _)
  have B4' := Lib.hid b4
  go_wp2_with (refine wpList_store_row rfl _ _ _ rfl w3.heap.size #[.int .i64 W, .int .i64 H, .int .i64 D, .int .i64 C, .int .i64 L] rfl rfl 29 _ X4.out HI.out rfl (H1.out W H D C L) ?_; refine stop ?_)
  refine unstop ?_
  obtain ⟨w5, hw5⟩ : ∃ w5, w4.setRow w3.heap.size #[.int .i64 W, .int .i64 H, .int .i64 D, .int .i64 C, .int .i64 L] = w5 := ⟨_, rfl⟩
  rw [hw5]
  have b5 : Below w3.heap.size w3 w5 := by rw [← hw5]; exact below_setRow B4'.out (Nat.le_refl _) _
  have X5 : Hid (w5.heap[w3.heap.size]? = some (.cells #[.int .i64 W, .int .i64 H, .int .i64 D, .int .i64 C, .int .i64 L] 29 (0, 0))) := Lib.hid (by rw [← hw5]; exact setRow_heap _ _ _ _ _ _ X4.out)
  have Z5 : Hid (w3.heap.size < w5.heap.size) := Lib.hid (Array.getElem?_eq_some_iff.1 X5.out).1
  have G5 : Hid (w5.heap[w.heap.size]? = some (.cells #[.int .i64 0, .int .i64 0, .int .i64 0, .int .i64 0, .int .i64 0] 29 (0, 0))) := Lib.hid (by rw [b5.block _ Z3.out]; exact G3.out)
  have B5 : Hid (Below w.heap.size w w5) := Lib.hid (B3.out.trans (b5.mono B3.out.size))
  obtain ⟨TX, hTX⟩ : ∃ T, w3.heap.size = T := ⟨_, rfl⟩
  have WT : Hid (w.heap.size < TX) := Lib.hid (by rw [← hTX]; exact Z3.out)
  rw [hTX] at X5 Z5 ⊢
  clear b4 b5 hw4 hw5 X4 B4' G3 B3 Z3 hTX
  obtain ⟨n, hn⟩ : ∃ n, cs.length = n := ⟨_, rfl⟩
  rw [hn]
  have HN := Lib.hid hn
  have NN : Hid (1 ≤ n) := Lib.hid (by rw [← HN.out]; have := n2.out; omega)
  have CB := Lib.hid CB.out
  clear hn
  go_wp2_with fail
  go_loopw [6] (fun i W' => ∃ k : Nat, i = .int .i64 (k : Nat) ∧ 1 ≤ k ∧ k ≤ n ∧ (∀ j, 1 ≤ j → j < k → stepO C D cs j = 0) ∧ Below w5.heap.size w5 W') (fun i _ => n - (intOf i).toNat)
  case atStart => exact ⟨1, rfl, Nat.le_refl _, NN.out, fun j h1 h2 => by omega, Below.refl _ _⟩
  case round =>
    obtain ⟨k, rfl, hk1, hk, hst, hbm⟩ := hrel
    have ST := Lib.hid hst
    have BM := Lib.hid hbm
    have BW : Hid (Below w.heap.size w wr) := Lib.hid (B5.out.trans (hbm.mono B5.out.size))
    have XR : Hid (wr.heap[TX]? = some (.cells #[.int .i64 W, .int .i64 H, .int .i64 D, .int .i64 C, .int .i64 L] 29 (0, 0))) := Lib.hid (by rw [hbm.block _ (by have := Z5.out; omega)]; exact X5.out)
    have GR : Hid (wr.heap[w.heap.size]? = some (.cells #[.int .i64 0, .int .i64 0, .int .i64 0, .int .i64 0, .int .i64 0] 29 (0, 0))) := Lib.hid (by rw [hbm.block _ (Array.getElem?_eq_some_iff.1 G5.out).1]; exact G5.out)
    have ZR : Hid (w.heap.size < wr.heap.size) := Lib.hid (Array.getElem?_eq_some_iff.1 GR.out).1
    obtain ⟨k0, k1, k2, k3, k4⟩ := box_of XR.out
    have K1 := Lib.hid hk1
    clear hst hbm hk1
    by_cases hkn : k < n
    · have f1 : decide ((k : Int) < (n : Int)) = true := by rw [decide_eq_true_eq]; omega
      have f1' : decide (k < n) = true := by rw [decide_eq_true_eq]; omega
      have f2 : (k : Int) < (n : Int) := by omega
      have hi : k < cs.length := by have := HN.out; omega
      obtain ⟨b', o', x, he, c0, c1, hbx⟩ := HX.out k hi
      cases he
      obtain ⟨⟨nm, d⟩, hcc⟩ : ∃ c, cs[k] = c := ⟨_, rfl⟩
      have NL4 : Hid (nm.length = 4) := Lib.hid (by have := N4.out _ (List.getElem_mem hi); rw [hcc] at this; exact this)
      have ATK : Hid (atC cs k = (nm, d)) := Lib.hid (by rw [atC_get cs _ hi, hcc])
      have WA := Lib.hid (fun Wz (hz : Below w.heap.size w Wz) => by
        have h := wrong_any _ cp cs k W H D C L Wz (CB.out.old hz) hi K1.out (by have := HL.out; have := HN.out; omega) N4.out HDT.out HC2.out.2.2
        rw [hcc, HN.out] at h
        unfold headV at h
        exact h)
      rw [hcc] at c0
      simp only at c0
      have q0 := cell_old BW.out c0
      have h0 : 0 < nm.length := by have := NL4.out; omega
      obtain ⟨c, hc⟩ : ∃ c, nm[0] = c := ⟨_, rfl⟩
      have si : (Instr.index 9 (.string (strOf nm)) (.int .i64 0)).run Tryd.prog wr = .ok (.int .u8 ((c.toNat : Nat) : Int)) wr := by rw [← hc]; exact str_index nm 0 h0 wr
      have SMC : Hid (smallU (nm.getD 0 0) = smallU c) := Lib.hid (by rw [← hc, List.getD_eq_getElem?_getD, List.getElem?_eq_getElem h0]; rfl)
      have SM := Lib.hid (refSmall_any c wr)
      obtain ⟨s, hs⟩ : ∃ s, smallU c = s := ⟨_, rfl⟩
      rw [hs] at SM SMC
      obtain ⟨cn, hcn⟩ : ∃ q, c.toNat = q := ⟨_, rfl⟩
      rw [hcn] at SM si
      have IK := Lib.hid (in_known nm wr (by have := NL4.out; omega))
      obtain ⟨kn, hkk⟩ : ∃ q, knownL.contains nm = q := ⟨_, rfl⟩
      rw [hkk] at IK
      obtain ⟨wb, hwb⟩ : ∃ q, wrongB C D (cs.take k) (nm, d) = q := ⟨_, rfl⟩
      rw [hwb] at WA
      have SE : Hid (stepO C D cs k = if (!s && !kn) = true then 3 else if wb = true then 2 else 0) := Lib.hid (stepO_eq C D cs k nm d s kn wb ATK.out SMC.out hkk hwb)
      have gk : IntKind.i64.wrap ((k : Int) + 1) = (k : Int) + 1 := IntWalk.i64_in _ (by have := HL.out; omega)
      have HKN := Lib.hid hkn
      have BAD : Hid (∀ st, stepO C D cs k = st → st ≠ 0 → orderC cs = st ∧ orderV cs = headV 0 0 0 0 0) := Lib.hid (fun st hst hs0 => by
        have e : orderC cs = st := by
          rw [OT.out]
          unfold tailO
          rw [HC2.out.1, HC2.out.2.1, ← hst]
          exact run_bad _ _ _ 1 k (fun j h1 h2 => ST.out j h1 h2) K1.out (by have := HN.out; have := HKN.out; omega) (by rw [hst]; exact hs0)
        exact ⟨e, by unfold orderV; rw [e, if_neg hs0]⟩)
      clear c0 c1 hbx hcc hc hs hcn hkk hwb h0 hkn hi
      go_upto_region 12 with (fail)
      go_cut [49] from 41 to 49 (fun c wx => c = .bool (!s && !kn) ∧ wr = wx)
      case first =>
        cases s <;> cases kn
        all_goals
          go_wp2_with fail
          refine SM.out.mono ?_; rintro e w' ⟨rfl, rfl⟩
          go_wp2_with fail
          first
            | (refine IK.out.mono ?_; rintro e w' ⟨rfl, rfl⟩
               go_wp2_with fail
               go_meet
               exact ⟨rfl, rfl⟩)
            | (go_meet
               exact ⟨rfl, rfl⟩)
      case rest =>
      obtain ⟨rfl, rfl⟩ := hcut
      obtain ⟨fl, hfl⟩ : ∃ q, (!s && !kn) = q := ⟨_, rfl⟩
      rw [hfl] at SE ⊢
      clear hfl si
      cases fl with
      | true =>
        have OB := Lib.hid (BAD.out 3 (by rw [SE.out]; rfl) (by decide))
        clear q0 k0 k1 k2 k3 k4
        go_wp2_with (refine wpList_store_row rfl _ _ _ rfl w.heap.size #[.int .i64 0, .int .i64 0, .int .i64 0, .int .i64 0, .int .i64 0] rfl rfl 29 _ GR.out HI.out rfl (H1.out 0 0 0 0 0) ?_)
        obtain ⟨hwE, hbE⟩ := FIN.out wr 0 0 0 0 0 ZR.out BW.out GR.out
        have BE := Lib.hid hbE
        obtain ⟨wE, hE⟩ : ∃ wE, (wr).setRow w.heap.size #[.int .i64 0, .int .i64 0, .int .i64 0, .int .i64 0, .int .i64 0] = wE := ⟨_, rfl⟩
        rw [hE] at hwE BE
        rw [hE]
        clear hbE hE
        obtain ⟨r0, r1, r2, r3, r4⟩ := box_of hwE
        refine bodyPost_ret (v := .tuple #[.agg #[.int .i64 0, .int .i64 0, .int .i64 0, .int .i64 0, .int .i64 0], .int .i64 3]) (by simp [results, Tryd.results7, go_sem, r0, r1, r2, r3, r4]; try rfl) rfl ⟨?_, BE.out⟩
        rw [OB.out.1, OB.out.2]
        rfl
      | false =>
      go_wp2_with fail
      refine (WA.out wr BW.out).mono ?_; rintro e w8 ⟨rfl, hb8⟩
      have BM8 : Hid (Below w5.heap.size w5 w8) := Lib.hid (BM.out.trans (hb8.mono BM.out.size))
      have BW8 : Hid (Below w.heap.size w w8) := Lib.hid (BW.out.trans (hb8.mono BW.out.size))
      have G8 : Hid (w8.heap[w.heap.size]? = some (.cells #[.int .i64 0, .int .i64 0, .int .i64 0, .int .i64 0, .int .i64 0] 29 (0, 0))) := Lib.hid (by rw [hb8.block _ ZR.out]; exact GR.out)
      have Z8 : Hid (w.heap.size < w8.heap.size) := Lib.hid (Array.getElem?_eq_some_iff.1 G8.out).1
      clear hb8 q0 k0 k1 k2 k3 k4
      cases wb with
      | true =>
        have OB := Lib.hid (BAD.out 2 (by rw [SE.out]; rfl) (by decide))
        go_wp2_with (refine wpList_store_row rfl _ _ _ rfl w.heap.size #[.int .i64 0, .int .i64 0, .int .i64 0, .int .i64 0, .int .i64 0] rfl rfl 29 _ G8.out HI.out rfl (H1.out 0 0 0 0 0) ?_)
        obtain ⟨hwE, hbE⟩ := FIN.out w8 0 0 0 0 0 Z8.out BW8.out G8.out
        have BE := Lib.hid hbE
        obtain ⟨wE, hE⟩ : ∃ wE, (w8).setRow w.heap.size #[.int .i64 0, .int .i64 0, .int .i64 0, .int .i64 0, .int .i64 0] = wE := ⟨_, rfl⟩
        rw [hE] at hwE BE
        rw [hE]
        clear hbE hE
        obtain ⟨r0, r1, r2, r3, r4⟩ := box_of hwE
        refine bodyPost_ret (v := .tuple #[.agg #[.int .i64 0, .int .i64 0, .int .i64 0, .int .i64 0, .int .i64 0], .int .i64 2]) (by simp [results, Tryd.results7, go_sem, r0, r1, r2, r3, r4]; try rfl) rfl ⟨?_, BE.out⟩
        rw [OB.out.1, OB.out.2]
        rfl
      | false =>
      have S0 : Hid (stepO C D cs k = 0) := Lib.hid (by rw [SE.out]; rfl)
      go_wp2_with fail
      go_roundw
      case rel =>
        refine ⟨k + 1, by go_num, by omega, HKN.out, fun j h1 h2 => ?_, BM8.out⟩
        by_cases e : j = k
        · subst e; exact S0.out
        · exact ST.out j h1 (by omega)
      case measure => simp [intOf]; have := HKN.out; omega
    · obtain rfl : k = n := by omega
      have f1 : decide ((k : Int) < (k : Int)) = false := by rw [decide_eq_false_iff_not]; omega
      have BO := Lib.hid (fun (z : List UInt8) (hz : z.length = 4) => by
        have h := before_one _ cp cs cs.length z wr (CB.out.old BW.out) (Nat.le_refl _) (by have := HL.out; have := HN.out; omega) hz HNM.out
        rw [List.take_length, HN.out] at h
        exact h)
      have P1 := Lib.hid (BO.out nIDAT (by decide))
      have P2 := Lib.hid (BO.out nPLTE (by decide))
      obtain ⟨a1, h1⟩ : ∃ a, cnt1 nIDAT cs = a := ⟨_, rfl⟩
      obtain ⟨a2, h2⟩ : ∃ a, cnt1 nPLTE cs = a := ⟨_, rfl⟩
      rw [h1] at P1
      rw [h2] at P2
      have OE : Hid (orderC cs = if a1 = 0 ∨ (C = 3 ∧ a2 = 0) then 2 else 0) := Lib.hid (by
        rw [OT.out]
        unfold tailO
        rw [HC2.out.1, HC2.out.2.1, run_end _ _ _ 1 (fun j h1 h2 => ST.out j h1 (by have := HN.out; have := NN.out; omega))]
        unfold endO
        rw [h1, h2])
      have g1 : (((a1 : Int) == 0) = true ∧ (a1 == 0) = true ∧ a1 = 0) ∨ (((a1 : Int) == 0) = false ∧ (a1 == 0) = false ∧ a1 ≠ 0) := by
        by_cases h : a1 = 0
        · left; subst h; exact ⟨rfl, rfl, rfl⟩
        · right; exact ⟨by rw [beq_eq_false_iff_ne]; omega, by rw [beq_eq_false_iff_ne]; exact h, h⟩
      have g2 : (((a2 : Int) == 0) = true ∧ (a2 == 0) = true ∧ a2 = 0) ∨ (((a2 : Int) == 0) = false ∧ (a2 == 0) = false ∧ a2 ≠ 0) := by
        by_cases h : a2 = 0
        · left; subst h; exact ⟨rfl, rfl, rfl⟩
        · right; exact ⟨by rw [beq_eq_false_iff_ne]; omega, by rw [beq_eq_false_iff_ne]; exact h, h⟩
      have g3 : ((C == 3) = true ∧ C = 3) ∨ ((C == 3) = false ∧ C ≠ 3) := by
        by_cases h : C = 3
        · left; exact ⟨by rw [beq_iff_eq]; exact h, h⟩
        · right; exact ⟨by rw [beq_eq_false_iff_ne]; exact h, h⟩
      clear h1 h2 BO
      rcases g1 with ⟨g1, g1', p1⟩ | ⟨g1, g1', p1⟩
      · have OB : Hid (orderC cs = 2 ∧ orderV cs = headV 0 0 0 0 0) := Lib.hid (by
          have e : orderC cs = 2 := by rw [OE.out]; exact if_pos (.inl p1)
          exact ⟨e, by unfold orderV; rw [e, if_neg (by decide)]⟩)
        clear p1 g2 g3 OE
        go_wp2_with fail
        refine P1.out.mono ?_; rintro e w' ⟨rfl, rfl⟩
        go_upto_region 17 with (fail)
        clear g1 g1' k0 k1 k2 k3 k4 f1
        go_wp2_with (refine wpList_store_row rfl _ _ _ rfl w.heap.size #[.int .i64 0, .int .i64 0, .int .i64 0, .int .i64 0, .int .i64 0] rfl rfl 29 _ GR.out HI.out rfl (H1.out 0 0 0 0 0) ?_)
        obtain ⟨hwE, hbE⟩ := FIN.out wr 0 0 0 0 0 ZR.out BW.out GR.out
        have BE := Lib.hid hbE
        obtain ⟨wE, hE⟩ : ∃ wE, (wr).setRow w.heap.size #[.int .i64 0, .int .i64 0, .int .i64 0, .int .i64 0, .int .i64 0] = wE := ⟨_, rfl⟩
        rw [hE] at hwE BE
        rw [hE]
        clear hbE hE
        obtain ⟨r0, r1, r2, r3, r4⟩ := box_of hwE
        refine bodyPost_ret (v := .tuple #[.agg #[.int .i64 0, .int .i64 0, .int .i64 0, .int .i64 0, .int .i64 0], .int .i64 2]) (by simp [results, Tryd.results7, go_sem, r0, r1, r2, r3, r4]; try rfl) rfl ⟨?_, BE.out⟩
        rw [OB.out.1, OB.out.2]
        rfl
      rcases g3 with ⟨g3, p3⟩ | ⟨g3, p3⟩
      · rcases g2 with ⟨g2, g2', p2⟩ | ⟨g2, g2', p2⟩
        · have OB : Hid (orderC cs = 2 ∧ orderV cs = headV 0 0 0 0 0) := Lib.hid (by
            have e : orderC cs = 2 := by rw [OE.out]; exact if_pos (.inr ⟨p3, p2⟩)
            exact ⟨e, by unfold orderV; rw [e, if_neg (by decide)]⟩)
          clear p1 p2 p3 OE
          go_wp2_with fail
          refine P1.out.mono ?_; rintro e w' ⟨rfl, rfl⟩
          go_wp2_with fail
          refine P2.out.mono ?_; rintro e w' ⟨rfl, rfl⟩
          go_upto_region 17 with (fail)
          clear g1 g1' g2 g2' g3 k0 k1 k2 k3 k4 f1
          go_wp2_with (refine wpList_store_row rfl _ _ _ rfl w.heap.size #[.int .i64 0, .int .i64 0, .int .i64 0, .int .i64 0, .int .i64 0] rfl rfl 29 _ GR.out HI.out rfl (H1.out 0 0 0 0 0) ?_)
          obtain ⟨hwE, hbE⟩ := FIN.out wr 0 0 0 0 0 ZR.out BW.out GR.out
          have BE := Lib.hid hbE
          obtain ⟨wE, hE⟩ : ∃ wE, (wr).setRow w.heap.size #[.int .i64 0, .int .i64 0, .int .i64 0, .int .i64 0, .int .i64 0] = wE := ⟨_, rfl⟩
          rw [hE] at hwE BE
          rw [hE]
          clear hbE hE
          obtain ⟨r0, r1, r2, r3, r4⟩ := box_of hwE
          refine bodyPost_ret (v := .tuple #[.agg #[.int .i64 0, .int .i64 0, .int .i64 0, .int .i64 0, .int .i64 0], .int .i64 2]) (by simp [results, Tryd.results7, go_sem, r0, r1, r2, r3, r4]; try rfl) rfl ⟨?_, BE.out⟩
          rw [OB.out.1, OB.out.2]
          rfl
        · have OB : Hid (orderC cs = 0 ∧ orderV cs = headV W H D C L) := Lib.hid (by
            have e : orderC cs = 0 := by rw [OE.out]; exact if_neg (fun h => h.elim p1 (fun h => p2 h.2))
            exact ⟨e, by unfold orderV; rw [e, if_pos rfl, AT.out]; exact HV.out⟩)
          clear p1 p2 p3 OE
          go_wp2_with fail
          refine P1.out.mono ?_; rintro e w' ⟨rfl, rfl⟩
          go_wp2_with fail
          refine P2.out.mono ?_; rintro e w' ⟨rfl, rfl⟩
          go_wp2_with (refine wpList_store_row rfl _ _ _ rfl w.heap.size #[.int .i64 W, .int .i64 H, .int .i64 D, .int .i64 C, .int .i64 L] rfl rfl 29 _ GR.out HI.out rfl (H1.out W H D C L) ?_)
          obtain ⟨hwE, hbE⟩ := FIN.out wr W H D C L ZR.out BW.out GR.out
          have BE := Lib.hid hbE
          obtain ⟨wE, hE⟩ : ∃ wE, (wr).setRow w.heap.size #[.int .i64 W, .int .i64 H, .int .i64 D, .int .i64 C, .int .i64 L] = wE := ⟨_, rfl⟩
          rw [hE] at hwE BE
          rw [hE]
          clear hbE hE
          obtain ⟨r0, r1, r2, r3, r4⟩ := box_of hwE
          refine bodyPost_ret (v := .tuple #[.agg #[.int .i64 W, .int .i64 H, .int .i64 D, .int .i64 C, .int .i64 L], .int .i64 0]) (by simp [results, Tryd.results7, go_sem, r0, r1, r2, r3, r4]; try rfl) rfl ⟨?_, BE.out⟩
          rw [OB.out.1, OB.out.2]
          rfl
      · have OB : Hid (orderC cs = 0 ∧ orderV cs = headV W H D C L) := Lib.hid (by
          have e : orderC cs = 0 := by rw [OE.out]; exact if_neg (fun h => h.elim p1 (fun h => p3 h.1))
          exact ⟨e, by unfold orderV; rw [e, if_pos rfl, AT.out]; exact HV.out⟩)
        clear p1 p3 g2 OE
        go_wp2_with fail
        refine P1.out.mono ?_; rintro e w' ⟨rfl, rfl⟩
        go_wp2_with (refine wpList_store_row rfl _ _ _ rfl w.heap.size #[.int .i64 W, .int .i64 H, .int .i64 D, .int .i64 C, .int .i64 L] rfl rfl 29 _ GR.out HI.out rfl (H1.out W H D C L) ?_)
        obtain ⟨hwE, hbE⟩ := FIN.out wr W H D C L ZR.out BW.out GR.out
        have BE := Lib.hid hbE
        obtain ⟨wE, hE⟩ : ∃ wE, (wr).setRow w.heap.size #[.int .i64 W, .int .i64 H, .int .i64 D, .int .i64 C, .int .i64 L] = wE := ⟨_, rfl⟩
        rw [hE] at hwE BE
        rw [hE]
        clear hbE hE
        obtain ⟨r0, r1, r2, r3, r4⟩ := box_of hwE
        refine bodyPost_ret (v := .tuple #[.agg #[.int .i64 W, .int .i64 H, .int .i64 D, .int .i64 C, .int .i64 L], .int .i64 0]) (by simp [results, Tryd.results7, go_sem, r0, r1, r2, r3, r4]; try rfl) rfl ⟨?_, BE.out⟩
        rw [OB.out.1, OB.out.2]
        rfl
end Go.Proofs.YtlgjjoglajgbeaaDoor
