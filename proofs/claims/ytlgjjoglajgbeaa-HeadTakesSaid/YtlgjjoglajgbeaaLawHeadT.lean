/- HeadTakes: the law's walk. By an AI agent. -/
import Derived.Test.YtlgjjoglajgbeaaLawHead
import Derived.Test.YtlgjjoglajgbeaaHeadU
import Derived.Test.YtlgjjoglajgbeaaHeadP
namespace Go.Proofs.Ytlgjjoglajgbeaa
open Go.RowKit
set_option linter.unusedVariables false
set_option linter.unusedSimpArgs false

theorem takeC_three : takeC threeL = 0 := by decide +kernel
theorem takeV_three : takeV threeL = headV 3 1 2 0 0 := by unfold takeV; rw [takeC_three, if_pos rfl]; kernel_rfl
theorem takeV_cases (l : List UInt8) : ∃ a b c d e : Int, takeV l = .agg #[.int .i64 a, .int .i64 b, .int .i64 c, .int .i64 d, .int .i64 e] := by
  unfold takeV headV
  by_cases h : takeC l = 0
  · rw [if_pos h]; exact ⟨_, _, _, _, _, rfl⟩
  · rw [if_neg h]; exact ⟨_, _, _, _, _, rfl⟩

set_option maxHeartbeats 3200000 in
theorem headTakes_any (v : Value) (l : List UInt8) (w : World) (hb : Bs w v l) (hl : l.length ≤ 140737488351232) :
    Calls Try.prog 4 #[v] w fun e w' => e = .returned (.bool true) ∧ Below w.heap.size w w' := by
  obtain ⟨av, cap, rfl⟩ := hb.len
  have C6 := Lib.hid (fun W => by have h := three_any W; unfold headV at h; exact h)
  have CT := Lib.hid (fun u W hW => by
    have h := takeHead_any u threeL W hW (by decide)
    rw [takeC_three, takeV_three] at h
    unfold headV at h
    exact h)
  obtain ⟨x0, x1, x2, x3, x4, hX⟩ := takeV_cases l
  have T1 := Lib.hid (fun u W (hW : Bs W u l) => by have h := takeHead_any u l W hW hl; rw [hX] at h; exact h)
  have T2 := Lib.hid (fun u W (hW : Bs W u l) => by have h := refTakeHead_any u l W hW; rw [hX] at h; exact h)
  generalize takeC l = n at T1 T2
  have HB := Lib.hid hb
  have HL := Lib.hid hl
  have HI : Hid ((Try.prog.info? 23).map (·.size) = some 5) := Lib.hid (by kernel_rfl)
  have H1 : Hid (∀ a0 a1 a2 a3 a4 : Int, (#[.int .i64 a0, .int .i64 a1, .int .i64 a2, .int .i64 a3, .int .i64 a4] : Array Value).all (·.oneCell') = true) := Lib.hid (fun a0 a1 a2 a3 a4 => by kernel_rfl)
  have FIN : Hid (∀ (W : World) (a0 a1 a2 a3 a4 : Int), Below w.heap.size w W → (W.alloc (.cells #[.int .i64 0, .int .i64 0, .int .i64 0, .int .i64 0, .int .i64 0] 23)).heap[W.heap.size]? = some (.cells #[.int .i64 0, .int .i64 0, .int .i64 0, .int .i64 0, .int .i64 0] 23 (0, 0)) ∧
      ∀ w5, (W.alloc (.cells #[.int .i64 0, .int .i64 0, .int .i64 0, .int .i64 0, .int .i64 0] 23)).setRow W.heap.size #[.int .i64 a0, .int .i64 a1, .int .i64 a2, .int .i64 a3, .int .i64 a4] = w5 →
      w5.heap[W.heap.size]? = some (.cells #[.int .i64 a0, .int .i64 a1, .int .i64 a2, .int .i64 a3, .int .i64 a4] 23 (0, 0)) ∧ Below w.heap.size w w5 ∧ Below W.heap.size W w5) := Lib.hid (fun W a0 a1 a2 a3 a4 hB => ⟨heap_alloc_new _ _, by
        rintro w5 rfl
        exact ⟨setRow_heap _ _ _ _ _ _ (heap_alloc_new _ _), below_setRow (hB.alloc hB.size _) hB.size _, below_setRow ((Below.refl _ _).alloc (Nat.le_refl _) _) (Nat.le_refl _) _⟩⟩)
  clear hb hl hX
  go_enter Try.func4, Try.ntmps4
  go_wp2_with fail
  refine (C6.out _).mono ?_; rintro e w1 ⟨rfl, hb1⟩
  have L1 := Lib.hid hb1
  clear hb1
  go_wp2_with fail
  refine (putThree _).mono ?_; rintro e w2 ⟨v2, rfl, hv2, hb2⟩
  have L2 := Lib.hid (L1.out.trans (hb2.mono L1.out.size))
  have V2 := Lib.hid hv2
  clear hb2 hv2 L1
  go_wp2_with fail
  refine (CT.out _ _ V2.out).mono ?_; rintro e w3 ⟨rfl, hb3⟩
  have L3 := Lib.hid (L2.out.trans (hb3.mono L2.out.size))
  clear hb3 L2 V2
  rw [errV_zero]
  go_wp2_with (refine wpList_store_row rfl _ _ _ rfl w3.heap.size #[.int .i64 3, .int .i64 1, .int .i64 2, .int .i64 0, .int .i64 0] rfl rfl 23 _ (FIN.out w3 0 0 0 0 0 L3.out).1 HI.out rfl (H1.out 3 1 2 0 0) ?_)
  obtain ⟨w4, hw4⟩ : ∃ w4, (w3.alloc (.cells #[.int .i64 0, .int .i64 0, .int .i64 0, .int .i64 0, .int .i64 0] 23)).setRow w3.heap.size #[.int .i64 3, .int .i64 1, .int .i64 2, .int .i64 0, .int .i64 0] = w4 := ⟨_, rfl⟩
  rw [hw4]
  obtain ⟨hx4, hl4, _⟩ := (FIN.out w3 3 1 2 0 0 L3.out).2 w4 hw4
  obtain ⟨k0, k1, k2, k3, k4⟩ := box_of hx4
  have L4 := Lib.hid hl4
  clear hw4 hx4 hl4
  go_wp2_with fail
  have hb4 : Held5 w w3.heap.size 3 1 2 0 0 w4.drew := ⟨k0, k1, k2, k3, k4, L4.out.drew⟩
  go_region_held3 (fun V => V.cell? ⟨w3.heap.size, 0, none⟩ = some (.int .i64 3) ∧ V.cell? ⟨w3.heap.size, 1, none⟩ = some (.int .i64 1) ∧ V.cell? ⟨w3.heap.size, 2, none⟩ = some (.int .i64 2) ∧ V.cell? ⟨w3.heap.size, 3, none⟩ = some (.int .i64 0) ∧ V.cell? ⟨w3.heap.size, 4, none⟩ = some (.int .i64 0) ∧ Below w.heap.size w V) (first | exact hb4 | assumption | exact keep5 (by assumption) hbx) (first
    | (go_at_call 7; refine (C6.out _).mono ?_; rintro e w' ⟨rfl, hbx⟩))
  have L5 := Lib.hid (show _ ∧ _ ∧ _ ∧ _ ∧ _ ∧ Below w.heap.size w w' by assumption).2.2.2.2.2
  clear hb4 k0 k1 k2 k3 k4 hbx
  by_cases hk : l.length ≤ 1000
  case neg =>
    have e1 : decide ((1000 : Int) < (l.length : Int)) = true := by rw [decide_eq_true_eq]; omega
    have e2 : decide (1000 < l.length) = true := by rw [decide_eq_true_eq]; omega
    clear hk
    go_wp2_with fail
    go_ret
    exact ⟨rfl, L5.out⟩
  have e1 : decide ((1000 : Int) < (l.length : Int)) = false := by rw [decide_eq_false_iff_not]; omega
  have e2 : decide (1000 < l.length) = false := by rw [decide_eq_false_iff_not]; omega
  clear hk
  go_wp2_with fail
  refine (copy_any _ l _ (HB.out.old L5.out) HL.out).mono ?_; rintro e w6 ⟨v6, rfl, hc6, hb6, _⟩
  have P6 := Lib.hid hc6
  have L6 := Lib.hid (L5.out.trans (hb6.mono L5.out.size))
  clear hc6 hb6
  go_wp2_with fail
  refine (T1.out _ _ P6.out.bs).mono ?_; rintro e w7 ⟨rfl, hb7⟩
  have P7 := Lib.hid (P6.out.old hb7)
  have L7 := Lib.hid (L6.out.trans (hb7.mono L6.out.size))
  clear hb7
  go_wp2_with (refine wpList_store_row rfl _ _ _ rfl w7.heap.size #[.int .i64 x0, .int .i64 x1, .int .i64 x2, .int .i64 x3, .int .i64 x4] rfl rfl 23 _ (FIN.out w7 0 0 0 0 0 L7.out).1 HI.out rfl (H1.out x0 x1 x2 x3 x4) ?_)
  obtain ⟨w8, hw8⟩ : ∃ w8, (w7.alloc (.cells #[.int .i64 0, .int .i64 0, .int .i64 0, .int .i64 0, .int .i64 0] 23)).setRow w7.heap.size #[.int .i64 x0, .int .i64 x1, .int .i64 x2, .int .i64 x3, .int .i64 x4] = w8 := ⟨_, rfl⟩
  rw [hw8]
  obtain ⟨hx8, hl8, hm8⟩ := (FIN.out w7 x0 x1 x2 x3 x4 L7.out).2 w8 hw8
  have X8 := Lib.hid (box_of hx8)
  have L8 := Lib.hid hl8
  have P8 := Lib.hid (P7.out.old hm8)
  clear hw8 hx8 hl8 hm8
  go_wp2_with fail
  refine (T2.out _ _ (HB.out.old L8.out)).mono ?_; rintro e w9 ⟨rfl, hb9⟩
  have X9 := Lib.hid (X8.out.old hb9)
  have P9 := Lib.hid (P8.out.old hb9)
  have L9 := Lib.hid (L8.out.trans (hb9.mono L8.out.size))
  clear hb9
  go_wp2_with (refine wpList_store_row rfl _ _ _ rfl w9.heap.size #[.int .i64 x0, .int .i64 x1, .int .i64 x2, .int .i64 x3, .int .i64 x4] rfl rfl 23 _ (FIN.out w9 0 0 0 0 0 L9.out).1 HI.out rfl (H1.out x0 x1 x2 x3 x4) ?_; refine stop ?_)
  refine unstop ?_
  obtain ⟨w10, hw10⟩ : ∃ w10, (w9.alloc (.cells #[.int .i64 0, .int .i64 0, .int .i64 0, .int .i64 0, .int .i64 0] 23)).setRow w9.heap.size #[.int .i64 x0, .int .i64 x1, .int .i64 x2, .int .i64 x3, .int .i64 x4] = w10 := ⟨_, rfl⟩
  rw [hw10]
  obtain ⟨hx10, hl10, hm10⟩ := (FIN.out w9 x0 x1 x2 x3 x4 L9.out).2 w10 hw10
  obtain ⟨k0, k1, k2, k3, k4⟩ := box_of hx10
  obtain ⟨m0, m1, m2, m3, m4⟩ := X9.out.old hm10
  have L10 := Lib.hid hl10
  have P10 := Lib.hid (P9.out.old hm10)
  clear hw10 hx10 hl10 hm10
  go_wp2_with fail
  refine (num_any n _).mono ?_; rintro e w11 ⟨rfl, rfl⟩
  go_wp2_with fail
  refine (kept_any _ _ _ l _ P10.out (HB.out.old L10.out) HL.out).mono ?_; rintro e w11 ⟨rfl, rfl⟩
  go_wp2_with fail
  go_ret
  exact ⟨rfl, L10.out⟩
end Go.Proofs.Ytlgjjoglajgbeaa
