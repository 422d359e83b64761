/- HeadBack: the law's walk. By an AI agent. -/
import Derived.Test.YtlgjjoglajgbeaaLawHead
import Derived.Test.YtlgjjoglajgbeaaHeadB
namespace Go.Proofs.Ytlgjjoglajgbeaa
open Go.RowKit
set_option linter.unusedVariables false
set_option linter.unusedSimpArgs false

theorem takeV_form (l : List UInt8) : ∃ a b c d e : Int, takeV l = .agg #[.int .i64 a, .int .i64 b, .int .i64 c, .int .i64 d, .int .i64 e] := by
  unfold takeV headV
  by_cases h : takeC l = 0
  · rw [if_pos h]; exact ⟨_, _, _, _, _, rfl⟩
  · rw [if_neg h]; exact ⟨_, _, _, _, _, rfl⟩
/-- what data is taken to is put again -/
theorem put_taken (l : List UInt8) (h : takeC l = 0) (w : World) : Calls Try.prog 19 #[takeV l] w fun e w' => ∃ v, e = .returned (.tuple #[v, .nilIface]) ∧ Bs w' v l ∧ Below w.heap.size w w' := by
  have h1 := bytes_back l h
  have h2 : takeV l = headV (numL (l.take 4) : Nat) (numL ((l.drop 4).take 4) : Nat) ((l.getD 8 0).toNat : Nat) ((l.getD 9 0).toNat : Nat) ((l.getD 12 0).toNat : Nat) := by unfold takeV; rw [if_pos h]; rfl
  have h3 : headC (numL (l.take 4) : Nat) (numL ((l.drop 4).take 4) : Nat) ((l.getD 8 0).toNat : Nat) ((l.getD 9 0).toNat : Nat) ((l.getD 12 0).toNat : Nat) = 0 := by
    have h4 := h
    unfold takeC at h4
    split at h4
    · exact absurd h4 (by decide)
    · exact h4
  have h5 := headPut_good _ _ _ _ _ w h3 (Nat.lt_of_lt_of_le (numL_lt l 4) (by decide)) (Nat.lt_of_lt_of_le (numL_lt (l.drop 4) 4) (by decide)) (l.getD 8 0).toNat_lt (l.getD 9 0).toNat_lt (l.getD 12 0).toNat_lt
  rw [h1] at h5
  rw [h2]
  exact h5
theorem num_iface (n : Int) (h : n ≠ 0) (w : World) : Calls Try.prog 8 #[.iface 45 (.int .i64 n)] w fun e w' => e = .returned (.int .i64 n) ∧ w = w' := by
  have := num_any n w
  rw [errV_some h] at this
  exact this
theorem put_three (w : World) : Calls Try.prog 19 #[.agg #[.int .i64 3, .int .i64 1, .int .i64 2, .int .i64 0, .int .i64 0]] w fun e w' => ∃ v, e = .returned (.tuple #[v, .nilIface]) ∧ Bs w' v (bytesH 3 1 2 0 0) ∧ Below w.heap.size w w' :=
  headPut_good 3 1 2 0 0 w (by decide +kernel) (by decide) (by decide) (by decide) (by decide) (by decide)

set_option maxHeartbeats 3200000 in
theorem headBack_any (W H D C L : Int) (v : Value) (l : List UInt8) (w : World) (hW : -9223372036854775808 ≤ W ∧ W ≤ 9223372036854775807) (hH : -9223372036854775808 ≤ H ∧ H ≤ 9223372036854775807) (hD : -9223372036854775808 ≤ D ∧ D ≤ 9223372036854775807)
    (hC : -9223372036854775808 ≤ C ∧ C ≤ 9223372036854775807) (hL : -9223372036854775808 ≤ L ∧ L ≤ 9223372036854775807) (hb : Bs w v l) (hl : l.length ≤ 140737488351232) :
    Calls Try.prog 5 #[headV W H D C L, v] w fun e w' => e = .returned (.bool true) ∧ Below w.heap.size w w' := by
  obtain ⟨av, cap, rfl⟩ := hb.len
  have C6 := Lib.hid (fun W => by have h := three_any W; unfold headV at h; exact h)
  obtain ⟨x0, x1, x2, x3, x4, hX⟩ := takeV_form l
  have T1 := Lib.hid (fun u W (hW : Bs W u l) => by have h := takeHead_any u l W hW hl; rw [hX] at h; exact h)
  have PT : Hid (takeC l = 0 → ∀ w : World, Calls Try.prog 19 #[.agg #[.int .i64 x0, .int .i64 x1, .int .i64 x2, .int .i64 x3, .int .i64 x4]] w fun e w' => ∃ v, e = .returned (.tuple #[v, .nilIface]) ∧ Bs w' v l ∧ Below w.heap.size w w') := Lib.hid (fun h w => by rw [← hX]; exact put_taken l h w)
  have CK := Lib.hid (check_any W H D C L)
  have PB := Lib.hid (fun n w h h0 => headPut_bad W H D C L n w h h0)
  have PG := Lib.hid (fun (h : headC W H D C L = 0) => good_nat W H D C L h)
  have HB := Lib.hid hb
  have HL := Lib.hid hl
  have HI : Hid ((Try.prog.info? 23).map (·.size) = some 5) := Lib.hid (by kernel_rfl)
  have H1 : Hid (∀ a0 a1 a2 a3 a4 : Int, (#[.int .i64 a0, .int .i64 a1, .int .i64 a2, .int .i64 a3, .int .i64 a4] : Array Value).all (·.oneCell') = true) := Lib.hid (fun a0 a1 a2 a3 a4 => by kernel_rfl)
  have FIN : Hid (∀ (W : World) (a0 a1 a2 a3 a4 : Int), Below w.heap.size w W → (W.alloc (.cells #[.int .i64 0, .int .i64 0, .int .i64 0, .int .i64 0, .int .i64 0] 23)).heap[W.heap.size]? = some (.cells #[.int .i64 0, .int .i64 0, .int .i64 0, .int .i64 0, .int .i64 0] 23 (0, 0)) ∧
      ∀ w5, (W.alloc (.cells #[.int .i64 0, .int .i64 0, .int .i64 0, .int .i64 0, .int .i64 0] 23)).setRow W.heap.size #[.int .i64 a0, .int .i64 a1, .int .i64 a2, .int .i64 a3, .int .i64 a4] = w5 →
      w5.heap[W.heap.size]? = some (.cells #[.int .i64 a0, .int .i64 a1, .int .i64 a2, .int .i64 a3, .int .i64 a4] 23 (0, 0)) ∧ Below w.heap.size w w5 ∧ Below W.heap.size W w5) := Lib.hid (fun W a0 a1 a2 a3 a4 hB => ⟨heap_alloc_new _ _, by
        rintro w5 rfl
        exact ⟨setRow_heap _ _ _ _ _ _ (heap_alloc_new _ _), below_setRow (hB.alloc hB.size _) hB.size _, below_setRow ((Below.refl _ _).alloc (Nat.le_refl _) _) (Nat.le_refl _) _⟩⟩)
  have LEN := Lib.hid (bytesH_len 3 1 2 0 0)
  clear hb hl hX hW hH hD hC hL
  unfold headV at *
  go_enter Try.func5, Try.ntmps5
  go_wp2_with fail
  have bx0 : Box w.heap.size W H D C L (w.alloc (.cells #[.int .i64 W, .int .i64 H, .int .i64 D, .int .i64 C, .int .i64 L] 23)) := box_of (heap_alloc_new _ _)
  refine (C6.out _).mono ?_; rintro e w1 ⟨rfl, hb1⟩
  have X1 := Lib.hid (bx0.old hb1)
  have L1 : Hid (Below w.heap.size w w1) := Lib.hid (((Below.refl _ _).alloc (Nat.le_refl _) _).trans (hb1.mono (by simp)))
  clear hb1 bx0
  go_wp2_with fail
  refine (put_three _).mono ?_; rintro e w2 ⟨v2, rfl, hv2, hb2⟩
  have X2 := Lib.hid (X1.out.old hb2)
  have L2 := Lib.hid (L1.out.trans (hb2.mono L1.out.size))
  obtain ⟨a2, c2, rfl⟩ := hv2.len
  rw [LEN.out]
  clear hb2 hv2 L1 X1
  by_cases hk : l.length ≤ 1000
  case neg =>
    have e1 : decide ((1000 : Int) < (l.length : Int)) = true := by rw [decide_eq_true_eq]; omega
    have e2 : decide (1000 < l.length) = true := by rw [decide_eq_true_eq]; omega
    clear hk
    go_wp2_with fail
    go_ret
    exact ⟨rfl, L2.out⟩
  have e1 : decide ((1000 : Int) < (l.length : Int)) = false := by rw [decide_eq_false_iff_not]; omega
  have e2 : decide (1000 < l.length) = false := by rw [decide_eq_false_iff_not]; omega
  clear hk
  go_wp2_with fail
  refine (T1.out _ _ (HB.out.old L2.out)).mono ?_; rintro e w3 ⟨rfl, hb3⟩
  have X3 := Lib.hid (X2.out.old hb3)
  have L3 := Lib.hid (L2.out.trans (hb3.mono L2.out.size))
  clear hb3 e1 e2
  go_wp2_with (refine wpList_store_row rfl _ _ _ rfl w3.heap.size #[.int .i64 x0, .int .i64 x1, .int .i64 x2, .int .i64 x3, .int .i64 x4] rfl rfl 23 _ (FIN.out w3 0 0 0 0 0 L3.out).1 HI.out rfl (H1.out x0 x1 x2 x3 x4) ?_; refine stop ?_)
  refine unstop ?_
  obtain ⟨w4, hw4⟩ : ∃ w4, (w3.alloc (.cells #[.int .i64 0, .int .i64 0, .int .i64 0, .int .i64 0, .int .i64 0] 23)).setRow w3.heap.size #[.int .i64 x0, .int .i64 x1, .int .i64 x2, .int .i64 x3, .int .i64 x4] = w4 := ⟨_, rfl⟩
  rw [hw4]
  obtain ⟨hx4, hl4, hm4⟩ := (FIN.out w3 x0 x1 x2 x3 x4 L3.out).2 w4 hw4
  have K4 := Lib.hid (box_of hx4)
  have X4 := Lib.hid (X3.out.old hm4)
  have L4 := Lib.hid hl4
  clear hw4 hx4 hl4 hm4 L2 L3 X2 X3
  have SAME := Lib.hid (fun (u : Value) (V : World) (hu : Bs V u l) (hw : Bs V (.slice av l.length cap) l) => by have h := same_any u (.slice av l.length cap) l l V hu hw; rw [decide_eq_true rfl] at h; exact h)
  rcases Classical.em (takeC l = 0) with hn | hn
  case' inl =>
    rw [hn, errV_zero]
    have PTN := Lib.hid (PT.out hn)
    obtain ⟨m0, m1, m2, m3, m4⟩ := K4.out
    clear hn PT
    go_wp2_with fail
    refine (PTN.out _).mono ?_; rintro e w5 ⟨v5, rfl, hv5, hb5⟩
    have X5 := Lib.hid (X4.out.old hb5)
    have L5 := Lib.hid (L4.out.trans (hb5.mono L4.out.size))
    have V5 := Lib.hid hv5
    clear hb5 hv5 m0 m1 m2 m3 m4 K4 X4 PTN
    go_wp2_with fail
    refine (SAME.out _ _ V5.out (HB.out.old L5.out)).mono ?_; rintro e w5' ⟨rfl, rfl⟩
    obtain ⟨k0, k1, k2, k3, k4⟩ := X5.out
    go_wp2_with fail
  case' inr =>
    rw [errV_some hn]
    obtain ⟨w5, hw5⟩ : ∃ w5, w4 = w5 := ⟨_, rfl⟩
    subst hw5
    have X5 := X4
    have L5 := L4
    have V5 := X4
    clear hn PT K4
    obtain ⟨k0, k1, k2, k3, k4⟩ := X5.out
    go_wp2_with fail
  all_goals
    clear SAME T1 V5 HB
    by_cases h0 : headC W H D C L = 0
    case neg =>
      obtain ⟨n, hn⟩ : ∃ n, headC W H D C L = n := ⟨_, rfl⟩
      have hn0 : n ≠ 0 := by rw [← hn]; exact h0
      have CK2 := CK.out
      rw [hn, errV_some hn0] at CK2
      have CKN := Lib.hid CK2
      have NI := Lib.hid (fun V => num_iface n hn0 V)
      refine (PB.out n _ hn hn0).mono ?_; rintro e w6 ⟨rfl, hb6⟩
      rw [errV_some hn0]
      obtain ⟨q0, q1, q2, q3, q4⟩ := X5.out.old hb6
      have L6 := Lib.hid (L5.out.trans (hb6.mono L5.out.size))
      clear h0 hn hn0 CK CK2 PB PG hb6 k0 k1 k2 k3 k4
      go_wp2_with fail
      have hs : Held5 w w.heap.size W H D C L w6.drew := ⟨q0, q1, q2, q3, q4, L6.out.drew⟩
      go_region_held3 (fun V => V.cell? ⟨w.heap.size, 0, none⟩ = some (.int .i64 W) ∧ V.cell? ⟨w.heap.size, 1, none⟩ = some (.int .i64 H) ∧ V.cell? ⟨w.heap.size, 2, none⟩ = some (.int .i64 D) ∧ V.cell? ⟨w.heap.size, 3, none⟩ = some (.int .i64 C) ∧ V.cell? ⟨w.heap.size, 4, none⟩ = some (.int .i64 L) ∧ Below w.heap.size w V) (first | exact hs | assumption | exact keep5 (by assumption) hbx) (first
        | (go_at_call 9; refine (CKN.out _).mono ?_; rintro e w' ⟨rfl, hbx⟩)
        | (go_at_call 8; refine (NI.out _).mono ?_; rintro e w' ⟨rfl, rfl⟩))
      all_goals
        have HF := (show _ ∧ _ ∧ _ ∧ _ ∧ _ ∧ Below w.heap.size w _ by assumption).2.2.2.2.2
        go_wp2_with fail
        go_ret
        exact ⟨rfl, HF⟩
    obtain ⟨nw, nh, nd, nc, nl, rfl, rfl, rfl, rfl, rfl, g1, g2, g3, g4, g5⟩ := PG.out h0
    obtain ⟨t1, t2⟩ := bytes_take nw nh nd nc nl g1 g2 g3 g4 g5 h0
    refine (headPut_good nw nh nd nc nl _ h0 g1 g2 g3 g4 g5).mono ?_; rintro e w6 ⟨v6, rfl, hv6, hb6⟩
    have hlen6 : (bytesH nw nh nd nc nl).length ≤ 140737488351232 := by rw [bytesH_len]; decide
    have T6 := Lib.hid (fun V (hV : Bs V v6 (bytesH nw nh nd nc nl)) => by have h := takeHead_any v6 _ V hV hlen6; rw [t1, t2, errV_zero] at h; unfold headV at h; exact h)
    have V6 := Lib.hid hv6
    have X6 := Lib.hid (X5.out.old hb6)
    have L6 := Lib.hid (L5.out.trans (hb6.mono L5.out.size))
    clear h0 g1 g2 g3 g4 g5 t1 t2 hlen6 hv6 hb6 k0 k1 k2 k3 k4 CK PB PG
    go_wp2_with fail
    refine (T6.out _ V6.out).mono ?_; rintro e w7 ⟨rfl, hb7⟩
    have X7 := Lib.hid (X6.out.old hb7)
    have L7 := Lib.hid (L6.out.trans (hb7.mono L6.out.size))
    clear hb7 V6 T6
    go_wp2_with (refine wpList_store_row rfl _ _ _ rfl w7.heap.size #[.int .i64 (nw : Int), .int .i64 (nh : Int), .int .i64 (nd : Int), .int .i64 (nc : Int), .int .i64 (nl : Int)] rfl rfl 23 _ (FIN.out w7 0 0 0 0 0 L7.out).1 HI.out rfl (H1.out _ _ _ _ _) ?_; refine stop ?_)
    refine unstop ?_
    obtain ⟨w8, hw8⟩ : ∃ w8, (w7.alloc (.cells #[.int .i64 0, .int .i64 0, .int .i64 0, .int .i64 0, .int .i64 0] 23)).setRow w7.heap.size #[.int .i64 (nw : Int), .int .i64 (nh : Int), .int .i64 (nd : Int), .int .i64 (nc : Int), .int .i64 (nl : Int)] = w8 := ⟨_, rfl⟩
    rw [hw8]
    obtain ⟨hx8, hl8, hm8⟩ := (FIN.out w7 (nw : Int) (nh : Int) (nd : Int) (nc : Int) (nl : Int) L7.out).2 w8 hw8
    obtain ⟨m0, m1, m2, m3, m4⟩ := box_of hx8
    obtain ⟨k0, k1, k2, k3, k4⟩ := X7.out.old hm8
    have L8 := Lib.hid hl8
    clear hw8 hx8 hl8 hm8
    go_wp2_with fail
    go_ret
    exact ⟨rfl, L8.out⟩
end Go.Proofs.Ytlgjjoglajgbeaa
