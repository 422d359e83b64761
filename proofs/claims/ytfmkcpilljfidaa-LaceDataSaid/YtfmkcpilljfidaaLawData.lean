/- LaceData: the law's walk. By an AI agent. -/
import Derived.Test.YtfmkcpilljfidaaData
import Derived.Test.YtfmkcpilljfidaaRefSize
namespace Go.Proofs.Ytfmkcpilljfidaa
open Go.RowKit
set_option linter.unusedVariables false
set_option linter.unusedSimpArgs false

set_option maxHeartbeats 1600000 in
theorem data_bad (W H D C L : Int) (w : World) (hg : headC W H D C L ≠ 0) :
    Calls Try.prog 20 #[headV W H D C L] w fun e w' => e = .returned (.int .i64 0) ∧ Below w.heap.size w w' := by
  have ck := check_any W H D C L
  rw [errV_some hg] at ck
  unfold headV at *
  have CK := Lib.hid ck
  clear ck hg
  go_enter Try.func20, Try.ntmps20
  go_wp2_with fail
  refine (CK.out _).mono ?_; rintro e w1 ⟨rfl, hb1⟩
  have B1 := Lib.hid (((Below.refl _ _).alloc (Nat.le_refl _) _).trans (hb1.mono (by simp)))
  clear hb1
  go_wp2_with fail
  go_ret
  exact ⟨rfl, B1.out⟩
/-- how many bytes all rows have -/
def dataN (W H D C L : Int) : Int := if headC W H D C L = 0 then dataW (rowN W H D C L) (passesL W H L) else 0
theorem data_any (W H D C L : Int) (w : World) :
    Calls Try.prog 20 #[headV W H D C L] w fun e w' => e = .returned (.int .i64 (dataN W H D C L)) ∧ Below w.heap.size w w' := by
  unfold dataN
  by_cases h : headC W H D C L = 0
  · rw [if_pos h]; exact data_good W H D C L w h
  · rw [if_neg h]; exact data_bad W H D C L w h
theorem data_8 : dataN 8 8 8 0 1 = 79 := by decide +kernel
theorem head_good {W H D C L : Int} (h : headC W H D C L = 0) : (1 ≤ W ∧ W ≤ 65535) ∧ (1 ≤ H ∧ H ≤ 65535) ∧ (L = 0 ∨ L = 1) := by
  unfold headC at h
  by_cases a : W < 1 ∨ H < 1 ∨ D ∉ depthsL C ∨ L < 0 ∨ 1 < L
  · rw [if_pos a] at h; exact absurd h (by decide)
  · rw [if_neg a] at h
    by_cases b : 65535 < W ∨ 65535 < H ∨ 262144 < W * H
    · rw [if_pos b] at h; exact absurd h (by decide)
    · simp only [not_or] at a b
      omega
/-- the passes looked at, the first k -/
def someTo (W H : Nat) (L : Int) (k : Nat) : List (Int × Int × Int) := if L = 0 then (if k = 0 then [] else [(0, (W : Int), (H : Int))]) else lacedTo W H k
theorem someTo_7 (W H : Nat) (L : Int) (hW : 1 ≤ W ∧ W ≤ 65535) (hH : 1 ≤ H ∧ H ≤ 65535) (hL : L = 0 ∨ L = 1) : someTo W H L 7 = passesL W H L := by
  unfold someTo passesL
  rw [if_pos (⟨decide_eq_true (by omega), decide_eq_true (by omega), hL⟩ : sideB (W : Int) = true ∧ sideB (H : Int) = true ∧ (L = 0 ∨ L = 1))]
  rcases hL with rfl | rfl <;> rfl

set_option maxRecDepth 20000 in
set_option maxHeartbeats 6400000 in
theorem laceData_any (W H D C L : Int) (w : World) :
    Calls Try.prog 8 #[headV W H D C L] w fun e w' => e = .returned (.bool true) ∧ Below w.heap.size w w' := by
  have d8 := fun X => data_any 8 8 8 0 1 X
  rw [data_8] at d8
  have rc := refCheck_any W H D C L
  have da := fun X => data_any W H D C L X
  by_cases hg : headC W H D C L = 0
  case neg =>
    have e1 : (headC W H D C L != 0) = true := by rw [bne_iff_ne]; exact hg
    have dz : dataN W H D C L = 0 := if_neg hg
    rw [dz] at da
    obtain ⟨hc, hhc⟩ : ∃ c, headC W H D C L = c := ⟨_, rfl⟩
    rw [hhc] at rc e1
    unfold headV at *
    have D8 := Lib.hid d8
    have RC := Lib.hid rc
    have DA := Lib.hid da
    clear d8 rc da dz hg hhc
    go_enter Try.func8, Try.ntmps8
    go_wp2_with fail
    refine (D8.out _).mono ?_; rintro e w1 ⟨rfl, hb1⟩
    have hbox : Box w.heap.size W H D C L w1 := (box_of (heap_alloc_new _ _)).old hb1
    have B1 := Lib.hid (((Below.refl _ _).alloc (Nat.le_refl _) _).trans (hb1.mono (by simp)))
    have BX := Lib.hid hbox
    obtain ⟨k0, k1, k2, k3, k4⟩ := hbox
    clear hb1
    go_wp2_with fail
    refine (RC.out _).mono ?_; rintro e w2 ⟨rfl, hb2⟩
    obtain ⟨k0, k1, k2, k3, k4⟩ := BX.out.old hb2
    have B2 := Lib.hid (B1.out.trans (hb2.mono B1.out.size))
    clear hb2
    go_wp2_with fail
    refine (DA.out _).mono ?_; rintro e w3 ⟨rfl, hb3⟩
    have B3 := Lib.hid (B2.out.trans (hb3.mono B2.out.size))
    clear hb3
    go_wp2_with fail
    go_ret
    exact ⟨rfl, B3.out⟩
  case pos =>
    have e1 : (headC W H D C L != 0) = false := by rw [bne_eq_false_iff_eq]; exact hg
    have dz : dataN W H D C L = dataW (rowN W H D C L) (passesL W H L) := if_pos hg
    rw [dz] at da
    rw [hg] at rc
    obtain ⟨hW, hH, hL⟩ := head_good hg
    obtain ⟨a, rfl⟩ : ∃ a : Nat, W = (a : Int) := ⟨W.toNat, by omega⟩
    obtain ⟨b, rfl⟩ : ∃ b : Nat, H = (b : Int) := ⟨H.toNat, by omega⟩
    have ha : 1 ≤ a ∧ a ≤ 65535 := by omega
    have hb : 1 ≤ b ∧ b ≤ 65535 := by omega
    have S7 := Lib.hid (someTo_7 a b L ha hb hL)
    have RR := Lib.hid (fun x X => refRowSize_any (a : Int) (b : Int) D C L x X)
    obtain ⟨f, hf⟩ : ∃ f : Int → Int, (fun x => rowN (a : Int) (b : Int) D C L x) = f := ⟨_, rfl⟩
    have hf' : ∀ x, rowN (a : Int) (b : Int) D C L x = f x := fun x => by rw [← hf]
    have hfe : rowN (a : Int) (b : Int) D C L = f := hf
    rw [hfe] at da
    simp only [hf'] at RR
    unfold headV at *
    have D8 := Lib.hid d8
    have RC := Lib.hid rc
    have DA := Lib.hid da
    have HA := Lib.hid ha
    have HB := Lib.hid hb
    have HL := Lib.hid hL
    clear d8 rc da dz hg hf hf' hfe ha hb hL hW hH e1
    go_enter Try.func8, Try.ntmps8
    go_wp2_with fail
    refine (D8.out _).mono ?_; rintro e w1 ⟨rfl, hb1⟩
    have hbox : Box w.heap.size a b D C L w1 := (box_of (heap_alloc_new _ _)).old hb1
    have B1 := Lib.hid (((Below.refl _ _).alloc (Nat.le_refl _) _).trans (hb1.mono (by simp)))
    have BX := Lib.hid hbox
    obtain ⟨k0, k1, k2, k3, k4⟩ := hbox
    clear hb1
    go_wp2_with fail
    refine (RC.out _).mono ?_; rintro e w2 ⟨rfl, hb2⟩
    have BX2 := Lib.hid (BX.out.old hb2)
    have B2 := Lib.hid (B1.out.trans (hb2.mono B1.out.size))
    clear hb2 k0 k1 k2 k3 k4
    go_wp2_with fail
    go_loopw [3, 16] (fun s i V => ∃ k : Nat, k ≤ 7 ∧ i = .int .i64 k ∧ s = .int .i64 (dataW f (someTo a b L k)) ∧ Box w.heap.size a b D C L V ∧ Below w.heap.size w V) (fun _ i _ => 7 - (intOf i).toNat)
    case atStart => exact ⟨0, Nat.zero_le _, rfl, by (unfold someTo; by_cases h0 : L = 0 <;> simp [h0, lacedTo, dataW]), BX2.out, B2.out⟩
    case round =>
      obtain ⟨k, hk, rfl, rfl, hbx, hbl⟩ := hrel
      have HX := Lib.hid hbx
      have HBL := Lib.hid hbl
      obtain ⟨k0, k1, k2, k3, k4⟩ := hbx
      obtain ⟨s, hs⟩ : ∃ s, dataW f (someTo a b L k) = s := ⟨_, rfl⟩
      rw [hs]
      have HS := Lib.hid hs
      clear hbl hs B1 BX BX2 B2
      by_cases hk7 : k < 7
      · have f1 : decide ((k : Int) < 7) = true := by rw [decide_eq_true_eq]; omega
        have SZ := Lib.hid (fun X => refSize_at (a : Int) (b : Int) (k : Int) a b k X rfl rfl rfl hk7 HA.out HB.out)
        obtain ⟨p, hp⟩ : ∃ p, (sizeN k a b).1 = p := ⟨_, rfl⟩
        obtain ⟨q, hq⟩ : ∃ q, (sizeN k a b).2 = q := ⟨_, rfl⟩
        have SC := Lib.hid (lacedTo_succ a b k)
        rw [hp, hq] at SZ SC
        clear hp hq
        rcases HL.out with rfl | rfl
        · -- not laced
          have g1 : decide (0 < (a : Int)) = true := by rw [decide_eq_true_eq]; have := HA.out; omega
          have g2 : decide (0 < a) = true := by rw [decide_eq_true_eq]; have := HA.out; omega
          by_cases hk0 : k = 0
          · have z1 : ((k : Int) == 0) = true := by rw [beq_iff_eq]; omega
            have z2 : (k == 0) = true := by rw [beq_iff_eq]; omega
            have ST : Hid (dataW f (someTo a b 0 (k + 1)) = wrap64 (s + wrap64 ((b : Int) * wrap64 (1 + f a)))) := Lib.hid (by
              rw [← HS.out]; unfold someTo; rw [if_pos rfl, if_pos rfl, if_pos hk0, if_neg (by omega)]; rfl)
            clear hk0
            go_wp2_with fail
            refine (SZ.out _).mono ?_; rintro e w3 ⟨rfl, hb3⟩
            have HX3 := Lib.hid (HX.out.old hb3)
            have B3 := Lib.hid (HBL.out.trans (hb3.mono HBL.out.size))
            clear k0 k1 k2 k3 k4 hb3
            obtain ⟨k0, k1, k2, k3, k4⟩ := HX3.out
            go_wp2_with fail
            go_quiet (fail)
            go_wp2_with fail
            refine (RR.out _ _).mono ?_; rintro e w4 ⟨rfl, hb4⟩
            have HX4 := Lib.hid ((HX3.out.old (below_drewN (Below.refl _ _) nq)).old hb4)
            have B4 := Lib.hid ((below_drewN B3.out nq).trans (hb4.mono B3.out.size))
            clear hb4
            go_wp2_with fail
            go_roundw
            case rel => exact ⟨k + 1, by omega, by go_num, by rw [ST.out], HX4.out, B4.out⟩
            case measure => simp [intOf]; omega
          · have z1 : ((k : Int) == 0) = false := by rw [beq_eq_false_iff_ne]; omega
            have z2 : (k == 0) = false := by rw [beq_eq_false_iff_ne]; exact hk0
            have ST : Hid (dataW f (someTo a b 0 (k + 1)) = s) := Lib.hid (by
              rw [← HS.out]; unfold someTo; rw [if_pos rfl, if_pos rfl, if_neg hk0, if_neg (by omega)])
            clear hk0
            go_wp2_with fail
            refine (SZ.out _).mono ?_; rintro e w3 ⟨rfl, hb3⟩
            have HX3 := Lib.hid (HX.out.old hb3)
            have B3 := Lib.hid (HBL.out.trans (hb3.mono HBL.out.size))
            clear k0 k1 k2 k3 k4 hb3
            obtain ⟨k0, k1, k2, k3, k4⟩ := HX3.out
            go_wp2_with fail
            go_quiet (fail)
            go_wp2_with fail
            go_roundw
            case rel => exact ⟨k + 1, by omega, by go_num, by rw [ST.out], HX3.out.old (below_drewN (Below.refl _ _) nq), below_drewN B3.out nq⟩
            case measure => simp [intOf]; omega
        · -- laced
          by_cases hp0 : 0 < p
          · rw [if_pos hp0] at SC
            have g1 : decide (0 < (p : Int)) = true := by rw [decide_eq_true_eq]; omega
            have g2 : decide (0 < p) = true := by rw [decide_eq_true_eq]; exact hp0
            have ST : Hid (dataW f (someTo a b 1 (k + 1)) = wrap64 (s + wrap64 ((q : Int) * wrap64 (1 + f p)))) := Lib.hid (by
              rw [← HS.out]; unfold someTo; rw [if_neg (by decide), if_neg (by decide), SC.out, dataW_snoc])
            clear hp0
            go_wp2_with fail
            refine (SZ.out _).mono ?_; rintro e w3 ⟨rfl, hb3⟩
            have HX3 := Lib.hid (HX.out.old hb3)
            have B3 := Lib.hid (HBL.out.trans (hb3.mono HBL.out.size))
            clear k0 k1 k2 k3 k4 hb3
            obtain ⟨k0, k1, k2, k3, k4⟩ := HX3.out
            go_wp2_with fail
            refine (RR.out _ _).mono ?_; rintro e w4 ⟨rfl, hb4⟩
            have HX4 := Lib.hid (HX3.out.old hb4)
            have B4 := Lib.hid (B3.out.trans (hb4.mono B3.out.size))
            clear hb4
            go_wp2_with fail
            go_roundw
            case rel => exact ⟨k + 1, by omega, by go_num, by rw [ST.out], HX4.out, B4.out⟩
            case measure => simp [intOf]; omega
          · rw [if_neg hp0] at SC
            have g1 : decide (0 < (p : Int)) = false := by rw [decide_eq_false_iff_not]; omega
            have g2 : decide (0 < p) = false := by rw [decide_eq_false_iff_not]; exact hp0
            have ST : Hid (dataW f (someTo a b 1 (k + 1)) = s) := Lib.hid (by
              rw [← HS.out]; unfold someTo; rw [if_neg (by decide), if_neg (by decide), SC.out, List.append_nil])
            clear hp0
            go_wp2_with fail
            refine (SZ.out _).mono ?_; rintro e w3 ⟨rfl, hb3⟩
            have HX3 := Lib.hid (HX.out.old hb3)
            have B3 := Lib.hid (HBL.out.trans (hb3.mono HBL.out.size))
            clear k0 k1 k2 k3 k4 hb3
            obtain ⟨k0, k1, k2, k3, k4⟩ := HX3.out
            go_wp2_with fail
            go_roundw
            case rel => exact ⟨k + 1, by omega, by go_num, by rw [ST.out], HX3.out, B3.out⟩
            case measure => simp [intOf]; omega
      · obtain rfl : k = 7 := by omega
        have DA2 : Hid (∀ X, Calls Try.prog 20 #[.agg #[.int .i64 (a : Int), .int .i64 (b : Int), .int .i64 D, .int .i64 C, .int .i64 L]] X fun e w' => e = .returned (.int .i64 s) ∧ Below X.heap.size X w') := Lib.hid (by
          intro X; have h := DA.out X; rw [← S7.out, HS.out] at h; exact h)
        clear hk7
        go_wp2_with fail
        refine (DA2.out _).mono ?_; rintro e w4 ⟨rfl, hb4⟩
        have B4 := Lib.hid (HBL.out.trans (hb4.mono HBL.out.size))
        clear hb4
        go_wp2_with fail
        go_ret
        exact ⟨rb (by simp), B4.out⟩
theorem laceData_all (W H D C L : Int) (w : World) (_ : -9223372036854775808 ≤ W ∧ W ≤ 9223372036854775807) (_ : -9223372036854775808 ≤ H ∧ H ≤ 9223372036854775807) (_ : -9223372036854775808 ≤ D ∧ D ≤ 9223372036854775807) (_ : -9223372036854775808 ≤ C ∧ C ≤ 9223372036854775807) (_ : -9223372036854775808 ≤ L ∧ L ≤ 9223372036854775807) :
    Calls Try.prog 8 #[.agg #[.int .i64 W, .int .i64 H, .int .i64 D, .int .i64 C, .int .i64 L]] w fun e w' => e = .returned (.bool true) ∧ Below w.heap.size w w' := laceData_any W H D C L w
end Go.Proofs.Ytfmkcpilljfidaa
