/- Is a picture too large? frame.check, burnishref23.tooLarge. By an AI agent. -/
import Derived.Test.YtnhalnjdlkdnkaaShow
import Derived.Test.YtnhalnjdlkdnkaaGoodB
namespace Go.Proofs.Ytnhalnjdlkdnkaa
open Go.RowKit Go.BigFrame
set_option linter.unusedVariables false
set_option linter.unusedSimpArgs false
set_option maxRecDepth 20000

def sumTo (P : PicL) : Nat → Int
  | 0 => 0
  | n + 1 => sumTo P n + (sizeL P (n : Int)).1 * (sizeL P (n : Int)).2
theorem sumTo_in (P : PicL) (n : Nat) : 0 ≤ sumTo P n ∧ sumTo P n ≤ n * 68717379600 := by
  induction n with
  | zero => simp [sumTo]
  | succ n ih =>
    have SI := szL_in P (n : Int)
    have mm := mul_in (a := (sizeL P (n : Int)).1) (b := (sizeL P (n : Int)).2) (m := 262140) (n := 262140) SI.1 SI.2
    unfold sumTo
    omega
def tooB (P : PicL) : Bool := decide (262144 < P.w * P.h) || decide (65536 < sumTo P P.parts.length)
def chk4 (q : Bool) : Int := if q then 4 else 0
set_option maxHeartbeats 4000000 in
theorem fcheck_any (P : PicL) (q0 q1 q2 q3 pv kv : Value) (w : World) (hc : Pts w pv P.parts) (hl : P.parts.length ≤ 1000) (hw : 1 ≤ P.w ∧ P.w ≤ 65535) (hh : 1 ≤ P.h ∧ P.h ≤ 65535) :
    Calls Try.prog 51 #[.agg (vPic P q0 q1 q2 q3 pv kv)] w fun e w' => e = .returned (errV (chk4 (tooB P))) ∧ Below w.heap.size w w' := by
  obtain ⟨pa, pc, rfl, _⟩ := Els.len hc
  have HC := Lib.hid hc
  have HL := Lib.hid hl
  clear hc
  obtain ⟨w1, hw1⟩ : ∃ w1, w.alloc (.cells (vPic P q0 q1 q2 q3 (.slice pa P.parts.length pc) kv) 36) = w1 := ⟨_, rfl⟩
  have hb1 : Below w.heap.size w w1 := by rw [← hw1]; exact (Below.refl _ _).alloc (Nat.le_refl _) _
  obtain ⟨B, hB⟩ : ∃ B, w.heap.size = B := ⟨_, rfl⟩
  have hbox : PBox w1 B P q0 q1 q2 q3 (.slice pa P.parts.length pc) kv := by rw [← hw1, ← hB]; exact heap_alloc_new _ _
  have B1 := Lib.hid hb1
  have BX1 := Lib.hid hbox
  have HB := Lib.hid hB
  obtain ⟨a0, a1, a2, a3, a4, a5, a6, a7, a8⟩ := hbox.cells
  unfold vPic at hw1
  have mm := mul_in (a := P.w) (b := P.h) (m := 65535) (n := 65535) (by omega) (by omega)
  have g1 : wrap64 (P.w * P.h) = P.w * P.h := IntWalk.wrap64_in _ (by omega)
  have d1 : decide (65535 < P.w) = false := by rw [decide_eq_false_iff_not]; omega
  have d2 : decide (65535 < P.h) = false := by rw [decide_eq_false_iff_not]; omega
  obtain ⟨n, hn⟩ : ∃ n, P.parts.length = n := ⟨_, rfl⟩
  have TB : Hid (tooB P = (decide (262144 < P.w * P.h) || decide (65536 < sumTo P n))) := Lib.hid (by unfold tooB; rw [hn])
  have HN := Lib.hid hn
  rw [hn] at hw1 a6 BX1 HC HL ⊢
  obtain ⟨ar, har⟩ : ∃ ar, P.w * P.h = ar := ⟨_, rfl⟩
  rw [har] at mm TB
  have g2 : wrap64 (P.w * P.h) = ar := by rw [g1, har]
  clear hb1 hbox mm g1 hw hh har hn hl
  unfold vPic
  by_cases hbig : 262144 < ar
  · have d3 : decide (262144 < ar) = true := decide_eq_true hbig
    rw [d3] at TB
    clear hbig
    go_enter Try.func51, Try.ntmps51
    go_wp2_with fail
    go_ret
    exact ⟨by rw [TB.out]; rfl, B1.out⟩
  have d3 : decide (262144 < ar) = false := decide_eq_false hbig
  rw [d3, Bool.false_or] at TB
  clear hbig
  go_enter Try.func51, Try.ntmps51
  go_wp2_with fail
  clear hw1 a0 a1 a2 a3 a4 a5 a6 a7 a8 g2 d1 d2 d3 hB
  go_loopw [3, 27] (fun s i W => ∃ k : Nat, k ≤ n ∧ i = .int .i64 (k : Nat) ∧ s = .int .i64 (sumTo P k) ∧ Below w.heap.size w W ∧ PBox W B P q0 q1 q2 q3 (.slice pa n pc) kv) (fun _ i _ => n - (intOf i).toNat)
  case atStart => exact ⟨0, Nat.zero_le _, rfl, rfl, B1.out, BX1.out⟩
  case round =>
    clear B1 BX1
    obtain ⟨k, hk, rfl, rfl, hb, hbox⟩ := hrel
    have BB := Lib.hid hb
    have BX := Lib.hid hbox
    clear hb hbox
    obtain ⟨s, hs⟩ : ∃ s, sumTo P k = s := ⟨_, rfl⟩
    have HS := Lib.hid hs
    have sin := sumTo_in P k
    rw [hs] at sin ⊢
    by_cases hkn : k < n
    · have f1 : decide ((k : Int) < (n : Int)) = true := by rw [decide_eq_true_eq]; omega
      have f1' : decide (k < n) = true := by rw [decide_eq_true_eq]; omega
      obtain ⟨a0, a1, a2, a3, a4, a5, a6, a7, a8⟩ := BX.out.cells
      have SC : Hid (sumTo P (k + 1) = s + (sizeL P (k : Int)).1 * (sizeL P (k : Int)).2) := Lib.hid (by rw [← hs]; rfl)
      have SI := szL_in P (k : Int)
      obtain ⟨sw, hsw⟩ : ∃ z, (sizeL P (k : Int)).1 = z := ⟨_, rfl⟩
      obtain ⟨sh, hsh⟩ : ∃ z, (sizeL P (k : Int)).2 = z := ⟨_, rfl⟩
      have HSW := Lib.hid hsw
      have HSH := Lib.hid hsh
      rw [hsw, hsh] at SI SC
      have mm := mul_in (a := sw) (b := sh) (m := 262140) (n := 262140) SI.1 SI.2
      obtain ⟨pr, hpr⟩ : ∃ pr, sw * sh = pr := ⟨_, rfl⟩
      rw [hpr] at mm SC
      have g3 : wrap64 (sw * sh) = pr := by rw [hpr]; exact IntWalk.wrap64_in _ (by omega)
      have hk1 : k ≤ 1000 := by have := HL.out; omega
      have g4 : wrap64 (s + pr) = s + pr := IntWalk.wrap64_in _ (by omega)
      have gk : IntKind.i64.wrap ((k : Int) + 1) = (k : Int) + 1 := IntWalk.i64_in _ (by omega)
      have HKN := Lib.hid hkn
      clear hs hsw hsh hpr SI mm sin hk1
      go_wp2_with fail
      refine (size_any P q0 q1 q2 q3 _ kv (k : Int) wr (HC.out.old BB.out) (by have := HL.out; have := HN.out; omega)).mono ?_
      rintro e w3 ⟨rfl, hb3⟩
      rw [HSW.out, HSH.out]
      have B3 := Lib.hid (BB.out.trans (hb3.mono BB.out.size))
      have BX3 := Lib.hid (BX.out.old hb3)
      clear hb3 a0 a1 a2 a3 a4 a5 a6 a7 a8
      go_wp2_with fail
      go_roundw
      case rel => exact ⟨k + 1, HKN.out, by go_num, by rw [SC.out, g4], B3.out, BX3.out⟩
      case measure => simp [intOf]; have := HKN.out; omega
    · obtain rfl : k = n := by omega
      have f1 : decide ((k : Int) < (k : Int)) = false := by rw [decide_eq_false_iff_not]; omega
      rw [hs] at TB
      clear hs sin
      by_cases hbig : 65536 < s
      · have d3 : decide (65536 < s) = true := decide_eq_true hbig
        rw [d3] at TB
        clear hbig
        go_wp2_with fail
        go_ret
        exact ⟨by rw [TB.out]; rfl, BB.out⟩
      · have d3 : decide (65536 < s) = false := decide_eq_false hbig
        rw [d3] at TB
        clear hbig
        go_wp2_with fail
        go_ret
        exact ⟨by rw [TB.out]; rfl, BB.out⟩
set_option maxHeartbeats 4000000 in
theorem tooLarge_any (P : PicL) (q0 q1 q2 q3 pv kv : Value) (w : World) (hc : Pts w pv P.parts) (hl : P.parts.length ≤ 1000) (hw : 1 ≤ P.w) (hh : 1 ≤ P.h) :
    Calls Try.prog 37 #[.agg (vPic P q0 q1 q2 q3 pv kv)] w fun e w' => e = .returned (.bool (decide (65535 < P.w) || decide (65535 < P.h) || tooB P)) ∧ Below w.heap.size w w' := by
  obtain ⟨pa, pc, rfl, _⟩ := Els.len hc
  have HC := Lib.hid hc
  have HL := Lib.hid hl
  clear hc
  obtain ⟨w1, hw1⟩ : ∃ w1, w.alloc (.cells (vPic P q0 q1 q2 q3 (.slice pa P.parts.length pc) kv) 36) = w1 := ⟨_, rfl⟩
  have hb1 : Below w.heap.size w w1 := by rw [← hw1]; exact (Below.refl _ _).alloc (Nat.le_refl _) _
  obtain ⟨B, hB⟩ : ∃ B, w.heap.size = B := ⟨_, rfl⟩
  have hbox : PBox w1 B P q0 q1 q2 q3 (.slice pa P.parts.length pc) kv := by rw [← hw1, ← hB]; exact heap_alloc_new _ _
  have B1 := Lib.hid hb1
  have BX1 := Lib.hid hbox
  have HB := Lib.hid hB
  obtain ⟨a0, a1, a2, a3, a4, a5, a6, a7, a8⟩ := hbox.cells
  unfold vPic at hw1
  obtain ⟨n, hn⟩ : ∃ n, P.parts.length = n := ⟨_, rfl⟩
  have TB : Hid ((decide (65535 < P.w) || decide (65535 < P.h) || tooB P) = (decide (65535 < P.w) || decide (65535 < P.h) || (decide (262144 < P.w * P.h) || decide (65536 < sumTo P n)))) := Lib.hid (by unfold tooB; rw [hn])
  have HN := Lib.hid hn
  rw [hn] at hw1 a6 BX1 HC HL ⊢
  obtain ⟨tg, htg⟩ : ∃ tg, (decide (65535 < P.w) || decide (65535 < P.h) || tooB P) = tg := ⟨_, rfl⟩
  rw [htg] at TB ⊢
  clear hb1 hbox hn hl htg
  unfold vPic
  by_cases hw2 : 65535 < P.w
  · have d1 : decide (65535 < P.w) = true := decide_eq_true hw2
    rw [d1, Bool.true_or, Bool.true_or] at TB
    clear hw2 hh hw
    go_enter Try.func37, Try.ntmps37
    go_wp2_with fail
    go_ret
    exact ⟨by rw [TB.out]; rfl, B1.out⟩
  have d1 : decide (65535 < P.w) = false := decide_eq_false hw2
  by_cases hh2 : 65535 < P.h
  · have d2 : decide (65535 < P.h) = true := decide_eq_true hh2
    rw [d1, d2, Bool.false_or, Bool.true_or] at TB
    clear hw2 hh hw hh2
    go_enter Try.func37, Try.ntmps37
    go_wp2_with fail
    go_ret
    exact ⟨by rw [TB.out]; rfl, B1.out⟩
  have d2 : decide (65535 < P.h) = false := decide_eq_false hh2
  rw [d1, d2, Bool.false_or, Bool.false_or] at TB
  have mm := mul_in (a := P.w) (b := P.h) (m := 65535) (n := 65535) (by omega) (by omega)
  have g1 : wrap64 (P.w * P.h) = P.w * P.h := IntWalk.wrap64_in _ (by omega)
  obtain ⟨ar, har⟩ : ∃ ar, P.w * P.h = ar := ⟨_, rfl⟩
  rw [har] at mm TB
  have g2 : wrap64 (P.w * P.h) = ar := by rw [g1, har]
  clear mm g1 hw hh har hw2 hh2
  by_cases hbig : 262144 < ar
  · have d3 : decide (262144 < ar) = true := decide_eq_true hbig
    rw [d3, Bool.true_or] at TB
    clear hbig
    go_enter Try.func37, Try.ntmps37
    go_wp2_with fail
    go_ret
    exact ⟨by rw [TB.out]; rfl, B1.out⟩
  have d3 : decide (262144 < ar) = false := decide_eq_false hbig
  rw [d3, Bool.false_or] at TB
  clear hbig
  go_enter Try.func37, Try.ntmps37
  go_wp2_with fail
  clear hw1 a0 a1 a2 a3 a4 a5 a6 a7 a8 g2 d1 d2 d3 hB
  go_loopw [3, 4] (fun s i W => ∃ k : Nat, k ≤ n ∧ i = .int .i64 (k : Nat) ∧ s = .int .i64 (sumTo P k) ∧ Below w.heap.size w W ∧ PBox W B P q0 q1 q2 q3 (.slice pa n pc) kv) (fun _ i _ => n - (intOf i).toNat)
  case atStart => exact ⟨0, Nat.zero_le _, rfl, rfl, B1.out, BX1.out⟩
  case round =>
    clear B1 BX1
    obtain ⟨k, hk, rfl, rfl, hb, hbox⟩ := hrel
    have BB := Lib.hid hb
    have BX := Lib.hid hbox
    clear hb hbox
    obtain ⟨s, hs⟩ : ∃ s, sumTo P k = s := ⟨_, rfl⟩
    have HS := Lib.hid hs
    have sin := sumTo_in P k
    rw [hs] at sin ⊢
    obtain ⟨a0, a1, a2, a3, a4, a5, a6, a7, a8⟩ := BX.out.cells
    by_cases hkn : k < n
    · have f1 : decide ((k : Int) < (n : Int)) = true := by rw [decide_eq_true_eq]; omega
      have f1' : decide (k < n) = true := by rw [decide_eq_true_eq]; omega
      have SC : Hid (sumTo P (k + 1) = s + (sizeL P (k : Int)).1 * (sizeL P (k : Int)).2) := Lib.hid (by rw [← hs]; rfl)
      have SI := szL_in P (k : Int)
      obtain ⟨sw, hsw⟩ : ∃ z, (sizeL P (k : Int)).1 = z := ⟨_, rfl⟩
      obtain ⟨sh, hsh⟩ : ∃ z, (sizeL P (k : Int)).2 = z := ⟨_, rfl⟩
      have HSW := Lib.hid hsw
      have HSH := Lib.hid hsh
      rw [hsw, hsh] at SI SC
      have mm := mul_in (a := sw) (b := sh) (m := 262140) (n := 262140) SI.1 SI.2
      obtain ⟨pr, hpr⟩ : ∃ pr, sw * sh = pr := ⟨_, rfl⟩
      rw [hpr] at mm SC
      have g3 : wrap64 (sw * sh) = pr := by rw [hpr]; exact IntWalk.wrap64_in _ (by omega)
      have hk1 : k ≤ 1000 := by have := HL.out; omega
      have g4 : wrap64 (s + pr) = s + pr := IntWalk.wrap64_in _ (by omega)
      have gk : IntKind.i64.wrap ((k : Int) + 1) = (k : Int) + 1 := IntWalk.i64_in _ (by omega)
      have HKN := Lib.hid hkn
      clear hs hsw hsh hpr SI mm sin hk1
      go_wp2_with fail
      refine (refSize_any P q0 q1 q2 q3 _ kv (k : Int) wr (HC.out.old BB.out) (by have := HL.out; have := HN.out; omega)).mono ?_
      rintro e w3 ⟨rfl, hb3⟩
      rw [HSW.out, HSH.out]
      have B3 := Lib.hid (BB.out.trans (hb3.mono BB.out.size))
      have BX3 := Lib.hid (BX.out.old hb3)
      clear hb3 a0 a1 a2 a3 a4 a5 a6 a7 a8
      go_wp2_with fail
      go_roundw
      case rel => exact ⟨k + 1, HKN.out, by go_num, by rw [SC.out, g4], B3.out, BX3.out⟩
      case measure => simp [intOf]; have := HKN.out; omega
    · obtain rfl : k = n := by omega
      have f1 : decide ((k : Int) < (k : Int)) = false := by rw [decide_eq_false_iff_not]; omega
      rw [hs] at TB
      clear hs sin
      obtain ⟨q, hq⟩ : ∃ q, decide (65536 < s) = q := ⟨_, rfl⟩
      rw [hq] at TB
      go_wp2_with fail
      go_ret
      exact ⟨by rw [TB.out]; rfl, BB.out⟩
end Go.Proofs.Ytnhalnjdlkdnkaa
