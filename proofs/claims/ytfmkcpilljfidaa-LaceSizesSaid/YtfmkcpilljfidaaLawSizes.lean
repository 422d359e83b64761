/- LaceSizes: the law's walk. By an AI agent. -/
import Derived.Test.YtfmkcpilljfidaaSizeW
import Derived.Test.YtfmkcpilljfidaaRefSize
namespace Go.Proofs.Ytfmkcpilljfidaa
open Go.RowKit
set_option linter.unusedVariables false
set_option linter.unusedSimpArgs false

set_option maxHeartbeats 1600000 in
theorem lawSizes_any (W H p : Int) (w : World) (_ : -9223372036854775808 ≤ W ∧ W ≤ 9223372036854775807) (_ : -9223372036854775808 ≤ H ∧ H ≤ 9223372036854775807) (_ : -9223372036854775808 ≤ p ∧ p ≤ 9223372036854775807) :
    Calls Try.prog 4 #[.int .i64 W, .int .i64 H, .int .i64 p] w fun e w' => e = .returned (.bool true) ∧ Below w.heap.size w w' := by
  have h884 : sizeN 6 8 8 = (8, 4) := by decide
  by_cases h : p < 0 ∨ 7 ≤ p ∨ ¬(1 ≤ W ∧ W ≤ 65535) ∨ ¬(1 ≤ H ∧ H ≤ 65535)
  · have HH := Lib.hid h
    have H8 := Lib.hid h884
    clear h h884
    go_enter Try.func4, Try.ntmps4
    go_wp2_with fail
    refine (size_at 8 8 6 8 8 6 _ rfl rfl rfl (by decide) (by decide) (by decide)).mono ?_; rintro e w1 ⟨rfl, hb1⟩
    rw [H8.out]
    have HB1 := Lib.hid hb1
    clear hb1
    go_wp2_with fail
    refine (size_out W H p _ HH.out).mono ?_; rintro e w' ⟨rfl, rfl⟩
    go_wp2_with fail
    refine (refSize_out W H p _ HH.out).mono ?_; rintro e w' ⟨rfl, rfl⟩
    go_wp2_with fail
    go_ret
    exact ⟨rfl, HB1.out⟩
  · obtain ⟨W', rfl⟩ : ∃ n : Nat, W = (n : Int) := ⟨W.toNat, by omega⟩
    obtain ⟨H', rfl⟩ : ∃ n : Nat, H = (n : Int) := ⟨H.toNat, by omega⟩
    obtain ⟨p', rfl⟩ : ∃ n : Nat, p = (n : Int) := ⟨p.toNat, by omega⟩
    have HP : Hid (p' < 7) := Lib.hid (by omega)
    have HW : Hid (1 ≤ W' ∧ W' ≤ 65535) := Lib.hid (by omega)
    have HH : Hid (1 ≤ H' ∧ H' ≤ 65535) := Lib.hid (by omega)
    have H8 := Lib.hid h884
    obtain ⟨a, b, hab⟩ : ∃ a b, sizeN p' W' H' = (a, b) := ⟨_, _, rfl⟩
    have HAB := Lib.hid hab
    clear h h884 hab
    go_enter Try.func4, Try.ntmps4
    go_wp2_with fail
    refine (size_at 8 8 6 8 8 6 _ rfl rfl rfl (by decide) (by decide) (by decide)).mono ?_; rintro e w1 ⟨rfl, hb1⟩
    rw [H8.out]
    have HB1 := Lib.hid hb1
    clear hb1
    go_wp2_with fail
    refine (size_at W' H' p' W' H' p' _ rfl rfl rfl HP.out HW.out HH.out).mono ?_; rintro e w2 ⟨rfl, hb2⟩
    rw [HAB.out]
    have HB2 := Lib.hid (HB1.out.trans (hb2.mono HB1.out.size))
    clear hb2 HB1
    go_wp2_with fail
    refine (refSize_at W' H' p' W' H' p' _ rfl rfl rfl HP.out HW.out HH.out).mono ?_; rintro e w3 ⟨rfl, hb3⟩
    rw [HAB.out]
    have HB3 := Lib.hid (HB2.out.trans (hb3.mono HB2.out.size))
    clear hb3 HB2
    go_wp2_with fail
    go_ret
    exact ⟨rfl, HB3.out⟩
end Go.Proofs.Ytfmkcpilljfidaa
