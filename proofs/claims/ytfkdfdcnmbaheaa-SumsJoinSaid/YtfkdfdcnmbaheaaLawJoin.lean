/- SumsJoin: the law's walk. By an AI agent. -/
import Derived.Test.YtfkdfdcnmbaheaaWalkA
namespace Go.Proofs.Ytfkdfdcnmbaheaa
open Go.RowKit
set_option linter.unusedVariables false
set_option linter.unusedSimpArgs false

theorem tyB : ElemTy Try.prog 22 5 (.int .u8 0) 1 1 := elemTy Try.underlying22 (by kernel_rfl) rfl (by decide)

set_option maxHeartbeats 800000 in
theorem lawJoin_any (va : Value) (la : List UInt8) (vb : Value) (lb : List UInt8) (w : World) (ha : Bs w va la) (hla : la.length ≤ 140737488351232) (hb : Bs w vb lb) (hlb : lb.length ≤ 140737488351232) :
    Calls Try.prog 3 #[va, vb] w fun e w' => e = .returned (.bool true) ∧ Below w.heap.size w w' := by
  obtain ⟨a0, c0, rfl⟩ := ha.len
  obtain ⟨a1, c1, rfl⟩ := hb.len
  by_cases hbig : 1048576 < la.length ∨ 1048576 < lb.length
  · have k0 : decide ((1048576 : Int) < la.length) = true ∨ (decide ((1048576 : Int) < la.length) = false ∧ decide ((1048576 : Int) < lb.length) = true) := by
      simp only [decide_eq_true_eq, decide_eq_false_iff_not]; omega
    clear hbig hla hlb ha hb
    rcases k0 with k0 | ⟨k0, k1⟩
    all_goals
      go_enter Try.func3, Try.ntmps3
      go_wp2_with (go_at_call 9; refine (join_one _).mono ?_; rintro e w' ⟨rfl, rfl⟩)
      go_ret
      exact ⟨rfl, Below.refl _ _⟩
  · have k0 : decide ((1048576 : Int) < la.length) = false := by simp only [decide_eq_false_iff_not]; omega
    have k1 : decide ((1048576 : Int) < lb.length) = false := by simp only [decide_eq_false_iff_not]; omega
    have hs : la.length + lb.length ≤ 2097152 := by omega
    have HS := Lib.hid hs
    clear hbig hla hlb hs
    go_enter Try.func3, Try.ntmps3
    go_wp2_with (at_builtin; refine stop ?_)
    have hb0 : Below w.heap.size w (w.alloc (.cells #[] 5)) := (Below.refl _ _).alloc (Nat.le_refl _) _
    have hs0 := HS.out
    refine unstop (wpList_app tyB rfl _ _ rfl w.heap.size _ 0 [] rfl (own0 w _) _ la.length (vBs la) rfl (SlN.old ha hb0) (vBs_one la) (by omega) (by omega) (by simp) ?_)
    intro v1 w1 hown1 hg1 _
    have hb1 := run_app_below (own0 w _) hg1 hb0 (Nat.le_refl _)
    have HO1 := Lib.hid hown1
    have HB1 := Lib.hid hb1
    clear hb0 hs0 hown1 hb1 hg1
    go_wp2_with (at_builtin; refine stop ?_)
    have hs0 := HS.out
    refine unstop (wpList_app tyB rfl _ _ rfl w.heap.size _ _ _ rfl HO1.out _ lb.length (vBs lb) rfl (SlN.old hb HB1.out) (vBs_one lb) (by omega) (by omega) HB1.out.size ?_)
    intro v2 w2 hown2 hg2 _
    have hb2 := run_app_below HO1.out hg2 HB1.out (Nat.le_refl _)
    have HO2 := Lib.hid hown2
    have HB2 := Lib.hid hb2
    clear hs0 hown2 hb2 hg2
    go_wp2_with fail
    refine (join_one _).mono ?_; rintro e w' ⟨rfl, rfl⟩
    go_wp2_with fail
    refine (refAdler_any _ la _ (ha.old HB2.out) (by have := HS.out; omega)).mono ?_; rintro e w' ⟨rfl, rfl⟩
    go_wp2_with fail
    refine (refAdler_any _ lb _ (hb.old HB2.out) (by have := HS.out; omega)).mono ?_; rintro e w' ⟨rfl, rfl⟩
    go_wp2_with fail
    refine (join_adler la lb _).mono ?_; rintro e w' ⟨rfl, rfl⟩
    go_wp2_with fail
    have hbs : Bs w2 v2 (la ++ lb) := by
      have := sl_of_owns HO2.out
      rw [List.nil_append, ← vBs_append] at this
      simpa [Bs] using this
    refine (refAdler_any _ (la ++ lb) _ hbs (by have := HS.out; rw [List.length_append]; omega)).mono ?_; rintro e w' ⟨rfl, rfl⟩
    go_wp2_with fail
    go_ret
    exact ⟨rfl, HB2.out⟩
end Go.Proofs.Ytfkdfdcnmbaheaa
