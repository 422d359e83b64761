/- The chapter's example. By an AI agent. -/
import Derived.Test.YtheomjoadgfkeaaTokEq
import Derived.Test.YtheomjoadgfkeaaFlat
import Derived.Test.YtheomjoadgfkeaaPrices
import Derived.Laws.StructEq
namespace Go.Proofs.Ytheomjoadgfkeaa
open Go.RowKit Go.Shelf
set_option linter.unusedVariables false
set_option linter.unusedSimpArgs false

abbrev abcL : List UInt8 := [97, 98, 99, 97, 98, 99, 97, 98, 99]
abbrev fA : List Int := List.replicate 256 9
abbrev fB : List Int := (List.range 259).map fun n : Nat => 3 + ((n % 7 : Nat) : Int)
abbrev fC : List Int := (List.range 30).map fun n : Nat => 1 * (n : Int)
theorem abc_greedy : greedL abcL = [(0, 97), (0, 98), (0, 99), (6, 3)] := by decide +kernel
theorem abc_good : goodP fA fB fC = true := by decide +kernel
theorem abc_cheap : 0 < (cheapL (costN fA fB fC) abcL).length ∧ (cheapL (costN fA fB fC) abcL).length < 9 := by decide +kernel

set_option maxRecDepth 20000 in
set_option maxHeartbeats 3200000 in
theorem alive_any (w : World) : Calls Try.prog 21 #[] w fun e w' => e = .returned (.bool true) ∧ Below w.heap.size w w' := by
  have kc := fun (w : World) (C : Array Value) (n c g : Nat) (hg : g = w.heap.size) => Joins.run_convert_bytes_const_at (P := Try.prog) w 48 5 C n c g hg Try.underlying48 Try.underlying5
  go_enter Try.func21, Try.ntmps21
  go_wp2_with fail
  refine (greedy_any _ abcL _ ?h1 (by decide)).mono ?_
  case h1 => exact bs_heap (n := 9) (cap := 9) _ (heap_alloc_new _ _) rfl rfl (by decide)
  rintro e w1 ⟨rv, rfl, hT, hb1⟩
  rw [abc_greedy] at hT
  obtain ⟨a1, c1, rfl, hx1⟩ := hT
  have HB1 : Hid (Below w.heap.size w w1) := Lib.hid (((Below.refl _ _).alloc (Nat.le_refl _) _).trans (hb1.mono (by simp)))
  obtain ⟨b1, o1, rfl, p1, p2⟩ := hx1 3 (by simp)
  simp only [List.map_cons, List.map_nil, List.getElem_cons_succ, List.getElem_cons_zero] at p1 p2
  have P1 : Hid (w1.cell? ⟨b1, o1 + 6, none⟩ = some (.int .i64 6)) := Lib.hid p1
  have P2 : Hid (w1.cell? ⟨b1, o1 + 6 + 1, none⟩ = some (.int .i64 3)) := Lib.hid p2
  rw [show ([((0 : Nat), (97 : Nat)), (0, 98), (0, 99), (6, 3)].map (fun t : Nat × Nat => ((t.1 : Int), (t.2 : Int)))).length = 4 from rfl]
  clear hb1 hx1 p1 p2
  go_wp2_with fail
  have ba : Below w1.heap.size w1 (w1.alloc (.cells #[.int .u8 97, .int .u8 98, .int .u8 99, .int .u8 97, .int .u8 98, .int .u8 99, .int .u8 97, .int .u8 98, .int .u8 99] 5 (9, 10))) := (Below.refl _ _).alloc (Nat.le_refl _) _
  have hbs : Bs (w1.alloc (.cells #[.int .u8 97, .int .u8 98, .int .u8 99, .int .u8 97, .int .u8 98, .int .u8 99, .int .u8 97, .int .u8 98, .int .u8 99] 5 (9, 10))) (.slice (some ⟨w1.heap.size, 0, none⟩) 9 9) abcL := bs_heap (n := 9) (cap := 9) _ (heap_alloc_new _ _) rfl rfl (by decide)
  refine (flat_any 9 3 1 _ (by omega) (by omega) (by omega)).mono ?_
  rintro e w2 ⟨fu, fv, fx, rfl, nu, nv, nx, hb2⟩
  go_wp2_with fail
  refine (prices_any _ _ _ _ _ _ _ nu nv nx (by simp) (by simp) (by simp)).mono ?_
  rintro e w3 ⟨pu, pv, px, g1, g2, g3, rfl, cu, cv, cx, hb3⟩
  go_wp2_with fail
  refine (cheapest_any _ pu pv px abcL fA fB fC w3 ((hbs.old hb2).old hb3) (by decide) cu.ns cv.ns cx.ns (by simp) (by simp) (by simp)).mono ?_
  rintro e w4 ⟨hb4, (⟨-, rc, rfl, hT⟩ | ⟨hg, -⟩)⟩
  · obtain ⟨a4, c4, rfl, hx4⟩ := hT
    rw [List.length_map]
    have AC := abc_cheap
    obtain ⟨m, hm⟩ : ∃ m, (cheapL (costN fA fB fC) abcL).length = m := ⟨_, rfl⟩
    rw [hm] at AC
    rw [hm]
    have hb24 := (hb2.trans (hb3.mono hb2.size)).trans (hb4.mono (Nat.le_trans hb2.size hb3.size))
    have bb : Below w1.heap.size w1 w4 := ba.trans (hb24.mono ba.size)
    have q1 := cell_old bb P1.out
    have q2 := cell_old bb P2.out
    have HB4 := Lib.hid (HB1.out.trans (bb.mono HB1.out.size))
    have d1 : decide ((0 : Int) < (m : Int)) = true := by rw [decide_eq_true_eq]; omega
    have d2 : decide ((m : Int) < 9) = true := by rw [decide_eq_true_eq]; omega
    have d3 : decide (0 < m) = true := by rw [decide_eq_true_eq]; omega
    have d4 : decide (m < 9) = true := by rw [decide_eq_true_eq]; omega
    clear ba hbs hb24 hb2 hb3 hb4 nu nv nx cu cv cx hx4 hm AC bb P1 P2 kc
    go_wp2_with fail
    go_ret
    exact ⟨rfl, HB4.out⟩
  · rw [abc_good] at hg; cases hg
end Go.Proofs.Ytheomjoadgfkeaa
