/- HeadOrders: the fixed fact. By an AI agent. -/
import Derived.Test.YtlgjjoglajgbeaaDoorWkQ
import Derived.Test.YtlgjjoglajgbeaaDoorLawH3
import Derived.Test.YtlgjjoglajgbeaaDoorHeadP
namespace Go.Proofs.YtlgjjoglajgbeaaDoor
open Go.RowKit Go.BigFrame
set_option linter.unusedVariables false
set_option linter.unusedSimpArgs false

def aliveL : List Chk := [(nIHDR, threeL), (nIDAT, []), (iend, [])]
theorem alive_code : orderC aliveL = 0 := by decide +kernel
theorem alive_val : orderV aliveL = .agg #[.int .i64 3, .int .i64 1, .int .i64 2, .int .i64 0, .int .i64 0] := by
  unfold orderV
  rw [alive_code, if_pos rfl]
  kernel_rfl
theorem cks_alive {w : World} {B : Nat} {a c} (h : w.heap[B]? = some (.cells #[.string ⟨#[73, 72, 68, 82]⟩, .slice a 13 c, .string ⟨#[73, 68, 65, 84]⟩, .slice none 0 0, .string ⟨#[73, 69, 78, 68]⟩, .slice none 0 0] 26 (0, 0))) (hb : Bs w (.slice a 13 c) threeL) :
    Cks w (.slice (some ⟨B, 0, none⟩) 3 3) aliveL := by
  refine ⟨some ⟨B, 0, none⟩, 3, rfl, fun i hi => ?_⟩
  have hi3 : i < 3 := hi
  match i, hi3 with
  | 0, _ => exact ⟨B, 0, _, rfl, by rw [cell_of_row _ _ 0 _ _ _ h]; rfl, by rw [cell_of_row _ _ 1 _ _ _ h]; rfl, hb⟩
  | 1, _ => exact ⟨B, 0, _, rfl, by rw [cell_of_row _ _ 2 _ _ _ h]; rfl, by rw [cell_of_row _ _ 3 _ _ _ h]; rfl, Bs.nil _ _ _⟩
  | 2, _ => exact ⟨B, 0, _, rfl, by rw [cell_of_row _ _ 4 _ _ _ h]; rfl, by rw [cell_of_row _ _ 5 _ _ _ h]; rfl, Bs.nil _ _ _⟩
set_option maxRecDepth 20000 in
set_option maxHeartbeats 3200000 in
theorem alive_any (w : World) (ht : TabP w) :
    Calls Tryd.prog 4 #[] w fun e w' => e = .returned (.bool true) ∧ Below w.heap.size w w' := by
  have TB := Lib.hid ht
  have C6 := Lib.hid (fun W => by have h := three_any W; unfold headV at h; exact h)
  have C5 := Lib.hid (fun W => by have h := rowSize_any 3 1 2 0 0 3 W; rw [row_three] at h; unfold headV at h; exact h)
  have HI : Hid ((Tryd.prog.info? 29).map (·.size) = some 5) := Lib.hid (by kernel_rfl)
  have H1 : Hid (∀ a0 a1 a2 a3 a4 : Int, (#[.int .i64 a0, .int .i64 a1, .int .i64 a2, .int .i64 a3, .int .i64 a4] : Array Value).all (·.oneCell') = true) := Lib.hid (fun a0 a1 a2 a3 a4 => by kernel_rfl)
  have FIN : Hid (∀ (W : World) (a0 a1 a2 a3 a4 : Int), Below w.heap.size w W → (W.alloc (.cells #[.int .i64 0, .int .i64 0, .int .i64 0, .int .i64 0, .int .i64 0] 29)).heap[W.heap.size]? = some (.cells #[.int .i64 0, .int .i64 0, .int .i64 0, .int .i64 0, .int .i64 0] 29 (0, 0)) ∧
      ∀ w5, (W.alloc (.cells #[.int .i64 0, .int .i64 0, .int .i64 0, .int .i64 0, .int .i64 0] 29)).setRow W.heap.size #[.int .i64 a0, .int .i64 a1, .int .i64 a2, .int .i64 a3, .int .i64 a4] = w5 →
      w5.heap[W.heap.size]? = some (.cells #[.int .i64 a0, .int .i64 a1, .int .i64 a2, .int .i64 a3, .int .i64 a4] 29 (0, 0)) ∧ Below w.heap.size w w5 ∧ Below W.heap.size W w5) := Lib.hid (fun W a0 a1 a2 a3 a4 hB => ⟨heap_alloc_new _ _, by
        rintro w5 rfl
        exact ⟨setRow_heap _ _ _ _ _ _ (heap_alloc_new _ _), below_setRow (hB.alloc hB.size _) hB.size _, below_setRow ((Below.refl _ _).alloc (Nat.le_refl _) _) (Nat.le_refl _) _⟩⟩)
  clear ht
  go_enter Tryd.func4, Tryd.ntmps4
  go_wp2_with fail
  refine (C6.out _).mono ?_; rintro e w1 ⟨rfl, hb1⟩
  have L1 := Lib.hid hb1
  clear hb1
  go_wp2_with fail
  refine (putThree _).mono ?_; rintro e w2 ⟨v2, rfl, hv2, hb2⟩
  have L2 := Lib.hid (L1.out.trans (hb2.mono L1.out.size))
  obtain ⟨a2, c2, rfl⟩ := hv2.len
  have V2 : Hid (Bs w2 (.slice a2 13 c2) threeL) := Lib.hid hv2
  rw [show threeL.length = 13 by decide]
  clear hb2 hv2 L1
  obtain ⟨w3, hw3⟩ : ∃ w3, w2.alloc (.cells #[.string ⟨#[73, 72, 68, 82]⟩, .slice a2 13 c2, .string ⟨#[73, 68, 65, 84]⟩, .slice none 0 0, .string ⟨#[73, 69, 78, 68]⟩, .slice none 0 0] 26) = w3 := ⟨_, rfl⟩
  have b3 : Below w2.heap.size w2 w3 := by rw [← hw3]; exact (Below.refl _ _).alloc (Nat.le_refl _) _
  have CK : Hid (Cks w3 (.slice (some ⟨w2.heap.size, 0, none⟩) 3 3) aliveL) := Lib.hid (cks_alive (by rw [← hw3]; exact heap_alloc_new _ _) (V2.out.old b3))
  have L3 : Hid (Below w.heap.size w w3) := Lib.hid (L2.out.trans (b3.mono L2.out.size))
  clear b3
  go_wp2_with fail
  refine (order_any _ 3 aliveL w3 CK.out (by decide) (by decide) (by decide) (by decide) (TB.out.old L3.out)).mono ?_
  rintro e w4 ⟨rfl, hb4⟩
  rw [alive_code, alive_val, errV_zero]
  have L4 := Lib.hid (L3.out.trans (hb4.mono L3.out.size))
  clear hb4 hw3
  go_wp2_with (refine wpList_store_row rfl _ _ _ rfl w4.heap.size #[.int .i64 3, .int .i64 1, .int .i64 2, .int .i64 0, .int .i64 0] rfl rfl 29 _ (FIN.out w4 0 0 0 0 0 L4.out).1 HI.out rfl (H1.out 3 1 2 0 0) ?_)
  obtain ⟨w5, hw5⟩ : ∃ w5, (w4.alloc (.cells #[.int .i64 0, .int .i64 0, .int .i64 0, .int .i64 0, .int .i64 0] 29)).setRow w4.heap.size #[.int .i64 3, .int .i64 1, .int .i64 2, .int .i64 0, .int .i64 0] = w5 := ⟨_, rfl⟩
  rw [hw5]
  obtain ⟨hx5, hl5, _⟩ := (FIN.out w4 3 1 2 0 0 L4.out).2 w5 hw5
  obtain ⟨k0, k1, k2, k3, k4⟩ := box_of hx5
  have L5 := Lib.hid hl5
  clear hw5 hx5 hl5
  have PT : Hid (∀ Y, (Y.cell? ⟨w4.heap.size, 0, none⟩ = some (.int .i64 3) ∧ Y.cell? ⟨w4.heap.size, 1, none⟩ = some (.int .i64 1) ∧ Y.cell? ⟨w4.heap.size, 2, none⟩ = some (.int .i64 2) ∧ Y.cell? ⟨w4.heap.size, 3, none⟩ = some (.int .i64 0) ∧ Y.cell? ⟨w4.heap.size, 4, none⟩ = some (.int .i64 0) ∧ Below w5.heap.size w5 Y) →
      Calls Tryd.prog 11 #[] Y fun e w' => e = .returned (.agg #[.int .i64 3, .int .i64 1, .int .i64 2, .int .i64 0, .int .i64 0]) ∧ (w'.cell? ⟨w4.heap.size, 0, none⟩ = some (.int .i64 3) ∧ w'.cell? ⟨w4.heap.size, 1, none⟩ = some (.int .i64 1) ∧ w'.cell? ⟨w4.heap.size, 2, none⟩ = some (.int .i64 2) ∧ w'.cell? ⟨w4.heap.size, 3, none⟩ = some (.int .i64 0) ∧ w'.cell? ⟨w4.heap.size, 4, none⟩ = some (.int .i64 0) ∧ Below w5.heap.size w5 w')) := Lib.hid (fun Y ⟨h0, h1, h2, h3, h4, h5⟩ => (C6.out Y).mono fun e w' ⟨he, hb⟩ => ⟨he, cell_old hb h0, cell_old hb h1, cell_old hb h2, cell_old hb h3, cell_old hb h4, h5.trans (hb.mono h5.size)⟩)
  have PR : Hid (∀ Y, (Y.cell? ⟨w4.heap.size, 0, none⟩ = some (.int .i64 3) ∧ Y.cell? ⟨w4.heap.size, 1, none⟩ = some (.int .i64 1) ∧ Y.cell? ⟨w4.heap.size, 2, none⟩ = some (.int .i64 2) ∧ Y.cell? ⟨w4.heap.size, 3, none⟩ = some (.int .i64 0) ∧ Y.cell? ⟨w4.heap.size, 4, none⟩ = some (.int .i64 0) ∧ Below w5.heap.size w5 Y) →
      Calls Tryd.prog 12 #[.agg #[.int .i64 3, .int .i64 1, .int .i64 2, .int .i64 0, .int .i64 0], .int .i64 3] Y fun e w' => e = .returned (.int .i64 1) ∧ (w'.cell? ⟨w4.heap.size, 0, none⟩ = some (.int .i64 3) ∧ w'.cell? ⟨w4.heap.size, 1, none⟩ = some (.int .i64 1) ∧ w'.cell? ⟨w4.heap.size, 2, none⟩ = some (.int .i64 2) ∧ w'.cell? ⟨w4.heap.size, 3, none⟩ = some (.int .i64 0) ∧ w'.cell? ⟨w4.heap.size, 4, none⟩ = some (.int .i64 0) ∧ Below w5.heap.size w5 w')) := Lib.hid (fun Y ⟨h0, h1, h2, h3, h4, h5⟩ => (C5.out Y).mono fun e w' ⟨he, hb⟩ => ⟨he, cell_old hb h0, cell_old hb h1, cell_old hb h2, cell_old hb h3, cell_old hb h4, h5.trans (hb.mono h5.size)⟩)
  go_upto_region 2 with (fail)
  refine wp_region_q (fun Y => Y.cell? ⟨w4.heap.size, 0, none⟩ = some (.int .i64 3) ∧ Y.cell? ⟨w4.heap.size, 1, none⟩ = some (.int .i64 1) ∧ Y.cell? ⟨w4.heap.size, 2, none⟩ = some (.int .i64 2) ∧ Y.cell? ⟨w4.heap.size, 3, none⟩ = some (.int .i64 0) ∧ Y.cell? ⟨w4.heap.size, 4, none⟩ = some (.int .i64 0) ∧ Below w5.heap.size w5 Y) (by kernel_rfl) (by kernel_rfl) ⟨k0, k1, k2, k3, k4, (Below.refl _ _).drew⟩ ?_
  clear k0 k1 k2 k3 k4
  repeat
    first
    | go_big_quiet_skip
    | (go_big_quiet_want
       first
       | (go_big_quiet_op; go_big_quiet_on)
       | (apply Exists.intro
          refine ⟨fun X hX => ?_, ?_⟩
          · have hXX := Lib.hid hX
            obtain ⟨q0, q1, q2, q3, q4, eZ⟩ := hX
            clear eZ
            unfold Oper.quietAt
            go_simp
            first
            | (first | (go_at_call 11; exact PT.out _ hXX.out) | (go_at_call 12; exact PR.out _ hXX.out) | exact ⟨rfl, hXX.out⟩)
            | exact ⟨rfl, rfl⟩
            | exact rfl
          go_big_quiet_on
          try simp only [Act.put, List.setIfInBounds_toArray, List.set_cons_zero, List.set_cons_succ]))
  refine wpQuiet_nil ?_
  rintro Y ⟨-, -, -, -, -, hbY⟩
  have BY : Hid (Below w.heap.size w Y) := Lib.hid (L5.out.trans (hbY.mono L5.out.size))
  clear hbY
  go_wp2_with fail
  go_ret
  exact ⟨rfl, BY.out⟩
end Go.Proofs.YtlgjjoglajgbeaaDoor
