/- The walks of turn.of and turn.crossed. By an AI agent. -/
import Derived.Test.YtnhalnjdlkdnkaaBlk
import Derived.Handy
import Derived.Deep.OwnRows
import Derived.Lib.LazyBuf
namespace Go.Proofs.Ytnhalnjdlkdnkaa
open Go.RowKit
set_option linter.unusedVariables false
set_option linter.unusedSimpArgs false

def crossB (t : Int) : Bool := decide (t = 4 ∨ t = 5 ∨ t = 6 ∨ t = 7)
def flipB (t : Int) : Bool := decide (t = 1 ∨ t = 3 ∨ t = 5 ∨ t = 7)
def flopB (t : Int) : Bool := decide (t = 2 ∨ t = 3 ∨ t = 6 ∨ t = 7)
def wayV (c f o : Bool) : Value := .agg #[.bool c, .bool f, .bool o]

set_option maxHeartbeats 800000 in
theorem of_any (t : Int) (w : World) : Calls Try.prog 27 #[.int .i64 t] w fun e w' => e = .returned (wayV (crossB t) (flipB t) (flopB t)) ∧ Below w.heap.size w w' := by
  by_cases h : t = 1 ∨ t = 2 ∨ t = 3 ∨ t = 4 ∨ t = 5 ∨ t = 6 ∨ t = 7
  · rcases h with rfl | rfl | rfl | rfl | rfl | rfl | rfl
    all_goals
      go_enter Try.func27, Try.ntmps27
      go_wp2_with fail
      go_returns
      exact ⟨rfl, (Below.refl _ _).alloc (Nat.le_refl _) _⟩
  · have e1 : (t == 1) = false := by rw [beq_eq_false_iff_ne]; omega
    have e2 : (t == 2) = false := by rw [beq_eq_false_iff_ne]; omega
    have e3 : (t == 3) = false := by rw [beq_eq_false_iff_ne]; omega
    have e4 : (t == 4) = false := by rw [beq_eq_false_iff_ne]; omega
    have e5 : (t == 5) = false := by rw [beq_eq_false_iff_ne]; omega
    have e6 : (t == 6) = false := by rw [beq_eq_false_iff_ne]; omega
    have e7 : (t == 7) = false := by rw [beq_eq_false_iff_ne]; omega
    have F1 : Hid (crossB t = false) := Lib.hid (by unfold crossB; rw [decide_eq_false_iff_not]; omega)
    have F2 : Hid (flipB t = false) := Lib.hid (by unfold flipB; rw [decide_eq_false_iff_not]; omega)
    have F3 : Hid (flopB t = false) := Lib.hid (by unfold flopB; rw [decide_eq_false_iff_not]; omega)
    clear h
    go_enter Try.func27, Try.ntmps27
    go_wp2_with fail
    go_returns
    exact ⟨by rw [F1.out, F2.out, F3.out]; rfl, (Below.refl _ _).alloc (Nat.le_refl _) _⟩

/-- rows and columns change places -/
def crossL (l : List Int) : List Int := (List.range 64).map fun k => l.getD (k % 8 * 8 + k / 8) 0
theorem crossL_len (l : List Int) : (crossL l).length = 64 := by simp [crossL]
theorem cr_idx (k q r m : Nat) (h : k = 8 * q + r) (hr : r < 8) (hm : r * 8 + q = m) : k % 8 * 8 + k / 8 = m := by
  have h1 : k % 8 = r := by omega
  have h2 : k / 8 = q := by omega
  rw [h1, h2]; exact hm
def crF (l : List Int) (i k : Nat) : Value := if k % 8 * 8 + k / 8 < i then .int .i64 (l.getD (k % 8 * 8 + k / 8) 0) else .int .i64 0
theorem crF_step (l : List Int) (i : Nat) (hi : i < 64) (k : Nat) (hk : k < 64) : crF l (i + 1) k = if k = i % 8 * 8 + i / 8 then .int .i64 (l.getD i 0) else crF l i k := by
  unfold crF
  by_cases h : k = i % 8 * 8 + i / 8
  · have e : k % 8 * 8 + k / 8 = i := by omega
    rw [if_pos h, e, if_pos (by omega)]
  · rw [if_neg h]
    have e : k % 8 * 8 + k / 8 ≠ i := by omega
    by_cases h2 : k % 8 * 8 + k / 8 < i
    · rw [if_pos h2, if_pos (by omega)]
    · rw [if_neg h2, if_neg (by omega)]
theorem tyN4 : ElemTy Try.prog 31 3 (.int .i64 0) 1 8 := elemTy Try.underlying31 (by kernel_rfl) rfl (by decide)
set_option maxHeartbeats 1600000 in
theorem crossed_any (v : Value) (l : List Int) (w : World) (hb : Ns w v l) (hl : l.length = 64) :
    Calls Try.prog 28 #[v] w fun e w' => ∃ g, e = .returned (.slice (some ⟨g, 0, none⟩) 64 64) ∧ w.heap.size ≤ g ∧ w'.rowIs g 3 64 (fun k => .int .i64 ((crossL l).getD k 0)) ∧ Below w.heap.size w w' := by
  obtain ⟨a, cap, rfl, hcell⟩ := hb.read
  rw [hl]
  have HC := Lib.hid hcell
  have HL := Lib.hid hl
  clear hb hcell hl
  go_enter Try.func28, Try.ntmps28
  go_wp2_with (at_make; refine stop ?_)
  obtain ⟨ti, hti, htz, hts, htb⟩ := tyN4.hi
  refine unstop (wpList_make_row _ rfl _ _ _ rfl 3 ti (.int .i64 0) Try.underlying31 hti htz hts rfl .i64 .i64 64 rfl rfl (by rw [htb]; decide) (by decide) ?_)
  have hr0 : (w.alloc (.cells (madeCells #[.int .i64 0] 64) 3)).rowIs w.heap.size 3 64 (crF l 0) := (World.rowIs_made w (.int .i64 0) 64 3).congr (fun i _ => by unfold crF; rw [if_neg (Nat.not_lt_zero _)])
  obtain ⟨w1, hw1⟩ : ∃ w1, w.alloc (.cells (madeCells #[.int .i64 0] 64) 3) = w1 := ⟨_, rfl⟩
  have hb0 : Below w.heap.size w w1 := by rw [← hw1]; exact (Below.refl _ _).alloc (Nat.le_refl _) _
  rw [hw1] at hr0
  rw [hw1]
  have R0 := Lib.hid hr0
  have B0 := Lib.hid hb0
  clear hr0 hti htz hts htb hw1 hb0
  go_wp2_with fail
  go_loopw [11] (fun i w' => ∃ k : Nat, k ≤ 64 ∧ i = .int .i64 k ∧ w'.rowIs w.heap.size 3 64 (crF l k) ∧ Below w.heap.size w w') (fun i _ => 64 - (intOf i).toNat)
  case atStart => exact ⟨0, Nat.zero_le _, rfl, R0.out, B0.out⟩
  case round =>
    obtain ⟨k, hk, rfl, hrow, hbl⟩ := hrel
    have HR := Lib.hid hrow
    have HB := Lib.hid hbl
    clear hrow hbl R0 B0
    by_cases hk6 : k < 64
    · have f1 : decide (k < 64) = true := by rw [decide_eq_true_eq]; exact hk6
      have f1' : decide ((k : Int) < 64) = true := by rw [decide_eq_true_eq]; omega
      obtain ⟨b, off, rfl, hc⟩ := HC.out k (by rw [HL.out]; exact hk6)
      have hc' := cell_old HB.out hc
      have hx : l[k]'(by rw [HL.out]; exact hk6) = l.getD k 0 := by rw [List.getD_eq_getElem?_getD, List.getElem?_eq_getElem]; rfl
      rw [hx] at hc'
      clear hc hx
      obtain ⟨q, r, hqr, hr8, hq8⟩ : ∃ q r : Nat, k = 8 * q + r ∧ r < 8 ∧ q < 8 := ⟨k / 8, k % 8, by omega, by omega, by omega⟩
      have t3 : (k : Int) / 8 = (q : Int) := by omega
      have t4 : (k : Int) % 8 = (r : Int) := by omega
      obtain ⟨m, hm⟩ : ∃ m, r * 8 + q = m := ⟨_, rfl⟩
      have m64 : m < 64 := by clear t3 t4; omega
      have i1 : (m : Int) < 64 := Int.ofNat_lt.2 m64
      have i2 : decide (m < 64) = true := by rw [decide_eq_true_eq]; exact m64
      have w1 : wrap64 ((r : Int) * 8) = (r : Int) * 8 ∧ IntKind.i64.wrap ((r : Int) * 8) = (r : Int) * 8 := ⟨IntWalk.wrap64_in _ (by omega), IntWalk.i64_in _ (by omega)⟩
      have w2 : wrap64 ((r : Int) * 8 + (q : Int)) = (m : Int) ∧ IntKind.i64.wrap ((r : Int) * 8 + (q : Int)) = (m : Int) := ⟨by rw [IntWalk.wrap64_in _ (by omega)]; omega, by rw [IntWalk.i64_in _ (by omega)]; omega⟩
      have w3 : wrap64 (q : Int) = (q : Int) ∧ IntKind.i64.wrap (q : Int) = (q : Int) := ⟨IntWalk.wrap64_in _ (by omega), IntWalk.i64_in _ (by omega)⟩
      obtain ⟨w1a, w1b⟩ := w1
      obtain ⟨w2a, w2b⟩ := w2
      obtain ⟨w3a, w3b⟩ := w3
      have c1 := HR.out.cell m64
      have c2 := HR.out.frozen m
      have hmk : k % 8 * 8 + k / 8 = m := cr_idx k q r m hqr hr8 hm
      have STEP : Hid ((wr.setCell ⟨w.heap.size, m, none⟩ (.int .i64 (l.getD k 0))).rowIs w.heap.size 3 64 (crF l (k + 1))) := Lib.hid ((HR.out.set m (.int .i64 (l.getD k 0))).congr (fun j hj => by rw [crF_step l k hk6 j hj, hmk]))
      have BS : Hid (Below w.heap.size w (wr.setCell ⟨w.heap.size, m, none⟩ (.int .i64 (l.getD k 0)))) := Lib.hid (HB.out.setCell (by exact Nat.le_refl _) _)
      clear hqr hm hmk hr8 hq8
      obtain ⟨y, hy⟩ : ∃ y, crF l k m = y := ⟨_, rfl⟩
      rw [hy] at c1
      obtain ⟨x, hx⟩ : ∃ x, l.getD k 0 = x := ⟨_, rfl⟩
      rw [hx] at hc' STEP BS
      clear hy hx
      go_wp2_with fail
      go_roundw
      case rel => exact ⟨k + 1, by omega, by go_num, STEP.out, BS.out⟩
      case measure => simp [intOf]; omega
    · obtain rfl : k = 64 := by omega
      go_wp2_with fail
      go_ret
      refine ⟨_, rfl, Nat.le_refl _, HR.out.congr (fun j hj => ?_), HB.out⟩
      unfold crF
      rw [if_pos (by omega)]
      simp [crossL, hj]
end Go.Proofs.Ytnhalnjdlkdnkaa
