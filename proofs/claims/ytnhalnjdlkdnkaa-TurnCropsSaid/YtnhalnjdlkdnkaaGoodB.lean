/- Is a block good? scan.Check, burnishref21.Good; which markers are kept. By an AI agent. -/
import Derived.Test.YtnhalnjdlkdnkaaEqlB
import Derived.Test.YtnhalnjdlkdnkaaErr
import Derived.Deep.DeepCutAuto
namespace Go.Proofs.Ytnhalnjdlkdnkaa
open Go.RowKit Go.BigFrame
set_option linter.unusedVariables false
set_option linter.unusedSimpArgs false
set_option maxRecDepth 20000

def dcB (n : Int) : Bool := decide (-1024 ≤ n) && decide (n ≤ 1023)
def acB (n : Int) : Bool := decide (-1023 ≤ n) && decide (n ≤ 1023)
def blkB (b : List Int) : Bool := (b.drop 1).all acB && dcB (b.getD 0 0)
/-- the error's number -/
def chkN (q : Bool) : Int := if q then 0 else 6
def keptB (m : Int) : Bool := decide (m = 254) || (decide (224 ≤ m) && decide (m ≤ 239))
theorem dcIn_any (n : Int) (w : World) : Calls Try.prog 85 #[.int .i64 n] w fun e w' => e = .returned (.bool (dcB n)) ∧ w = w' := by
  rcases h1 : decide ((-1024 : Int) ≤ n) with _ | _ <;> rcases h2 : decide (n ≤ (1023 : Int)) with _ | _
  all_goals
    go_enter Try.func85, Try.ntmps85
    go_wp2
    go_ret
    exact ⟨rb (by simp only [dcB, h1, h2]; rfl), rfl⟩
theorem refDC_any (n : Int) (w : World) : Calls Try.prog 64 #[.int .i64 n] w fun e w' => e = .returned (.bool (dcB n)) ∧ w = w' := by
  rcases h1 : decide ((-1024 : Int) ≤ n) with _ | _ <;> rcases h2 : decide (n ≤ (1023 : Int)) with _ | _
  all_goals
    go_enter Try.func64, Try.ntmps64
    go_wp2
    go_ret
    exact ⟨rb (by simp only [dcB, h1, h2]; rfl), rfl⟩
theorem kept_any (n : Int) (w : World) : Calls Try.prog 55 #[.int .i64 n] w fun e w' => e = .returned (.bool (keptB n)) ∧ w = w' := by
  have c : (((n == 254) = true) ∧ keptB n = true) ∨ ((n == 254) = false ∧ decide (224 ≤ n) = false ∧ keptB n = false) ∨ ((n == 254) = false ∧ decide (224 ≤ n) = true ∧ decide (n < 240) = true ∧ keptB n = true) ∨ ((n == 254) = false ∧ decide (224 ≤ n) = true ∧ decide (n < 240) = false ∧ keptB n = false) := by
    unfold keptB
    simp only [decide_eq_true_eq, decide_eq_false_iff_not, Bool.or_eq_true, Bool.and_eq_true, Bool.or_eq_false_iff, Bool.and_eq_false_iff, beq_iff_eq, beq_eq_false_iff_ne]
    omega
  rcases c with ⟨g1, g⟩ | ⟨g1, g2, g⟩ | ⟨g1, g2, g3, g⟩ | ⟨g1, g2, g3, g⟩
  all_goals
    rw [g]
    clear g
    go_enter Try.func55, Try.ntmps55
    go_wp2
    go_ret
    exact ⟨rfl, rfl⟩
theorem refKept_any (n : Int) (w : World) : Calls Try.prog 41 #[.int .i64 n] w fun e w' => e = .returned (.bool (keptB n)) ∧ w = w' := by
  have c : (((n == 254) = true) ∧ keptB n = true) ∨ ((n == 254) = false ∧ decide (224 ≤ n) = false ∧ keptB n = false) ∨ ((n == 254) = false ∧ decide (224 ≤ n) = true ∧ decide (n ≤ 239) = true ∧ keptB n = true) ∨ ((n == 254) = false ∧ decide (224 ≤ n) = true ∧ decide (n ≤ 239) = false ∧ keptB n = false) := by
    unfold keptB
    simp only [decide_eq_true_eq, decide_eq_false_iff_not, Bool.or_eq_true, Bool.and_eq_true, Bool.or_eq_false_iff, Bool.and_eq_false_iff, beq_iff_eq, beq_eq_false_iff_ne]
    omega
  rcases c with ⟨g1, g⟩ | ⟨g1, g2, g⟩ | ⟨g1, g2, g3, g⟩ | ⟨g1, g2, g3, g⟩
  all_goals
    rw [g]
    clear g
    go_enter Try.func41, Try.ntmps41
    go_wp2
    go_ret
    exact ⟨rfl, rfl⟩
/-- a box of 64 numbers, read -/
theorem box_at {w : World} {B : Nat} {b : List Int} (h : w.heap[B]? = some (.cells (vIs b).toArray 23 (0, 0))) (j : Nat) (hj : j < b.length) : w.cell? ⟨B, j, none⟩ = some (.int .i64 b[j]) := by
  rw [cell_of_row _ _ j _ _ _ h]
  simp [vIs, vI, hj]
theorem drop1_take (b : List Int) (k : Nat) (hk : k + 1 < b.length) : ((b.drop 1).take (k + 1)).all acB = (((b.drop 1).take k).all acB && acB b[k + 1]) := by
  rw [List.take_succ_eq_append_getElem (by rw [List.length_drop]; omega), List.all_append]
  simp [Nat.add_comm]
set_option maxRecDepth 20000 in
set_option maxHeartbeats 4000000 in
theorem checkB_any (b : List Int) (w : World) (hb : Blk64 b) : Calls Try.prog 72 #[arr b] w fun e w' => e = .returned (errV (chkN (blkB b))) ∧ Below w.heap.size w w' := by
  obtain ⟨w1, hw1⟩ : ∃ w1, w.alloc (.cells (vIs b).toArray 23) = w1 := ⟨_, rfl⟩
  have hb1 : Below w.heap.size w w1 := by rw [← hw1]; exact (Below.refl _ _).alloc (Nat.le_refl _) _
  obtain ⟨B, hB⟩ : ∃ B, w.heap.size = B := ⟨_, rfl⟩
  have hx1 : w1.heap[B]? = some (.cells (vIs b).toArray 23 (0, 0)) := by rw [← hw1, ← hB]; exact heap_alloc_new _ _
  have X1 := Lib.hid hx1
  have B1 := Lib.hid hb1
  have HB := Lib.hid hB
  have H64 := Lib.hid hb.1
  clear hb hb1 hx1
  unfold arr
  go_enter Try.func72, Try.ntmps72
  go_wp2_with fail
  clear hw1 hB
  go_loopw [7] (fun i W => ∃ k : Nat, k ≤ 63 ∧ i = .int .i64 (k : Nat) ∧ ((b.drop 1).take k).all acB = true ∧ w1 = W) (fun i _ => 63 - (intOf i).toNat)
  case atStart => exact ⟨0, Nat.zero_le _, rfl, by simp, rfl⟩
  case round =>
    obtain ⟨k, hk, rfl, ha, rfl⟩ := hrel
    have HA := Lib.hid ha
    clear ha
    by_cases hkl : k < 63
    · have f1 : decide ((k : Int) < 63) = true := by rw [decide_eq_true_eq]; omega
      have f1' : decide (k < 63) = true := by rw [decide_eq_true_eq]; omega
      have f2 : (k : Int) < 63 := by omega
      have hkb : k + 1 < b.length := by rw [H64.out]; omega
      have c1 := box_at X1.out (k + 1) hkb
      have AS := Lib.hid (drop1_take b k hkb)
      have NA : Hid (acB (b[k + 1]'hkb) = false → blkB b = false) := Lib.hid (fun h => by
        have : (b.drop 1).all acB = false := by
          rw [List.all_eq_false]
          exact ⟨b[k + 1]'hkb, by rw [List.mem_iff_getElem]; exact ⟨k, by rw [List.length_drop]; omega, by simp [Nat.add_comm]⟩, by simp [h]⟩
        unfold blkB; rw [this]; rfl)
      obtain ⟨x, hx⟩ : ∃ x, b[k + 1]'hkb = x := ⟨_, rfl⟩
      rw [hx] at c1 AS NA
      rw [Nat.add_comm k 1] at c1
      have gk : IntKind.i64.wrap ((k : Int) + 1) = (k : Int) + 1 := IntWalk.i64_in _ (by omega)
      have HKL := Lib.hid hkl
      clear hx hkb
      have cs : (decide (x < -1023) = true ∧ acB x = false) ∨ (decide (x < -1023) = false ∧ decide (1023 < x) = true ∧ acB x = false) ∨ (decide (x < -1023) = false ∧ decide (1023 < x) = false ∧ acB x = true) := by
        unfold acB
        simp only [decide_eq_true_eq, decide_eq_false_iff_not, Bool.and_eq_true, Bool.and_eq_false_iff]
        omega
      rcases cs with ⟨v1, o⟩ | ⟨v1, v2, o⟩ | ⟨v1, v2, o⟩
      case inr.inr =>
        have AO := Lib.hid o
        clear o
        go_wp2_with fail
        go_roundw
        case rel => exact ⟨k + 1, HKL.out, by go_num, by rw [AS.out, HA.out, AO.out]; rfl, by first | rfl | trivial⟩
        case measure => simp [intOf]; have := HKL.out; omega
      all_goals
        have AO := Lib.hid (NA.out o)
        clear o
        go_wp2_with fail
        go_ret
        exact ⟨by rw [AO.out]; rfl, B1.out⟩
    · obtain rfl : k = 63 := by omega
      have c0 := box_at X1.out 0 (by rw [H64.out]; omega)
      have AL : Hid ((b.drop 1).all acB = true) := Lib.hid (by have := HA.out; rwa [List.take_of_length_le (by rw [List.length_drop, H64.out]; omega)] at this)
      have HG : Hid (b.getD 0 0 = b[0]'(by rw [H64.out]; omega)) := Lib.hid (by rw [List.getD_eq_getElem?_getD, List.getElem?_eq_getElem (by rw [H64.out]; omega)]; rfl)
      obtain ⟨x, hx⟩ : ∃ x, b[0]'(by rw [H64.out]; omega) = x := ⟨_, rfl⟩
      rw [hx] at c0 HG
      have BB : Hid (blkB b = dcB x) := Lib.hid (by unfold blkB; rw [AL.out, HG.out]; rfl)
      clear hx
      go_wp2_with fail
      refine (dcIn_any x _).mono ?_
      rintro e w2 ⟨rfl, rfl⟩
      cases hd : dcB x with
      | false =>
        rw [hd] at BB
        go_wp2_with fail
        go_ret
        exact ⟨by rw [BB.out]; rfl, B1.out⟩
      | true =>
        rw [hd] at BB
        go_wp2_with fail
        go_ret
        exact ⟨by rw [BB.out]; rfl, B1.out⟩
set_option maxRecDepth 20000 in
set_option maxHeartbeats 4000000 in
theorem refGoodB_any (b : List Int) (w : World) (hb : Blk64 b) : Calls Try.prog 40 #[arr b] w fun e w' => e = .returned (.bool (blkB b)) ∧ Below w.heap.size w w' := by
  obtain ⟨w1, hw1⟩ : ∃ w1, w.alloc (.cells (vIs b).toArray 23) = w1 := ⟨_, rfl⟩
  have hb1 : Below w.heap.size w w1 := by rw [← hw1]; exact (Below.refl _ _).alloc (Nat.le_refl _) _
  obtain ⟨B, hB⟩ : ∃ B, w.heap.size = B := ⟨_, rfl⟩
  have hx1 : w1.heap[B]? = some (.cells (vIs b).toArray 23 (0, 0)) := by rw [← hw1, ← hB]; exact heap_alloc_new _ _
  have X1 := Lib.hid hx1
  have B1 := Lib.hid hb1
  have HB := Lib.hid hB
  have H64 := Lib.hid hb.1
  clear hb hb1 hx1
  unfold arr
  go_enter Try.func40, Try.ntmps40
  go_wp2_with fail
  clear hw1 hB
  go_loopw [3] (fun i W => ∃ k : Nat, k ≤ 63 ∧ i = .int .i64 ((k + 1 : Nat) : Int) ∧ ((b.drop 1).take k).all acB = true ∧ w1 = W) (fun i _ => 64 - (intOf i).toNat)
  case atStart => exact ⟨0, Nat.zero_le _, rfl, by simp, rfl⟩
  case round =>
    obtain ⟨k, hk, rfl, ha, rfl⟩ := hrel
    have HA := Lib.hid ha
    clear ha
    obtain ⟨j, hj⟩ : ∃ j, k + 1 = j := ⟨_, rfl⟩
    have HJ := Lib.hid hj
    rw [hj]
    by_cases hkl : k < 63
    · have f1 : decide ((j : Int) < 64) = true := by rw [decide_eq_true_eq]; omega
      have f1' : decide (j < 64) = true := by rw [decide_eq_true_eq]; omega
      have f2 : (j : Int) < 64 := by omega
      have hkb : k + 1 < b.length := by rw [H64.out]; omega
      have c1 := box_at X1.out (k + 1) hkb
      have AS := Lib.hid (drop1_take b k hkb)
      have NA : Hid (acB (b[k + 1]'hkb) = false → blkB b = false) := Lib.hid (fun h => by
        have : (b.drop 1).all acB = false := by
          rw [List.all_eq_false]
          exact ⟨b[k + 1]'hkb, by rw [List.mem_iff_getElem]; exact ⟨k, by rw [List.length_drop]; omega, by simp [Nat.add_comm]⟩, by simp [h]⟩
        unfold blkB; rw [this]; rfl)
      obtain ⟨x, hx⟩ : ∃ x, b[k + 1]'hkb = x := ⟨_, rfl⟩
      rw [hx] at c1 AS NA
      rw [hj] at c1
      have gk : IntKind.i64.wrap ((j : Int) + 1) = (j : Int) + 1 := IntWalk.i64_in _ (by omega)
      have HKL := Lib.hid hkl
      clear hx hkb hj
      have cs : (decide (x < -1023) = true ∧ acB x = false) ∨ (decide (x < -1023) = false ∧ decide (1023 < x) = true ∧ acB x = false) ∨ (decide (x < -1023) = false ∧ decide (1023 < x) = false ∧ acB x = true) := by
        unfold acB
        simp only [decide_eq_true_eq, decide_eq_false_iff_not, Bool.and_eq_true, Bool.and_eq_false_iff]
        omega
      rcases cs with ⟨v1, o⟩ | ⟨v1, v2, o⟩ | ⟨v1, v2, o⟩
      case inr.inr =>
        have AO := Lib.hid o
        clear o
        go_wp2_with fail
        go_roundw
        case rel => exact ⟨k + 1, HKL.out, by rw [HJ.out]; go_num, by rw [AS.out, HA.out, AO.out]; rfl, by first | rfl | trivial⟩
        case measure => simp [intOf]; have := HKL.out; have := HJ.out; omega
      all_goals
        have AO := Lib.hid (NA.out o)
        clear o
        go_wp2_with fail
        go_ret
        exact ⟨by rw [AO.out]; rfl, B1.out⟩
    · have hj64 : j = 64 := by omega
      subst hj64
      have c0 := box_at X1.out 0 (by rw [H64.out]; omega)
      have AL : Hid ((b.drop 1).all acB = true) := Lib.hid (by have := HA.out; rwa [List.take_of_length_le (by rw [List.length_drop, H64.out]; omega)] at this)
      have HG : Hid (b.getD 0 0 = b[0]'(by rw [H64.out]; omega)) := Lib.hid (by rw [List.getD_eq_getElem?_getD, List.getElem?_eq_getElem (by rw [H64.out]; omega)]; rfl)
      obtain ⟨x, hx⟩ : ∃ x, b[0]'(by rw [H64.out]; omega) = x := ⟨_, rfl⟩
      rw [hx] at c0 HG
      have BB : Hid (blkB b = dcB x) := Lib.hid (by unfold blkB; rw [AL.out, HG.out]; rfl)
      clear hx hj
      go_wp2_with fail
      refine (refDC_any x _).mono ?_
      rintro e w2 ⟨rfl, rfl⟩
      go_wp2_with fail
      go_ret
      exact ⟨by rw [BB.out]; rfl, B1.out⟩
/-- the closure over a block -/
theorem badB_any (b : List Int) (w : World) (hb : Blk64 b) : Calls Try.prog 71 #[arr b] w fun e w' => e = .returned (.bool (!blkB b)) ∧ Below w.heap.size w w' := by
  obtain ⟨w1, hw1⟩ : ∃ w1, w.alloc (.cells (vIs b).toArray 23) = w1 := ⟨_, rfl⟩
  have hb1 : Below w.heap.size w w1 := by rw [← hw1]; exact (Below.refl _ _).alloc (Nat.le_refl _) _
  obtain ⟨B, hB⟩ : ∃ B, w.heap.size = B := ⟨_, rfl⟩
  have hx1 : w1.heap[B]? = some (.cells (vIs b).toArray 23 (0, 0)) := by rw [← hw1, ← hB]; exact heap_alloc_new _ _
  have RG : Hid (w1.rangeAt B 0 (vIs b)) := Lib.hid (fun j v hj => by rw [Nat.zero_add, cell_of_row _ _ j _ _ _ hx1]; simpa using hj)
  have B1 := Lib.hid hb1
  have HB := Lib.hid hB
  have H64 := Lib.hid hb
  have HI := Lib.hid (blk_info hb.1)
  clear hb hb1 hx1
  unfold arr
  go_enter Try.func71, Try.ntmps71
  go_wp2_with (refine wpList_load_mid rfl _ _ rfl B 0 rfl (vIs b) _ RG.out Try.underlying23 rfl HI.out ?_; refine stop ?_)
  refine unstop ?_
  clear hw1
  go_wp2_with fail
  refine (checkB_any b w1 H64.out).mono ?_
  rintro e w2 ⟨rfl, hb2⟩
  have B2 := Lib.hid (B1.out.trans (hb2.mono B1.out.size))
  clear hb2
  obtain ⟨q, hq⟩ : ∃ q, blkB b = q := ⟨_, rfl⟩
  rw [hq]
  have HX := Lib.hid hq
  clear hq
  cases q with
  | true =>
    have e0 : errV (chkN true) = .nilIface := rfl
    rw [e0]
    go_wp2_with fail
    go_ret
    exact ⟨by rw [HX.out]; rfl, B2.out⟩
  | false =>
    have e0 : errV (chkN false) = .iface 47 (.int .i64 6) := rfl
    rw [e0]
    go_wp2_with fail
    go_ret
    exact ⟨by rw [HX.out]; rfl, B2.out⟩
end Go.Proofs.Ytnhalnjdlkdnkaa
