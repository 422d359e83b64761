/- The walk of burnishnum.Over: only the bytes' own block turns. By an AI agent. -/
import Derived.Test.YtlljooncoingnaaNum
import Derived.Deep.OwnRows
namespace Go.Proofs.Ytlljooncoingnaa
open Go.RowKit
set_option linter.unusedVariables false
set_option linter.unusedSimpArgs false

theorem grownBy_refl (w : World) (r : Option Nat) : w.grownBy w r := ⟨rfl, rfl, rfl, Nat.le_refl _, fun _ _ _ => rfl⟩
theorem grownBy_trans {a b c : World} {r : Option Nat} (h : a.grownBy b r) (k : b.grownBy c r) : a.grownBy c r :=
  ⟨k.os.trans h.os, k.tape.trans h.tape, k.output.trans h.output, Nat.le_trans h.size k.size, fun i hi hne => (k.block i (Nat.lt_of_lt_of_le hi h.size) hne).trans (h.block i hi hne)⟩
theorem grownBy_set (V : World) (r i : Nat) (v : Value) : V.grownBy (V.setCell ⟨r, i, none⟩ v) (some r) :=
  ⟨rfl, rfl, rfl, by simp, fun k hk hne => Go.Deep.blk_setCell_other _ _ _ _ (by simp only; intro he; exact hne (by rw [he]))⟩
/-- a block of n bytes and more, not frozen -/
def Rowb (w : World) (g n : Nat) : Prop := ∃ C : Array Value, w.heap[g]? = some (.cells C 5 (0, 0)) ∧ n ≤ C.size ∧ ∀ i, i < n → ∃ c : Int, C[i]? = some (.int .u8 c)
theorem Rowb.set {w : World} {g n i : Nat} (h : Rowb w g n) (c : Int) : Rowb (w.setCell ⟨g, i, none⟩ (.int .u8 c)) g n := by
  obtain ⟨C, h1, h2, h3⟩ := h
  refine ⟨_, heap_setCell_same _ _ _ _ _ _ h1, by simpa using h2, fun j hj => ?_⟩
  by_cases e : j = i
  · subst e
    exact ⟨c, by simp [show j < C.size by omega]⟩
  · obtain ⟨d, hd⟩ := h3 j hj
    exact ⟨d, by rw [Array.getElem?_setIfInBounds_ne (Ne.symm e)]; exact hd⟩
theorem Cp.rowb {w : World} {v : Value} {g : Nat} {l : List UInt8} (h : Cp w v g l) : Rowb w g l.length := by
  refine ⟨_, h.2, by simp [vBs], fun i hi => ⟨(l[i].toNat : Int), ?_⟩⟩
  rw [List.getElem?_toArray, List.getElem?_append_left (by simpa [vBs] using hi)]
  simp [vBs, vB, hi]

set_option maxHeartbeats 1600000 in
theorem over_any (g n cap : Nat) (w : World) (h : Rowb w g n) (hn : n ≤ 140737488355328) :
    Calls Try.prog 19 #[.slice (some ⟨g, 0, none⟩) n cap] w fun e w' => (∃ v, e = .returned v) ∧ w.grownBy w' (some g) := by
  have HR := Lib.hid h
  clear h
  go_enter Try.func19, Try.ntmps19
  go_wp2_with fail
  go_loopw [5] (fun i wr => ∃ k : Nat, k ≤ n ∧ i = .int .i64 k ∧ Rowb wr g n ∧ w.grownBy wr (some g)) (fun i _ => n - (intOf i).toNat)
  case atStart => exact ⟨0, Nat.zero_le _, rfl, HR.out, grownBy_refl _ _⟩
  case round =>
    obtain ⟨k, hk, rfl, hr, hg⟩ := hrel
    have HG := Lib.hid hg
    have RB := Lib.hid hr
    by_cases hkn : k < n
    · have f1 : decide ((k : Int) < (n : Int)) = true := by rw [decide_eq_true_eq]; omega
      have f2 : decide (k < n) = true := by rw [decide_eq_true_eq]; exact hkn
      obtain ⟨C, h1, h2, h3⟩ := hr
      obtain ⟨c, hc⟩ := h3 k hkn
      have c1 : wr.cell? ⟨g, k, none⟩ = some (.int .u8 c) := by rw [cell_of_row _ _ _ _ _ _ h1]; exact hc
      have c2 : wr.frozen? ⟨g, k, none⟩ = false := by simp [World.frozen?, h1]
      clear hg h1 h2 h3 hc
      go_wp2_with fail
      go_roundw
      case rel => exact ⟨k + 1, by omega, by go_num, RB.out.set _, grownBy_trans HG.out (grownBy_set _ _ _ _)⟩
      case measure => simp [intOf]; omega
    · obtain rfl : k = n := by omega
      have f1 : decide ((k : Int) < (k : Int)) = false := by rw [decide_eq_false_iff_not]; omega
      clear hg hr
      go_wp2_with fail
      go_end0
      exact ⟨⟨_, rfl⟩, HG.out⟩
end Go.Proofs.Ytlljooncoingnaa
