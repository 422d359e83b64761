/- slices.Index and slices.Contains at ints. By an AI agent. -/
import Derived.Test.YtlgjjoglajgbeaaDoorProg
import Derived.Test.YtlgjjoglajgbeaaDoorInts
namespace Go.Proofs.YtlgjjoglajgbeaaDoor
open Go.RowKit
set_option linter.unusedVariables false
set_option linter.unusedSimpArgs false

def Idx (l : List Int) (x : Int) (w : World) (e : Ending) (w' : World) : Prop := ∃ n : Int, e = .returned (.int .i64 n) ∧ (0 ≤ n ↔ x ∈ l) ∧ w = w'
set_option maxHeartbeats 800000 in
theorem index_any (v : Value) (l : List Int) (x : Int) (w : World) (hb : Ns w v l) (hl : l.length ≤ 1048576) : Calls Tryd.prog 47 #[v, .int .i64 x] w (Idx l x w) := by
  obtain ⟨a, cap, rfl, hcell⟩ := hb.read
  have HC := Lib.hid hcell
  clear hcell hb
  go_enter Tryd.func47, Tryd.ntmps47
  go_wp2
  go_loop [5, 8] (fun _ i => ∃ k : Nat, k ≤ l.length ∧ i = .int .i64 k ∧ x ∉ l.take k) (fun _ i => l.length - (intOf i).toNat)
  case atStart => exact ⟨0, Nat.zero_le _, rfl, by simp⟩
  case round =>
    obtain ⟨k, hk, rfl, hno⟩ := hrel
    have HNO := Lib.hid hno
    clear hno
    by_cases hkl : k < l.length
    · obtain ⟨b, off, rfl, hc⟩ := HC.out k hkl
      have hmem : Hid (x ∈ l.take (k + 1) ↔ x ∈ l.take k ∨ x = l[k]) := Lib.hid (by rw [List.take_succ_eq_append_getElem hkl, List.mem_append, List.mem_singleton])
      have hin : Hid (l[k] ∈ l) := Lib.hid (List.getElem_mem _)
      generalize l[k] = y at *
      by_cases hxy : x = y
      · have e1 : (x == y) = true := by rw [beq_iff_eq]; exact hxy
        have HXY := Lib.hid hxy
        clear hxy
        go_wp2
        go_ret
        exact ⟨_, rfl, ⟨fun _ => HXY.out ▸ hin.out, fun _ => by omega⟩, rfl⟩
      · have e1 : (x == y) = false := by rw [beq_eq_false_iff_ne]; exact hxy
        have HXY := Lib.hid hxy
        clear hxy
        go_wp2
        go_round
        case rel => exact ⟨k + 1, by omega, by go_num, fun h => (hmem.out.1 h).elim HNO.out HXY.out⟩
        case measure => simp [intOf]; omega
    · obtain rfl : k = l.length := by omega
      have hno : Hid (x ∉ l) := Lib.hid (by have := HNO.out; rwa [List.take_length] at this)
      go_wp2
      go_ret
      exact ⟨-1, rfl, ⟨fun h => absurd h (by decide), fun h => absurd h hno.out⟩, rfl⟩
theorem contains_any (v : Value) (l : List Int) (x : Int) (w : World) (hb : Ns w v l) (hl : l.length ≤ 1048576) : Calls Tryd.prog 38 #[v, .int .i64 x] w fun e w' => e = .returned (.bool (decide (x ∈ l))) ∧ w = w' := by
  have HB := Lib.hid hb
  have HL := Lib.hid hl
  clear hb hl
  go_enter Tryd.func38, Tryd.ntmps38
  go_wp2_with fail
  refine (index_any v l x _ HB.out HL.out).mono ?_; rintro e w' ⟨n, rfl, hn, rfl⟩
  have HN := Lib.hid hn
  clear hn
  go_wp2
  go_ret
  refine ⟨rb ?_, rfl⟩
  have := HN.out
  simp only [this]
end Go.Proofs.YtlgjjoglajgbeaaDoor
