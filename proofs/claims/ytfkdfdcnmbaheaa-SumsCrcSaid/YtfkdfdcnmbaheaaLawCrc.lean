/- SumsCrc: the law's walk. By an AI agent. -/
import Derived.Test.YtfkdfdcnmbaheaaWalkC
import Derived.Test.YtfkdfdcnmbaheaaNum
namespace Go.Proofs.Ytfkdfdcnmbaheaa
open Go.RowKit
set_option linter.unusedVariables false
set_option linter.unusedSimpArgs false

set_option maxHeartbeats 800000 in
theorem lawCrc_any (v : Value) (l : List UInt8) (w : World) (hb : Bs w v l) (hl : l.length ≤ 140737488351232) :
    Calls Try.prog 5 #[v] w fun e w' => e = .returned (.bool true) ∧ Below w.heap.size w w' := by
  obtain ⟨a0, c0, rfl⟩ := hb.len
  have HB := Lib.hid hb
  have HL := Lib.hid hl
  have kc := fun (w : World) (C : Array Value) (n c : Nat) => Lib.run_convert_bytes_const (P := Try.prog) w 22 5 C n c Try.underlying22 Try.underlying5
  clear hb hl
  go_enter Try.func5, Try.ntmps5
  go_wp2_with fail
  refine (copy_any _ l _ HB.out HL.out).mono ?_; rintro e w1 ⟨v1, rfl, hc, hb1, hz1⟩
  have HC := Lib.hid hc
  obtain rfl := hc.1
  have HB1 := Lib.hid hb1
  have HZ1 := Lib.hid hz1
  clear hc hb1 hz1
  go_wp2_with fail
  have hw : crc ([[49, 50, 51, 52, 53, 54, 55, 56, 57]] : List (List UInt8)).flatten = 3421780262 := by decide +kernel
  refine (crc_any _ [[49, 50, 51, 52, 53, 54, 55, 56, 57]] _ ?hb (by simp) (by simp)).mono ?_
  case hb => exact bss_one (heap_new1 _ _ _) (bs_heap (n := 9) (cap := 9) _ (heap_new0 _ _ _) rfl rfl (by decide))
  rintro e w2 ⟨rfl, hw2⟩
  rw [hw]
  have hb2 : Below w1.heap.size w1 w2 := by rw [← hw2]; exact ((Below.refl _ _).alloc (Nat.le_refl _) _).alloc (by simp) _
  clear hw hw2
  have hb3 := HB1.out.trans (hb2.mono (Nat.le_of_lt HZ1.out))
  have HC2 := Lib.hid (HC.out.old hb2)
  have HB2 := Lib.hid (HB.out.old hb3)
  have HBB := Lib.hid hb3
  have HZ2 : Hid (w.heap.size < w2.heap.size) := Lib.hid (Nat.lt_of_lt_of_le HZ1.out hb2.size)
  clear hb2 hb3 HC HB HB1 HZ1
  go_wp2_with fail
  refine (crc_any _ [l] _ ?hb2 (by have := HL.out; simp; omega) (by simp)).mono ?_
  case hb2 => exact bss_one (heap_alloc_new _ _) (HC2.out.bs.old ((Below.refl _ _).alloc (Nat.le_refl _) _))
  rintro e w3 ⟨rfl, hw3⟩
  have hb4 : Below w2.heap.size w2 w3 := by rw [← hw3]; exact (Below.refl _ _).alloc (Nat.le_refl _) _
  clear hw3
  have HC3 := Lib.hid (HC2.out.old hb4)
  have HB3 := Lib.hid (HB2.out.old hb4)
  have HBB3 := Lib.hid (HBB.out.trans (hb4.mono (Nat.le_of_lt HZ2.out)))
  clear hb4 HC2 HB2 HBB HZ2
  have hfl : ([l] : List (List UInt8)).flatten = l := by simp
  rw [hfl]
  clear hfl
  go_wp2_with fail
  refine (refCrc_any _ l _ HB3.out (by have := HL.out; omega)).mono ?_; rintro e w' ⟨rfl, rfl⟩
  go_wp2_with fail
  refine (kept_any _ _ _ l _ HC3.out HB3.out HL.out).mono ?_; rintro e w' ⟨rfl, rfl⟩
  go_wp2_with fail
  go_ret
  exact ⟨rfl, HBB3.out⟩
end Go.Proofs.Ytfkdfdcnmbaheaa
