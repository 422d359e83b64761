/- burnishlaw08.alive walked. By an AI agent. -/
import Derived.Test.YtbfpofgbapkkeaaLong
import Derived.Test.YtbfpofgbapkkeaaNear
import Derived.Laws.StructEq
namespace Go.Proofs.Ytbfpofgbapkkeaa
open Go.RowKit Go.Shelf
set_option linter.unusedVariables false
set_option linter.unusedSimpArgs false

theorem Fin.fv {B : Nat} {w : World} {v : Value} {l : List UInt8} (h : Fin B w v l) : ∃ g bs, v = .pointer (some ⟨g, 0, none⟩) ∧ FV bs w v (some l) ∧ ∀ b ∈ bs, B ≤ b ∧ b < w.heap.size := by
  obtain ⟨g, tv, pv, rfl, h1, h2, h3, b1, b2, b3⟩ := h
  by_cases h0 : l.length = 0
  · refine ⟨g, [g], rfl, ⟨g, tv, pv, rfl, by simp, fun b hb hn => by omega, fun b hb hn => by omega, h1, h2, h3⟩, ?_⟩
    intro b hb
    rw [List.mem_singleton] at hb
    subst hb
    exact ⟨b1, (Array.getElem?_eq_some_iff.1 h1).1⟩
  · refine ⟨g, g :: (tv.ownBlock.toList ++ pv.ownBlock.toList), rfl, ⟨g, tv, pv, rfl, by simp, fun b hb _ => by simp [hb], fun b hb _ => by simp [hb], h1, h2, h3⟩, ?_⟩
    intro b hb
    rw [List.mem_cons, List.mem_append] at hb
    rcases hb with rfl | hb | hb
    · exact ⟨b1, (Array.getElem?_eq_some_iff.1 h1).1⟩
    · exact ⟨b2 b (by simpa using hb), slN_lt h2 (by decide) (by omega) b (by simpa using hb)⟩
    · exact ⟨b3 b (by simpa using hb), slN_lt h3 (by decide) (by simp [prevL]; omega) b (by simpa using hb)⟩
theorem alive_b : betterL (some [97, 98, 99, 97, 98, 99, 97, 98, 99]) 3 = [(6, 3)] := by decide +kernel

set_option maxRecDepth 20000 in
set_option maxHeartbeats 3200000 in
theorem alive_any (w : World) : Calls Try.prog 10 #[] w fun e w' => e = .returned (.bool true) ∧ Below w.heap.size w w' := by
  have kc := fun (w : World) (C : Array Value) (n c g : Nat) (hg : g = w.heap.size) => Joins.run_convert_bytes_const_at (P := Try.prog) w 22 5 C n c g hg Try.underlying22 Try.underlying5
  go_enter Try.func10, Try.ntmps10
  go_wp2_with fail
  refine (newFinder_any _ [97, 98, 99, 97, 98, 99, 97, 98, 99] _ ?h1 (by decide)).mono ?_
  case h1 => exact bs_heap (n := 9) (cap := 9) _ (heap_alloc_new _ _) rfl rfl (by decide)
  rintro e w1 ⟨f, rfl, hF, hb1⟩
  have hbl : Below w.heap.size w w1 := ((Below.refl _ _).alloc (Nat.le_refl _) _).trans (hb1.mono (by simp))
  obtain ⟨g, bs, rfl, hFV, hbs⟩ := hF.fv
  have BL := Lib.hid hbl
  have FV1 := Lib.hid hFV
  have BS := Lib.hid (fun b hb => (hbs b hb).2)
  clear hb1 hbl hFV hbs hF kc
  go_wp2_with fail
  refine (longest_any bs 3 (some ⟨g, 0, none⟩) (some [97, 98, 99, 97, 98, 99, 97, 98, 99]) _ (by decide) (by decide) FV1.out BS.out).mono ?_
  rintro e w2 ⟨rfl, hb2⟩
  rw [alive_b, show tokC (lastT [(6, 3)]) = #[.int .i64 6, .int .i64 3] from rfl, show decide (0 < (lastT [(6, 3)]).1) = true from rfl]
  have B2 := Lib.hid (BL.out.trans (hb2.mono BL.out.size))
  have FV2 := Lib.hid (FV1.out.keep (KeepB.below hb2 hb2.size BS.out))
  have SZ : Hid (w1.heap.size ≤ w2.heap.size) := Lib.hid hb2.size
  clear hb2
  go_wp2_with fail
  have ba : Below w2.heap.size w2 (w2.alloc (.cells #[.int .i64 6, .int .i64 3] 24)) := (Below.refl _ _).alloc (Nat.le_refl _) _
  have BS2 : Hid (∀ b ∈ bs, b < w2.heap.size) := Lib.hid (fun b hb => by
    have h1 := FV1.out
    have h2 := FV2.out
    exact Nat.lt_of_lt_of_le (BS.out b hb) SZ.out)
  refine (len_any bs _ (some [97, 98, 99, 97, 98, 99, 97, 98, 99]) _ (FV2.out.keep (KeepB.below ba ba.size BS2.out))).mono ?_
  rintro e w3 ⟨rfl, rfl⟩
  have B3 := Lib.hid (B2.out.trans (ba.mono B2.out.size))
  clear ba
  rw [show lenO (some [97, 98, 99, 97, 98, 99, 97, 98, 99]) = 9 from rfl, show ((9 : Nat) : Int) = 9 from rfl]
  go_wp2_with fail
  go_ret
  exact ⟨rfl, B3.out⟩
end Go.Proofs.Ytbfpofgbapkkeaa
