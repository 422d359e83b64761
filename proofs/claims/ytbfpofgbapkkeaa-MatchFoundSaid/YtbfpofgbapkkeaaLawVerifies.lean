/- MatchVerifies: the law's walk. By an AI agent. -/
import Derived.Test.YtbfpofgbapkkeaaRefMatch
import Derived.Deep.RegionHeld3
namespace Go.Proofs.Ytbfpofgbapkkeaa
open Go.RowKit
set_option linter.unusedVariables false
set_option linter.unusedSimpArgs false

theorem verify_at (v : Value) (l : List UInt8) (P N D : Int) (p n d : Nat) (r : Bool) (w : World) (hP : P = (p : Int)) (hN : N = (n : Int)) (hD : D = (d : Int)) (hb : Bs w v l) (hl : l.length ≤ 140737488355328) (hg : 3 ≤ n ∧ n ≤ 258 ∧ 1 ≤ d ∧ d ≤ 32768 ∧ d ≤ p ∧ p + n ≤ l.length) (hr : decide (n ≤ commonOf l (p - d) p) = r) :
    Calls Try.prog 8 #[v, .int .i64 P, .agg #[.int .i64 N, .int .i64 D]] w fun e w' => e = .returned (.bool r) ∧ Below w.heap.size w w' := by
  subst hP hN hD hr; exact verify_good v l p n d w hb hl hg

theorem verify_either (v : Value) (l : List UInt8) (p n d : Int) (w : World) (hb : Bs w v l) (hl : l.length ≤ 140737488355328) (hp : -9223372036854775808 ≤ p ∧ p ≤ 9223372036854775807)
    (hn : -9223372036854775808 ≤ n ∧ n ≤ 9223372036854775807) (hd : -9223372036854775808 ≤ d ∧ d ≤ 9223372036854775807) :
    ∃ r : Bool, (∀ W, Bs W v l → Calls Try.prog 8 #[v, .int .i64 p, .agg #[.int .i64 n, .int .i64 d]] W fun e w' => e = .returned (.bool r) ∧ Below W.heap.size W w') ∧
      (∀ W, Bs W v l → Calls Try.prog 9 #[v, .int .i64 p, .int .i64 n, .int .i64 d] W fun e w' => e = .returned (.bool r) ∧ Below W.heap.size W w') := by
  by_cases h : n < 3 ∨ 258 < n ∨ d < 1 ∨ 32768 < d ∨ p < d ∨ l.length < p + n
  · exact ⟨false, fun W hW => verify_bad v l p n d W hW hl hp hn hd h, fun W hW => (refMatch_bad v l p n d W hW hl hp hn hd h).mono fun e w' ⟨he, hw⟩ => ⟨he, hw ▸ Below.refl _ _⟩⟩
  · obtain ⟨P, rfl⟩ : ∃ P : Nat, p = (P : Int) := ⟨p.toNat, by omega⟩
    obtain ⟨N, rfl⟩ : ∃ N : Nat, n = (N : Int) := ⟨n.toNat, by omega⟩
    obtain ⟨D, rfl⟩ : ∃ D : Nat, d = (D : Int) := ⟨d.toNat, by omega⟩
    have hg : 3 ≤ N ∧ N ≤ 258 ∧ 1 ≤ D ∧ D ≤ 32768 ∧ D ≤ P ∧ P + N ≤ l.length := by omega
    exact ⟨_, fun W hW => verify_good v l P N D W hW hl hg, fun W hW => (refMatch_good v l P N D W hW hl hg).mono fun e w' ⟨he, q, hw⟩ => ⟨he, hw ▸ below_drewN (Below.refl _ _) q⟩⟩

theorem keepS {w2 W W' : World} {a b : Addr} {va vb : Value} (h : W.cell? a = some va ∧ W.cell? b = some vb ∧ Below w2.heap.size w2 W) (hb : Below W.heap.size W W') : W'.cell? a = some va ∧ W'.cell? b = some vb ∧ Below w2.heap.size w2 W' :=
  ⟨cell_old hb h.1, cell_old hb h.2.1, h.2.2.trans (hb.mono h.2.2.size)⟩

set_option maxHeartbeats 1600000 in
theorem lawVerifies_any (v : Value) (l : List UInt8) (p n d : Int) (w : World) (hb : Bs w v l) (hl : l.length ≤ 140737488351232) (hp : -9223372036854775808 ≤ p ∧ p ≤ 9223372036854775807)
    (hn : -9223372036854775808 ≤ n ∧ n ≤ 9223372036854775807) (hd : -9223372036854775808 ≤ d ∧ d ≤ 9223372036854775807) :
    Calls Try.prog 3 #[v, .int .i64 p, .agg #[.int .i64 n, .int .i64 d]] w fun e w' => e = .returned (.bool true) ∧ Below w.heap.size w w' := by
  obtain ⟨av, cap, rfl⟩ := hb.len
  have HB := Lib.hid hb
  have HL : Hid (l.length ≤ 140737488355328) := Lib.hid (by omega)
  obtain ⟨r, hv, hm⟩ := verify_either _ l p n d w HB.out HL.out hp hn hd
  have HV := Lib.hid hv
  have HM := Lib.hid hm
  clear hb hl hp hn hd hv hm
  have kc := fun (w : World) (C : Array Value) (n c g : Nat) (hg : g = w.heap.size) => Joins.run_convert_bytes_const_at (P := Try.prog) w 22 5 C n c g hg Try.underlying22 Try.underlying5
  go_enter Try.func3, Try.ntmps3
  go_wp2_with fail
  refine (verify_at _ [97, 98, 99, 97, 98, 99] 3 3 3 3 3 3 true _ rfl rfl rfl ?h1 (by decide) (by decide) (by decide +kernel)).mono ?_
  case h1 => exact bs_heap (n := 6) (cap := 6) _ (heap_new1 _ _ _) rfl rfl (by decide)
  rintro e w1 ⟨rfl, hb1⟩
  have hc0 : ∀ W : World, Below (w.heap.size + 1 + 1) ((w.alloc (.cells #[.int .i64 n, .int .i64 d] 24)).alloc (.cells #[.int .u8 97, .int .u8 98, .int .u8 99, .int .u8 97, .int .u8 98, .int .u8 99] 5 (6, 7))) W → W.heap[w.heap.size]? = some (.cells #[.int .i64 n, .int .i64 d] 24) ∧ Bs W (.slice av l.length cap) l ∧ Below w.heap.size w W ∧ w.heap.size + 1 + 1 ≤ W.heap.size := by
    intro W hW
    have h0 : Below w.heap.size w ((w.alloc (.cells #[.int .i64 n, .int .i64 d] 24)).alloc (.cells #[.int .u8 97, .int .u8 98, .int .u8 99, .int .u8 97, .int .u8 98, .int .u8 99] 5 (6, 7))) := ((Below.refl _ _).alloc (Nat.le_refl _) _).alloc (by simp) _
    have h1 := h0.trans (hW.mono (by omega))
    refine ⟨?_, HB.out.old h1, h1, ?_⟩
    · rw [hW.block w.heap.size (by omega)]; exact heap_new0 _ _ _
    · have := hW.size; simpa using this
  have hs : ((w.alloc (.cells #[.int .i64 n, .int .i64 d] 24)).alloc (.cells #[.int .u8 97, .int .u8 98, .int .u8 99, .int .u8 97, .int .u8 98, .int .u8 99] 5 (6, 7))).heap.size = w.heap.size + 1 + 1 := by simp
  rw [hs] at hb1
  obtain ⟨hg1, hbs1, hbl1, hz1⟩ := hc0 w1 hb1
  have HG1 := Lib.hid hg1
  have HBS1 := Lib.hid hbs1
  have HBL1 := Lib.hid hbl1
  have HZ1 := Lib.hid hz1
  clear hb1 hc0 hs hg1 hbs1 hbl1 hz1
  go_wp2_with fail
  refine (verify_at _ [97, 98, 99, 97, 98, 100] 3 3 3 3 3 3 false _ rfl rfl rfl ?h1 (by decide) (by decide) (by decide +kernel)).mono ?_
  case h1 => exact bs_heap (n := 6) (cap := 6) _ (heap_alloc_new _ _) rfl rfl (by decide)
  rintro e w2 ⟨rfl, hb2⟩
  have hb3 : Below w1.heap.size w1 w2 := ((Below.refl _ _).alloc (Nat.le_refl _) _).trans (hb2.mono (by simp))
  have HG2 : Hid (w2.heap[w.heap.size]? = some (.cells #[.int .i64 n, .int .i64 d] 24)) := Lib.hid (by rw [hb3.block _ (by have := HZ1.out; omega)]; exact HG1.out)
  have HBS2 := Lib.hid (HBS1.out.old hb3)
  have HBL2 := Lib.hid (HBL1.out.trans (hb3.mono HBL1.out.size))
  have HZ2 : Hid (w.heap.size < w2.heap.size) := Lib.hid (by have := HZ1.out; have := hb3.size; omega)
  clear hb2 hb3 HG1 HBS1 HBL1 HZ1
  by_cases hbig : 100000 < l.length
  · have d1 : decide ((100000 : Int) < (l.length : Int)) = true := by rw [decide_eq_true_eq]; omega
    clear hbig
    go_wp2_with fail
    go_ret
    exact ⟨rfl, HBL2.out⟩
  · have d1 : decide ((100000 : Int) < (l.length : Int)) = false := by rw [decide_eq_false_iff_not]; omega
    clear hbig
    go_wp2_with fail
    have c0 : w2.cell? ⟨w.heap.size, 0, none⟩ = some (.int .i64 n) := by rw [cell_of_row w2 w.heap.size 0 _ _ (0, 0) HG2.out]; rfl
    have c1 : w2.cell? ⟨w.heap.size, 1, none⟩ = some (.int .i64 d) := by rw [cell_of_row w2 w.heap.size 1 _ _ (0, 0) HG2.out]; rfl
    go_region_held3 (fun W => W.cell? ⟨w.heap.size, 0, none⟩ = some (.int .i64 n) ∧ W.cell? ⟨w.heap.size, 1, none⟩ = some (.int .i64 d) ∧ Below w2.heap.size w2 W) (first | exact ⟨c0, c1, (Below.refl _ _).drew⟩ | assumption | exact keepS (by assumption) hbx) (first | (go_at_call 8; refine (HV.out _ (HBS2.out.old (show _ ∧ _ ∧ Below w2.heap.size w2 _ by assumption).2.2)).mono ?_; rintro e w' ⟨rfl, hbx⟩) | (go_at_call 9; refine (HM.out _ (HBS2.out.old (show _ ∧ _ ∧ Below w2.heap.size w2 _ by assumption).2.2)).mono ?_; rintro e w' ⟨rfl, hbx⟩))
    have hfin := (show _ ∧ _ ∧ Below w2.heap.size w2 w' by assumption).2.2
    have HF := Lib.hid (HBL2.out.trans (hfin.mono HBL2.out.size))
    clear hfin
    go_wp2_with fail
    go_ret
    exact ⟨rfl, HF.out⟩
end Go.Proofs.Ytbfpofgbapkkeaa
