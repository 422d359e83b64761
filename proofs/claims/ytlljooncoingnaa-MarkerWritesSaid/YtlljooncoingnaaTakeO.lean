/- sums.Take, with the row that the rest owns. By an AI agent. -/
import Derived.Test.YtlljooncoingnaaSPut
namespace Go.Proofs.Ytlljooncoingnaa
open Go.RowKit
set_option linter.unusedVariables false
set_option linter.unusedSimpArgs false

set_option maxHeartbeats 1600000 in
theorem take_own (v : Value) (l : List UInt8) (s : Nat) (w : World) (hb : Bs w v l) (hl : l.length ≤ 140737488351232) (hs : 1 ≤ s ∧ s ≤ 4) (h : s ≤ l.length) :
    Calls Try.prog 44 #[v, .int .i64 (s : Int)] w fun e w' => ∃ v', e = .returned (.tuple #[.int .i64 (numL (l.take s) : Int), v', .nilIface]) ∧ w'.ownsRow w.heap.size 5 1 v' (l.drop s).length (vBs (l.drop s)) ∧ Below w.heap.size w w' := by
  rcases hb.shape with ⟨_, _, _, h0⟩ | ⟨b, off, cap, rfl, hcap, hpos, hx⟩
  · subst h0; simp at h; omega
  have c1 : decide ((1 : Int) ≤ (s : Int)) = true := by simp only [decide_eq_true_eq]; omega
  have c2 : decide ((s : Int) ≤ 4) = true := by simp only [decide_eq_true_eq]; omega
  have c3 : decide (l.length < s) = false := by simp only [decide_eq_false_iff_not]; omega
  have c4 : decide (0 < s) = true := by simp only [decide_eq_true_eq]; omega
  have c5 : decide (s ≤ 4) = true := by simp only [decide_eq_true_eq]; omega
  have g1 : s ≤ cap := by omega
  have g2 : (s : Int) ≤ (cap : Int) := by omega
  have g3 : (0 : Int) ≤ (s : Int) := by omega
  have g4 : (s : Int) ≤ (l.length : Int) := by omega
  have HX := Lib.hid hx
  have HS := Lib.hid hs
  have HH := Lib.hid h
  have HL := Lib.hid hl
  have HC := Lib.hid hcap
  clear hb hl hs hcap hpos hx
  go_enter Try.func44, Try.ntmps44
  go_wp2
  go_loop [7, 9, 25] (fun n _ i => ∃ k : Nat, k ≤ s ∧ n = .int .i64 (numL (l.take k) : Int) ∧ i = .int .i64 (k : Int)) (fun _ _ i => s - (intOf i).toNat)
  case atStart => exact ⟨0, Nat.zero_le _, rfl, rfl⟩
  case round =>
    obtain ⟨k, hk, rfl, rfl⟩ := hrel
    have h4 := HS.out.2
    by_cases hks : k < s
    · have hkl : k < l.length := by have := HH.out; omega
      have hc1 := HX.out k hkl
      have hn := numL_succ l k hkl
      have hlt := numL_lt l k
      have hlt2 : numL (l.take k) < 16777216 := Nat.lt_of_lt_of_le hlt (by calc 256 ^ k ≤ 256 ^ 3 := Nat.pow_le_pow_right (by omega) (by omega)
                                                                               _ = 16777216 := by decide)
      have hb := l[k].toNat_lt
      generalize l[k].toNat = c at *
      generalize numL (l.take k) = m at *
      have hg := glue64 m c 8 (by omega) (by omega)
      rw [← hn] at hg
      have w1 : IntKind.i64.wrap ((m : Int) * 256) = ((m * 2 ^ 8 : Nat) : Int) := by rw [IntWalk.i64_in _ (by omega)]; omega
      have k1 : decide (k < s) = true := by simp only [decide_eq_true_eq]; omega
      have i1 : k < cap := by have := HC.out; omega
      obtain ⟨z, hz⟩ : ∃ z, numL (l.take (k + 1)) = z := ⟨_, rfl⟩
      rw [hz] at hg hn
      have HZ := Lib.hid hz
      clear hz
      have hg2 : bits .or .i64 ((m : Int) * 256) (c : Int) = (z : Int) := by
        have := hg
        rw [show ((m * 2 ^ 8 : Nat) : Int) = (m : Int) * 256 by omega] at this
        exact this
      have HG2 := Lib.hid hg2
      have HC2 : Hid (c < 256) := Lib.hid hb
      clear hn hlt hlt2 hb h4 hg hg2
      go_wp2_with fail
      have h4 := HS.out.2
      have e1 : wrap64 ((k : Int) + 1) = ((k + 1 : Nat) : Int) := by rw [IntWalk.wrap64_in _ (by omega)]; omega
      refine ⟨⟨k + 1, by omega, vi ?_, vi e1⟩, ?_⟩
      · rw [IntWalk.wrap64_in (c : Int) (by have := HC2.out; omega)]
        rw [HZ.out]
        exact HG2.out
      · rw [e1]; simp [intOf]; omega
    · obtain rfl : k = s := by omega
      have s1 : wrap64 ((l.length : Int) - (k : Int)) = ((l.length - k : Nat) : Int) := by rw [IntWalk.wrap64_in _ (by have := HL.out; omega)]; omega
      have hD : (l.drop k).length ≤ 140737488351232 := by have := HL.out; simp; omega
      have HD := Lib.hid hD
      clear hD
      go_wp2_with fail
      · refine (clone_own _ (l.drop k) _ ?hb HD.out).mono ?_
        case hb =>
          have e1 : l.drop k = [] := List.drop_eq_nil_of_le (by have := HC.out; omega)
          have e2 : l.length - k = 0 := by have := HC.out; omega
          rw [e1, e2]
          exact Bs.nil _ _ _
        rintro e w' ⟨v', rfl, hv, hbel⟩
        have HV := Lib.hid hv
        have HE := Lib.hid hbel
        clear hv hbel
        go_wp2_with fail
        go_ret3
        exact ⟨_, rfl, HV.out, HE.out⟩
      · refine (clone_own _ (l.drop k) _ ?hb HD.out).mono ?_
        case hb => exact Bs.some_slice (fun i hi => by
          have := HX.out (k + i) (by simp at hi; omega)
          rw [show off + (k + i) = off + k + i by omega] at this
          simpa [List.getElem_drop] using this) (by simp) (by have := HC.out; omega)
        rintro e w' ⟨v', rfl, hv, hbel⟩
        have HV := Lib.hid hv
        have HE := Lib.hid hbel
        clear hv hbel
        go_wp2_with fail
        go_ret3
        exact ⟨_, rfl, HV.out, HE.out⟩


theorem putL_back (l : List UInt8) (s : Nat) (hs : 1 ≤ s ∧ s ≤ 4) (h : s ≤ l.length) : putL s (numL (l.take s)) = l.take s := by
  have gen : ∀ m : List UInt8, m.length = s → putL s (numL m) = m := by
    intro m hm
    rcases (by omega : s = 1 ∨ s = 2 ∨ s = 3 ∨ s = 4) with rfl | rfl | rfl | rfl
    · match m, hm with
      | [a], _ =>
        have ha := a.toNat_lt
        simp [putL, numL]
    · match m, hm with
      | [a, b], _ =>
        have ha := a.toNat_lt
        have hb := b.toNat_lt
        have e : numL [a, b] = a.toNat * 256 + b.toNat := by simp [numL]
        have e2 : ∀ n, putL 2 n = [UInt8.ofNat (n / 256), UInt8.ofNat n] := fun n => by simp [putL, List.range_succ]
        rw [e, e2]
        congr 1
        · apply UInt8.toNat_inj.1; rw [UInt8.toNat_ofNat']; omega
        congr 1
        · apply UInt8.toNat_inj.1; rw [UInt8.toNat_ofNat']; omega
    · match m, hm with
      | [a, b, c], _ =>
        have ha := a.toNat_lt
        have hb := b.toNat_lt
        have hc := c.toNat_lt
        have e : numL [a, b, c] = (a.toNat * 256 + b.toNat) * 256 + c.toNat := by simp [numL]
        have e2 : ∀ n, putL 3 n = [UInt8.ofNat (n / 65536), UInt8.ofNat (n / 256), UInt8.ofNat n] := fun n => by simp [putL, List.range_succ]
        rw [e, e2]
        congr 1
        · apply UInt8.toNat_inj.1; rw [UInt8.toNat_ofNat']; omega
        congr 1
        · apply UInt8.toNat_inj.1; rw [UInt8.toNat_ofNat']; omega
        congr 1
        · apply UInt8.toNat_inj.1; rw [UInt8.toNat_ofNat']; omega
    · match m, hm with
      | [a, b, c, d], _ =>
        have ha := a.toNat_lt
        have hb := b.toNat_lt
        have hc := c.toNat_lt
        have hd := d.toNat_lt
        have e : numL [a, b, c, d] = ((a.toNat * 256 + b.toNat) * 256 + c.toNat) * 256 + d.toNat := by simp [numL]
        have e2 : ∀ n, putL 4 n = [UInt8.ofNat (n / 16777216), UInt8.ofNat (n / 65536), UInt8.ofNat (n / 256), UInt8.ofNat n] := fun n => by simp [putL, List.range_succ]
        rw [e, e2]
        congr 1
        · apply UInt8.toNat_inj.1; rw [UInt8.toNat_ofNat']; omega
        congr 1
        · apply UInt8.toNat_inj.1; rw [UInt8.toNat_ofNat']; omega
        congr 1
        · apply UInt8.toNat_inj.1; rw [UInt8.toNat_ofNat']; omega
        congr 1
        · apply UInt8.toNat_inj.1; rw [UInt8.toNat_ofNat']; omega
  exact gen _ (by simp; omega)
end Go.Proofs.Ytlljooncoingnaa
