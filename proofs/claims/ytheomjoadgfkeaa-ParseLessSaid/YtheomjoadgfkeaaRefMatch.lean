/- The walk of burnishref08.Match. By an AI agent. -/
import Derived.Test.YtheomjoadgfkeaaMatch
namespace Go.Proofs.Ytheomjoadgfkeaa
open Go.RowKit
set_option linter.unusedVariables false
set_option linter.unusedSimpArgs false

set_option maxHeartbeats 1600000 in
theorem refMatch_bad (v : Value) (l : List UInt8) (p n d : Int) (w : World) (hb : Bs w v l) (hl : l.length ≤ 140737488355328) (hp : -9223372036854775808 ≤ p ∧ p ≤ 9223372036854775807)
    (hn : -9223372036854775808 ≤ n ∧ n ≤ 9223372036854775807) (hd : -9223372036854775808 ≤ d ∧ d ≤ 9223372036854775807) (hbad : n < 3 ∨ 258 < n ∨ d < 1 ∨ 32768 < d ∨ p < d ∨ l.length < p + n) :
    Calls Try.prog 56 #[v, .int .i64 p, .int .i64 n, .int .i64 d] w fun e w' => e = .returned (.bool false) ∧ w = w' := by
  obtain ⟨av, cap, rfl⟩ := hb.len
  have c : decide (n < 3) = true ∨ (decide (n < 3) = false ∧ decide ((258 : Int) < n) = true) ∨ (decide (n < 3) = false ∧ decide ((258 : Int) < n) = false ∧ decide (d < 1) = true) ∨
      (decide (n < 3) = false ∧ decide ((258 : Int) < n) = false ∧ decide (d < 1) = false ∧ decide ((32768 : Int) < d) = true) ∨
      (decide (n < 3) = false ∧ decide ((258 : Int) < n) = false ∧ decide (d < 1) = false ∧ decide ((32768 : Int) < d) = false ∧ decide (p < 0) = true) ∨
      (decide (n < 3) = false ∧ decide ((258 : Int) < n) = false ∧ decide (d < 1) = false ∧ decide ((32768 : Int) < d) = false ∧ decide (p < 0) = false ∧ decide ((l.length : Int) < p) = true) ∨
      (decide (n < 3) = false ∧ decide ((258 : Int) < n) = false ∧ decide (d < 1) = false ∧ decide ((32768 : Int) < d) = false ∧ decide (p < 0) = false ∧ decide ((l.length : Int) < p) = false ∧ decide (p < d) = true) ∨
      (decide (n < 3) = false ∧ decide ((258 : Int) < n) = false ∧ decide (d < 1) = false ∧ decide ((32768 : Int) < d) = false ∧ decide (p < 0) = false ∧ decide ((l.length : Int) < p) = false ∧ decide (p < d) = false ∧ wrap64 ((l.length : Int) - p) = (l.length : Int) - p ∧ decide ((l.length : Int) - p < n) = true) := by
    simp only [decide_eq_true_eq, decide_eq_false_iff_not]
    by_cases h6 : 0 ≤ p
    · rw [IntWalk.wrap64_in ((l.length : Int) - p) (by omega)]
      omega
    · omega
  clear hb hl hp hn hd hbad
  rcases c with h1 | ⟨h1, h2⟩ | ⟨h1, h2, h3⟩ | ⟨h1, h2, h3, h4⟩ | ⟨h1, h2, h3, h4, h5⟩ | ⟨h1, h2, h3, h4, h5, h6⟩ | ⟨h1, h2, h3, h4, h5, h6, h7⟩ | ⟨h1, h2, h3, h4, h5, h6, h7, h8, h9⟩
  all_goals
    go_enter Try.func56, Try.ntmps56
    go_wp2_with fail
    go_ret
    exact ⟨rfl, rfl⟩

set_option maxHeartbeats 1600000 in
theorem refMatch_good (v : Value) (l : List UInt8) (p n d : Nat) (w : World) (hb : Bs w v l) (hl : l.length ≤ 140737488355328) (hg : 3 ≤ n ∧ n ≤ 258 ∧ 1 ≤ d ∧ d ≤ 32768 ∧ d ≤ p ∧ p + n ≤ l.length) :
    Calls Try.prog 56 #[v, .int .i64 (p : Int), .int .i64 (n : Int), .int .i64 (d : Int)] w fun e w' => e = .returned (.bool (decide (n ≤ commonOf l (p - d) p))) ∧ ∃ q, w' = w.drewN q := by
  obtain ⟨av, cap, rfl, hcell⟩ := hb.read
  have h1 : decide ((n : Int) < 3) = false := by rw [decide_eq_false_iff_not]; omega
  have h2 : decide ((258 : Int) < n) = false := by rw [decide_eq_false_iff_not]; omega
  have h3 : decide ((d : Int) < 1) = false := by rw [decide_eq_false_iff_not]; omega
  have h4 : decide ((32768 : Int) < d) = false := by rw [decide_eq_false_iff_not]; omega
  have h5 : decide (p < d) = false := by rw [decide_eq_false_iff_not]; omega
  have h6 : wrap64 ((l.length : Int) - p) = (l.length : Int) - p := IntWalk.wrap64_in _ (by omega)
  have h7 : decide ((l.length : Int) - p < n) = false := by rw [decide_eq_false_iff_not]; omega
  have h8 : decide ((p : Int) < 0) = false := by rw [decide_eq_false_iff_not]; omega
  have h9 : decide (l.length < p) = false := by rw [decide_eq_false_iff_not]; omega
  have HCE := Lib.hid hcell
  have HL := Lib.hid hl
  have HG := Lib.hid hg
  clear hb hl hg hcell
  go_enter Try.func56, Try.ntmps56
  go_wp2_with fail
  clear h1 h2 h3 h4 h5 h6 h7 h8 h9
  go_loopw [9] (fun i w' => ∃ k : Nat, k ≤ n ∧ i = .int .i64 k ∧ (∀ j, j < k → p + j < l.length ∧ l.getD (p - d + j) 0 = l.getD (p + j) 0) ∧ ∃ q, w' = w.drewN q) (fun i _ => n - (intOf i).toNat)
  case atStart => exact ⟨0, Nat.zero_le _, rfl, fun j hj => absurd hj (Nat.not_lt_zero j), 0, rfl⟩
  case round =>
    obtain ⟨k, hk, rfl, hall, q, rfl⟩ := hrel
    have HALL := Lib.hid hall
    clear hall
    by_cases hkn : k < n
    · have hg := HG.out
      have hL := HL.out
      have hlt1 : p + k < l.length := by omega
      have hlt2 : p - d + k < l.length := by omega
      obtain ⟨bb, off, rfl, hc1⟩ := HCE.out (p + k) hlt1
      obtain ⟨bb', off', hv', hc2⟩ := HCE.out (p - d + k) hlt2
      simp only [Option.some.injEq, Addr.mk.injEq, and_true] at hv'
      obtain ⟨rfl, rfl⟩ := hv'
      obtain ⟨x, hx, hx2⟩ : ∃ x : Nat, l[p + k].toNat = x ∧ x < 256 := ⟨_, rfl, l[p + k].toNat_lt⟩
      obtain ⟨y, hy, hy2⟩ : ∃ y : Nat, l[p - d + k].toNat = y ∧ y < 256 := ⟨_, rfl, l[p - d + k].toNat_lt⟩
      rw [hx] at hc1
      rw [hy] at hc2
      have hxy : (l.getD (p - d + k) 0 = l.getD (p + k) 0) ↔ x = y := by
        rw [← hx, ← hy, UInt8.toNat_inj]
        simp only [List.getD_eq_getElem?_getD, List.getElem?_eq_getElem hlt1, List.getElem?_eq_getElem hlt2, Option.getD_some]
        exact ⟨Eq.symm, Eq.symm⟩
      have w1 : IntKind.i64.wrap ((p : Int) + (k : Int)) = (p : Int) + (k : Int) := IntWalk.i64_in _ (by omega)
      have w2 : IntKind.i64.wrap ((p : Int) + (k : Int) - (d : Int)) = ((p - d + k : Nat) : Int) := by rw [IntWalk.i64_in _ (by omega)]; omega
      have t1 : ((p : Int) + (k : Int)).toNat = p + k := by omega
      have p1 : 0 ≤ (p : Int) + (k : Int) := by omega
      have i1 : (p : Int) + (k : Int) < (l.length : Int) := by omega
      have hstep : Hid (x = y → ∀ j, j < k + 1 → p + j < l.length ∧ l.getD (p - d + j) 0 = l.getD (p + j) 0) := Lib.hid (fun e j hj => by
        by_cases ej : j = k
        · subst ej; exact ⟨hlt1, hxy.2 e⟩
        · exact HALL.out j (by omega))
      have hstop : Hid (x ≠ y → decide (n ≤ commonOf l (p - d) p) = false) := Lib.hid (fun e => by
        rw [decide_eq_false_iff_not, common_iff l (p - d) p n (by omega)]
        intro h
        exact e (hxy.1 (h k hkn).2))
      have hk258 : k < 258 := by omega
      clear hxy hx hy hg hL hx2 hy2 hk
      by_cases hq : x = y
      · subst hq
        have e1 : ((x : Int) != (x : Int)) = false := by simp
        have e2 : (x != x) = false := by simp
        go_wp2_with fail
        go_quiet (fail)
        go_wp2_with fail
        go_roundw
        case rel => exact ⟨k + 1, by omega, by go_num, hstep.out trivial, q + nq, rfl⟩
        case measure => simp [intOf]; omega
      · have e1 : ((x : Int) != (y : Int)) = true := by rw [bne_iff_ne]; omega
        have e2 : (x != y) = true := by rw [bne_iff_ne]; exact hq
        have HST := Lib.hid (hstop.out hq)
        clear hq
        go_wp2_with fail
        go_quiet (fail)
        go_wp2_with fail
        go_ret
        exact ⟨rb (HST.out).symm, q + nq, World.drewN_drewN _ _ _⟩
    · obtain rfl : k = n := by omega
      have HF : Hid (decide (k ≤ commonOf l (p - d) p) = true) := Lib.hid (by
        rw [decide_eq_true_eq, common_iff l (p - d) p k (by have := HG.out; omega)]
        exact HALL.out)
      go_wp2_with fail
      go_ret
      exact ⟨rb HF.out.symm, q, rfl⟩
end Go.Proofs.Ytheomjoadgfkeaa
