/- The walks of match.common, match.Verify, burnishref08.Match. By an AI agent. -/
import Derived.Test.YtheomjoadgfkeaaProg
import Derived.Test.YtheomjoadgfkeaaLib
import Derived.Deep.QuietTactic
import Derived.BigQuiet
namespace Go.Proofs.Ytheomjoadgfkeaa
open Go.RowKit
set_option linter.unusedVariables false
set_option linter.unusedSimpArgs false

/-- how many bytes from a and b on are the same: fuel, and what is counted already -/
def comm (l : List UInt8) (a b : Nat) : Nat → Nat → Nat
  | 0, n => n
  | k + 1, n => if b + n < l.length ∧ l.getD (a + n) 0 = l.getD (b + n) 0 then comm l a b k (n + 1) else n
def commonOf (l : List UInt8) (a b : Nat) : Nat := comm l a b 258 0

theorem comm_le (l : List UInt8) (a b : Nat) : ∀ k n, comm l a b k n ≤ n + k ∧ n ≤ comm l a b k n
  | 0, n => ⟨Nat.le_refl _, Nat.le_refl _⟩
  | k + 1, n => by
    unfold comm
    split
    · have := comm_le l a b k (n + 1); omega
    · omega
theorem comm_iff (l : List UInt8) (a b : Nat) : ∀ k n t, t ≤ n + k → (t ≤ comm l a b k n ↔ ∀ i, n ≤ i → i < t → b + i < l.length ∧ l.getD (a + i) 0 = l.getD (b + i) 0)
  | 0, n, t, ht => by
    unfold comm
    exact ⟨fun h i h1 h2 => by omega, fun _ => by omega⟩
  | k + 1, n, t, ht => by
    unfold comm
    split
    · rename_i h
      rw [comm_iff l a b k (n + 1) t (by omega)]
      refine ⟨fun hh i h1 h2 => ?_, fun hh i h1 h2 => hh i (by omega) h2⟩
      by_cases e : i = n
      · subst e; exact h
      · exact hh i (by omega) h2
    · rename_i h
      refine ⟨fun hh i h1 h2 => by omega, fun hh => ?_⟩
      by_cases e : t ≤ n
      · exact e
      · exact absurd (hh n (Nat.le_refl _) (by omega)) h
theorem common_iff (l : List UInt8) (a b t : Nat) (ht : t ≤ 258) : t ≤ commonOf l a b ↔ ∀ i, i < t → b + i < l.length ∧ l.getD (a + i) 0 = l.getD (b + i) 0 := by
  unfold commonOf
  rw [comm_iff l a b 258 0 t (by omega)]
  exact ⟨fun h i hi => h i (Nat.zero_le _) hi, fun h i _ hi => h i hi⟩
theorem common_le (l : List UInt8) (a b : Nat) : commonOf l a b ≤ 258 := by
  have := (comm_le l a b 258 0).1
  unfold commonOf; omega

set_option maxHeartbeats 1600000 in
theorem common_any (v : Value) (l : List UInt8) (a b : Nat) (w : World) (hb : Bs w v l) (hl : l.length ≤ 140737488355328) (hab : a ≤ b) (hbl : b ≤ l.length) :
    Calls Try.prog 62 #[v, .int .i64 (a : Int), .int .i64 (b : Int)] w fun e w' => e = .returned (.int .i64 (commonOf l a b : Nat)) ∧ ∃ q, w' = w.drewN q := by
  obtain ⟨av, cap, rfl, hcell⟩ := hb.read
  have HC := Lib.hid hcell
  have HL := Lib.hid hl
  have HAB := Lib.hid hab
  have HBL := Lib.hid hbl
  clear hcell hl hb hab hbl
  go_enter Try.func62, Try.ntmps62
  go_wp2
  go_loopw [7] (fun i w' => ∃ n : Nat, n ≤ 258 ∧ i = .int .i64 n ∧ comm l a b (258 - n) n = commonOf l a b ∧ ∃ q, w' = w.drewN q) (fun i _ => 258 - (intOf i).toNat)
  case atStart => exact ⟨0, by omega, rfl, rfl, 0, rfl⟩
  case round =>
    obtain ⟨n, hn, rfl, hcm, q, rfl⟩ := hrel
    have HCM := Lib.hid hcm
    clear hcm
    by_cases h1 : n < 258
    · have d1 : decide ((n : Int) < 258) = true := by rw [decide_eq_true_eq]; omega
      by_cases h2 : b + n < l.length
      · obtain ⟨bb, off, rfl, hc1⟩ := HC.out (b + n) h2
        obtain ⟨bb', off', hv', hc2⟩ := HC.out (a + n) (by have := HAB.out; omega)
        simp only [Option.some.injEq, Addr.mk.injEq, and_true] at hv'
        obtain ⟨rfl, rfl⟩ := hv'
        have hlt1 : a + n < l.length := by have := HAB.out; omega
        obtain ⟨x, hx, hx2⟩ : ∃ x : Nat, l[a + n].toNat = x ∧ x < 256 := ⟨_, rfl, l[a + n].toNat_lt⟩
        obtain ⟨y, hy, hy2⟩ : ∃ y : Nat, l[b + n].toNat = y ∧ y < 256 := ⟨_, rfl, l[b + n].toNat_lt⟩
        rw [hx] at hc2
        rw [hy] at hc1
        have hxy : (l.getD (a + n) 0 = l.getD (b + n) 0) ↔ x = y := by
          rw [← hx, ← hy, UInt8.toNat_inj]
          simp [List.getD_eq_getElem?_getD, List.getElem?_eq_getElem hlt1, List.getElem?_eq_getElem h2]
        have HXY := Lib.hid hxy
        clear hxy hx hy
        have w1 : IntKind.i64.wrap ((b : Int) + (n : Int)) = (b : Int) + (n : Int) := IntWalk.i64_in _ (by have := HL.out; omega)
        have w2 : IntKind.i64.wrap ((a : Int) + (n : Int)) = (a : Int) + (n : Int) := IntWalk.i64_in _ (by have := HL.out; omega)
        have t1 : ((b : Int) + (n : Int)).toNat = b + n := by omega
        have t2 : ((a : Int) + (n : Int)).toNat = a + n := by omega
        have p1 : 0 ≤ (b : Int) + (n : Int) := by omega
        have p2 : 0 ≤ (a : Int) + (n : Int) := by omega
        have i1 : (b : Int) + (n : Int) < (l.length : Int) := by omega
        have i2 : (a : Int) + (n : Int) < (l.length : Int) := by omega
        have d2 : decide ((b : Int) + (n : Int) < (l.length : Int)) = true := by rw [decide_eq_true_eq]; omega
        have hstep : Hid (x = y → comm l a b (258 - (n + 1)) (n + 1) = commonOf l a b) := Lib.hid (fun e => by
          rw [← HCM.out, show 258 - n = (258 - (n + 1)) + 1 by omega, comm, if_pos ⟨h2, HXY.out.2 e⟩])
        have hstop : Hid (x ≠ y → (n : Nat) = commonOf l a b) := Lib.hid (fun e => by
          rw [← HCM.out, show 258 - n = (258 - (n + 1)) + 1 by omega, comm, if_neg (fun h => e (HXY.out.1 h.2))])
        clear h2 hlt1 hx2 hy2 hn
        by_cases hq : x = y
        · subst hq
          go_wp2_with fail
          go_quiet (fail)
          go_wp2_with fail
          go_roundw
          case rel => exact ⟨n + 1, by omega, by go_num, hstep.out trivial, _, rfl⟩
          case measure => simp [intOf]; omega
        · have e1 : ((x : Int) == (y : Int)) = false := by rw [beq_eq_false_iff_ne]; omega
          have e2 : (x == y) = false := by rw [beq_eq_false_iff_ne]; exact hq
          have HST := Lib.hid (hstop.out hq)
          clear hq h1
          go_wp2_with fail
          go_quiet (fail)
          go_wp2_with fail
          go_ret
          exact ⟨ri (by rw [← HST.out]), q + nq, World.drewN_drewN _ _ _⟩
      · have w1 : IntKind.i64.wrap ((b : Int) + (n : Int)) = (b : Int) + (n : Int) := IntWalk.i64_in _ (by have := HL.out; have := HBL.out; omega)
        have d2 : decide ((b : Int) + (n : Int) < (l.length : Int)) = false := by rw [decide_eq_false_iff_not]; omega
        have HST : Hid ((n : Nat) = commonOf l a b) := Lib.hid (by
          rw [← HCM.out, show 258 - n = (258 - (n + 1)) + 1 by omega, comm, if_neg (fun h => h2 h.1)])
        clear h1 h2 hn
        go_wp2_with fail
        go_quiet (fail)
        go_wp2_with fail
        go_ret
        exact ⟨ri (by rw [← HST.out]), q + nq, World.drewN_drewN _ _ _⟩
    · obtain rfl : n = 258 := by omega
      have HST : Hid (258 = commonOf l a b) := Lib.hid (by rw [← HCM.out]; rfl)
      have d1 : decide (((258 : Nat) : Int) < 258) = false := by decide
      clear h1 hn
      go_wp2_with fail
      go_quiet (fail)
      go_wp2_with fail
      go_ret
      exact ⟨ri (by rw [← HST.out]), q + nq, World.drewN_drewN _ _ _⟩

end Go.Proofs.Ytheomjoadgfkeaa
