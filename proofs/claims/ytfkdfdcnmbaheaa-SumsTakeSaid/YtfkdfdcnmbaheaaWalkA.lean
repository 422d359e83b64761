/- The walks of the Adler sums: burnishref01.Adler, sums.Adler, sums.Join, each for every input. By an AI agent. -/
import Derived.Test.YtfkdfdcnmbaheaaProg
import Derived.Test.YtfkdfdcnmbaheaaAdl
namespace Go.Proofs.Ytfkdfdcnmbaheaa
open Go.RowKit
set_option linter.unusedVariables false
set_option linter.unusedSimpArgs false

set_option maxHeartbeats 800000 in
/-- burnishref01.Adler -/
theorem refAdler_any (v : Value) (l : List UInt8) (w : World) (hb : Bs w v l) (hlen : l.length ≤ 140737488355328) :
    Calls Try.prog 10 #[v] w fun e w' => e = .returned (.int .i64 (adler l)) ∧ w = w' := by
  rcases hb.shape with ⟨a, cap, rfl, rfl⟩ | ⟨b, off, cap, rfl, hc1, hne, hcell⟩
  · clear hb hlen
    go_enter Try.func10, Try.ntmps10
    go_wp2
    go_loop [3, 4, 5] (fun a b i => a = .int .i64 1 ∧ b = .int .i64 0 ∧ i = .int .i64 0) (fun _ _ _ => 0)
    case atStart => exact ⟨rfl, rfl, rfl⟩
    case round =>
      obtain ⟨rfl, rfl, rfl⟩ := hrel
      go_wp2
      go_ret
      exact ⟨rfl, rfl⟩
  · have HC := Lib.hid hcell
    have HL := Lib.hid hlen
    clear hcell hb hlen hc1
    go_enter Try.func10, Try.ntmps10
    go_wp2
    go_loop [3, 4, 5] (fun a b i => ∃ k : Nat, k ≤ l.length ∧ a = .int .i64 (((adlerSt (l.take k)).1 : Nat) : Int) ∧ b = .int .i64 (((adlerSt (l.take k)).2 : Nat) : Int) ∧ i = .int .i64 k) (fun _ _ i => l.length - (intOf i).toNat)
    case atStart => exact ⟨0, Nat.zero_le _, rfl, rfl, rfl⟩
    case round =>
      obtain ⟨k, hk, rfl, rfl, rfl⟩ := hrel
      have hlt := adlerSt_lt (l.take k)
      by_cases hkl : k < l.length
      · have H1 := Lib.hid (adlerSt_take l k hkl)
        have hc := HC.out k hkl
        obtain ⟨x, hx, hx2⟩ : ∃ x : Nat, l[k].toNat = x ∧ x < 256 := ⟨_, rfl, l[k].toNat_lt⟩
        rw [hx] at hc
        have HX := Lib.hid hx
        clear hx
        obtain ⟨h1, h2⟩ := hlt
        obtain ⟨s1, s2, hs⟩ : ∃ s1 s2, adlerSt (l.take k) = (s1, s2) := ⟨_, _, rfl⟩
        rw [hs] at h1 h2 ⊢
        dsimp only at h1 h2 ⊢
        have HS := Lib.hid hs
        have hk47 : (k : Int) < 140737488355328 := by have := HL.out; omega
        have fin : ∀ a b : Nat, adlerStep (s1, s2) l[k] = (a, b) → adlerSt (l.take (k + 1)) = (a, b) := fun a b h => by rw [H1.out, HS.out]; exact h
        have FIN := Lib.hid fin
        have HH1 := Lib.hid h1
        have HH2 := Lib.hid h2
        have b1 : (s1 : Int) ≤ 65520 := by omega
        have b2 : (s2 : Int) ≤ 65520 := by omega
        have hx2' : (x : Int) < 256 := by omega
        clear hs fin h1 h2 hx2
        rcases hd1 : decide ((65521 : Int) ≤ s1 + x) with _ | _
        · rcases hd2 : decide ((65521 : Int) ≤ s2 + (s1 + x)) with _ | _
          all_goals
            go_wp2
            go_round
            case rel =>
              simp only [decide_eq_true_eq, decide_eq_false_iff_not] at hd1 hd2
              first
                | (have F := FIN.out (s1 + x) (s2 + (s1 + x)) (adlerStep_cases s1 s2 x _ _ _ HX.out HH1.out HH2.out (by omega) (by omega))
                   exact ⟨k + 1, by omega, by rw [F]; exact vi (by dsimp only; omega), by rw [F]; exact vi (by dsimp only; omega), by go_num⟩)
                | (have F := FIN.out (s1 + x) (s2 + (s1 + x) - 65521) (adlerStep_cases s1 s2 x _ _ _ HX.out HH1.out HH2.out (by omega) (by omega))
                   exact ⟨k + 1, by omega, by rw [F]; exact vi (by dsimp only; omega), by rw [F]; exact vi (by dsimp only; omega), by go_num⟩)
            case measure => simp [intOf]; omega
        · have hh : (65521 : Int) ≤ s1 + x := by simpa using hd1
          have e1 : (s1 : Int) + x - 65521 ≤ 65520 := by omega
          have e0 : 0 ≤ (s1 : Int) + x - 65521 := by omega
          clear hh
          rcases hd2 : decide ((65521 : Int) ≤ s2 + (s1 + x - 65521)) with _ | _
          all_goals
            go_wp2
            go_round
            case rel =>
              simp only [decide_eq_true_eq, decide_eq_false_iff_not] at hd1 hd2
              first
                | (have F := FIN.out (s1 + x - 65521) (s2 + (s1 + x - 65521)) (adlerStep_cases s1 s2 x _ _ _ HX.out HH1.out HH2.out (by omega) (by omega))
                   exact ⟨k + 1, by omega, by rw [F]; exact vi (by dsimp only; omega), by rw [F]; exact vi (by dsimp only; omega), by go_num⟩)
                | (have F := FIN.out (s1 + x - 65521) (s2 + (s1 + x - 65521) - 65521) (adlerStep_cases s1 s2 x _ _ _ HX.out HH1.out HH2.out (by omega) (by omega))
                   exact ⟨k + 1, by omega, by rw [F]; exact vi (by dsimp only; omega), by rw [F]; exact vi (by dsimp only; omega), by go_num⟩)
            case measure => simp [intOf]; omega
      · obtain rfl : k = l.length := by omega
        rw [List.take_length] at hlt
        have b1 : ((adlerSt l).1 : Int) ≤ 65520 := by omega
        have b2 : ((adlerSt l).2 : Int) ≤ 65520 := by omega
        clear hlt
        go_wp2
        go_ret
        refine ⟨ri ?_, rfl⟩
        simp only [adler]
        omega

set_option maxHeartbeats 800000 in
/-- sums.Join, of two sums by their halves -/
theorem join_any (a b n a1 a2 b1 b2 : Nat) (w : World) (ha : a = 65536 * a2 + a1) (hb : b = 65536 * b2 + b1) (ha1 : a1 < 65521) (ha2 : a2 < 65521) (hb1 : b1 < 65521) (hb2 : b2 < 65521) :
    Calls Try.prog 9 #[.int .i64 (a : Int), .int .i64 (b : Int), .int .i64 (n : Int)] w fun e w' => e = .returned (.int .i64 (joinN a1 a2 b1 b2 n : Int)) ∧ w = w' := by
  have f1 : bits .and .i64 (a : Int) 65535 = (a1 : Int) := by
    have := low64 a 16 (by omega) (by decide)
    rw [show ((65535 : Int)) = ((2 ^ 16 - 1 : Nat) : Int) from rfl, this]; omega
  have f2 : bits .and .i64 (b : Int) 65535 = (b1 : Int) := by
    have := low64 b 16 (by omega) (by decide)
    rw [show ((65535 : Int)) = ((2 ^ 16 - 1 : Nat) : Int) from rfl, this]; omega
  have f3 : bits .and .i64 ((a : Int) / 65536) 65535 = (a2 : Int) := by
    have := low64 a2 16 (by omega) (by decide)
    rw [show (a : Int) / 65536 = (a2 : Int) by omega, show ((65535 : Int)) = ((2 ^ 16 - 1 : Nat) : Int) from rfl, this]; omega
  have f4 : bits .and .i64 ((b : Int) / 65536) 65535 = (b2 : Int) := by
    have := low64 b2 16 (by omega) (by decide)
    rw [show (b : Int) / 65536 = (b2 : Int) by omega, show ((65535 : Int)) = ((2 ^ 16 - 1 : Nat) : Int) from rfl, this]; omega
  have g1 : (a1 : Int) ≤ 65520 := by omega
  have g2 : (a2 : Int) ≤ 65520 := by omega
  have g3 : (b1 : Int) ≤ 65520 := by omega
  have g4 : (b2 : Int) ≤ 65520 := by omega
  have hA : (a : Int) < 4294967296 := by omega
  have hB : (b : Int) < 4294967296 := by omega
  clear ha hb ha1 ha2 hb1 hb2
  go_enter Try.func9, Try.ntmps9
  go_wp2
  go_ret
  refine ⟨ri ?_, rfl⟩
  exact join_close a1 a2 b1 b2 n (by omega) (by omega)

set_option maxHeartbeats 800000 in
/-- sums.Join(1, 1, 0) -/
theorem join_one (w : World) : Calls Try.prog 9 #[.int .i64 1, .int .i64 1, .int .i64 0] w fun e w' => e = .returned (.int .i64 1) ∧ w = w' := by
  have h := join_any 1 1 0 1 0 1 0 w rfl rfl (by decide) (by decide) (by decide) (by decide)
  have e : joinN 1 0 1 0 0 = 1 := by decide
  rw [e] at h
  simp only [Int.natCast_one, Int.natCast_zero] at h
  exact h

/-- sums.Join, of two texts' sums -/
theorem join_adler (la lb : List UInt8) (w : World) : Calls Try.prog 9 #[.int .i64 (adler la), .int .i64 (adler lb), .int .i64 (lb.length : Int)] w fun e w' => e = .returned (.int .i64 (adler (la ++ lb))) ∧ w = w' := by
  have h1 := adlerSt_lt la
  have h2 := adlerSt_lt lb
  have h := join_any _ _ lb.length (adlerSt la).1 (adlerSt la).2 (adlerSt lb).1 (adlerSt lb).2 w rfl rfl h1.1 h1.2 h2.1 h2.2
  rw [adler_join] at h
  exact h

set_option maxHeartbeats 800000 in
/-- sums.Adler -/
theorem adler_any (v : Value) (ls : List (List UInt8)) (w : World) (hb : Bss w v ls) (hlen : ∀ l ∈ ls, l.length ≤ 140737488355328) (hn : ls.length ≤ 140737488355328) :
    Calls Try.prog 12 #[v] w fun e w' => e = .returned (.int .i64 (adler ls.flatten)) ∧ w = w' := by
  obtain ⟨a, cap, rfl, hcell⟩ := hb.read
  have HC := Lib.hid hcell
  have HL := Lib.hid hlen
  have HN := Lib.hid hn
  clear hcell hlen hn hb
  go_enter Try.func12, Try.ntmps12
  go_wp2
  go_loop [3, 4, 6, 8, 11] (fun a b _ _ i => ∃ k : Nat, k ≤ ls.length ∧ a = .int .i64 (((adlerSt (ls.take k).flatten).1 : Nat) : Int) ∧ b = .int .i64 (((adlerSt (ls.take k).flatten).2 : Nat) : Int) ∧ i = .int .i64 k) (fun _ _ _ _ i => ls.length - (intOf i).toNat)
  case atStart => exact ⟨0, Nat.zero_le _, rfl, rfl, rfl⟩
  case round =>
    obtain ⟨k, hk, rfl, rfl, rfl⟩ := hrel
    by_cases hkl : k < ls.length
    · obtain ⟨b, off, x, rfl, hc, hbx⟩ := HC.out k hkl
      have hk47 : (k : Int) < 140737488355328 := by have := HN.out; omega
      have HLL := Lib.hid (HL.out ls[k] (List.getElem_mem _))
      have H1 : Hid ((ls.take (k + 1)).flatten = (ls.take k).flatten ++ ls[k]) := Lib.hid (by rw [List.take_succ_eq_append_getElem hkl, List.flatten_append]; simp)
      generalize ls[k] = q at *
      obtain ⟨a', cap', rfl, hcell'⟩ := hbx.read
      have HC' := Lib.hid hcell'
      clear hcell' hbx
      go_wp2
      go_loop [3, 4, 8, 17] (fun a b _ i => ∃ j : Nat, j ≤ q.length ∧ a = .int .i64 (((adlerSt ((ls.take k).flatten ++ q.take j)).1 : Nat) : Int) ∧ b = .int .i64 (((adlerSt ((ls.take k).flatten ++ q.take j)).2 : Nat) : Int) ∧ i = .int .i64 j) (fun _ _ _ i => q.length - (intOf i).toNat)
      case atStart => exact ⟨0, Nat.zero_le _, by simp, by simp, rfl⟩
      case round =>
        obtain ⟨j, hj, rfl, rfl, rfl⟩ := hrel
        by_cases hjl : j < q.length
        · obtain ⟨b', off', rfl, hc'⟩ := HC'.out j hjl
          have hj47 : (j : Int) < 140737488355328 := by have := HLL.out; omega
          have H2 : Hid (adlerSt ((ls.take k).flatten ++ q.take (j + 1)) = adlerStep (adlerSt ((ls.take k).flatten ++ q.take j)) q[j]) := Lib.hid (adlerSt_more _ q j hjl)
          have hlt := adlerSt_lt ((ls.take k).flatten ++ q.take j)
          obtain ⟨s1, s2, hs⟩ : ∃ s1 s2, adlerSt ((ls.take k).flatten ++ q.take j) = (s1, s2) := ⟨_, _, rfl⟩
          rw [hs] at hlt ⊢
          dsimp only at hlt ⊢
          have b1 : (s1 : Int) ≤ 65520 := by omega
          have b2 : (s2 : Int) ≤ 65520 := by omega
          have HS := Lib.hid hs
          obtain ⟨x, hx, hx2⟩ : ∃ x : Nat, q[j].toNat = x ∧ (x : Int) < 256 := ⟨_, rfl, by have := q[j].toNat_lt; omega⟩
          rw [hx] at hc'
          have HX := Lib.hid hx
          clear hs hlt hx
          go_wp2
          go_round
          case rel =>
            have F : adlerSt ((ls.take k).flatten ++ q.take (j + 1)) = ((s1 + x) % 65521, (s2 + (s1 + x) % 65521) % 65521) := by rw [H2.out, HS.out]; unfold adlerStep; rw [HX.out]
            exact ⟨j + 1, by omega, by rw [F]; exact vi (by dsimp only; omega), by rw [F]; exact vi (by dsimp only; omega), by go_num⟩
          case measure => simp [intOf]; omega
        · obtain rfl : j = q.length := by omega
          go_wp2
          go_round
          case rel => exact ⟨k + 1, by omega, by rw [H1.out, List.take_length], by rw [H1.out, List.take_length], by go_num⟩
          case measure => simp [intOf]; omega
    · obtain rfl : k = ls.length := by omega
      have hlt := adlerSt_lt ls.flatten
      have e : (ls.take ls.length).flatten = ls.flatten := by rw [List.take_length]
      rw [e]
      have fin : bits .or .i64 ((((adlerSt ls.flatten).2 : Nat) : Int) * 65536) ((adlerSt ls.flatten).1 : Nat) = adler ls.flatten := adler_glue _ _ hlt.2 hlt.1
      have b1 : ((adlerSt ls.flatten).1 : Int) ≤ 65520 := by omega
      have b2 : ((adlerSt ls.flatten).2 : Int) ≤ 65520 := by omega
      have FIN := Lib.hid fin
      clear hlt e fin
      go_wp2
      go_ret
      refine ⟨ri ?_, rfl⟩
      exact FIN.out
end Go.Proofs.Ytfkdfdcnmbaheaa
