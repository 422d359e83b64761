/- The walks of the CRC: sums.half, sums.Crc, burnishref01.Crc, each for every input. By an AI agent. -/
import Derived.Test.YtmdbnnnaiidheaaProg
import Derived.Test.YtmdbnnnaiidheaaCrc
namespace Go.Proofs.Ytmdbnnnaiidheaa
open Go.RowKit
set_option linter.unusedVariables false
set_option linter.unusedSimpArgs false

set_option maxHeartbeats 800000 in
theorem half_any (r : Nat) (w : World) (hr : r < 2 ^ 32) :
    Calls Try.prog 44 #[.int .u32 (r : Int)] w fun e w' => e = .returned (.int .u32 (crcBits 4 r : Nat)) ∧ w = w' := by
  have HR := Lib.hid hr
  clear hr
  go_enter Try.func44, Try.ntmps44
  go_wp2
  go_loop [0, 3] (fun c i => ∃ k : Nat, k ≤ 4 ∧ c = .int .u32 (crcBits k r : Nat) ∧ i = .int .i64 k) (fun _ i => 4 - (intOf i).toNat)
  case atStart => exact ⟨0, Nat.zero_le _, rfl, rfl⟩
  case round =>
    obtain ⟨k, hk, rfl, rfl⟩ := hrel
    by_cases hk4 : k < 4
    · have hs := crcBits_lt k r HR.out
      have HN : Hid (crcBits (k + 1) r = crcBit (crcBits k r)) := Lib.hid rfl
      generalize crcBits k r = s at *
      have HS := Lib.hid hs
      clear hs
      go_wp2
      go_round
      case rel => exact ⟨k + 1, by omega, by rw [HN.out, half_step s HS.out], by go_num⟩
      case measure => simp [intOf]; omega
    · obtain rfl : k = 4 := by omega
      go_wp2
      go_ret
      exact ⟨rfl, rfl⟩
theorem half_at (v : Int) (r : Nat) (w : World) (hv : v = (r : Int)) (hr : r < 2 ^ 32) :
    Calls Try.prog 44 #[.int .u32 v] w fun e w' => e = .returned (.int .u32 (crcBits 4 r : Nat)) ∧ w = w' := by
  subst hv; exact half_any r w hr

set_option maxHeartbeats 1600000 in
/-- sums.Crc -/
theorem crc_any (v : Value) (ls : List (List UInt8)) (w : World) (hb : Bss w v ls) (hlen : ∀ l ∈ ls, l.length ≤ 140737488355328) (hn : ls.length ≤ 140737488355328) :
    Calls Try.prog 32 #[v] w fun e w' => e = .returned (.int .i64 (crc ls.flatten)) ∧ w = w' := by
  obtain ⟨a, cap, rfl, hcell⟩ := hb.read
  have HC := Lib.hid hcell
  have HL := Lib.hid hlen
  have HN := Lib.hid hn
  clear hcell hlen hn hb
  go_enter Try.func32, Try.ntmps32
  go_wp2
  go_loop [3, 5, 7, 10] (fun a _ _ i => ∃ k : Nat, k ≤ ls.length ∧ a = .int .u32 ((crcSt (ls.take k).flatten : Nat) : Int) ∧ i = .int .i64 k) (fun _ _ _ i => ls.length - (intOf i).toNat)
  case atStart => exact ⟨0, Nat.zero_le _, rfl, rfl⟩
  case round =>
    obtain ⟨k, hk, rfl, rfl⟩ := hrel
    by_cases hkl : k < ls.length
    · obtain ⟨b, off, x, rfl, hc, hbx⟩ := HC.out k hkl
      have hk47 : k < 140737488355328 := by have := HN.out; omega
      have HLL := Lib.hid (HL.out ls[k] (List.getElem_mem _))
      have H1 : Hid ((ls.take (k + 1)).flatten = (ls.take k).flatten ++ ls[k]) := Lib.hid (by rw [List.take_succ_eq_append_getElem hkl, List.flatten_append]; simp)
      generalize ls[k] = q at *
      obtain ⟨a', cap', rfl, hcell'⟩ := hbx.read
      have HC' := Lib.hid hcell'
      clear hcell' hbx
      go_wp2
      go_loop [3, 7, 16] (fun a _ i => ∃ j : Nat, j ≤ q.length ∧ a = .int .u32 ((crcSt ((ls.take k).flatten ++ q.take j) : Nat) : Int) ∧ i = .int .i64 j) (fun _ _ i => q.length - (intOf i).toNat)
      case atStart => exact ⟨0, Nat.zero_le _, by simp, rfl⟩
      case round =>
        obtain ⟨j, hj, rfl, rfl⟩ := hrel
        by_cases hjl : j < q.length
        · obtain ⟨b', off', rfl, hc'⟩ := HC'.out j hjl
          have hj47 : j < 140737488355328 := by have := HLL.out; omega
          have H2 : Hid (crcSt ((ls.take k).flatten ++ q.take (j + 1)) = crcByte (crcSt ((ls.take k).flatten ++ q.take j)) q[j]) := Lib.hid (crcSt_more _ q j hjl)
          have HLt := Lib.hid (crcSt_lt ((ls.take k).flatten ++ q.take j))
          obtain ⟨x, hx, hx2⟩ : ∃ x : Nat, q[j].toNat = x ∧ x < 256 := ⟨_, rfl, by have := q[j].toNat_lt; omega⟩
          rw [hx] at hc'
          have HX := Lib.hid hx
          clear hx
          generalize crcSt ((ls.take k).flatten ++ q.take j) = s at *
          have hv : Hid (bits .xor .u32 (s : Int) (x : Int) = ((s ^^^ x : Nat) : Int)) := Lib.hid (u32_xor s x HLt.out (by omega))
          have hlt : Hid (s ^^^ x < 2 ^ 32) := Lib.hid (by have := xor_byte_lt s q[j] HLt.out; rw [HX.out] at this; exact this)
          go_wp2_with fail
          refine (half_at _ (s ^^^ x) _ ?hv hlt.out).mono ?_
          case hv => exact hv.out
          rintro e w' ⟨rfl, rfl⟩
          go_wp2_with fail
          refine (half_any (crcBits 4 (s ^^^ x)) _ (crcBits_lt 4 _ hlt.out)).mono ?_; rintro e w' ⟨rfl, rfl⟩
          go_wp2_with fail
          go_round
          case rel => exact ⟨j + 1, by omega, by rw [H2.out, crcByte_eq, HX.out], by go_num⟩
          case measure => simp [intOf]; omega
        · obtain rfl : j = q.length := by omega
          go_wp2
          go_round
          case rel => exact ⟨k + 1, by omega, by rw [H1.out, List.take_length], by go_num⟩
          case measure => simp [intOf]; omega
    · obtain rfl : k = ls.length := by omega
      have e : (ls.take ls.length).flatten = ls.flatten := by rw [List.take_length]
      rw [e]
      have HLt := Lib.hid (crcSt_lt ls.flatten)
      clear e
      go_wp2
      go_ret
      refine ⟨ri ?_, rfl⟩
      exact crc_end _ HLt.out

set_option maxHeartbeats 1600000 in
/-- burnishref01.Crc -/
theorem refCrc_any (v : Value) (l : List UInt8) (w : World) (hb : Bs w v l) (hlen : l.length ≤ 140737488355328) :
    Calls Try.prog 40 #[v] w fun e w' => e = .returned (.int .i64 (crc l)) ∧ w = w' := by
  obtain ⟨a, cap, rfl, hcell⟩ := hb.read
  have HC := Lib.hid hcell
  have HL := Lib.hid hlen
  clear hcell hlen hb
  go_enter Try.func40, Try.ntmps40
  go_wp2
  go_loop [3, 4, 5] (fun a i _ => ∃ k : Nat, k ≤ l.length ∧ a = .int .u32 ((crcSt (l.take k) : Nat) : Int) ∧ i = .int .i64 k) (fun _ i _ => l.length - (intOf i).toNat)
  case atStart => exact ⟨0, Nat.zero_le _, rfl, rfl⟩
  case round =>
    obtain ⟨k, hk, rfl, rfl⟩ := hrel
    by_cases hkl : k < l.length
    · obtain ⟨b, off, rfl, hc⟩ := HC.out k hkl
      have hk47 : k < 140737488355328 := by have := HL.out; omega
      have H1 : Hid (crcSt (l.take (k + 1)) = crcByte (crcSt (l.take k)) l[k]) := Lib.hid (by have := crcSt_more [] l k hkl; simpa using this)
      have HLt := Lib.hid (crcSt_lt (l.take k))
      obtain ⟨x, hx, hx2⟩ : ∃ x : Nat, l[k].toNat = x ∧ x < 256 := ⟨_, rfl, by have := l[k].toNat_lt; omega⟩
      rw [hx] at hc
      have HX := Lib.hid hx
      clear hx
      generalize crcSt (l.take k) = s at *
      have hlt : Hid (s ^^^ x < 2 ^ 32) := Lib.hid (by have := xor_byte_lt s l[k] HLt.out; rw [HX.out] at this; exact this)
      have hv : Hid (bits .xor .u32 (s : Int) (x : Int) = ((s ^^^ x : Nat) : Int)) := Lib.hid (u32_xor s x HLt.out (by omega))
      go_wp2
      go_loop [3, 5] (fun a i => ∃ j : Nat, j ≤ 8 ∧ a = .int .u32 ((crcBits j (s ^^^ x) : Nat) : Int) ∧ i = .int .i64 j) (fun _ i => 8 - (intOf i).toNat)
      case atStart => exact ⟨0, Nat.zero_le _, by rw [hv.out]; rfl, rfl⟩
      case round =>
        obtain ⟨j, hj, rfl, rfl⟩ := hrel
        by_cases hj8 : j < 8
        · have HLj := Lib.hid (crcBits_lt j _ hlt.out)
          have HN : Hid (crcBits (j + 1) (s ^^^ x) = crcBit (crcBits j (s ^^^ x))) := Lib.hid rfl
          generalize crcBits j (s ^^^ x) = r at *
          obtain ⟨R, hR, hR0⟩ : ∃ R : Int, (r : Int) = R ∧ 0 ≤ R := ⟨_, rfl, by omega⟩
          rw [hR]
          have HR := Lib.hid hR
          clear hR
          rcases hm : (R % 2 == 1) with _ | _
          · go_wp2
            go_round
            case rel => exact ⟨j + 1, by omega, by rw [HN.out, ref_bit0 r R HR.out.symm hm HLj.out], by go_num⟩
            case measure => simp [intOf]; omega
          · go_wp2
            go_round
            case rel => exact ⟨j + 1, by omega, by rw [HN.out, ref_bit1 r R HR.out.symm hm HLj.out], by go_num⟩
            case measure => simp [intOf]; omega
        · obtain rfl : j = 8 := by omega
          go_wp2
          go_round
          case rel => exact ⟨k + 1, by omega, by rw [H1.out]; unfold crcByte; rw [HX.out], by go_num⟩
          case measure => simp [intOf]; omega
    · obtain rfl : k = l.length := by omega
      have e : l.take l.length = l := List.take_length
      rw [e]
      have HLt := Lib.hid (crcSt_lt l)
      clear e
      go_wp2
      go_ret
      refine ⟨ri ?_, rfl⟩
      exact crc_end3 _ HLt.out
end Go.Proofs.Ytmdbnnnaiidheaa
