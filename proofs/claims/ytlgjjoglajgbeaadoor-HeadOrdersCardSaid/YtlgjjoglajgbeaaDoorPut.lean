/- The walk of burnishref01.Number. By an AI agent. -/
import Derived.Test.YtlgjjoglajgbeaaDoorNum
import Derived.Handy
namespace Go.Proofs.YtlgjjoglajgbeaaDoor
open Go.RowKit
set_option linter.unusedVariables false
set_option linter.unusedSimpArgs false

/-- the lowest i bytes of a number, highest first -/
def putL (i n : Nat) : List UInt8 := (List.range i).reverse.map fun j => UInt8.ofNat (n / 256 ^ j)
theorem putL_succ (i n : Nat) : putL (i + 1) n = UInt8.ofNat (n / 256 ^ i) :: putL i n := by
  unfold putL
  rw [List.range_succ, List.reverse_append]
  rfl
theorem wrap_small (q : Nat) (h : q < 4294967296) : wrap64 (q : Int) = (q : Int) ∧ IntKind.i64.wrap (q : Int) = (q : Int) ∧ decide ((q : Int) < 0) = false := ⟨IntWalk.wrap64_in _ (by omega), IntWalk.i64_in _ (by omega), by rw [decide_eq_false_iff_not]; omega⟩
theorem wrap_byte (r : Nat) (h : r < 256) : IntKind.u8.wrap (r : Int) = (r : Int) := by simp [IntKind.wrap, IntKind.signed, IntKind.bits]; omega
theorem meas (s j : Nat) (h : j < s) : s - (intOf (Value.int .i64 ((j + 1 : Nat) : Int))).toNat < s - (intOf (Value.int .i64 (j : Int))).toNat := by
  show s - (j + 1) < s - j
  omega
theorem next64 (j : Nat) (h : j < 4) : wrap64 ((j : Int) + 1) = ((j + 1 : Nat) : Int) := by rw [IntWalk.wrap64_in _ (by omega)]; omega
theorem putL_length (i n : Nat) : (putL i n).length = i := by simp [putL]

set_option maxHeartbeats 1600000 in
theorem number_good (s n : Nat) (w : World) (hs : 1 ≤ s ∧ s ≤ 4) (hn : n < 256 ^ s) :
    Calls Tryd.prog 22 #[.int .i64 (s : Int), .int .i64 (n : Int)] w fun e w' => ∃ v, e = .returned (.tuple #[v, .int .i64 0]) ∧ Bs w' v (putL s n) ∧ w'.ownsRow w.heap.size 5 1 v s (vBs (putL s n)) ∧ Below w.heap.size w w' := by
  have c1 : decide ((s : Int) < 1) = false := by simp only [decide_eq_false_iff_not]; omega
  have c2 : decide ((4 : Int) < s) = false := by simp only [decide_eq_false_iff_not]; omega
  have c4 : (s == 0) = false := by rw [beq_eq_false_iff_ne]; omega
  have c5 : decide (4 < s) = false := by simp only [decide_eq_false_iff_not]; omega
  have hpow : 256 ^ s ≤ 256 ^ 4 := Nat.pow_le_pow_right (by omega) hs.2
  have hnn : n < 4294967296 := by have : (256 : Nat) ^ 4 = 4294967296 := by decide
                                  omega
  have HS := Lib.hid hs
  have HN := Lib.hid hn
  have HNN := Lib.hid hnn
  clear hs hn hnn hpow
  go_enter Tryd.func22, Tryd.ntmps22
  go_wp2_with fail
  go_loopw [6, 7, 8] (fun out k i w' => ∃ j : Nat, j ≤ s ∧ Bs w' out (putL j n) ∧ (0 < j → w'.ownsRow w.heap.size 5 1 out j (vBs (putL j n))) ∧ k = .int .i64 ((n / 256 ^ j : Nat) : Int) ∧ i = .int .i64 (j : Int) ∧ Below w.heap.size w w') (fun _ _ i _ => s - (intOf i).toNat)
  case atStart => exact ⟨0, Nat.zero_le _, Bs.nil _ _ _, fun h => absurd h (Nat.lt_irrefl 0), by simp, rfl, Below.refl _ _⟩
  case round =>
    obtain ⟨j, hj, hb, how, rfl, rfl, hbel⟩ := hrel
    have HOWN := Lib.hid how
    clear how
    obtain ⟨a0, c0, rfl⟩ := hb.len
    have HB := Lib.hid hb
    have HE := Lib.hid hbel
    clear hb hbel
    have h4 := HS.out.2
    have hk : n / 256 ^ j < 4294967296 := Nat.lt_of_le_of_lt (Nat.div_le_self _ _) HNN.out
    by_cases hjs : j < s
    · have hstep := putL_succ j n
      have hk2 : n / 256 ^ (j + 1) = n / 256 ^ j / 256 := by rw [Nat.pow_succ, Nat.div_div_eq_div_mul]
      have hc : (UInt8.ofNat (n / 256 ^ j)).toNat = n / 256 ^ j % 256 := by simp
      have HST := Lib.hid hstep
      have hlen := putL_length j n
      rw [hlen]
      have HL := Lib.hid hlen
      generalize UInt8.ofNat (n / 256 ^ j) = byte at *
      have HK2 := Lib.hid hk2
      clear hk2 hstep hlen
      generalize n / 256 ^ j = k at *
      obtain ⟨q, r, hqr, hr⟩ : ∃ q r : Nat, k = 256 * q + r ∧ r < 256 := ⟨k / 256, k % 256, by omega, by omega⟩
      have t1 : (k : Int).tdiv 256 = (q : Int) := by rw [Int.tdiv_eq_ediv_of_nonneg (by omega)]; omega
      have t2 : (k : Int).tmod 256 = (r : Int) := by rw [Int.tmod_eq_emod_of_nonneg (by omega)]; omega
      have t3 : (k : Int) / 256 = (q : Int) := by omega
      have t4 : (k : Int) % 256 = (r : Int) := by omega
      have hcr : byte.toNat = r := by omega
      have hkq : k / 256 = q := by omega
      have HCR := Lib.hid hcr
      have HKQ := Lib.hid hkq
      have u1 := wrap_byte r hr
      obtain ⟨u2, u3, _⟩ := wrap_small q (by omega)
      obtain ⟨_, _, u4⟩ := wrap_small k hk
      have k1 : decide (j < s) = true := by simp only [decide_eq_true_eq]; omega
      clear hc hqr hr hk h4 hcr hkq
      go_wp2_with (at_builtin; refine stop ?_)
      have hown : (wr.alloc (.cells #[.int .u8 (r : Int)] 5)).ownsRow w.heap.size 5 1 (.slice (some ⟨wr.heap.size, 0, none⟩) 1 1) 1 [.int .u8 (r : Int)] := World.ownsRow_lit (base := w.heap.size) (e := 5) (size := 1) wr #[.int .u8 (r : Int)] 1 HE.out.size (by unfold maxLen; omega) (by simp)
      have hbelA : Below w.heap.size w (wr.alloc (.cells #[.int .u8 (r : Int)] 5)) := HE.out.alloc HE.out.size _
      have HBA := Lib.hid hbelA
      have HOW := Lib.hid hown
      clear hbelA hown
      refine unstop (wpList_app tyB rfl _ _ rfl w.heap.size _ 1 _ rfl HOW.out _ (putL j n).length (vBs (putL j n)) (by rw [HL.out]; rfl) (SlN.old HB.out ((Below.refl _ _).alloc (Nat.le_refl _) _)) (vBs_one _) (by rw [HL.out]; have := HS.out; omega) (by rw [HL.out]; have := HS.out; omega) HBA.out.size ?_)
      intro v1 w1 hown1 hg1 _
      have HB1 := Lib.hid (run_app_below HOW.out hg1 HBA.out (Nat.le_refl _))
      have HO1 : Hid (Bs w1 v1 (putL (j + 1) n)) := Lib.hid (by
        have h1 := sl_of_owns hown1
        rw [HST.out]
        have h2 : [Value.int .u8 (r : Int)] ++ vBs (putL j n) = vBs (byte :: putL j n) := by simp [vBs, vB, HCR.out]
        rw [h2] at h1
        simpa [Bs, Nat.add_comm] using h1)
      have HO2 : Hid (w1.ownsRow w.heap.size 5 1 v1 (j + 1) (vBs (putL (j + 1) n))) := Lib.hid (by
        rw [HST.out]
        have h2 : [Value.int .u8 (r : Int)] ++ vBs (putL j n) = vBs (byte :: putL j n) := by simp [vBs, vB, HCR.out]
        have h1 := hown1
        rw [h2, HL.out, Nat.add_comm] at h1
        exact h1)
      clear hown1 hg1
      go_wp2_with fail
      have e1 := next64 j (Nat.lt_of_lt_of_le hjs HS.out.2)
      refine ⟨⟨j + 1, hjs, HO1.out, fun _ => HO2.out, by rw [HK2.out, HKQ.out], vi e1, HB1.out⟩, ?_⟩
      rw [e1]
      exact meas s j hjs
    · obtain rfl : j = s := by omega
      have h0 : n / 256 ^ j = 0 := Nat.div_eq_of_lt HN.out
      rw [h0]
      go_wp2_with fail
      go_ret2
      exact ⟨_, rfl, HB.out, HOWN.out HS.out.1, HE.out⟩
end Go.Proofs.YtlgjjoglajgbeaaDoor
