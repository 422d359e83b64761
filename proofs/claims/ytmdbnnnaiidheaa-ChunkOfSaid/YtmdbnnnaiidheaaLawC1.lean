/- Chapter 12's laws: the fixed fact, what is large. By an AI agent. -/
import Derived.Test.YtmdbnnnaiidheaaRefC3
import Derived.Test.YtmdbnnnaiidheaaChunkW
import Derived.Test.YtmdbnnnaiidheaaOver
namespace Go.Proofs.Ytmdbnnnaiidheaa
open Go.RowKit Go.BigFrame
set_option linter.unusedVariables false
set_option linter.unusedSimpArgs false

/-! ## alive -/
theorem one_good : goodL [(iend, [])] = true := by decide
theorem one_code : writeC [(iend, [])] = 0 := by decide
theorem one_bytes : writeL [(iend, [])] = [137, 80, 78, 71, 13, 10, 26, 10, 0, 0, 0, 0, 73, 69, 78, 68, 174, 66, 96, 130] := by decide +kernel
theorem one_parse : parseL [137, 80, 78, 71, 13, 10, 26, 10, 0, 0, 0, 0, 73, 69, 78, 68, 174, 66, 96, 130] = ([(iend, [])], 0) := by
  rw [← one_bytes]; exact parse_write one_good (by decide)
theorem one_signed : signedC [137, 80, 78, 71, 13, 10, 26, 10, 0, 0, 0, 0, 73, 69, 78, 68, 174, 66, 96, 130] = true := by decide
theorem cks_one (w : World) : Cks (w.alloc (.cells #[.string (strOf iend), .slice none 0 0] 39)) (.slice (some ⟨w.heap.size, 0, none⟩) 1 1) [(iend, [])] := by
  refine ⟨_, 1, rfl, fun i hi => ?_⟩
  have h : i = 0 := by simp at hi; omega
  subst h
  obtain ⟨h0, h1, _, _⟩ := resB_of (heap_alloc_new w (.cells #[.string (strOf iend), .slice none 0 0] 39))
  exact ⟨w.heap.size, 0, .slice none 0 0, rfl, h0, h1, Bs.nil _ _ _⟩
set_option maxRecDepth 20000 in
set_option maxHeartbeats 3200000 in
theorem alive_any (w : World) : Calls Try.prog 9 #[] w fun e w' => e = .returned (.bool true) ∧ Below w.heap.size w w' := by
  go_enter Try.func9, Try.ntmps9
  go_wp2_with fail
  refine (write_any _ [(iend, [])] _ (cks_one w) (by decide) (by decide) (by decide)).mono ?_
  rintro e w1 ⟨v1, rfl, hv1, hb1⟩
  rw [one_code] at hv1 ⊢
  rw [if_pos rfl, one_bytes] at hv1
  have B1 : Hid (Below w.heap.size w w1) := Lib.hid (((Below.refl _ _).alloc (Nat.le_refl _) _).trans (hb1.mono (by simp)))
  have V1 := Lib.hid hv1
  obtain ⟨b, off, cap, rfl, hc20, _, hx⟩ : ∃ b off cap, v1 = .slice (some ⟨b, off, none⟩) 20 cap ∧ 20 ≤ cap ∧ True ∧ w1.cell? ⟨b, off + 19, none⟩ = some (.int .u8 130) := by
    rcases hv1.shape with ⟨_, _, _, h⟩ | ⟨b, off, cap, h, h2, _, h4⟩
    · cases h
    · exact ⟨b, off, cap, h, h2, trivial, h4 19 (by decide)⟩
  have E0 : errV ((0 : Nat) : Int) = .nilIface := rfl
  rw [E0]
  clear hv1 hb1 E0
  go_wp2_with fail
  refine (csigned_any _ _ _ V1.out (by decide)).mono ?_; rintro e w2 ⟨rfl, hb2⟩
  rw [one_signed]
  have B2 := Lib.hid (B1.out.trans (hb2.mono B1.out.size))
  have V2 := Lib.hid (V1.out.old hb2)
  clear hb2 hx
  go_wp2_with fail
  refine (parse_any _ _ _ V2.out (by decide)).mono ?_
  rw [one_parse]
  rintro e w3 ⟨v3, ps, rfl, hv3, hps, hb3⟩
  have B3 := Lib.hid (B2.out.trans (hb3.mono B2.out.size))
  have hck := hv3.bs
  rw [hps] at hck
  obtain ⟨a, c, rfl, hck⟩ := hck
  obtain ⟨b', o', x, rfl, q0, q1, _⟩ := hck 0 (by decide)
  have E0 : errV ((0 : Nat) : Int) = .nilIface := rfl
  simp only [List.getElem_cons_zero, Nat.zero_mul, Nat.add_zero] at q0 q1
  rw [E0]
  clear hv3 hps hb3 hck E0
  have s1 : ((strOf iend).toList == [73, 69, 78, 68]) = true := by rw [strOf_toList]; decide
  go_wp2_with fail
  go_ret
  exact ⟨rfl, B3.out⟩
/-! ## large -/
def wide12 (c : Chk) : Nat := 20 + c.2.length + c.1.length
def sumOf (cs : List Chk) : Nat := (cs.map wide12).sum
def largeB (cs : List Chk) : Bool := decide (10000 < sumOf cs)
theorem sumOf_take (cs : List Chk) (k : Nat) (h : k < cs.length) : sumOf (cs.take (k + 1)) = sumOf (cs.take k) + (20 + cs[k].2.length + cs[k].1.length) := by
  unfold sumOf
  rw [List.take_succ_eq_append_getElem h, List.map_append, List.sum_append]; simp [wide12]
theorem sumOf_le (cs : List Chk) (k : Nat) : sumOf (cs.take k) ≤ sumOf cs := sum_take wide12 cs k
theorem sumOf_len (cs : List Chk) : 20 * cs.length ≤ sumOf cs := by
  unfold sumOf
  induction cs with
  | nil => simp
  | cons c r ih => simp only [List.length_cons, List.map_cons, List.sum_cons, wide12] at ih ⊢; omega
theorem sumOf_mem (cs : List Chk) : ∀ c ∈ cs, 20 + c.2.length + c.1.length ≤ sumOf cs := by
  intro c hc
  unfold sumOf
  induction cs with
  | nil => cases hc
  | cons d r ih =>
    simp only [List.map_cons, List.sum_cons]
    rcases List.mem_cons.1 hc with rfl | hc
    · simp [wide12]
    · have := ih hc; omega
set_option maxHeartbeats 1600000 in
theorem large_any (v : Value) (cs : List Chk) (w : World) (hb : Cks w v cs) (hl : cs.length ≤ 140737488351232) (hnm : ∀ c ∈ cs, c.1.length ≤ 140737488351232) (hdt : ∀ c ∈ cs, c.2.length ≤ 140737488351232) :
    Calls Try.prog 17 #[v] w fun e w' => e = .returned (.bool (largeB cs)) ∧ Below w.heap.size w w' := by
  obtain ⟨a0, c0, rfl, hx⟩ := hb
  have HX := Lib.hid hx
  have HN := Lib.hid hnm
  have HD := Lib.hid hdt
  clear hx hnm hdt
  go_enter Try.func17, Try.ntmps17
  go_wp2_with fail
  go_loopw [3, 8] (fun s i W => ∃ k : Nat, k ≤ cs.length ∧ i = .int .i64 k ∧ s = .int .i64 (sumOf (cs.take k) : Nat) ∧ sumOf (cs.take k) ≤ 10000 ∧ Below w.heap.size w W) (fun _ i _ => cs.length - (intOf i).toNat)
  case atStart => exact ⟨0, Nat.zero_le _, rfl, rfl, by simp [sumOf], Below.refl _ _⟩
  case round =>
    obtain ⟨k, hk, rfl, rfl, hs, hbel⟩ := hrel
    have BE := Lib.hid hbel
    by_cases hkl : k < cs.length
    · obtain ⟨b, off, x, rfl, hc0, hc1, hbx⟩ := HX.out k hkl
      have q0 := cell_old hbel hc0
      have q1 := cell_old hbel hc1
      have e1 : decide ((k : Int) < (cs.length : Int)) = true := by rw [decide_eq_true_eq]; omega
      have e2 : decide (k < cs.length) = true := by rw [decide_eq_true_eq]; omega
      obtain ⟨a', c', rfl⟩ := hbx.len
      have NL := HN.out _ (List.getElem_mem hkl)
      have DL := HD.out _ (List.getElem_mem hkl)
      have ST := Lib.hid (sumOf_take cs k hkl)
      have SL := Lib.hid (sumOf_le cs (k + 1))
      obtain ⟨⟨nm, dt⟩, hc⟩ : ∃ c, cs[k] = c := ⟨_, rfl⟩
      rw [hc] at q0 q1 NL DL ST
      simp only at q0 q1 NL DL ST
      obtain ⟨S, hS⟩ : ∃ S, sumOf (cs.take k) = S := ⟨_, rfl⟩
      rw [hS] at hs ST ⊢
      obtain ⟨n, hn⟩ : ∃ n, dt.length = n := ⟨_, rfl⟩
      obtain ⟨m, hm⟩ : ∃ m, nm.length = m := ⟨_, rfl⟩
      have SZ : (strOf nm).size = m := by rw [strOf_size]; exact hm
      rw [hn] at q1 DL ST
      rw [hm] at NL ST
      have B1 : Hid (Below w.heap.size w (wr.alloc (.cells #[.string (strOf nm), .slice a' n c'] 39))) := Lib.hid (hbel.alloc hbel.size _)
      clear hc0 hc1 hbx hc hn hm hS hbel
      by_cases hbig : 10000 < S + (20 + n + m)
      · have d1 : decide ((10000 : Int) < (S : Int) + (20 + (n : Int) + (m : Int))) = true := by rw [decide_eq_true_eq]; omega
        have LB : Hid (largeB cs = true) := Lib.hid (by
          unfold largeB; rw [decide_eq_true_eq]; have h1 := ST.out; have h2 := SL.out; omega)
        clear hbig
        go_wp2_with fail
        go_ret
        exact ⟨rb LB.out.symm, B1.out⟩
      · have d1 : decide ((10000 : Int) < (S : Int) + (20 + (n : Int) + (m : Int))) = false := by rw [decide_eq_false_iff_not]; omega
        have LE := Lib.hid hbig
        clear hbig
        go_wp2_with fail
        go_roundw
        case rel => exact ⟨k + 1, by omega, by go_num, by rw [ST.out]; exact vi (by omega), by rw [ST.out]; have := LE.out; omega, B1.out⟩
        case measure => simp [intOf]; omega
    · obtain rfl : k = cs.length := by omega
      have e1 : decide ((cs.length : Int) < (cs.length : Int)) = false := by rw [decide_eq_false_iff_not]; omega
      have LB : Hid (largeB cs = false) := Lib.hid (by
        unfold largeB; rw [List.take_length] at hs; rw [decide_eq_false_iff_not]; omega)
      clear hbel
      go_wp2_with fail
      go_ret
      exact ⟨rb LB.out.symm, BE.out⟩
end Go.Proofs.Ytmdbnnnaiidheaa
