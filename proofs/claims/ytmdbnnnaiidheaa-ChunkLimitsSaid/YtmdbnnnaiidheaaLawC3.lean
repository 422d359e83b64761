/- ChunkLimits: the law's walk. By an AI agent. -/
import Derived.Test.YtmdbnnnaiidheaaLawC2
namespace Go.Proofs.Ytmdbnnnaiidheaa
open Go.RowKit Go.BigFrame
set_option linter.unusedVariables false
set_option linter.unusedSimpArgs false

theorem lim12 (k : Int) : ∃ s : Int, -1 ≤ s ∧ s ≤ 1 ∧ wrap64 (wrap64 ((IntKind.u64.wrap k).tmod 3) - 1) = s := by
  have h0 : 0 ≤ IntKind.u64.wrap k := by simp [IntKind.wrap, IntKind.signed, IntKind.bits]; omega
  refine ⟨IntKind.u64.wrap k % 3 - 1, by omega, by omega, ?_⟩
  rw [Int.tmod_eq_emod_of_nonneg h0, IntWalk.wrap64_in (IntKind.u64.wrap k % 3) (by omega), IntWalk.wrap64_in _ (by omega)]
theorem mkB (n : Nat) (h : n ≤ 2000000) : ∃ O : Obj, (∀ w, (Instr.makeSlice 22 (.int .i64 (n : Int)) (.int .i64 (n : Int))).run Try.prog w = .ok (.slice (some ⟨w.heap.size, 0, none⟩) n n) (w.alloc O)) ∧ ∀ w : World, Bs (w.alloc O) (.slice (some ⟨w.heap.size, 0, none⟩) n n) (List.replicate n 0) := by
  refine ⟨.cells (madeCells #[.int .u8 0] n) 5, fun w => run_make_row' 22 5 (.int .u8 0) 1 Try.underlying22 (by kernel_rfl) rfl .i64 .i64 n (by omega) (by omega) w, fun w => ?_⟩
  have hr := World.rowIs_made w (.int .u8 0) n 5
  refine Bs.some_slice (fun i hi => ?_) (by simp) (Nat.le_refl _)
  have hi' : i < n := by simpa using hi
  rw [Nat.zero_add, hr.cell hi']
  simp
def textN : List UInt8 := [116, 69, 88, 116]
theorem cks_two (w : World) (v : Value) (d : List UInt8) (hb : Bs w v d) : Cks (w.alloc (.cells #[.string (strOf textN), v, .string (strOf iend), .slice none 0 0] 39)) (.slice (some ⟨w.heap.size, 0, none⟩) 2 2) [(textN, d), (iend, [])] := by
  have hn := heap_alloc_new w (.cells #[.string (strOf textN), v, .string (strOf iend), .slice none 0 0] 39)
  refine ⟨_, 2, rfl, fun i hi => ?_⟩
  match i, hi with
  | 0, _ => exact ⟨w.heap.size, 0, v, rfl, by rw [cell_of_row _ _ _ _ _ (0, 0) hn]; rfl, by rw [cell_of_row _ _ _ _ _ (0, 0) hn]; rfl, hb.old ((Below.refl _ _).alloc (Nat.le_refl _) _)⟩
  | 1, _ => exact ⟨w.heap.size, 0, .slice none 0 0, rfl, by rw [cell_of_row _ _ _ _ _ (0, 0) hn]; rfl, by rw [cell_of_row _ _ _ _ _ (0, 0) hn]; rfl, Bs.nil _ _ _⟩
theorem two_good (d : List UInt8) : goodL [(textN, d), (iend, [])] = true := by
  show (midOk (textN, d) && endOk (iend, [])) = true
  rw [Bool.and_eq_true]
  exact ⟨by show (namedB textN && decide (textN ≠ iend)) = true; decide, by decide⟩
theorem two_size (d : List UInt8) : sizeW [(textN, d), (iend, [])] = 32 + min d.length 1048576 := by
  simp [sizeW]; omega
theorem is_four (n : Int) (w : World) : Calls Try.prog 20 #[errV n, .int .i64 4] w fun e w' => e = .returned (.bool (n == 4)) ∧ w = w' := is_any n 4 w
set_option maxRecDepth 20000 in
set_option maxHeartbeats 3200000 in
theorem lawLimits_any (k : Int) (w : World) (hk : -9223372036854775808 ≤ k ∧ k ≤ 9223372036854775807) :
    Calls Try.prog 7 #[.int .i64 k] w fun e w' => e = .returned (.bool true) ∧ Below w.heap.size w w' := by
  have HK := Lib.hid hk
  clear hk
  go_enter Try.func7, Try.ntmps7
  go_wp2_with fail
  refine (alive_any _).mono ?_; rintro e w1 ⟨rfl, hb1⟩
  have B1 := Lib.hid hb1
  clear hb1
  obtain ⟨s, hs1, hs2, hs⟩ := lim12 k
  have HS := Lib.hid hs
  clear hs
  go_upto_region 4 with (fail)
  rw [HS.out]
  obtain ⟨m, hm⟩ : ∃ m : Nat, (1048544 : Int) + s = (m : Int) := ⟨(1048544 + s).toNat, by omega⟩
  have hm1 : m ≤ 1048545 := by omega
  obtain ⟨O, M1, hO⟩ := mkB m (by omega)
  have RO := Lib.hid (hO w1)
  have LM : Hid (List.length (List.replicate m (0 : UInt8)) = m) := Lib.hid List.length_replicate
  obtain ⟨d, hd⟩ : ∃ d, List.replicate m (0 : UInt8) = d := ⟨_, rfl⟩
  rw [hd] at RO LM
  have HM := Lib.hid hm
  clear hd hO HS
  go_wp2_with fail
  have ck := cks_two (w1.alloc O) _ d RO.out
  rw [World.size_alloc] at ck
  obtain ⟨X, hX⟩ : ∃ X, (w1.alloc O).alloc (.cells #[.string (strOf textN), .slice (some ⟨w1.heap.size, 0, none⟩) m m, .string (strOf iend), .slice none 0 0] 39) = X := ⟨_, rfl⟩
  have BX : Hid (Below w.heap.size w X) := Lib.hid (by rw [← hX]; exact (B1.out.alloc B1.out.size _).alloc (by have := B1.out.size; simp; omega) _)
  rw [hX] at ck
  have hX' : (w1.alloc O).alloc (.cells #[.string { data := #[116, 69, 88, 116] }, .slice (some ⟨w1.heap.size, 0, none⟩) m m, .string { data := #[73, 69, 78, 68] }, .slice none 0 0] 39) = X := hX
  rw [hX']
  have CK := Lib.hid ck
  have hdl : ∀ c ∈ [(textN, d), (iend, ([] : List UInt8))], c.2.length ≤ 140737488351232 := by
    intro c hc
    simp only [List.mem_cons, List.not_mem_nil, or_false] at hc
    rcases hc with rfl | rfl
    · show d.length ≤ _; rw [LM.out]; omega
    · decide
  have hnl : ∀ c ∈ [(textN, d), (iend, ([] : List UInt8))], c.1.length ≤ 140737488351232 := by
    intro c hc
    simp only [List.mem_cons, List.not_mem_nil, or_false] at hc
    rcases hc with rfl | rfl
    · show textN.length ≤ _; decide
    · decide
  have WA := Lib.hid (write_any _ [(textN, d), (iend, [])] X CK.out (by simp) hnl hdl)
  clear ck hX hX' hdl hnl M1
  refine WA.out.mono ?_
  rintro e w2 ⟨v2, rfl, hv2, hb2⟩
  have B2 := Lib.hid (BX.out.trans (hb2.mono BX.out.size))
  by_cases hp : 0 < s
  · have d1 : decide (0 < s) = true := by rw [decide_eq_true_eq]; exact hp
    obtain rfl : s = 1 := by omega
    have WC : writeC [(textN, d), (iend, [])] = 4 := by
      unfold writeC
      rw [two_good, two_size, LM.out]
      simp only [Bool.not_true, Bool.false_eq_true, if_false]
      rw [if_pos (by have := HM.out; omega)]
    rw [WC] at hv2 ⊢
    rw [if_neg (by decide)] at hv2
    obtain ⟨av, cv, rfl⟩ := hv2.len
    obtain ⟨O2, M2, hO2⟩ := mkB 1048577 (by decide)
    have M2' : ∀ W, (Instr.makeSlice 22 (.int .i64 1048577) (.int .i64 1048577)).run Try.prog W = .ok (.slice (some ⟨W.heap.size, 0, none⟩) 1048577 1048577) (W.alloc O2) := M2
    have RO2 := Lib.hid (hO2 w2)
    have IS := Lib.hid (fun W => is_four ((4 : Nat) : Int) W)
    have EV := Lib.hid (errV_some (n := ((4 : Nat) : Int)) (by decide))
    rw [EV.out]
    rw [EV.out] at IS
    obtain ⟨z, hz⟩ : ∃ z, List.replicate 1048577 (0 : UInt8) = z := ⟨_, rfl⟩
    rw [hz] at RO2
    have LZ : Hid (z.length = 1048577) := Lib.hid (by rw [← hz]; exact List.length_replicate)
    have PZ : Hid (parseL z = ([], 4)) := Lib.hid (by unfold parseL; rw [if_pos (by rw [LZ.out]; decide)])
    clear hp WC hv2 hb2 M2 hO2 hz
    go_wp2_with fail
    refine (parse_any _ z _ RO2.out (by rw [LZ.out]; decide)).mono ?_
    rw [PZ.out]
    rintro e w3 ⟨v3, ps, rfl, hv3, hps, hb3⟩
    obtain rfl : ps = [] := List.map_eq_nil_iff.1 hps
    obtain ⟨a3, c3, rfl⟩ := owns_len hv3.row
    have B3 := Lib.hid ((B2.out.alloc B2.out.size O2).trans (hb3.mono (by have := B2.out.size; simp; omega)))
    simp only []
    rw [EV.out]
    clear hv3 hps hb3
    go_wp2_with fail
    refine (IS.out _).mono ?_; rintro e w4 ⟨rfl, rfl⟩
    rw [show (((4 : Nat) : Int) == 4) = true from rfl]
    go_wp2_with fail
    refine (IS.out _).mono ?_; rintro e w4 ⟨rfl, rfl⟩
    rw [show (((4 : Nat) : Int) == 4) = true from rfl]
    go_wp2_with fail
    go_ret
    exact ⟨rfl, B3.out⟩
  · have d1 : decide (0 < s) = false := by rw [decide_eq_false_iff_not]; exact hp
    have SW : sizeW [(textN, d), (iend, [])] = 32 + m := by rw [two_size, LM.out, Nat.min_eq_left (by omega)]
    have WC : writeC [(textN, d), (iend, [])] = 0 := by
      unfold writeC
      rw [two_good, SW]
      simp only [Bool.not_true, Bool.false_eq_true, if_false]
      rw [if_neg (by have := HM.out; omega)]
    have WL : Hid ((writeL [(textN, d), (iend, [])]).length = 32 + m) := Lib.hid (by rw [writeL_size (two_good d) (by rw [SW]; have := HM.out; omega), SW])
    have PW : Hid (parseL (writeL [(textN, d), (iend, [])]) = ([(textN, d), (iend, [])], 0)) := Lib.hid (parse_write (two_good d) (by rw [SW]; have := HM.out; omega))
    rw [WC] at hv2 ⊢
    rw [if_pos rfl] at hv2
    obtain ⟨W, hW⟩ : ∃ W, writeL [(textN, d), (iend, [])] = W := ⟨_, rfl⟩
    rw [hW] at hv2 WL PW
    obtain ⟨av, cv, rfl⟩ := hv2.len
    have V2 := Lib.hid hv2
    have E0 : errV ((0 : Nat) : Int) = .nilIface := rfl
    have e3 : (1048576 : Int) + s = ((32 + m : Nat) : Int) := by have := HM.out; omega
    have e4 : ((W.length : Int) == 32 + (m : Int)) = true := by rw [WL.out]; simp
    rw [E0]
    clear hp SW WC hv2 hb2 hW E0
    go_wp2_with fail
    refine (parse_any _ W _ V2.out (by rw [WL.out]; omega)).mono ?_
    rw [PW.out]
    rintro e w3 ⟨v3, ps, rfl, hv3, hps, hb3⟩
    have B3 := Lib.hid (B2.out.trans (hb3.mono B2.out.size))
    have hck := hv3.bs
    simp only [] at hps ⊢
    rw [hps] at hck
    obtain ⟨a, c, rfl, hck⟩ := hck
    obtain ⟨b', o', x, rfl, q0, q1, q2⟩ := hck 0 (by simp)
    simp only [List.getElem_cons_zero, Nat.zero_mul, Nat.add_zero] at q0 q1 q2
    obtain ⟨ax, cx, rfl⟩ := q2.len
    rw [LM.out] at q1
    have E0 : errV ((0 : Nat) : Int) = .nilIface := rfl
    rw [E0]
    clear hv3 hps hb3 hck E0 q2
    go_wp2_with fail
    go_ret
    exact ⟨rfl, B3.out⟩
end Go.Proofs.Ytmdbnnnaiidheaa
