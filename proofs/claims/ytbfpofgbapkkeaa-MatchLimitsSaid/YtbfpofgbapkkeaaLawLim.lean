/- MatchLimits: the law's walk. By an AI agent. -/
import Derived.Test.YtbfpofgbapkkeaaNearI
import Derived.Test.YtbfpofgbapkkeaaAlive8
namespace Go.Proofs.Ytbfpofgbapkkeaa
open Go.RowKit Go.Shelf
set_option linter.unusedVariables false
set_option linter.unusedSimpArgs false
attribute [local go_sem] Oper.semAt_some

theorem lim3 (k : Int) : ∃ m : Nat, 1048576 ≤ m ∧ m ≤ 1048578 ∧ wrap64 (1048576 + wrap64 ((IntKind.u64.wrap k).tmod 3)) = (m : Int) := by
  have h0 : 0 ≤ IntKind.u64.wrap k := by simp [IntKind.wrap, IntKind.signed, IntKind.bits]; omega
  refine ⟨(1048576 + IntKind.u64.wrap k % 3).toNat, by omega, by omega, ?_⟩
  rw [Int.tmod_eq_emod_of_nonneg h0, IntWalk.wrap64_in (IntKind.u64.wrap k % 3) (by omega), IntWalk.wrap64_in _ (by omega)]
  omega
theorem mkBytes (n : Nat) (h : n ≤ 2000000) : ∃ O : Obj, (∀ w, (Instr.makeSlice 22 (.int .i64 (n : Int)) (.int .i64 (n : Int))).run Try.prog w = .ok (.slice (some ⟨w.heap.size, 0, none⟩) n n) (w.alloc O)) ∧ ∀ w : World, (w.alloc O).rowIs w.heap.size 5 n (fun _ => .int .u8 0) :=
  ⟨.cells (madeCells #[.int .u8 0] n) 5, fun w => run_make_row' 22 5 (.int .u8 0) 1 Try.underlying22 (by kernel_rfl) rfl .i64 .i64 n (by omega) (by omega) w, fun w => World.rowIs_made w (.int .u8 0) n 5⟩
theorem bs_row {w : World} {g n : Nat} {t : TypeId} (h : w.rowIs g t n (fun _ => .int .u8 0)) : Bs w (.slice (some ⟨g, 0, none⟩) n n) (List.replicate n 0) := by
  refine ⟨by simp [vBs], ?_⟩
  rw [List.length_replicate]
  by_cases h0 : n = 0
  · exact .inl ⟨_, _, rfl, h0⟩
  · refine .inr ⟨g, 0, _, rfl, Nat.le_refl _, by omega, fun i u hu => ?_⟩
    have hi : i < n := by have := (List.getElem?_eq_some_iff.1 hu).1; simpa [vBs] using this
    rw [Nat.zero_add, h.cell hi]
    simp only [vBs, List.getElem?_map, List.getElem?_replicate, hi, if_true, Option.map_some, Option.some.injEq] at hu
    rw [← hu]; rfl
set_option maxHeartbeats 800000 in
theorem newFinder_big (v : Value) (l : List UInt8) (w : World) (hb : Bs w v l) (hl : 1048576 < l.length) (hl2 : l.length ≤ 140737488355328) :
    Calls Try.prog 12 #[v] w fun e w' => e = .returned (.tuple #[.pointer none, errV 4]) ∧ w = w' := by
  obtain ⟨av, cap, rfl⟩ := hb.len
  have d1 : decide ((1048576 : Int) < (l.length : Int)) = true := by rw [decide_eq_true_eq]; omega
  rw [errV_some (by decide)]
  clear hb hl
  go_enter Try.func12, Try.ntmps12
  go_wp2_with fail
  go_ret2
  exact ⟨rfl, rfl⟩

set_option maxRecDepth 100000 in
set_option maxHeartbeats 8000000 in
theorem lawLim_any (N p : Int) (w : World) (hN : -9223372036854775808 ≤ N ∧ N ≤ 9223372036854775807) (hp : -9223372036854775808 ≤ p ∧ p ≤ 9223372036854775807) :
    Calls Try.prog 7 #[.int .i64 N, .int .i64 p] w fun e w' => e = .returned (.bool true) ∧ Below w.heap.size w w' := by
  have HP := Lib.hid hp
  clear hp
  refine (callsIn_wide (n := 8)).1 ?_
  refine callsIn_of_wp_marks Try.func7 rfl trivial ?_ rfl
  simp only [Try.ntmps7, List.size_toArray, List.length_cons, List.length_nil, Nat.reduceAdd, Nat.reduceSub, Array.replicate_succ, Array.replicate_zero, List.push_toArray, List.append_toArray, List.nil_append, List.cons_append]
  refine wpIn_wide.2 ?_
  go_wp2_with fail
  refine (alive_any _).mono ?_; rintro e w1 ⟨rfl, hb1⟩
  have B1 := Lib.hid hb1
  clear hb1
  obtain ⟨m, hm1, hm2, hm⟩ := lim3 N
  obtain ⟨O, M1, hO⟩ := mkBytes m (by omega)
  have RO := Lib.hid hO
  have HM := Lib.hid hm
  clear hm hO
  go_upto_region 4 with (fail)
  rw [HM.out]
  go_wp2_with fail
  obtain ⟨l, hbs, hlen⟩ : ∃ l : List UInt8, Bs (w1.alloc O) (.slice (some ⟨w1.heap.size, 0, none⟩) m m) l ∧ l.length = m := ⟨_, bs_row (RO.out w1), List.length_replicate⟩
  have LN := Lib.hid hlen
  have ba : Below w1.heap.size w1 (w1.alloc O) := (Below.refl _ _).alloc (Nat.le_refl _) _
  have BA := Lib.hid (B1.out.trans (ba.mono B1.out.size))
  have HBS := Lib.hid hbs
  clear hbs ba RO M1 HM hlen
  by_cases hbig : 1048576 < m
  case' pos =>
    have d1 : decide ((1048576 : Int) < (m : Int)) = true := by rw [decide_eq_true_eq]; omega
    have d2 : decide (1048576 < m) = true := by rw [decide_eq_true_eq]; omega
    refine (newFinder_big _ l _ HBS.out (by have := LN.out; omega) (by have := LN.out; omega)).mono ?_
    rintro e w2 ⟨rfl, rfl⟩
    clear hbig
    go_wp2_with fail
    refine (is_any 4 4 _).mono ?_; rintro e w3 ⟨rfl, rfl⟩
    go_upto_region 10 with (fail)
    obtain ⟨W, hW⟩ : ∃ W, w1.alloc O = W := ⟨_, rfl⟩
    rw [hW] at BA
    rw [hW]
  case' neg =>
    obtain rfl : m = 1048576 := by omega
    refine (newFinder_any _ l _ HBS.out (Nat.le_of_eq LN.out)).mono ?_
    rintro e w2 ⟨f, rfl, hF, hb2⟩
    obtain ⟨g, bs, rfl, hFV, hbs⟩ := hF.fv
    have BA' := Lib.hid (BA.out.trans (hb2.mono BA.out.size))
    have FV2 := Lib.hid hFV
    clear hF hFV hbs hb2 hbig BA
    have i1 : ((1048576 : Nat) : Int) = 1048576 := rfl
    rw [i1]
    go_wp2_with fail
    refine (len_any bs _ _ _ FV2.out).mono ?_; rintro e w3 ⟨rfl, rfl⟩
    rw [show lenO (some l) = 1048576 from LN.out, i1]
    go_upto_region 10 with (fail)
    have BA : Hid (Below w.heap.size w w2) := BA'
    obtain ⟨W, hW⟩ : ∃ W, w2 = W := ⟨_, rfl⟩
    rw [hW] at BA
    rw [hW]
  all_goals
    clear hW
    go_wp2_with fail
    refine (longest_any [] p none none W HP.out (by decide) rfl (by simp)).mono ?_; rintro e w4 ⟨rfl, hb4⟩
    rw [show betterL none p = [] from rfl, show tokC (lastT []) = #[.int .i64 0, .int .i64 0] from rfl, show decide (0 < (lastT []).1) = false from rfl]
    have B4 := Lib.hid (BA.out.trans (hb4.mono BA.out.size))
    clear hb4
    go_wp2_with fail
    refine (nearest_any p none _).mono ?_; rintro e w6 ⟨rfl, hw6⟩
    go_wp2_with fail
    rw [← hw6]
    obtain ⟨Z, hZ⟩ : ∃ Z, w4.heap.size = Z := ⟨_, rfl⟩
    rw [hZ]
    have s6 : w6.heap.size = Z + 4 := by rw [hw6]; simp [hZ]
    have b46 : Below Z w4 w6 := by rw [hw6, ← hZ]; exact ((((Below.refl _ _).alloc (Nat.le_refl _) _).alloc (by simp) _).alloc (by simp; omega) _).alloc (by simp; omega) _
    have t1 : Boxed w6 (Z + 1) 3 (.int .i64 0) := by
      rw [hw6, ← hZ]
      have h := Boxed.new (w4.alloc (.cells #[.int .i64 0, .int .i64 0] 24)) 3 (.int .i64 0)
      simp only [World.size_alloc] at h
      exact (h.alloc _).alloc _
    have t3 : Boxed w6 (Z + 1 + 1) 29 (.pointer none) := by
      rw [hw6, ← hZ]
      have h := Boxed.new ((w4.alloc (.cells #[.int .i64 0, .int .i64 0] 24)).alloc (.cells #[.int .i64 0] 3)) 29 (.pointer none)
      simp only [World.size_alloc] at h
      exact h.alloc _
    have t4 : Boxed w6 (Z + 1 + 1 + 1) 3 (.int .i64 p) := by
      rw [hw6, ← hZ]
      have h := Boxed.new (((w4.alloc (.cells #[.int .i64 0, .int .i64 0] 24)).alloc (.cells #[.int .i64 0] 3)).alloc (.cells #[.pointer none] 29)) 3 (.int .i64 p)
      simp only [World.size_alloc] at h
      exact h
    have hzw : w.heap.size ≤ Z := by have := B4.out.size; omega
    have b6 : Below w.heap.size w w6 := B4.out.trans (b46.mono hzw)
    clear hw6 b46
    refine wpIn_wide.1 (rangeB (n := 8) (by omega) (gf := 23) (lb := #[.pointer (some ⟨Z + 1 + 1, 0, none⟩), .pointer (some ⟨Z + 1 + 1 + 1, 0, none⟩)]) rfl (enters_of Try.func23 (by kernel_rfl) rfl)
      (near_seq (8 - 1) (by omega) (Z + 1 + 1) (Z + 1 + 1 + 1) [] p none none w6 HP.out (by decide) t3.cell t4.cell rfl (by simp)) (Below.refl _ _) (fun _ => rfl) (by simp)
      (fun pre V => Boxed V (Z + 1) 3 (.int .i64 0) ∧ Below w.heap.size w V) (fun c pre V => False)
      (fun s X Y h hb => ⟨boxed_low h.1 hb (by omega), h.2.trans (hb.mono (by omega))⟩) (fun c s X Y h hb => h) ⟨t1, b6⟩ ?round ?done ?stop)
    case round =>
      rintro ll pre x X hl hlX hI hx
      exact absurd hx.length_le (by simp [pairsL, betterL, pairs])
    case stop =>
      rintro D c pre X hD hDX hpre h hK
      exact h.elim
    case done =>
      rintro D X hD hDX ⟨h1, h2⟩ hK
      have k0 := h1.cell
      have H2 := Lib.hid h2
      have HK := Lib.hid hK
      clear h1 h2 hK
      go_wp2_with fail
      refine (len_any [] _ none _ rfl).mono ?_; rintro e w3 ⟨rfl, rfl⟩
      rw [show lenO none = 0 from rfl, show ((0 : Nat) : Int) = 0 from rfl]
      go_wp2_with fail
      refine ⟨by simp, .inl ⟨_, _, rfl, run_takeDeferred HK.out, ?_⟩⟩
      refine ⟨.bool true, by simp [results, Try.f7, go_sem], rfl, ?_⟩
      exact H2.out.trans ((sameBut_put _ _ _).below (by omega))
end Go.Proofs.Ytbfpofgbapkkeaa
