/- The walks of sums.Take, slices.Clone at bytes, burnishref01.Take. By an AI agent. -/
import Derived.Test.YtlgjjoglajgbeaaDoorNum
import Derived.Test.YtlgjjoglajgbeaaDoorErr
import Derived.Handy
namespace Go.Proofs.YtlgjjoglajgbeaaDoor
open Go.RowKit
set_option linter.unusedVariables false
set_option linter.unusedSimpArgs false

/-- the number that bytes say -/
def numL (l : List UInt8) : Nat := l.foldl (fun n b => n * 256 + b.toNat) 0
theorem numL_succ (l : List UInt8) (k : Nat) (h : k < l.length) : numL (l.take (k + 1)) = numL (l.take k) * 256 + l[k].toNat := by
  unfold numL
  rw [List.take_succ_eq_append_getElem h, List.foldl_append]
  rfl
theorem numL_lt (l : List UInt8) (k : Nat) : numL (l.take k) < 256 ^ k := by
  induction k with
  | zero => simp [numL]
  | succ k ih =>
    by_cases h : k < l.length
    · rw [numL_succ l k h, Nat.pow_succ]
      have := l[k].toNat_lt
      omega
    · rw [List.take_of_length_le (by omega)] at ih ⊢
      exact Nat.lt_of_lt_of_le ih (Nat.pow_le_pow_right (by omega) (by omega))

theorem Bs.some_slice {w : World} {b off n cap : Nat} {l : List UInt8} (h : ∀ i (h : i < l.length), w.cell? ⟨b, off + i, none⟩ = some (.int .u8 ((l[i].toNat : Nat) : Int))) (hn : n = l.length) (hc : n ≤ cap) : Bs w (.slice (some ⟨b, off, none⟩) n cap) l := by
  subst hn
  refine ⟨by simp [vBs], ?_⟩
  by_cases h0 : l.length = 0
  · exact .inl ⟨_, _, by rw [h0], h0⟩
  · refine .inr ⟨b, off, cap, rfl, hc, by omega, fun i u hu => ?_⟩
    have hi : i < l.length := by
      have := (List.getElem?_eq_some_iff.1 hu).1
      simpa [vBs] using this
    rw [h i hi]
    simp only [vBs, List.getElem?_map, List.getElem?_eq_getElem hi, Option.map_some] at hu
    exact hu

theorem nil_yes (cap : Nat) (w : World) : (binOp .eql 24 (.slice none 0 cap) (.slice none 0 0)).run Tryd.prog w = .ok (.bool true) w := by kernel_rfl
theorem nil_no (a : Addr) (n cap : Nat) (w : World) : (binOp .eql 24 (.slice (some a) n cap) (.slice none 0 0)).run Tryd.prog w = .ok (.bool false) w := by kernel_rfl

set_option maxHeartbeats 800000 in
theorem clone_any (v : Value) (l : List UInt8) (w : World) (hb : Bs w v l) (hl : l.length ≤ 140737488351232) :
    Calls Tryd.prog 42 #[v] w fun e w' => ∃ v', e = .returned v' ∧ Bs w' v' l ∧ Below w.heap.size w w' := by
  obtain ⟨a, cap, rfl⟩ := hb.len
  have HB := Lib.hid hb
  have HL := Lib.hid hl
  clear hb hl
  cases a with
  | none =>
    have hn : l = [] := by
      rcases HB.out.shape with ⟨a, cap', h, h2⟩ | ⟨b, off, cap', h, _⟩
      · exact h2
      · simp at h
    subst hn
    go_enter Tryd.func42, Tryd.ntmps42
    have ne := nil_yes cap
    go_wp2_with fail
    go_ret
    exact ⟨_, rfl, Bs.nil _ _ _, Below.refl _ _⟩
  | some a =>
    have ne := nil_no a l.length cap
    go_enter Tryd.func42, Tryd.ntmps42
    go_wp2_with (at_builtin; refine stop ?_)
    have hb0 : Below w.heap.size w (w.alloc (.cells #[] 5)) := (Below.refl _ _).alloc (Nat.le_refl _) _
    refine unstop (wpList_app tyB rfl _ _ rfl w.heap.size _ 0 [] rfl (own0 w _) _ l.length (vBs l) rfl (SlN.old HB.out hb0) (vBs_one l) (by have := HL.out; omega) (by have := HL.out; omega) (by simp) ?_)
    intro v1 w1 hown1 hg1 _
    have HB1 := Lib.hid (run_app_below (own0 w _) hg1 hb0 (Nat.le_refl _))
    have HO1 : Hid (Bs w1 v1 l) := Lib.hid (by have := sl_of_owns hown1; rw [List.nil_append] at this; simpa [Bs] using this)
    clear hb0 hown1 hg1
    go_wp2_with fail
    go_ret
    exact ⟨_, rfl, HO1.out, HB1.out⟩

set_option maxHeartbeats 800000 in
theorem take_bad (v : Value) (S : Int) (w : World) (h : S < 1 ∨ 4 < S) :
    Calls Tryd.prog 26 #[v, .int .i64 S] w fun e w' => e = .returned (.tuple #[.int .i64 0, .slice none 0 0, errV 6]) ∧ w = w' := by
  have c : decide (1 ≤ S) = false ∨ (decide (1 ≤ S) = true ∧ decide (S ≤ 4) = false) := by simp only [decide_eq_true_eq, decide_eq_false_iff_not]; omega
  rw [errV_some (by decide)]
  clear h
  rcases c with c1 | ⟨c1, c2⟩
  all_goals
    go_enter Tryd.func26, Tryd.ntmps26
    go_wp2
    go_ret3
    exact ⟨rfl, rfl⟩

set_option maxHeartbeats 800000 in
theorem take_short (v : Value) (l : List UInt8) (s : Nat) (w : World) (hb : Bs w v l) (hs : 1 ≤ s ∧ s ≤ 4) (h : l.length < s) :
    Calls Tryd.prog 26 #[v, .int .i64 (s : Int)] w fun e w' => e = .returned (.tuple #[.int .i64 0, .slice none 0 0, errV 8]) ∧ w = w' := by
  obtain ⟨a, cap, rfl⟩ := hb.len
  have c1 : decide ((1 : Int) ≤ (s : Int)) = true := by simp only [decide_eq_true_eq]; omega
  have c2 : decide ((s : Int) ≤ 4) = true := by simp only [decide_eq_true_eq]; omega
  have c3 : decide (l.length < s) = true := by simp only [decide_eq_true_eq]; omega
  have c4 : decide (0 < s) = true := by simp only [decide_eq_true_eq]; omega
  have c5 : decide (s ≤ 4) = true := by simp only [decide_eq_true_eq]; omega
  rw [errV_some (by decide)]
  clear h hb hs
  go_enter Tryd.func26, Tryd.ntmps26
  go_wp2
  go_ret3
  exact ⟨rfl, rfl⟩

set_option maxHeartbeats 1600000 in
theorem take_good (v : Value) (l : List UInt8) (s : Nat) (w : World) (hb : Bs w v l) (hl : l.length ≤ 140737488351232) (hs : 1 ≤ s ∧ s ≤ 4) (h : s ≤ l.length) :
    Calls Tryd.prog 26 #[v, .int .i64 (s : Int)] w fun e w' => ∃ v', e = .returned (.tuple #[.int .i64 (numL (l.take s) : Int), v', .nilIface]) ∧ Bs w' v' (l.drop s) ∧ Below w.heap.size w w' := by
  rcases hb.shape with ⟨_, _, _, h0⟩ | ⟨b, off, cap, rfl, hcap, hpos, hx⟩
  · subst h0; simp at h; omega
  have c1 : decide ((1 : Int) ≤ (s : Int)) = true := by simp only [decide_eq_true_eq]; omega
  have c2 : decide ((s : Int) ≤ 4) = true := by simp only [decide_eq_true_eq]; omega
  have c3 : decide (l.length < s) = false := by simp only [decide_eq_false_iff_not]; omega
  have c4 : decide (0 < s) = true := by simp only [decide_eq_true_eq]; omega
  have c5 : decide (s ≤ 4) = true := by simp only [decide_eq_true_eq]; omega
  have g1 : s ≤ cap := by omega
  have g2 : (s : Int) ≤ (cap : Int) := by omega
  have g3 : (0 : Int) ≤ (s : Int) := by omega
  have g4 : (s : Int) ≤ (l.length : Int) := by omega
  have HX := Lib.hid hx
  have HS := Lib.hid hs
  have HH := Lib.hid h
  have HL := Lib.hid hl
  have HC := Lib.hid hcap
  clear hb hl hs hcap hpos hx
  go_enter Tryd.func26, Tryd.ntmps26
  go_wp2
  go_loop [7, 9, 25] (fun n _ i => ∃ k : Nat, k ≤ s ∧ n = .int .i64 (numL (l.take k) : Int) ∧ i = .int .i64 (k : Int)) (fun _ _ i => s - (intOf i).toNat)
  case atStart => exact ⟨0, Nat.zero_le _, rfl, rfl⟩
  case round =>
    obtain ⟨k, hk, rfl, rfl⟩ := hrel
    have h4 := HS.out.2
    by_cases hks : k < s
    · have hkl : k < l.length := by have := HH.out; omega
      have hc1 := HX.out k hkl
      have hn := numL_succ l k hkl
      have hlt := numL_lt l k
      have hlt2 : numL (l.take k) < 16777216 := Nat.lt_of_lt_of_le hlt (by calc 256 ^ k ≤ 256 ^ 3 := Nat.pow_le_pow_right (by omega) (by omega)
                                                                               _ = 16777216 := by decide)
      have hb := l[k].toNat_lt
      generalize l[k].toNat = c at *
      generalize numL (l.take k) = m at *
      have hg := glue64 m c 8 (by omega) (by omega)
      rw [← hn] at hg
      have w1 : IntKind.i64.wrap ((m : Int) * 256) = ((m * 2 ^ 8 : Nat) : Int) := by rw [IntWalk.i64_in _ (by omega)]; omega
      have k1 : decide (k < s) = true := by simp only [decide_eq_true_eq]; omega
      have i1 : k < cap := by have := HC.out; omega
      obtain ⟨z, hz⟩ : ∃ z, numL (l.take (k + 1)) = z := ⟨_, rfl⟩
      rw [hz] at hg hn
      have HZ := Lib.hid hz
      clear hz
      have hg2 : bits .or .i64 ((m : Int) * 256) (c : Int) = (z : Int) := by
        have := hg
        rw [show ((m * 2 ^ 8 : Nat) : Int) = (m : Int) * 256 by omega] at this
        exact this
      have HG2 := Lib.hid hg2
      have HC2 : Hid (c < 256) := Lib.hid hb
      clear hn hlt hlt2 hb h4 hg hg2
      go_wp2_with fail
      have h4 := HS.out.2
      have e1 : wrap64 ((k : Int) + 1) = ((k + 1 : Nat) : Int) := by rw [IntWalk.wrap64_in _ (by omega)]; omega
      refine ⟨⟨k + 1, by omega, vi ?_, vi e1⟩, ?_⟩
      · rw [IntWalk.wrap64_in (c : Int) (by have := HC2.out; omega)]
        rw [HZ.out]
        exact HG2.out
      · rw [e1]; simp [intOf]; omega
    · obtain rfl : k = s := by omega
      have s1 : wrap64 ((l.length : Int) - (k : Int)) = ((l.length - k : Nat) : Int) := by rw [IntWalk.wrap64_in _ (by have := HL.out; omega)]; omega
      have hD : (l.drop k).length ≤ 140737488351232 := by have := HL.out; simp; omega
      have HD := Lib.hid hD
      clear hD
      go_wp2_with fail
      · refine (clone_any _ (l.drop k) _ ?hb HD.out).mono ?_
        case hb =>
          have e1 : l.drop k = [] := List.drop_eq_nil_of_le (by have := HC.out; omega)
          have e2 : l.length - k = 0 := by have := HC.out; omega
          rw [e1, e2]
          exact Bs.nil _ _ _
        rintro e w' ⟨v', rfl, hv, hbel⟩
        have HV := Lib.hid hv
        have HE := Lib.hid hbel
        clear hv hbel
        go_wp2_with fail
        go_ret3
        exact ⟨_, rfl, HV.out, HE.out⟩
      · refine (clone_any _ (l.drop k) _ ?hb HD.out).mono ?_
        case hb => exact Bs.some_slice (fun i hi => by
          have := HX.out (k + i) (by simp at hi; omega)
          rw [show off + (k + i) = off + k + i by omega] at this
          simpa [List.getElem_drop] using this) (by simp) (by have := HC.out; omega)
        rintro e w' ⟨v', rfl, hv, hbel⟩
        have HV := Lib.hid hv
        have HE := Lib.hid hbel
        clear hv hbel
        go_wp2_with fail
        go_ret3
        exact ⟨_, rfl, HV.out, HE.out⟩

set_option maxHeartbeats 800000 in
theorem refTake_bad (v : Value) (S : Int) (w : World) (h : S < 1 ∨ 4 < S) :
    Calls Tryd.prog 34 #[v, .int .i64 S] w fun e w' => e = .returned (.tuple #[.int .i64 0, .int .i64 6]) ∧ w = w' := by
  have c : decide (S < 1) = true ∨ (decide (S < 1) = false ∧ decide (4 < S) = true) := by simp only [decide_eq_true_eq, decide_eq_false_iff_not]; omega
  clear h
  rcases c with c1 | ⟨c1, c2⟩
  all_goals
    go_enter Tryd.func34, Tryd.ntmps34
    go_wp2
    go_ret2
    exact ⟨rfl, rfl⟩

set_option maxHeartbeats 800000 in
theorem refTake_short (v : Value) (l : List UInt8) (s : Nat) (w : World) (hb : Bs w v l) (hs : 1 ≤ s ∧ s ≤ 4) (h : l.length < s) :
    Calls Tryd.prog 34 #[v, .int .i64 (s : Int)] w fun e w' => e = .returned (.tuple #[.int .i64 0, .int .i64 8]) ∧ w = w' := by
  obtain ⟨a, cap, rfl⟩ := hb.len
  have c1 : decide ((s : Int) < 1) = false := by simp only [decide_eq_false_iff_not]; omega
  have c2 : decide ((4 : Int) < s) = false := by simp only [decide_eq_false_iff_not]; omega
  have c3 : decide (l.length < s) = true := by simp only [decide_eq_true_eq]; omega
  have c4 : (s == 0) = false := by rw [beq_eq_false_iff_ne]; omega
  have c5 : decide (4 < s) = false := by simp only [decide_eq_false_iff_not]; omega
  clear h hb hs
  go_enter Tryd.func34, Tryd.ntmps34
  go_wp2
  go_ret2
  exact ⟨rfl, rfl⟩

set_option maxHeartbeats 1600000 in
theorem refTake_good (v : Value) (l : List UInt8) (s : Nat) (w : World) (hb : Bs w v l) (hs : 1 ≤ s ∧ s ≤ 4) (h : s ≤ l.length) :
    Calls Tryd.prog 34 #[v, .int .i64 (s : Int)] w fun e w' => e = .returned (.tuple #[.int .i64 (numL (l.take s) : Int), .int .i64 0]) ∧ w = w' := by
  obtain ⟨a, cap, rfl, hx⟩ := hb.read
  have c1 : decide ((s : Int) < 1) = false := by simp only [decide_eq_false_iff_not]; omega
  have c2 : decide ((4 : Int) < s) = false := by simp only [decide_eq_false_iff_not]; omega
  have c3 : decide (l.length < s) = false := by simp only [decide_eq_false_iff_not]; omega
  have c4 : (s == 0) = false := by rw [beq_eq_false_iff_ne]; omega
  have c5 : decide (4 < s) = false := by simp only [decide_eq_false_iff_not]; omega
  have HX := Lib.hid hx
  have HS := Lib.hid hs
  have HH := Lib.hid h
  clear h hb hs hx
  go_enter Tryd.func34, Tryd.ntmps34
  go_wp2
  go_loop [6, 7] (fun n i => ∃ k : Nat, k ≤ s ∧ n = .int .i64 (numL (l.take k) : Int) ∧ i = .int .i64 (k : Int)) (fun _ i => s - (intOf i).toNat)
  case atStart => exact ⟨0, Nat.zero_le _, rfl, rfl⟩
  case round =>
    obtain ⟨k, hk, rfl, rfl⟩ := hrel
    have h4 := HS.out.2
    by_cases hks : k < s
    · have hkl : k < l.length := by have := HH.out; omega
      obtain ⟨b, off, rfl, hc1⟩ := HX.out k hkl
      have hn := numL_succ l k hkl
      have hlt := numL_lt l k
      have hlt2 : numL (l.take k) < 16777216 := Nat.lt_of_lt_of_le hlt (by calc 256 ^ k ≤ 256 ^ 3 := Nat.pow_le_pow_right (by omega) (by omega)
                                                                               _ = 16777216 := by decide)
      have hb := l[k].toNat_lt
      generalize l[k].toNat = c at *
      generalize numL (l.take k) = m at *
      have k1 : decide (k < s) = true := by simp only [decide_eq_true_eq]; omega
      have HN := Lib.hid hn
      have HB := Lib.hid (And.intro hlt2 hb)
      clear hn hlt hlt2 hb h4
      go_wp2_with fail
      have h4 := HS.out.2
      have e1 : wrap64 ((k : Int) + 1) = ((k + 1 : Nat) : Int) := by rw [IntWalk.wrap64_in _ (by omega)]; omega
      have h5 := HB.out
      refine ⟨⟨k + 1, by omega, vi ?_, vi e1⟩, ?_⟩
      · rw [HN.out, IntWalk.wrap64_in ((m : Int) * 256) (by omega), IntWalk.wrap64_in (c : Int) (by omega), IntWalk.wrap64_in _ (by omega)]
        omega
      · rw [e1]; simp [intOf]; omega
    · obtain rfl : k = s := by omega
      go_wp2_with fail
      go_ret2
      exact ⟨rfl, rfl⟩
end Go.Proofs.YtlgjjoglajgbeaaDoor
