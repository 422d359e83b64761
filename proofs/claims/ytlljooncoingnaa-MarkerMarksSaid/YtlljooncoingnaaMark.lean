/- MarkerMarks: the walks. By an AI agent. -/
import Derived.Test.YtlljooncoingnaaNum
namespace Go.Proofs.Ytlljooncoingnaa
open Go.RowKit
set_option linter.unusedVariables false
set_option linter.unusedSimpArgs false

def markedB (m : Int) : Bool := decide (1 < m) && decide (m < 255) && (decide (m < 208) || decide (216 < m))
def keptB (m : Int) : Bool := (m == 254) || (decide (224 ≤ m) && decide (m < 240))

set_option maxHeartbeats 800000 in
theorem marked_any (m : Int) (w : World) : Calls Try.prog 8 #[.int .i64 m] w fun e w' => e = .returned (.bool (markedB m)) ∧ w = w' := by
  rcases h1 : decide ((1 : Int) < m) with _ | _ <;> rcases h2 : decide (m < (255 : Int)) with _ | _ <;> rcases h3 : decide (m < (208 : Int)) with _ | _ <;> rcases h4 : decide ((216 : Int) < m) with _ | _
  all_goals
    go_enter Try.func8, Try.ntmps8
    go_wp2
    go_ret
    exact ⟨rb (by simp only [markedB, h1, h2, h3, h4]; rfl), rfl⟩
set_option maxHeartbeats 800000 in
theorem mkept_any (m : Int) (w : World) : Calls Try.prog 9 #[.int .i64 m] w fun e w' => e = .returned (.bool (keptB m)) ∧ w = w' := by
  rcases h1 : (m == (254 : Int)) with _ | _ <;> rcases h2 : decide ((224 : Int) ≤ m) with _ | _ <;> rcases h3 : decide (m < (240 : Int)) with _ | _
  all_goals
    go_enter Try.func9, Try.ntmps9
    go_wp2
    go_ret
    exact ⟨rb (by simp only [keptB, h1, h2, h3]; rfl), rfl⟩
set_option maxHeartbeats 800000 in
theorem refKept_any (m : Int) (w : World) : Calls Try.prog 11 #[.int .i64 m] w fun e w' => e = .returned (.bool (keptB m)) ∧ w = w' := by
  have e : decide (m < (240 : Int)) = decide (m ≤ (239 : Int)) := by rw [decide_eq_decide]; omega
  have E := Lib.hid e
  clear e
  rcases h1 : (m == (254 : Int)) with _ | _ <;> rcases h2 : decide ((224 : Int) ≤ m) with _ | _ <;> rcases h3 : decide (m ≤ (239 : Int)) with _ | _
  all_goals
    go_enter Try.func11, Try.ntmps11
    go_wp2
    go_ret
    exact ⟨rb (by simp only [keptB, E.out, h1, h2, h3]; rfl), rfl⟩
set_option maxHeartbeats 1600000 in
theorem refMarked_any (m : Int) (w : World) : Calls Try.prog 10 #[.int .i64 m] w fun e w' => e = .returned (.bool (markedB m)) ∧ w = w' := by
  by_cases hb : 1 < m ∧ m < 255
  · have e1 : decide ((0 : Int) ≤ m) = true := by rw [decide_eq_true_eq]; omega
    have e2 : decide (m ≤ (255 : Int)) = true := by rw [decide_eq_true_eq]; omega
    have e3 : (m != (0 : Int)) = true := by rw [bne_iff_ne]; omega
    have e4 : (m != (1 : Int)) = true := by rw [bne_iff_ne]; omega
    have e5 : (m != (255 : Int)) = true := by rw [bne_iff_ne]; omega
    have e6 : Hid (markedB m = !(decide ((208 : Int) ≤ m) && decide (m ≤ (216 : Int)))) := Lib.hid (by
      unfold markedB
      rw [Bool.eq_iff_iff]
      simp only [Bool.and_eq_true, Bool.or_eq_true, decide_eq_true_eq, Bool.not_eq_true', Bool.and_eq_false_iff, decide_eq_false_iff_not]
      omega)
    clear hb
    rcases h1 : decide ((208 : Int) ≤ m) with _ | _ <;> rcases h2 : decide (m ≤ (216 : Int)) with _ | _
    all_goals
      go_enter Try.func10, Try.ntmps10
      go_wp2
      go_ret
      exact ⟨rb (by rw [e6.out, h1, h2]; rfl), rfl⟩
  · have e6 : Hid (markedB m = false) := Lib.hid (by
      unfold markedB
      rw [Bool.eq_false_iff]
      simp only [ne_eq, Bool.and_eq_true, Bool.or_eq_true, decide_eq_true_eq]
      omega)
    rcases h1 : decide ((0 : Int) ≤ m) with _ | _ <;> rcases h2 : decide (m ≤ (255 : Int)) with _ | _
    rotate_left 3
    · have h3 : m = 0 ∨ m = 1 ∨ m = 255 := by
        rw [decide_eq_true_eq] at h1 h2
        omega
      clear hb h1 h2
      rcases h3 with rfl | rfl | rfl
      all_goals
        go_enter Try.func10, Try.ntmps10
        go_wp2
        go_ret
        exact ⟨rb (by rw [e6.out]), rfl⟩
    all_goals
      clear hb
      go_enter Try.func10, Try.ntmps10
      go_wp2
      go_ret
      exact ⟨rb (by rw [e6.out]), rfl⟩

set_option maxHeartbeats 800000 in
theorem bytesEqual_any (v v2 : Value) (l l2 : List UInt8) (w : World) (hb : Bs w v l) (hb2 : Bs w v2 l2) :
    Calls Try.prog 42 #[v, v2] w fun e w' => e = .returned (.bool (decide (l = l2))) ∧ w = w' := by
  have s1 := run_str (P := Try.prog) w 22 5 9 Try.underlying22 Try.underlying5 Try.underlying9 hb
  have s2 := run_str (P := Try.prog) w 22 5 9 Try.underlying22 Try.underlying5 Try.underlying9 hb2
  go_enter Try.func42, Try.ntmps42
  go_wp2
  go_ret
  refine ⟨rb ?_, rfl⟩
  show ((strOf l).toList == (strOf l2).toList) = _
  rw [strOf_toList, strOf_toList]
  exact beq_dec l l2

/-- a beginning of a slice -/
theorem Bs.take {w : World} {a : Option Addr} {n cap : Nat} {l : List UInt8} (h : Bs w (.slice a n cap) l) (k : Nat) (hk : k ≤ l.length) : Bs w (.slice a k cap) (l.take k) := by
  refine ⟨by simp [vBs], ?_⟩
  rw [List.length_take, Nat.min_eq_left hk]
  rcases h.2 with ⟨a', cap', hv, hn⟩ | ⟨b, off, cap', hv, hc, hn, hx⟩
  · exact .inl ⟨a, cap, rfl, by omega⟩
  · simp only [Value.slice.injEq] at hv
    obtain ⟨rfl, rfl, rfl⟩ := hv
    by_cases h0 : k = 0
    · exact .inl ⟨_, _, rfl, h0⟩
    · refine .inr ⟨b, off, cap, rfl, by omega, by omega, fun i u hu => hx i u ?_⟩
      rw [vBs, List.map_take, List.getElem?_take] at hu
      split at hu
      · exact hu
      · cases hu

def signedB (l : List UInt8) : Bool := decide (l.take 2 = [255, 216])
set_option maxHeartbeats 800000 in
theorem hasPrefix_any (a a2 : Option Addr) (c c2 : Nat) (l l2 : List UInt8) (w : World) (hb : Bs w (.slice a l.length c) l) (hb2 : Bs w (.slice a2 l2.length c2) l2) (hl : l.length ≤ 140737488355328) (hl2 : l2.length ≤ 140737488355328) :
    Calls Try.prog 29 #[.slice a l.length c, .slice a2 l2.length c2] w fun e w' => e = .returned (.bool (decide (l.take l2.length = l2))) ∧ w = w' := by
  by_cases h : l2.length ≤ l.length
  · have hd : decide (l2.length ≤ l.length) = true := by rw [decide_eq_true_eq]; exact h
    have hc : l.length ≤ c := by
      rcases hb.2 with ⟨a', cap', hv, hn⟩ | ⟨b, off, cap', hv, hc, hn, hx⟩
      · omega
      · simp only [Value.slice.injEq] at hv; omega
    have H := Lib.hid (hb.take l2.length h)
    have HB2 := Lib.hid hb2
    have hcc : l2.length ≤ c := by omega
    clear hb hb2 hl hl2 hc h
    go_enter Try.func29, Try.ntmps29
    go_wp2_with fail
    have e : (l.take l2.length).length = l2.length ∨ True := .inr trivial
    clear e
    refine (bytesEqual_any _ _ (l.take l2.length) l2 _ H.out HB2.out).mono ?_; rintro e w' ⟨rfl, rfl⟩
    go_wp2_with fail
    go_ret
    exact ⟨rfl, rfl⟩
  · have hd : decide (l2.length ≤ l.length) = false := by rw [decide_eq_false_iff_not]; exact h
    have e : decide (l.take l2.length = l2) = false := by
      rw [decide_eq_false_iff_not]
      intro e
      have := congrArg List.length e
      rw [List.length_take] at this
      omega
    have E := Lib.hid e
    clear hb hb2 hl hl2 h e
    go_enter Try.func29, Try.ntmps29
    go_wp2_with fail
    go_ret
    exact ⟨rb E.out.symm, rfl⟩

theorem signed_any (v : Value) (l : List UInt8) (w : World) (hb : Bs w v l) (hl : l.length ≤ 140737488355328) :
    Calls Try.prog 12 #[v] w fun e w' => e = .returned (.bool (signedB l)) ∧ Below w.heap.size w w' := by
  obtain ⟨a0, c0, rfl⟩ := hb.len
  have HB := Lib.hid hb
  have HL := Lib.hid hl
  clear hb hl
  go_enter Try.func12, Try.ntmps12
  go_wp2_with fail
  refine (hasPrefix_any a0 _ c0 2 l [255, 216] _ ?h1 ?h2 HL.out (by decide)).mono ?_
  case h1 => exact HB.out.old ((Below.refl _ _).alloc (Nat.le_refl _) _)
  case h2 => exact bs_heap (n := 2) (cap := 2) _ (heap_alloc_new _ _) rfl rfl (by decide)
  rintro e w1 ⟨rfl, hw1⟩
  have hb1 : Below w.heap.size w w1 := by rw [← hw1]; exact (Below.refl _ _).alloc (Nat.le_refl _) _
  clear hw1
  have HB1 := Lib.hid hb1
  clear hb1
  go_wp2_with fail
  go_ret
  exact ⟨rfl, HB1.out⟩

set_option maxHeartbeats 1600000 in
theorem lawMarks_any (m : Int) (v : Value) (l : List UInt8) (w : World) (hm : -9223372036854775808 ≤ m ∧ m ≤ 9223372036854775807) (hb : Bs w v l) (hl : l.length ≤ 140737488351232) :
    Calls Try.prog 3 #[.int .i64 m, v] w fun e w' => e = .returned (.bool true) ∧ Below w.heap.size w w' := by
  obtain ⟨a0, c0, rfl⟩ := hb.len
  have HB := Lib.hid hb
  have HL : Hid (l.length ≤ 140737488355328) := Lib.hid (by omega)
  have h1 : markedB 218 = true := by decide
  have h2 : keptB 229 = true := by decide
  have H1 := Lib.hid h1
  have H2 := Lib.hid h2
  have fin : ∀ s : Bool, s = signedB l → True := fun _ _ => trivial
  clear h1 h2 hb hl hm fin
  have hcases : (∃ _ : decide ((2 : Int) ≤ l.length) = false, signedB l = false) ∨ (decide ((2 : Int) ≤ l.length) = true ∧ 0 < l.length ∧ 1 < l.length ∧ ∃ b off x0 x1, a0 = some ⟨b, off, none⟩ ∧ w.cell? ⟨b, off, none⟩ = some (.int .u8 ((x0 : Nat) : Int)) ∧ w.cell? ⟨b, off + 1, none⟩ = some (.int .u8 ((x1 : Nat) : Int)) ∧ signedB l = (((x0 : Int) == 255) && ((x1 : Int) == 216))) := by
    by_cases h : 2 ≤ l.length
    · refine .inr ⟨by rw [decide_eq_true_eq]; omega, by omega, by omega, ?_⟩
      obtain ⟨a, cap, hv, hr⟩ := HB.out.read
      simp only [Value.slice.injEq] at hv
      obtain ⟨rfl, _, rfl⟩ := hv
      obtain ⟨b, off, rfl, hc0⟩ := hr 0 (by omega)
      obtain ⟨b', off', hv', hc1⟩ := hr 1 (by omega)
      simp only [Option.some.injEq, Addr.mk.injEq, and_true] at hv'
      obtain ⟨rfl, rfl⟩ := hv'
      refine ⟨b, off, l[0].toNat, l[1].toNat, rfl, by simpa using hc0, hc1, ?_⟩
      match l, h with
      | x :: y :: r, _ =>
        simp only [signedB, List.take_succ_cons, List.take_zero, List.cons.injEq, and_true, List.getElem_cons_zero, List.getElem_cons_succ]
        rw [Bool.eq_iff_iff]
        simp only [decide_eq_true_eq, Bool.and_eq_true, beq_iff_eq, ← UInt8.toNat_inj]
        have h1 : (255 : UInt8).toNat = 255 := rfl
        have h2 : (216 : UInt8).toNat = 216 := rfl
        omega
    · refine .inl ⟨by rw [decide_eq_false_iff_not]; omega, ?_⟩
      unfold signedB
      rw [decide_eq_false_iff_not]
      intro e
      have := congrArg List.length e
      simp at this
      omega
  rcases hcases with ⟨hd, hs⟩ | ⟨hd, hp0, hp1, b, off, x0, x1, rfl, hc0, hc1, hs⟩
  · have HS := Lib.hid hs
    clear hs
    go_enter Try.func3, Try.ntmps3
    go_wp2_with fail
    refine (marked_any _ _).mono ?_; rintro e w' ⟨rfl, rfl⟩
    rw [H1.out]
    go_wp2_with fail
    refine (mkept_any _ _).mono ?_; rintro e w' ⟨rfl, rfl⟩
    rw [H2.out]
    go_wp2_with fail
    refine (marked_any _ _).mono ?_; rintro e w' ⟨rfl, rfl⟩
    go_wp2_with fail
    refine (refMarked_any _ _).mono ?_; rintro e w' ⟨rfl, rfl⟩
    go_wp2_with fail
    refine (mkept_any _ _).mono ?_; rintro e w' ⟨rfl, rfl⟩
    go_wp2_with fail
    refine (refKept_any _ _).mono ?_; rintro e w' ⟨rfl, rfl⟩
    go_wp2_with fail
    refine (signed_any _ l _ HB.out HL.out).mono ?_; rintro e w1 ⟨rfl, hb1⟩
    rw [HS.out]
    have HB1 := Lib.hid hb1
    clear hb1
    go_wp2_with fail
    go_ret
    exact ⟨rfl, HB1.out⟩
  · have HS := Lib.hid hs
    clear hs
    rcases h0 : ((x0 : Int) == 255) with _ | _ <;> rcases h1 : ((x1 : Int) == 216) with _ | _
    all_goals
      go_enter Try.func3, Try.ntmps3
      go_wp2_with fail
      refine (marked_any _ _).mono ?_; rintro e w' ⟨rfl, rfl⟩
      rw [H1.out]
      go_wp2_with fail
      refine (mkept_any _ _).mono ?_; rintro e w' ⟨rfl, rfl⟩
      rw [H2.out]
      go_wp2_with fail
      refine (marked_any _ _).mono ?_; rintro e w' ⟨rfl, rfl⟩
      go_wp2_with fail
      refine (refMarked_any _ _).mono ?_; rintro e w' ⟨rfl, rfl⟩
      go_wp2_with fail
      refine (mkept_any _ _).mono ?_; rintro e w' ⟨rfl, rfl⟩
      go_wp2_with fail
      refine (refKept_any _ _).mono ?_; rintro e w' ⟨rfl, rfl⟩
      go_wp2_with fail
      refine (signed_any _ l _ HB.out HL.out).mono ?_; rintro e w2 ⟨rfl, hb1⟩
      rw [HS.out, h0, h1]
      have HB1 := Lib.hid hb1
      clear hb1
      go_wp2_with fail
      go_ret
      exact ⟨rfl, HB1.out⟩
end Go.Proofs.Ytlljooncoingnaa
