/- head.sound, head.Order. By an AI agent. -/
import Derived.Test.YtlgjjoglajgbeaaDoorWkX
import Derived.Test.YtlgjjoglajgbeaaDoorOrdC
namespace Go.Proofs.YtlgjjoglajgbeaaDoor
open Go.RowKit Go.BigFrame
set_option linter.unusedVariables false
set_option linter.unusedSimpArgs false

set_option maxHeartbeats 3200000 in
theorem sound_any (v : Value) (cs : List Chk) (w : World) (hb : Cks w v cs) (hl : cs.length ≤ 1000) (hnm : ∀ c ∈ cs, c.1.length ≤ 100) :
    Calls Tryd.prog 13 #[v] w fun e w' => e = .returned (.bool (goodL cs)) ∧ Below w.heap.size w w' := by
  obtain ⟨a0, c0, rfl, hx⟩ := hb
  have HX := Lib.hid hx
  have HL := Lib.hid hl
  have HN := Lib.hid hnm
  clear hx hl hnm
  go_enter Tryd.func13, Tryd.ntmps13
  go_wp2_with fail
  go_loopw [7] (fun i W => ∃ k : Nat, k ≤ cs.length ∧ i = .int .i64 k ∧ (∀ j, j < k → okAt cs j = true) ∧ Below w.heap.size w W) (fun i _ => cs.length - (intOf i).toNat)
  case atStart => exact ⟨0, Nat.zero_le _, rfl, fun j h => absurd h (Nat.not_lt_zero j), Below.refl _ _⟩
  case round =>
    obtain ⟨k, hk, rfl, hok, hbel⟩ := hrel
    have OK := Lib.hid hok
    have BE := Lib.hid hbel
    by_cases hkl : k < cs.length
    · obtain ⟨b, off, x, rfl, q0', q1', hbx⟩ := HX.out k hkl
      have q0 := cell_old hbel q0'
      have q1 := cell_old hbel q1'
      have hk1 : k < 1000 := by have := HL.out; omega
      have e1 : decide ((k : Int) < (cs.length : Int)) = true := by rw [decide_eq_true_eq]; omega
      have e2 : decide (k < cs.length) = true := by rw [decide_eq_true_eq]; omega
      obtain ⟨a', c', rfl⟩ := hbx.len
      have NL : Hid (cs[k].1.length ≤ 100) := Lib.hid (HN.out _ (List.getElem_mem _))
      have OKK := Lib.hid (okAt_get cs k hkl)
      have BAD := Lib.hid (@bad_at cs k hkl)
      obtain ⟨⟨nm, dt⟩, hc⟩ : ∃ c, cs[k] = c := ⟨_, rfl⟩
      rw [hc] at q0 q1 NL OKK
      simp only at q0 q1 NL
      obtain ⟨I, hI⟩ : ∃ I, decide (nm = iend) = I := ⟨_, rfl⟩
      obtain ⟨L, hL⟩ : ∃ L, decide (k + 1 = cs.length) = L := ⟨_, rfl⟩
      obtain ⟨D, hD⟩ : ∃ D, decide (0 < dt.length) = D := ⟨_, rfl⟩
      obtain ⟨N, hN⟩ : ∃ N, namedB nm = N := ⟨_, rfl⟩
      have s1 : ((strOf nm).toList == [73, 69, 78, 68]) = I := by rw [strOf_toList, ← hI, beq_dec]; rfl
      have e5 : wrap64 ((cs.length : Int) - 1) = (cs.length : Int) - 1 := by have := HL.out; exact IntWalk.wrap64_in _ (by omega)
      have e3 : ((k : Int) == (cs.length : Int) - 1) = L := by rw [← hL, Bool.eq_iff_iff, beq_iff_eq, decide_eq_true_eq]; omega
      have e6 : ((k : Int) == wrap64 ((cs.length : Int) - 1)) = L := by rw [e5]; exact e3
      have OKC : Hid (okAt cs k = (N && (I == L) && !(I && D))) := Lib.hid (by rw [OKK.out, ← hI, ← hL, ← hD, ← hN]; rfl)
      obtain ⟨w1, hw1⟩ : ∃ w1, wr.alloc (.cells #[.string (strOf nm), .slice a' dt.length c'] 26) = w1 := ⟨_, rfl⟩
      have b1 : Below wr.heap.size wr w1 := by rw [← hw1]; exact (Below.refl _ _).alloc (Nat.le_refl _) _
      have bx : w1.heap[wr.heap.size]? = some (.cells #[.string (strOf nm), .slice a' dt.length c'] 26 (0, 0)) := by rw [← hw1]; exact heap_alloc_new _ _
      have NA := Lib.hid (named_any nm w1 (by have := NL.out; omega))
      rw [hN] at NA
      have x0 : w1.cell? ⟨wr.heap.size, 0, none⟩ = some (.string (strOf nm)) := by rw [cell_of_row _ _ 0 _ _ _ bx]; rfl
      have x1 : w1.cell? ⟨wr.heap.size, 1, none⟩ = some (.slice a' dt.length c') := by rw [cell_of_row _ _ 1 _ _ _ bx]; rfl
      have X0 := Lib.hid x0
      have X1 := Lib.hid x1
      have B1 : Hid (Below w.heap.size w w1) := Lib.hid (hbel.trans (b1.mono hbel.size))
      obtain ⟨n, hn⟩ : ∃ n, dt.length = n := ⟨_, rfl⟩
      rw [hn] at hD q1 hw1 x1 X1
      have hD' : decide ((0 : Int) < (n : Int)) = D := by rw [← hD, decide_eq_decide]; omega
      clear hok hbx hc hI hL hN OKK hn hbel q0' q1' b1 bx
      cases N <;> cases I <;> cases L <;> cases D
      all_goals
        first
        | (have WC : Hid (goodL cs = false) := Lib.hid (BAD.out (by rw [OKC.out]; rfl))
           go_wp2_with fail
           refine NA.out.mono ?_; rintro e w2 ⟨rfl, hb2⟩
           have y0 := cell_old hb2 X0.out
           have y1 := cell_old hb2 X1.out
           have B2 := Lib.hid (B1.out.trans (hb2.mono B1.out.size))
           clear hb2
           go_wp2_with fail
           go_ret
           exact ⟨rb WC.out.symm, B2.out⟩)
        | (go_wp2_with fail
           refine NA.out.mono ?_; rintro e w2 ⟨rfl, hb2⟩
           have y0 := cell_old hb2 X0.out
           have y1 := cell_old hb2 X1.out
           have B2 := Lib.hid (B1.out.trans (hb2.mono B1.out.size))
           clear hb2
           go_wp2_with fail
           go_roundw
           case rel =>
             refine ⟨k + 1, by omega, by go_num, fun j hj => ?_, B2.out⟩
             by_cases e : j = k
             · subst e; rw [OKC.out]; rfl
             · exact OK.out j (by omega)
           case measure => simp [intOf]; omega)
    · obtain rfl : k = cs.length := by omega
      have e1 : decide ((cs.length : Int) < (cs.length : Int)) = false := by rw [decide_eq_false_iff_not]; omega
      have GD : Hid (goodL cs = decide (0 < cs.length)) := Lib.hid (by
        rw [Bool.eq_iff_iff, goodL_iff, decide_eq_true_eq]
        constructor
        · rintro ⟨h, _⟩; exact List.length_pos_iff.2 h
        · intro h; exact ⟨List.length_pos_iff.1 h, OK.out⟩)
      clear hok hbel
      go_wp2_with fail
      go_ret
      refine ⟨rb ?_, BE.out⟩
      rw [GD.out]
end Go.Proofs.YtlgjjoglajgbeaaDoor
