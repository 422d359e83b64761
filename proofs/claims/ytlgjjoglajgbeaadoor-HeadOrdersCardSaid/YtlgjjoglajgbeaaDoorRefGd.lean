/- burnishref12.Good (cut out of RefC2, for a seat without Write). By an AI agent. -/
import Derived.Test.YtlgjjoglajgbeaaDoorRefN
import Derived.Test.YtlgjjoglajgbeaaDoorGoodL
import Derived.Test.YtlgjjoglajgbeaaDoorChVD
namespace Go.Proofs.YtlgjjoglajgbeaaDoor
open Go.RowKit Go.BigFrame
set_option linter.unusedVariables false
set_option linter.unusedSimpArgs false

set_option maxHeartbeats 3200000 in
theorem refGood_any (v : Value) (cs : List Chk) (w : World) (hb : Cks w v cs) (hl : cs.length ≤ 1000000) (hnm : ∀ c ∈ cs, c.1.length ≤ 140737488351232) :
    Calls Tryd.prog 16 #[v] w fun e w' => e = .returned (.bool (goodL cs)) ∧ w = w' := by
  obtain ⟨a0, c0, rfl, hx⟩ := hb
  have HX := Lib.hid hx
  have HL := Lib.hid hl
  have HN := Lib.hid hnm
  clear hx hl hnm
  go_enter Tryd.func16, Tryd.ntmps16
  go_wp2_with fail
  go_loop [3] (fun i => ∃ k : Nat, k ≤ cs.length ∧ i = .int .i64 k ∧ (∀ j, j < k → okAt cs j = true)) (fun i => cs.length - (intOf i).toNat)
  case atStart => exact ⟨0, Nat.zero_le _, rfl, fun j h => absurd h (Nat.not_lt_zero j)⟩
  case round =>
    obtain ⟨k, hk, rfl, hok⟩ := hrel
    have OK := Lib.hid hok
    by_cases hkl : k < cs.length
    · obtain ⟨b, off, x, rfl, q0, q1, hbx⟩ := HX.out k hkl
      have hk1 : k < 1000000 := by have := HL.out; omega
      have e1 : decide ((k : Int) < (cs.length : Int)) = true := by rw [decide_eq_true_eq]; omega
      have e2 : decide (k < cs.length) = true := by rw [decide_eq_true_eq]; omega
      obtain ⟨a', c', rfl⟩ := hbx.len
      have NL : Hid (cs[k].1.length ≤ 140737488351232) := Lib.hid (HN.out _ (List.getElem_mem _))
      have OKK := Lib.hid (okAt_get cs k hkl)
      have BAD := Lib.hid (@bad_at cs k hkl)
      obtain ⟨⟨nm, dt⟩, hc⟩ : ∃ c, cs[k] = c := ⟨_, rfl⟩
      rw [hc] at q0 q1 NL OKK
      simp only at q0 q1 NL
      obtain ⟨I, hI⟩ : ∃ I, decide (nm = iend) = I := ⟨_, rfl⟩
      obtain ⟨L, hL⟩ : ∃ L, decide (k + 1 = cs.length) = L := ⟨_, rfl⟩
      obtain ⟨D, hD⟩ : ∃ D, decide (0 < dt.length) = D := ⟨_, rfl⟩
      obtain ⟨N, hN⟩ : ∃ N, namedB nm = N := ⟨_, rfl⟩
      have s1 : ((strOf nm).toList == [73, 69, 78, 68]) = I := by rw [strOf_toList, ← hI, beq_dec]; rfl
      have e5 : wrap64 ((cs.length : Int) - 1) = (cs.length : Int) - 1 := by have := HL.out; exact IntWalk.wrap64_in _ (by omega)
      have e3 : ((k : Int) == (cs.length : Int) - 1) = L := by rw [← hL, Bool.eq_iff_iff, beq_iff_eq, decide_eq_true_eq]; omega
      have e6 : ((k : Int) == wrap64 ((cs.length : Int) - 1)) = L := by rw [e5]; exact e3
      have OKC : Hid (okAt cs k = (N && (I == L) && !(I && D))) := Lib.hid (by rw [OKK.out, ← hI, ← hL, ← hD, ← hN]; rfl)
      have NA := Lib.hid (refNamed_any nm w (by have := NL.out; omega))
      rw [hN] at NA
      obtain ⟨n, hn⟩ : ∃ n, dt.length = n := ⟨_, rfl⟩
      rw [hn] at hD q1
      clear hok hbx hc hI hL hN OKK hn
      cases N <;> cases I <;> cases L <;> cases D
      all_goals
        first
        | (have WC : Hid (goodL cs = false) := Lib.hid (BAD.out (by rw [OKC.out]; rfl))
           go_wp2_with fail
           refine NA.out.mono ?_; rintro e w2 ⟨rfl, rfl⟩
           go_wp2_with fail
           go_ret
           exact ⟨rb WC.out.symm, rfl⟩)
        | (go_wp2_with fail
           refine NA.out.mono ?_; rintro e w2 ⟨rfl, rfl⟩
           go_wp2_with fail
           go_round
           case rel =>
             refine ⟨k + 1, by omega, by go_num, fun j hj => ?_⟩
             by_cases e : j = k
             · subst e; rw [OKC.out]; rfl
             · exact OK.out j (by omega)
           case measure => simp [intOf]; omega)
    · obtain rfl : k = cs.length := by omega
      have e1 : decide ((cs.length : Int) < (cs.length : Int)) = false := by rw [decide_eq_false_iff_not]; omega
      have GD : Hid (goodL cs = decide (0 < cs.length)) := Lib.hid (by
        rw [Bool.eq_iff_iff, goodL_iff, decide_eq_true_eq]
        constructor
        · rintro ⟨h, _⟩; exact List.length_pos_iff.2 h
        · intro h; exact ⟨List.length_pos_iff.1 h, OK.out⟩)
      clear hok
      go_wp2_with fail
      go_ret
      refine ⟨rb ?_, rfl⟩
      rw [GD.out]
end Go.Proofs.YtlgjjoglajgbeaaDoor
