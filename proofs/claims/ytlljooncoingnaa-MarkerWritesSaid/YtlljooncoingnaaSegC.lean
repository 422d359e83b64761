/- marker.check, burnishlaw20.large. By an AI agent. -/
import Derived.Test.YtlljooncoingnaaLawM1
namespace Go.Proofs.Ytlljooncoingnaa
open Go.RowKit Go.BigFrame
set_option linter.unusedVariables false
set_option linter.unusedSimpArgs false

theorem goodI_eq (m : Int) (d : List UInt8) (ivs : List (List UInt8)) : goodI (m, d, ivs) = (markedB m && !(m == 217) && !decide (65533 < d.length) && ((m == 218) == decide (0 < ivs.length)) && !decide (65536 < ivs.length)) := by
  unfold goodI markedB
  simp only
  rw [Bool.eq_iff_iff]
  by_cases h : m = 218
  · simp only [if_pos h, Bool.and_eq_true, Bool.or_eq_true, decide_eq_true_eq, Bool.not_eq_true', beq_eq_false_iff_ne, decide_eq_false_iff_not, beq_iff_eq]
    have e : (m == 218) = true := by rw [beq_iff_eq]; exact h
    rw [e]
    constructor
    · rintro ⟨⟨⟨h1, h2⟩, h3⟩, h4, h5⟩
      exact ⟨⟨⟨⟨h1, h2⟩, by omega⟩, by rw [eq_comm, decide_eq_true_eq]; omega⟩, by omega⟩
    · rintro ⟨⟨⟨⟨h1, h2⟩, h3⟩, h4⟩, h5⟩
      rw [eq_comm, decide_eq_true_eq] at h4
      exact ⟨⟨⟨h1, h2⟩, by omega⟩, by omega, by omega⟩
  · have e : (m == 218) = false := by rw [beq_eq_false_iff_ne]; exact h
    simp only [if_neg h, Bool.and_eq_true, Bool.or_eq_true, decide_eq_true_eq, Bool.not_eq_true', beq_eq_false_iff_ne, decide_eq_false_iff_not, beq_iff_eq]
    rw [e]
    constructor
    · rintro ⟨⟨⟨h1, h2⟩, h3⟩, h4⟩
      exact ⟨⟨⟨⟨h1, h2⟩, by omega⟩, by rw [eq_comm, decide_eq_false_iff_not]; omega⟩, by omega⟩
    · rintro ⟨⟨⟨⟨h1, h2⟩, h3⟩, h4⟩, h5⟩
      rw [eq_comm, decide_eq_false_iff_not] at h4
      exact ⟨⟨⟨h1, h2⟩, by omega⟩, by omega⟩
def checkV (b : Bool) : Value := if b then .nilIface else .iface 50 (.int .i64 6)
set_option maxRecDepth 20000 in
set_option maxHeartbeats 3200000 in
theorem check_any (m : Int) (d : List UInt8) (ivs : List (List UInt8)) (da va : Option Addr) (dc vc : Nat) (w : World) (hd : d.length ≤ 140737488351232) (hv : ivs.length ≤ 140737488351232) :
    Calls Try.prog 37 #[.agg #[.int .i64 m, .slice da d.length dc, .slice va ivs.length vc]] w fun e w' => e = .returned (checkV (goodI (m, d, ivs))) ∧ Below w.heap.size w w' := by
  have GI := Lib.hid (goodI_eq m d ivs)
  obtain ⟨n, hn⟩ : ∃ n, d.length = n := ⟨_, rfl⟩
  obtain ⟨k, hk⟩ : ∃ k, ivs.length = k := ⟨_, rfl⟩
  rw [hn, hk] at GI
  rw [hn, hk]
  rw [hn] at hd
  rw [hk] at hv
  have BL : Hid (∀ O P, Below w.heap.size w ((w.alloc O).alloc P)) := Lib.hid (fun O P => ((Below.refl _ w).alloc (Nat.le_refl _) O).alloc (by simp) P)
  clear hn hk
  have D1 : Hid (decide ((65533 : Int) < (n : Int)) = decide (65533 < n)) := Lib.hid (by rw [decide_eq_decide]; omega)
  have D2 : Hid (decide ((0 : Int) < (k : Int)) = decide (0 < k)) := Lib.hid (by rw [decide_eq_decide]; omega)
  have D3 : Hid (decide ((65536 : Int) < (k : Int)) = decide (65536 < k)) := Lib.hid (by rw [decide_eq_decide]; omega)
  rcases hM : markedB m with _ | _
  · have G : Hid (goodI (m, d, ivs) = false) := Lib.hid (by rw [GI.out, hM]; rfl)
    go_enter Try.func37, Try.ntmps37
    go_wp2_with fail
    refine (marked_any m _).mono ?_; rintro e w3 ⟨rfl, rfl⟩
    rw [hM]
    go_wp2_with fail
    go_ret
    exact ⟨by rw [G.out]; rfl, BL.out _ _⟩
  rcases h7 : (m == 217) with _ | _
  rotate_left
  · have G : Hid (goodI (m, d, ivs) = false) := Lib.hid (by rw [GI.out, hM, h7]; rfl)
    go_enter Try.func37, Try.ntmps37
    go_wp2_with fail
    refine (marked_any m _).mono ?_; rintro e w3 ⟨rfl, rfl⟩
    rw [hM]
    go_wp2_with fail
    go_ret
    exact ⟨by rw [G.out]; rfl, BL.out _ _⟩
  rcases hL : decide (65533 < n) with _ | _
  rotate_left
  · have G : Hid (goodI (m, d, ivs) = false) := Lib.hid (by rw [GI.out, hM, h7, hL]; rfl)
    have hL2 : decide ((65533 : Int) < (n : Int)) = true := by rw [D1.out]; exact hL
    go_enter Try.func37, Try.ntmps37
    go_wp2_with fail
    refine (marked_any m _).mono ?_; rintro e w3 ⟨rfl, rfl⟩
    rw [hM]
    go_wp2_with fail
    go_ret
    exact ⟨by rw [G.out]; rfl, BL.out _ _⟩
  have hL2 : decide ((65533 : Int) < (n : Int)) = false := by rw [D1.out]; exact hL
  rcases h8 : (m == 218) with _ | _ <;> rcases hK : decide (0 < k) with _ | _ <;> rcases hB : decide (65536 < k) with _ | _
  all_goals
    obtain ⟨g, hg⟩ : ∃ g, goodI (m, d, ivs) = g := ⟨_, rfl⟩
    have G : Hid (goodI (m, d, ivs) = g) := Lib.hid hg
    rw [GI.out, hM, h7, hL, h8, hK, hB] at hg
    have hK2 := D2.out
    have hB2 := D3.out
    rw [hK] at hK2
    rw [hB] at hB2
    rw [G.out]
    subst hg
    go_enter Try.func37, Try.ntmps37
    go_wp2_with fail
    refine (marked_any m _).mono ?_; rintro e w3 ⟨rfl, rfl⟩
    rw [hM]
    go_wp2_with fail
    go_ret
    exact ⟨rfl, BL.out _ _⟩
end Go.Proofs.Ytlljooncoingnaa
