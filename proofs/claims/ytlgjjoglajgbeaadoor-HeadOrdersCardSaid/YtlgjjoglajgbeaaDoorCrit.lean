/- chunk.small, chunk.Critical, by the listed table. By an AI agent. -/
import Derived.Test.YtlgjjoglajgbeaaDoorRefN
import Derived.Test.YtlgjjoglajgbeaaDoorTabU
namespace Go.Proofs.YtlgjjoglajgbeaaDoor
open Go.RowKit Go.BigFrame
set_option linter.unusedVariables false
set_option linter.unusedSimpArgs false

/-- is the name one, and its letter at a place small? -/
def smallAt (nm : List UInt8) (at' : Nat) : Bool := namedB nm && smallU (nm.getD at' 0)
theorem named_letter {nm : List UInt8} (h : namedB nm = true) (k : Nat) (hk : k < nm.length) : letterU nm[k] = true := by
  unfold namedB at h
  exact List.all_eq_true.1 (Bool.and_eq_true_iff.1 h).2 _ (List.getElem_mem _)
theorem named_four {nm : List UInt8} (h : namedB nm = true) : nm.length = 4 := by
  unfold namedB at h
  exact of_decide_eq_true (Bool.and_eq_true_iff.1 h).1
set_option maxHeartbeats 800000 in
theorem small_any (nm : List UInt8) (p : Nat) (w : World) (hl : nm.length ≤ 9223372036854775807) (hp3 : p ≤ 3) (ht : TabP w) :
    Calls Tryd.prog 43 #[.string (strOf nm), .int .i64 (p : Int)] w fun e w' => e = .returned (.bool (smallAt nm p)) ∧ Below w.heap.size w w' := by
  have hs : (strOf nm).size = nm.length := strOf_size nm
  have NM := Lib.hid (fun W => named_any nm W hl)
  obtain ⟨s, hS⟩ : ∃ s, strOf nm = s := ⟨_, rfl⟩
  rw [hS] at hs ⊢
  have HS := Lib.hid hS
  have HSZ := Lib.hid hs
  have HT := Lib.hid ht
  rw [hS] at NM
  clear hS hs ht
  go_enter Tryd.func43, Tryd.ntmps43
  go_wp2_with fail
  go_loopw [9] (fun _ w' => ∃ pos : Nat, w' = w.iter s pos ∧ (namedB nm = true → pos ≤ p)) (fun _ w' => s.size - w'.iterPos w.heap.size)
  case atStart => exact ⟨0, rfl, fun _ => Nat.zero_le _⟩
  case round =>
    obtain ⟨pos, rfl, hall⟩ := hrel
    have bel : Below w.heap.size w (w.iter s pos) := (Below.refl _ _).alloc (Nat.le_refl _) _
    have HA := Lib.hid hall
    clear hall
    by_cases hp : pos < s.size
    · have hp2 : pos < nm.length := by have := HSZ.out; omega
      have hget : (s[pos]'hp).toNat = nm[pos].toNat := by
        have := HS.out; subst this; rw [strOf_get nm pos hp2]
      by_cases hpe : pos = p
      · subst hpe
        have g1 : ((pos : Int) == (pos : Int)) = true := by rw [beq_iff_eq]
        have hnx : ∀ ty, (Instr.next (.pointer (some ⟨w.heap.size, 0, none⟩)) true ty).run Tryd.prog (w.iter s pos) = _ := fun ty => run_next_any w s pos ty hp
        rcases hb : namedB nm with _ | _
        · have NB : Hid (smallAt nm pos = false) := Lib.hid (by unfold smallAt; rw [hb]; rfl)
          rw [hb] at NM
          obtain ⟨r, hr⟩ : ∃ r : Nat, (Utf8.decode s pos).1 = r := ⟨_, rfl⟩
          obtain ⟨d, hd⟩ : ∃ r : Nat, (Utf8.decode s pos).2 = r := ⟨_, rfl⟩
          rw [hr, hd] at hnx
          obtain ⟨W1, hW1⟩ : ∃ W1, w.iter s (pos + d) = W1 := ⟨_, rfl⟩
          rw [hW1] at hnx
          have BE : Hid (Below w.heap.size w W1) := Lib.hid (by rw [← hW1]; exact (Below.refl _ _).alloc (Nat.le_refl _) _)
          clear hget hr hd hb hW1
          go_wp2_with fail
          refine (NM.out _).mono ?_; rintro e w' ⟨rfl, hb2⟩
          go_wp2_with fail
          go_ret
          exact ⟨rb NB.out.symm, BE.out.trans (hb2.mono BE.out.size)⟩
        · have hlt := named_letter hb pos hp2
          obtain ⟨hc, hz⟩ := low_letter nm[pos] hlt
          have ha : (s[pos]'hp).toNat < 128 := by rw [hget]; exact hc
          have hnx2 : ∀ ty, (Instr.next (.pointer (some ⟨w.heap.size, 0, none⟩)) true ty).run Tryd.prog (w.iter s pos) = _ := fun ty => run_next_ascii w s pos ty hp ha
          rw [hget] at hnx2
          have NB : Hid (smallAt nm pos = smallU nm[pos]) := Lib.hid (by unfold smallAt; rw [hb, Bool.true_and, List.getD_eq_getElem?_getD, List.getElem?_eq_getElem hp2]; rfl)
          rw [hb] at NM
          rw [← hz] at NB
          have HC := Lib.hid hc
          obtain ⟨c, hcc⟩ : ∃ c : Nat, nm[pos].toNat = c := ⟨_, rfl⟩
          rw [hcc] at hnx2 NB HC
          obtain ⟨W1, hW1⟩ : ∃ W1, w.iter s (pos + 1) = W1 := ⟨_, rfl⟩
          rw [hW1] at hnx2
          have BE : Hid (Below w.heap.size w W1) := Lib.hid (by rw [← hW1]; exact (Below.refl _ _).alloc (Nat.le_refl _) _)
          clear hget hnx hcc hb hW1 ha hc hz hlt
          go_wp2_with fail
          refine (NM.out _).mono ?_; rintro e w' ⟨rfl, hb2⟩
          have BE2 : Hid (Below w.heap.size w w') := Lib.hid (BE.out.trans (hb2.mono BE.out.size))
          go_wp2_with fail
          refine (isLower_any c w' HC.out (HT.out.old BE2.out)).mono ?_; rintro e w'' ⟨rfl, rfl⟩
          go_wp2_with fail
          go_ret
          exact ⟨rb NB.out.symm, BE2.out⟩
      · have g1 : ((pos : Int) == (p : Int)) = false := by rw [beq_eq_false_iff_ne]; omega
        by_cases ha : (s[pos]'hp).toNat < 128
        · have hnx : ∀ ty, (Instr.next (.pointer (some ⟨w.heap.size, 0, none⟩)) true ty).run Tryd.prog (w.iter s pos) = _ := fun ty => run_next_ascii w s pos ty hp ha
          have NX : Hid (namedB nm = true → pos + 1 ≤ p) := Lib.hid (fun h => by have := HA.out h; omega)
          obtain ⟨c, hc⟩ : ∃ c : Nat, (s[pos]'hp).toNat = c := ⟨_, rfl⟩
          rw [hc] at hnx
          clear hget ha hc
          go_wp2_with fail
          go_roundw
          case rel => exact ⟨pos + 1, rfl, NX.out⟩
          case measure => simp; omega
        · have hno : Hid (namedB nm = false) := Lib.hid (named_no nm pos hp2 (by
            rw [← letterI_nat]; exact letterI_high _ (by omega)))
          have hnx : ∀ ty, (Instr.next (.pointer (some ⟨w.heap.size, 0, none⟩)) true ty).run Tryd.prog (w.iter s pos) = _ := fun ty => run_next_any w s pos ty hp
          have hdw := (decode_high s pos hp (by omega)).2
          obtain ⟨r, hr⟩ : ∃ r : Nat, (Utf8.decode s pos).1 = r := ⟨_, rfl⟩
          obtain ⟨d, hd⟩ : ∃ r : Nat, (Utf8.decode s pos).2 = r := ⟨_, rfl⟩
          rw [hr, hd] at hnx
          rw [hd] at hdw
          clear hget ha hr hd
          go_wp2_with fail
          go_roundw
          case rel => exact ⟨pos + d, rfl, fun h => by rw [hno.out] at h; cases h⟩
          case measure => simp; omega
    · have hnx : ∀ ty, (Instr.next (.pointer (some ⟨w.heap.size, 0, none⟩)) true ty).run Tryd.prog (w.iter s pos) = _ := fun ty => run_next_end w s pos ty hp
      have NB : Hid (smallAt nm p = false) := Lib.hid (by
        unfold smallAt
        rcases hb : namedB nm with _ | _
        · rfl
        · have h1 := named_four hb
          have h2 := HA.out hb
          have := HSZ.out
          omega)
      go_wp2_with fail
      go_ret
      exact ⟨rb NB.out.symm, bel⟩
def criticalB (nm : List UInt8) : Bool := namedB nm && !smallAt nm 0
theorem critical_any (nm : List UInt8) (w : World) (hl : nm.length ≤ 9223372036854775807) (ht : TabP w) :
    Calls Tryd.prog 27 #[.string (strOf nm)] w fun e w' => e = .returned (.bool (criticalB nm)) ∧ Below w.heap.size w w' := by
  go_enter Tryd.func27, Tryd.ntmps27
  go_wp2_with fail
  refine (named_any nm w hl).mono ?_; rintro e w1 ⟨rfl, hb1⟩
  have B1 := Lib.hid hb1
  have HT := Lib.hid (ht.old hb1)
  clear hb1 ht
  rcases hn : namedB nm with _ | _
  · have NB : Hid (criticalB nm = false) := Lib.hid (by unfold criticalB; rw [hn]; rfl)
    clear hn
    go_wp2_with fail
    go_ret
    exact ⟨rb NB.out.symm, B1.out⟩
  · have NB : Hid (criticalB nm = !smallAt nm 0) := Lib.hid (by unfold criticalB; rw [hn]; rfl)
    clear hn
    go_wp2_with fail
    refine (small_any nm 0 w1 hl (by omega) HT.out).mono ?_; rintro e w2 ⟨rfl, hb2⟩
    go_wp2_with fail
    go_ret
    exact ⟨rb NB.out.symm, B1.out.trans (hb2.mono B1.out.size)⟩
end Go.Proofs.YtlgjjoglajgbeaaDoor
