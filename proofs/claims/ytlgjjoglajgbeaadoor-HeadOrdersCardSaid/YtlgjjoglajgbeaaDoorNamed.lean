/- The walks of chunk.letter, chunk.Named. By an AI agent. -/
import Derived.Test.YtlgjjoglajgbeaaDoorNmP
import Derived.Laws.RangeString
import Derived.Laws.RangeAny
namespace Go.Proofs.YtlgjjoglajgbeaaDoor
open Go.RowKit
set_option linter.unusedVariables false
set_option linter.unusedSimpArgs false

def letterI (c : Int) : Bool := (decide (97 ≤ c) && decide (c ≤ 122)) || (decide (65 ≤ c) && decide (c ≤ 90))
theorem letterI_nat (c : UInt8) : letterI (c.toNat : Int) = letterU c := by
  unfold letterI letterU smallU
  rw [Bool.eq_iff_iff]
  simp only [Bool.or_eq_true, Bool.and_eq_true, decide_eq_true_eq]
  omega
theorem letterI_high (c : Int) (h : 128 ≤ c) : letterI c = false := by
  unfold letterI
  rw [Bool.eq_false_iff]
  simp only [ne_eq, Bool.or_eq_true, Bool.and_eq_true, decide_eq_true_eq]
  omega
theorem letter_any (c : Int) (w : World) : Calls Tryd.prog 40 #[.int .i32 c] w fun e w' => e = .returned (.bool (letterI c)) ∧ w = w' := by
  rcases h1 : decide ((97 : Int) ≤ c) with _ | _ <;> rcases h2 : decide (c ≤ (122 : Int)) with _ | _ <;> rcases h3 : decide ((65 : Int) ≤ c) with _ | _ <;> rcases h4 : decide (c ≤ (90 : Int)) with _ | _
  all_goals
    go_enter Tryd.func40, Tryd.ntmps40
    go_wp2
    go_ret
    exact ⟨rb (by simp only [letterI, h1, h2, h3, h4]; rfl), rfl⟩
theorem strOf_get (l : List UInt8) (i : Nat) (h : i < l.length) : (strOf l)[i]'(by rw [strOf_size]; exact h) = l[i] := by
  simp [strOf, ByteArray.getElem_eq_getElem_data]
theorem all_snoc (l : List UInt8) (k : Nat) (h : k < l.length) (h1 : (l.take k).all letterU = true) (h2 : letterU l[k] = true) : (l.take (k + 1)).all letterU = true := by
  rw [List.take_succ_eq_append_getElem h, List.all_append, h1]; simp [h2]
theorem named_no (l : List UInt8) (k : Nat) (h : k < l.length) (h2 : letterU l[k] = false) : namedB l = false := by
  unfold namedB
  rw [Bool.and_eq_false_iff]
  right
  rw [Bool.eq_false_iff]
  intro h3
  have := List.all_eq_true.1 h3 l[k] (List.getElem_mem _)
  rw [h2] at this
  cases this
set_option maxHeartbeats 800000 in
theorem named_any (nm : List UInt8) (w : World) (hl : nm.length ≤ 9223372036854775807) :
    Calls Tryd.prog 25 #[.string (strOf nm)] w fun e w' => e = .returned (.bool (namedB nm)) ∧ Below w.heap.size w w' := by
  have hs : (strOf nm).size = nm.length := strOf_size nm
  obtain ⟨s, hS⟩ : ∃ s, strOf nm = s := ⟨_, rfl⟩
  rw [hS] at hs ⊢
  have HS := Lib.hid hS
  have HSZ := Lib.hid hs
  clear hS hs
  go_enter Tryd.func25, Tryd.ntmps25
  go_wp2_with fail
  go_loopw [4] (fun _ w' => ∃ pos : Nat, pos ≤ s.size ∧ w' = w.iter s pos ∧ (nm.take pos).all letterU = true) (fun _ w' => s.size - w'.iterPos w.heap.size)
  case atStart => exact ⟨0, Nat.zero_le _, rfl, rfl⟩
  case round =>
    obtain ⟨pos, hle, rfl, hall⟩ := hrel
    have bel : Below w.heap.size w (w.iter s pos) := (Below.refl _ _).alloc (Nat.le_refl _) _
    have HA := Lib.hid hall
    clear hall
    by_cases hp : pos < s.size
    · have hp2 : pos < nm.length := by have := HSZ.out; omega
      have hget : (s[pos]'hp).toNat = nm[pos].toNat := by
        have := HS.out; subst this; rw [strOf_get nm pos hp2]
      by_cases ha : (s[pos]'hp).toNat < 128
      · have hnx : ∀ ty, (Instr.next (.pointer (some ⟨w.heap.size, 0, none⟩)) true ty).run Tryd.prog (w.iter s pos) = _ := fun ty => run_next_ascii w s pos ty hp ha
        rw [hget] at hnx
        have LI := Lib.hid (letterI_nat nm[pos])
        obtain ⟨c, hc⟩ : ∃ c : Nat, nm[pos].toNat = c := ⟨_, rfl⟩
        rw [hc] at hnx LI
        clear hget ha hc
        go_wp2_with fail
        refine (letter_any _ _).mono ?_; rintro e w' ⟨rfl, rfl⟩
        rcases hb : letterU nm[pos] with _ | _
        · rw [LI.out, hb]
          have NB := Lib.hid (named_no nm pos hp2 hb)
          have BE := Lib.hid ((Below.refl w.heap.size w).alloc (Nat.le_refl _) (.stringIter s (pos + 1)))
          clear hb hnx
          go_wp2_with fail
          go_ret
          exact ⟨rb NB.out.symm, BE.out⟩
        · rw [LI.out, hb]
          have NA := Lib.hid (all_snoc nm pos hp2 HA.out hb)
          clear hb hnx
          go_wp2_with fail
          go_roundw
          case rel => exact ⟨pos + 1, by omega, rfl, NA.out⟩
          case measure => simp; omega
      · have hd := decode_high s pos hp (by omega)
        have NB := Lib.hid (named_no nm pos hp2 (by
          rw [← letterI_nat]; exact letterI_high _ (by omega)))
        have hnx : ∀ ty, (Instr.next (.pointer (some ⟨w.heap.size, 0, none⟩)) true ty).run Tryd.prog (w.iter s pos) = _ := fun ty => run_next_any w s pos ty hp
        obtain ⟨r, hr⟩ : ∃ r : Nat, (Utf8.decode s pos).1 = r := ⟨_, rfl⟩
        rw [hr] at hnx hd
        have LI := Lib.hid (letterI_high (r : Int) (by omega))
        have BE := Lib.hid ((Below.refl w.heap.size w).alloc (Nat.le_refl _) (.stringIter s (pos + (Utf8.decode s pos).2)))
        clear hget ha hr hd
        go_wp2_with fail
        refine (letter_any _ _).mono ?_; rintro e w' ⟨rfl, rfl⟩
        rw [LI.out]
        clear hnx
        go_wp2_with fail
        go_ret
        exact ⟨rb NB.out.symm, BE.out⟩
    · have hnx : ∀ ty, (Instr.next (.pointer (some ⟨w.heap.size, 0, none⟩)) true ty).run Tryd.prog (w.iter s pos) = _ := fun ty => run_next_end w s pos ty hp
      have NB : Hid (namedB nm = decide (s.size = 4)) := Lib.hid (by
        unfold namedB
        have h1 := HA.out
        rw [List.take_of_length_le (by have := HSZ.out; omega)] at h1
        rw [h1, ← HSZ.out, Bool.and_true])
      go_wp2_with fail
      go_ret
      refine ⟨rb ?_, bel⟩
      rw [NB.out]
      first
        | rfl
        | (rw [Bool.eq_iff_iff]; simp; omega)
end Go.Proofs.YtlgjjoglajgbeaaDoor
