/- burnishlaw09.parses walked on a path. By an AI agent. -/
import Derived.Test.YtheomjoadgfkeaaRGreed
import Derived.Deep.QuietTactic
import Derived.BigQuiet
namespace Go.Proofs.Ytheomjoadgfkeaa
open Go.RowKit Go.Shelf
set_option linter.unusedVariables false
set_option linter.unusedSimpArgs false

abbrev toI (t : Nat × Nat) : Int × Int := ((t.1 : Int), (t.2 : Int))
theorem tk_nat {w : World} {v : Value} {T : List (Nat × Nat)} (h : Tk w v (T.map toI)) : ∃ a cap, v = .slice a T.length cap ∧ ∀ i (hi : i < T.length), ∃ b off, a = some ⟨b, off, none⟩ ∧ w.cell? ⟨b, off + i * 2, none⟩ = some (.int .i64 (T[i].1 : Int)) ∧ w.cell? ⟨b, off + i * 2 + 1, none⟩ = some (.int .i64 (T[i].2 : Int)) := by
  obtain ⟨a, cap, rfl, hx⟩ := h
  refine ⟨a, cap, by simp, fun i hi => ?_⟩
  obtain ⟨b, off, h1, h2, h3⟩ := hx i (by simpa using hi)
  simp only [List.getElem_map] at h2 h3
  exact ⟨b, off, h1, h2, h3⟩
theorem path_len {l : List UInt8} : ∀ (T : List (Nat × Nat)) (p q : Nat), IsPath l p T q → p + T.length ≤ q
  | [], p, q, h => by cases h; simp
  | t :: T, p, q, ⟨_, _, h⟩ => by
    have := path_len T _ q h
    have := stepOf_pos t
    simp only [List.length_cons]; omega

set_option maxRecDepth 100000 in
set_option maxHeartbeats 8000000 in
theorem parses_any (tv rv : Value) (l : List UInt8) (T : List (Nat × Nat)) (w : World) (hb : Bs w tv l) (hl : l.length ≤ 1000000) (hT : Tk w rv (T.map toI)) (hp : IsPath l 0 T l.length) :
    Calls Try.prog 28 #[tv, rv] w fun e w' => e = .returned (.bool true) ∧ Below w.heap.size w w' := by
  obtain ⟨av, cap, rfl⟩ := hb.len
  obtain ⟨ar, rcap, rfl, hx⟩ := tk_nat hT
  have hTl := path_len T 0 l.length hp
  have HB := Lib.hid hb
  have HX := Lib.hid hx
  have HP := Lib.hid hp
  clear hb hx hT hp
  go_enter Try.func28, Try.ntmps28
  go_wp2_with fail
  go_loopw [5, 11] (fun p i w' => ∃ (k n : Nat), k ≤ T.length ∧ i = .int .i64 (k : Int) ∧ p = .int .i64 (n : Int) ∧ IsPath l n (T.drop k) l.length ∧ Below w.heap.size w w') (fun _ i _ => T.length - (intOf i).toNat)
  case atStart => exact ⟨0, 0, Nat.zero_le _, rfl, rfl, HP.out, Below.refl _ _⟩
  case round =>
    obtain ⟨k, n, hk, rfl, rfl, hP, hbb⟩ := hrel
    by_cases hkt : k < T.length
    · have f1 : decide ((k : Int) < (T.length : Int)) = true := by rw [decide_eq_true_eq]; omega
      have f2 : decide (k < T.length) = true := by rw [decide_eq_true_eq]; omega
      obtain ⟨b1, o1, rfl, p1, p2⟩ := HX.out k hkt
      rw [List.drop_eq_getElem_cons hkt] at hP
      obtain ⟨t, ht⟩ : ∃ t, T[k] = t := ⟨_, rfl⟩
      rw [ht] at p1 p2 hP
      obtain ⟨hn, hs, hP'⟩ := hP
      have q1 := cell_old hbb p1
      have q2 := cell_old hbb p2
      have HBB := Lib.hid hbb
      have HP2 := Lib.hid hP'
      have g1 : decide ((l.length : Int) ≤ (n : Int)) = false := by rw [decide_eq_false_iff_not]; omega
      have g2 : decide (l.length ≤ n) = false := by rw [decide_eq_false_iff_not]; omega
      clear p1 p2 hbb hP' ht
      rcases hs with rfl | hs
      · obtain ⟨_, _, hcap, hrd⟩ := (HB.out.old HBB.out).read
        simp only [Value.slice.injEq] at hcap
        obtain ⟨rfl, -, rfl⟩ := hcap
        obtain ⟨tb, toff, rfl, htx⟩ := hrd n hn
        have EX : l.getD n 0 = l[n] := by rw [List.getD_eq_getElem?_getD, List.getElem?_eq_getElem hn]; rfl
        have el : litT l n = (0, l[n].toNat) := by unfold litT; rw [EX]
        have HST : Hid (stepOf (litT l n) = 1) := Lib.hid rfl
        rw [el] at q1 q2
        simp only [Int.natCast_zero] at q1 q2
        have hby := l[n].toNat_lt
        rw [HST.out] at HP2
        generalize l[n] = y at *
        have t0 := cell_old ((Below.refl wr.heap.size wr).alloc (Nat.le_refl _) (.cells #[.int .i64 0, .int .i64 (y.toNat : Int)] 27)) htx
        have m1 : decide ((n : Int) < (l.length : Int)) = true := by rw [decide_eq_true_eq]; omega
        clear hrd EX el
        go_wp2_with fail
        go_region
        go_wp2_with fail
        go_roundw
        case rel => exact ⟨k + 1, n + 1, by omega, by go_num, by go_num, HP2.out, (HBB.out.alloc HBB.out.size _).drew⟩
        case measure => simp [intOf]; omega
      · have he := edge_len hs
        have es := edge_step hs
        rw [es] at HP2
        obtain ⟨ta, tb⟩ := t
        simp only at he q1 q2 HP2
        obtain ⟨m, rfl⟩ : ∃ m, ta = m + 3 := ⟨ta - 3, by omega⟩
        obtain ⟨h1, h2, h3, h4, h5, h6, h7, h8⟩ := he
        have i1 : (((m + 3 : Nat) : Int) == 0) = false := by rw [beq_eq_false_iff_ne]; omega
        have i2 : ((m + 3) == 0) = false := by rw [beq_eq_false_iff_ne]; omega
        clear hs es
        go_wp2_with fail
        have ba : Below wr.heap.size wr (wr.alloc (.cells #[.int .i64 ((m : Int) + 3), .int .i64 (tb : Int)] 27)) := (Below.refl _ _).alloc (Nat.le_refl _) _
        have bx := heap_alloc_new wr (.cells #[.int .i64 ((m : Int) + 3), .int .i64 (tb : Int)] 27)
        refine (refNear_any _ l (n : Int) _ (HB.out.old (HBB.out.trans (ba.mono HBB.out.size))) (by omega)).mono ?_
        rintro e w5 ⟨v5, rfl, hn5, hb5, _⟩
        have c0 : w5.cell? ⟨wr.heap.size, 0, none⟩ = some (.int .i64 ((m : Int) + 3)) := cell_old hb5 (by rw [cell_of_row _ _ 0 _ _ _ bx]; rfl)
        have c1 : w5.cell? ⟨wr.heap.size, 1, none⟩ = some (.int .i64 (tb : Int)) := cell_old hb5 (by rw [cell_of_row _ _ 1 _ _ _ bx]; rfl)
        have en : (nearI l n) = (nearL l n).map fun d : Nat => (d : Int) := if_pos ⟨by omega, by omega⟩
        rw [show m + 3 - 3 = m by omega] at h8
        have hmL : m < (nearI l n).length := by rw [en, List.length_map]; exact (List.getElem?_eq_some_iff.1 h8).1
        obtain ⟨b5, o5, c5, rfl, hc5⟩ := ns_cell hn5 (k := m) hmL
        have e5 : (nearI l n).getD m 0 = (tb : Int) := by rw [List.getD_eq_getElem?_getD, en, List.getElem?_map, h8]; rfl
        rw [e5] at hc5
        have HB5 := Lib.hid (HBB.out.trans ((ba.trans (hb5.mono ba.size)).mono HBB.out.size))
        obtain ⟨L, hL⟩ : ∃ L, (nearI l n).length = L := ⟨_, rfl⟩
        rw [hL] at hmL ⊢
        have e1 : decide ((m : Int) + 3 < 3) = false := by rw [decide_eq_false_iff_not]; omega
        have e2 : decide ((L : Int) ≤ (m : Int)) = false := by rw [decide_eq_false_iff_not]; omega
        have e3 : decide (L ≤ m) = false := by rw [decide_eq_false_iff_not]; omega
        have e4 : (m : Int) < (L : Int) := by omega
        have e6 : decide ((m : Int) < 0) = false := by rw [decide_eq_false_iff_not]; omega
        have e7 : IntKind.i64.wrap ((m : Int) + 3 - 3) = (m : Int) := by rw [IntWalk.i64_in _ (by omega)]; omega
        clear ba bx hn5 hb5 en h8 e5 hL q1 q2
        go_wp2_with fail
        go_quiet (fail)
        go_wp2_with fail
        go_roundw
        case rel => exact ⟨k + 1, n + (m + 3), by omega, by go_num, by go_num, HP2.out, below_drewN HB5.out _⟩
        case measure => simp [intOf]; omega
    · have f1 : decide ((k : Int) < (T.length : Int)) = false := by rw [decide_eq_false_iff_not]; omega
      have f2 : decide (k < T.length) = false := by rw [decide_eq_false_iff_not]; omega
      obtain rfl : k = T.length := by omega
      rw [List.drop_length] at hP
      obtain rfl : n = l.length := hP
      have HBB := Lib.hid hbb
      clear hbb
      go_wp2_with fail
      go_ret
      exact ⟨rfl, HBB.out⟩
end Go.Proofs.Ytheomjoadgfkeaa
