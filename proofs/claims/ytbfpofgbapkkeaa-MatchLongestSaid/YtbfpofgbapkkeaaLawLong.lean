/- MatchLongest: the law's walk. By an AI agent. -/
import Derived.Test.YtbfpofgbapkkeaaAlive8
import Derived.Test.YtbfpofgbapkkeaaOver
namespace Go.Proofs.Ytbfpofgbapkkeaa
open Go.RowKit Go.Shelf
set_option linter.unusedVariables false
set_option linter.unusedSimpArgs false

theorem near_both (l : List UInt8) (p : Int) : (nearI l p = [] ∧ betterL (some l) p = []) ∨ ∃ t : Nat × Nat, ∃ n : Nat, lastT (betterL (some l) p) = t ∧ 0 < n ∧ n ≤ 256 ∧ (nearI l p).length = n ∧ t.1 = 2 + n ∧ (nearI l p)[n - 1]? = some (t.2 : Int) ∧ t.2 ≤ 32768 := by
  by_cases h : 0 ≤ p ∧ p < l.length
  · have e1 : betterL (some l) p = recs l p.toNat := by
      show (if 0 ≤ p ∧ p < (l.length : Int) then recs l p.toNat else []) = _
      rw [if_pos h]
    have e2 : nearI l p = (nearL l p.toNat).map fun d : Nat => (d : Int) := if_pos h
    rw [e1, e2]
    cases hr : (recs l p.toNat).getLast? with
    | none =>
      have h0 : recs l p.toNat = [] := by simpa using hr
      exact .inl ⟨by rw [(near_nil l p.toNat).2 h0]; rfl, h0⟩
    | some t =>
      obtain ⟨h1, h2⟩ := near_last l p.toNat hr
      have ok := recs_ok l p.toNat _ t (List.mem_of_getLast? hr)
      refine .inr ⟨t, (nearL l p.toNat).length, by simp [lastT, hr], by have := ok.1; omega, near_le _ _, by simp, h1, ?_, by have := ok.2.2.2.1; omega⟩
      rw [List.getElem?_map, h2]
      rfl
  · refine .inl ⟨if_neg h, ?_⟩
    show (if 0 ≤ p ∧ p < (l.length : Int) then recs l p.toNat else []) = _
    rw [if_neg h]

set_option maxRecDepth 20000 in
set_option maxHeartbeats 3200000 in
theorem lawLongest_any (v : Value) (l : List UInt8) (p : Int) (w : World) (hb : Bs w v l) (hl : l.length ≤ 140737488351232) (hp : -9223372036854775808 ≤ p ∧ p ≤ 9223372036854775807) :
    Calls Try.prog 4 #[v, .int .i64 p] w fun e w' => e = .returned (.bool true) ∧ Below w.heap.size w w' := by
  obtain ⟨av, cap, rfl⟩ := hb.len
  have HB := Lib.hid hb
  have HP := Lib.hid hp
  clear hb hp
  go_enter Try.func4, Try.ntmps4
  go_wp2_with fail
  refine (alive_any _).mono ?_; rintro e w1 ⟨rfl, hb1⟩
  have B1 := Lib.hid hb1
  clear hb1
  by_cases hbig : 400 < l.length
  · have d1 : decide ((400 : Int) < (l.length : Int)) = true := by rw [decide_eq_true_eq]; omega
    clear hbig
    go_wp2_with fail
    go_ret
    exact ⟨rfl, B1.out⟩
  have d1 : decide ((400 : Int) < (l.length : Int)) = false := by rw [decide_eq_false_iff_not]; omega
  go_wp2_with fail
  refine (copy_any _ l w1 (HB.out.old B1.out) hl).mono ?_
  rintro e w2 ⟨v2, rfl, hc2, hb2, hz2⟩
  have B2 := Lib.hid (B1.out.trans (hb2.mono B1.out.size))
  have C2 := Lib.hid hc2
  have G1 : Hid (w.heap.size ≤ w1.heap.size ∧ w1.heap.size < w2.heap.size) := Lib.hid ⟨B1.out.size, hz2⟩
  obtain rfl : v2 = .slice (some ⟨w1.heap.size, 0, none⟩) l.length (l.length + 2) := hc2.1
  clear hc2 hb2 hz2
  go_wp2_with fail
  refine (newFinder_any _ l w2 C2.out.bs (by omega)).mono ?_
  rintro e w3 ⟨f, rfl, hF, hb3⟩
  obtain ⟨g, bs, rfl, hFV, hbs⟩ := hF.fv
  have B3 := Lib.hid (B2.out.trans (hb3.mono B2.out.size))
  have C3 := Lib.hid (C2.out.old hb3)
  have FV3 := Lib.hid hFV
  have BS := Lib.hid hbs
  clear hF hFV hbs hb3
  go_wp2_with fail
  refine (kept_any _ _ _ l w3 C3.out (HB.out.old B3.out) hl).mono ?_
  rintro e w3' ⟨rfl, rfl⟩
  go_wp2_with fail
  refine (over_any w1.heap.size l.length (l.length + 2) w3 C3.out.rowb (by omega)).mono ?_
  rintro e w4 ⟨⟨vo, rfl⟩, hg4⟩
  have B4 : Hid (Below w.heap.size w w4) := Lib.hid (B3.out.grown hg4 B3.out.size (fun k hk => by cases hk; exact G1.out.1))
  have FV4 : Hid (FV bs w4 (.pointer (some ⟨g, 0, none⟩)) (some l)) := Lib.hid (FV3.out.keep ⟨hg4.size, fun b hb => hg4.block b (BS.out b hb).2 (fun h => by have := (BS.out b hb).1; have := G1.out.2; have := Option.some.inj h; omega)⟩)
  have BS4 : Hid (∀ b ∈ bs, b < w4.heap.size) := Lib.hid (fun b hb => Nat.lt_of_lt_of_le (BS.out b hb).2 hg4.size)
  clear hg4 C3 C2 FV3 BS
  go_wp2_with fail
  refine (longest_any bs p (some ⟨g, 0, none⟩) (some l) w4 HP.out (by have : lenO (some l) = l.length := rfl; omega) FV4.out BS4.out).mono ?_
  rintro e w5 ⟨rfl, hb5⟩
  have B5 := Lib.hid (B4.out.trans (hb5.mono B4.out.size))
  have FV5 := Lib.hid (FV4.out.keep (KeepB.below hb5 hb5.size BS4.out))
  have BS5 : Hid (∀ b ∈ bs, b < w5.heap.size) := Lib.hid (fun b hb => Nat.lt_of_lt_of_le (BS4.out b hb) hb5.size)
  have NB := near_both l p
  clear hb5 FV4 BS4
  rcases NB with ⟨n1, n2⟩ | ⟨⟨a, b⟩, n, n1, n2, n3, n4, n5, n6, n7⟩
  · rw [n2, show lastT [] = (0, 0) from rfl, show tokC (0, 0) = #[.int .i64 0, .int .i64 0] from rfl, show decide (0 < ((0, 0) : Nat × Nat).1) = false from rfl]
    have N1 := Lib.hid n1
    clear n1 n2
    go_wp2_with fail
    have ba : Below w5.heap.size w5 (w5.alloc (.cells #[.int .i64 0, .int .i64 0] 24)) := (Below.refl _ _).alloc (Nat.le_refl _) _
    have hcell := heap_alloc_new w5 (.cells #[.int .i64 0, .int .i64 0] 24)
    refine (refNear_any _ l p _ (HB.out.old (B5.out.trans (ba.mono B5.out.size))) (by omega)).mono ?_
    rintro e w6 ⟨v6, rfl, hn6, hb6⟩
    obtain ⟨a6, c6, rfl⟩ := hn6.len
    rw [N1.out, show ([] : List Int).length = 0 from rfl]
    have c0 : w6.cell? ⟨w5.heap.size, 0, none⟩ = some (.int .i64 0) := cell_old hb6 (by rw [cell_of_row _ _ 0 _ _ _ hcell]; rfl)
    have c1 : w6.cell? ⟨w5.heap.size, 1, none⟩ = some (.int .i64 0) := cell_old hb6 (by rw [cell_of_row _ _ 1 _ _ _ hcell]; rfl)
    have B6 := Lib.hid (B5.out.trans ((ba.trans (hb6.mono ba.size)).mono B5.out.size))
    clear hn6 hb6 ba hcell
    go_wp2_with fail
    go_ret
    exact ⟨rfl, B6.out⟩
  · simp only at n5 n6 n7
    have i0 : decide (0 < ((a, b) : Nat × Nat).1) = true := by rw [decide_eq_true_eq]; simp only; omega
    rw [n1, i0, show tokC (a, b) = #[.int .i64 (a : Int), .int .i64 (b : Int)] from rfl]
    have N4 := Lib.hid n4
    have N6 := Lib.hid n6
    have N5 := Lib.hid n5
    clear n1 n4 n5 n6 i0
    go_wp2_with fail
    have ba : Below w5.heap.size w5 (w5.alloc (.cells #[.int .i64 (a : Int), .int .i64 (b : Int)] 24)) := (Below.refl _ _).alloc (Nat.le_refl _) _
    have hcell := heap_alloc_new w5 (.cells #[.int .i64 (a : Int), .int .i64 (b : Int)] 24)
    refine (refNear_any _ l p _ (HB.out.old (B5.out.trans (ba.mono B5.out.size))) (by omega)).mono ?_
    rintro e w6 ⟨v6, rfl, hn6, hb6⟩
    obtain ⟨a6, c6, rfl, hc6⟩ := hn6.read
    have hlt : n - 1 < (nearI l p).length := by rw [N4.out]; omega
    obtain ⟨b6, o6, rfl, x6⟩ := hc6 (n - 1) hlt
    have e6 : (nearI l p)[n - 1] = (b : Int) := by
      have h := N6.out
      rw [List.getElem?_eq_getElem hlt] at h
      exact Option.some.inj h
    rw [e6] at x6
    rw [N4.out]
    have c0 : w6.cell? ⟨w5.heap.size, 0, none⟩ = some (.int .i64 (a : Int)) := cell_old hb6 (by rw [cell_of_row _ _ 0 _ _ _ hcell]; rfl)
    have c1 : w6.cell? ⟨w5.heap.size, 1, none⟩ = some (.int .i64 (b : Int)) := cell_old hb6 (by rw [cell_of_row _ _ 1 _ _ _ hcell]; rfl)
    have B6 := Lib.hid (B5.out.trans ((ba.trans (hb6.mono ba.size)).mono B5.out.size))
    have FV6 := Lib.hid (FV5.out.keep (KeepB.below (ba.trans (hb6.mono ba.size)) (ba.trans (hb6.mono ba.size)).size BS5.out))
    have LQ : Hid (∀ q, Calls Try.prog 17 #[.pointer (some ⟨g, 0, none⟩)] (w6.drewN q) fun e w' => e = .returned (.int .i64 ((l.length : Nat) : Int)) ∧ w' = w6.drewN q) := Lib.hid (fun q => (len_any bs _ (some l) (w6.drewN q) (FV6.out.keep (KeepB.drewN _ _ _))).mono fun e w' ⟨h1, h2⟩ => ⟨h1, h2.symm⟩)
    clear hn6 hb6 ba hcell hc6 e6
    have i1 : ((n : Int) == 0) = false := by rw [beq_eq_false_iff_ne]; omega
    have i2 : (n == 0) = false := by rw [beq_eq_false_iff_ne]; omega
    have s1 : IntKind.i64.wrap (2 + (n : Int)) = (a : Int) := by have := N5.out; rw [IntWalk.i64_in _ (by omega)]; omega
    have s2 : IntKind.i64.wrap ((n : Int) - 1) = ((n - 1 : Nat) : Int) := by rw [IntWalk.i64_in _ (by omega)]; omega
    have hn1 : n - 1 < n := by omega
    have hn2 : decide (n - 1 < n) = true := by rw [decide_eq_true_eq]; omega
    go_wp2_with fail
    go_quiet ((go_at_call 17; exact Calls.quiet_of_same (LQ.out _)))
    go_wp2_with fail
    go_ret
    exact ⟨rfl, below_drewN B6.out _⟩
end Go.Proofs.Ytbfpofgbapkkeaa
