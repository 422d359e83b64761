/- ParseCheapest: the law's walk. By an AI agent. -/
import Derived.Test.YtheomjoadgfkeaaAlive9
import Derived.Test.YtheomjoadgfkeaaCopy
import Derived.Test.YtheomjoadgfkeaaKept
import Derived.Test.YtheomjoadgfkeaaPriceP
import Derived.Test.YtheomjoadgfkeaaParses
import Derived.Test.YtheomjoadgfkeaaLeast
namespace Go.Proofs.Ytheomjoadgfkeaa
open Go.RowKit Go.Shelf
set_option linter.unusedVariables false
set_option linter.unusedSimpArgs false

theorem set3_kept {W : World} {Bx k : Nat} {C D : Array Value} {t t' : TypeId} {p q r : Value} (hb : W.heap[Bx]? = some (.cells C t (0, 0))) (h : W.heap[k]? = some (.cells D t' (0, 0))) (ht : t ≠ t') :
    (((W.setCell ⟨Bx, 0, none⟩ p).setCell ⟨Bx, 1, none⟩ q).setCell ⟨Bx, 2, none⟩ r).heap[k]? = some (.cells D t' (0, 0)) := by
  have hne : k ≠ Bx := by
    rintro rfl
    rw [hb] at h
    simp only [Option.some.injEq, Obj.cells.injEq] at h
    exact ht h.2.1
  rw [Go.Deep.blk_setCell_other _ _ _ _ hne, Go.Deep.blk_setCell_other _ _ _ _ hne, Go.Deep.blk_setCell_other _ _ _ _ hne]
  exact h
theorem set3_same {W : World} {Bx : Nat} {a b c : Value} {t : TypeId} {p q r : Value} (hb : W.heap[Bx]? = some (.cells #[a, b, c] t (0, 0))) :
    (((W.setCell ⟨Bx, 0, none⟩ p).setCell ⟨Bx, 1, none⟩ q).setCell ⟨Bx, 2, none⟩ r).heap[Bx]? = some (.cells #[p, q, r] t (0, 0)) := by
  simp [World.setCell, Array.getElem?_modify, hb]
theorem set3_below {R Bx : Nat} {w W : World} {p q r : Value} (h : Below R w W) (hB : R ≤ Bx) : Below R w (((W.setCell ⟨Bx, 0, none⟩ p).setCell ⟨Bx, 1, none⟩ q).setCell ⟨Bx, 2, none⟩ r) :=
  ((h.setCell (p := ⟨Bx, 0, none⟩) hB _).setCell (p := ⟨Bx, 1, none⟩) hB _).setCell (p := ⟨Bx, 2, none⟩) hB _
theorem path_steps {l : List UInt8} : ∀ (T : List (Nat × Nat)) (p q : Nat), IsPath l p T q → ∀ t ∈ T, ∃ p, Step l p t
  | [], p, q, _, t, ht => by simp at ht
  | s :: T, p, q, ⟨_, h, h3⟩, t, ht => by
    rcases List.mem_cons.1 ht with rfl | ht
    · exact ⟨p, h⟩
    · exact path_steps T _ q h3 t ht
theorem frozen_of_row0 {w : World} {g : Nat} {C : Array Value} {t : TypeId} (h : w.heap[g]? = some (.cells C t (0, 0))) (i : Nat) : w.frozen? ⟨g, i, none⟩ = false := by simp [World.frozen?, h]
set_option maxRecDepth 100000 in
set_option maxHeartbeats 8000000 in
theorem lawCheap_any (tv u v x : Value) (l : List UInt8) (a b c : List Int) (w : World) (hb : Bs w tv l) (hl : l.length ≤ 140737488351232) (hu : Ns w u a) (hv : Ns w v b) (hx : Ns w x c) (ha : a.length ≤ 140737488355328) (hbl : b.length ≤ 140737488355328) (hcl : c.length ≤ 140737488355328) :
    Calls Try.prog 6 #[tv, .agg #[u, v, x]] w fun e w' => e = .returned (.bool true) ∧ Below w.heap.size w w' := by
  obtain ⟨R, hR⟩ : ∃ R, w.heap.size = R := ⟨_, rfl⟩
  have HOLD : Hid (∀ V, Below R w V → Bs V tv l ∧ Ns V u a ∧ Ns V v b ∧ Ns V x c) := Lib.hid (fun V h => by rw [← hR] at h; exact ⟨hb.old h, hu.old h, hv.old h, hx.old h⟩)
  have HRR := Lib.hid hR
  obtain ⟨av, cap, rfl⟩ := hb.len
  clear hb hu hv hx hR
  go_enter Try.func6, Try.ntmps6
  go_wp2_with fail
  refine (alive_any _).mono ?_; rintro e w1 ⟨rfl, hb1⟩
  rw [HRR.out]
  have ba : Below R w (w.alloc (.cells #[u, v, x] 33)) := by rw [← HRR.out]; exact (Below.refl _ _).alloc (Nat.le_refl _) _
  have X1 : w1.heap[R]? = some (.cells #[u, v, x] 33 (0, 0)) := by
    rw [hb1.block R (by simp [HRR.out]), ← HRR.out]; exact heap_alloc_new _ _
  have Z1 : Hid (Below R w w1) := Lib.hid (ba.trans (hb1.mono (by simp [HRR.out])))
  have k0 : w1.cell? ⟨R, 0, none⟩ = some u := by rw [cell_of_row _ _ 0 _ _ _ X1]; rfl
  have k1 : w1.cell? ⟨R, 1, none⟩ = some v := by rw [cell_of_row _ _ 1 _ _ _ X1]; rfl
  have k2 : w1.cell? ⟨R, 2, none⟩ = some x := by rw [cell_of_row _ _ 2 _ _ _ X1]; rfl
  have HX1 := Lib.hid X1
  clear hb1 ba X1
  by_cases hbig : 200 < l.length
  · have d1 : decide ((200 : Int) < (l.length : Int)) = true := by rw [decide_eq_true_eq]; omega
    go_wp2_with fail
    go_ret
    exact ⟨rfl, by rw [HRR.out]; exact Z1.out⟩
  have d1 : decide ((200 : Int) < (l.length : Int)) = false := by rw [decide_eq_false_iff_not]; omega
  go_wp2_with fail
  refine (large_any u v x a b c w1 (HOLD.out w1 Z1.out).2.1 (HOLD.out w1 Z1.out).2.2.1 (HOLD.out w1 Z1.out).2.2.2 ha hbl hcl).mono ?_
  rintro e w2 ⟨rfl, hb2⟩
  have Z2 : Hid (Below R w w2) := Lib.hid (Z1.out.trans (hb2.mono (by have := (Array.getElem?_eq_some_iff.1 HX1.out).1; omega)))
  have X2 : Hid (w2.heap[R]? = some (.cells #[u, v, x] 33 (0, 0))) := Lib.hid ((hb2.block R (Array.getElem?_eq_some_iff.1 HX1.out).1).trans HX1.out)
  clear hb2 k0 k1 k2
  cases hlg : largeP a b c
  case true =>
    go_wp2_with fail
    go_ret
    exact ⟨rfl, by rw [HRR.out]; exact Z2.out⟩
  have L3 : Hid (a.length ≤ 1000 ∧ b.length ≤ 1000 ∧ c.length ≤ 1000) := Lib.hid (by
    unfold largeP at hlg
    simp only [Bool.or_eq_false_iff, decide_eq_false_iff_not] at hlg
    omega)
  have hR2 : R ≤ w2.heap.size := by have := (Array.getElem?_eq_some_iff.1 X2.out).1; omega
  have k0 : w2.cell? ⟨R, 0, none⟩ = some u := by rw [cell_of_row _ _ 0 _ _ _ X2.out]; rfl
  have k1 : w2.cell? ⟨R, 1, none⟩ = some v := by rw [cell_of_row _ _ 1 _ _ _ X2.out]; rfl
  have k2 : w2.cell? ⟨R, 2, none⟩ = some x := by rw [cell_of_row _ _ 2 _ _ _ X2.out]; rfl
  have HR2 := Lib.hid hR2
  have kb : ∀ O, Below R w (w2.alloc O).drew := fun O => (Z2.out.alloc hR2 O).drew
  have k0' : ∀ O, (w2.alloc O).cell? ⟨R, 0, none⟩ = some u := fun O => cell_old ((Below.refl _ _).alloc (Nat.le_refl _) _) k0
  have k1' : ∀ O, (w2.alloc O).cell? ⟨R, 1, none⟩ = some v := fun O => cell_old ((Below.refl _ _).alloc (Nat.le_refl _) _) k1
  have k2' : ∀ O, (w2.alloc O).cell? ⟨R, 2, none⟩ = some x := fun O => cell_old ((Below.refl _ _).alloc (Nat.le_refl _) _) k2
  have HKB := Lib.hid kb
  clear kb hR2
  go_wp2_with fail
  rename_i K hK
  have TAIL : ∀ (ca : Option Addr) (cc : Nat) (qa : Option Addr) (qn qc : Nat) (ra : Option Addr) (rn rc : Nat) (sa : Option Addr) (sn sc Bx g g1 g2 g3 : Nat) (W : World), Cp W (.slice ca l.length cc) g l → CpI W (.slice qa qn qc) g1 a → CpI W (.slice ra rn rc) g2 b → CpI W (.slice sa sn sc) g3 c →
      W.heap[Bx]? = some (.cells #[.slice qa qn qc, .slice ra rn rc, .slice sa sn sc] 38 (0, 0)) → W.heap[R]? = some (.cells #[u, v, x] 33 (0, 0)) → Below R w W →
      K { tmps := #[.slice av l.length cap, .agg #[u, v, x], undef, .pointer (some ⟨R, 0, none⟩), .bool false, .slice ca l.length cc, .pointer (some ⟨Bx, 0, none⟩), undef, undef, undef, undef, undef, .bool true, .bool false, .slice av l.length cap, .int .i64 (l.length : Int), .bool false, .bool false, .agg #[u, v, x], .bool false, .bool false, .slice av l.length cap, .slice ca l.length cc, .agg #[u, v, x], .agg #[.slice qa qn qc, .slice ra rn rc, .slice sa sn sc], undef, undef, undef, undef, undef, undef, undef, undef, undef, undef, undef, undef, undef, undef, undef, undef, undef, undef, undef, undef, undef, undef, undef, undef, undef, undef, undef, undef, undef, undef, undef, undef, undef, undef, undef, undef, undef, undef, undef, undef, undef, undef, undef, undef, undef, undef, undef, undef, undef, undef, undef], defers := [] } W := by
    intro ca cc qa qn qc ra rn rc sa sn sc Bx g g1 g2 g3 W hC hCU hCV hCX hBx hRx hW
    refine hK _ _ ?_
    have HC := Lib.hid hC
    have CU := Lib.hid hCU
    have CV := Lib.hid hCV
    have CX := Lib.hid hCX
    have HBx := Lib.hid hBx
    have HRx := Lib.hid hRx
    have HW := Lib.hid hW
    have b0 : W.cell? ⟨Bx, 0, none⟩ = some (.slice qa qn qc) := by rw [cell_of_row _ _ 0 _ _ _ hBx]; rfl
    have b1 : W.cell? ⟨Bx, 1, none⟩ = some (.slice ra rn rc) := by rw [cell_of_row _ _ 1 _ _ _ hBx]; rfl
    have b2 : W.cell? ⟨Bx, 2, none⟩ = some (.slice sa sn sc) := by rw [cell_of_row _ _ 2 _ _ _ hBx]; rfl
    clear hC hCU hCV hCX hBx hRx hW k0 k1 k2 k0' k1' k2' HKB hK
    go_wp2_with fail
    refine (cheapest_any _ _ _ _ l a b c W HC.out.bs (by omega) CU.out.ns CV.out.ns CX.out.ns L3.out.1 L3.out.2.1 L3.out.2.2).mono ?_
    rintro e W1 ⟨hb1, hres⟩
    have HC1 := Lib.hid (HC.out.old hb1)
    have CU1 := Lib.hid (CU.out.old hb1)
    have CV1 := Lib.hid (CV.out.old hb1)
    have CX1 := Lib.hid (CX.out.old hb1)
    have HRl := (Array.getElem?_eq_some_iff.1 HRx.out).1
    have HBx1 := Lib.hid ((hb1.block Bx (Array.getElem?_eq_some_iff.1 HBx.out).1).trans HBx.out)
    have HRx1 := Lib.hid ((hb1.block R HRl).trans HRx.out)
    have HW1 : Hid (Below R w W1) := Lib.hid (HW.out.trans (hb1.mono (by omega)))
    have HZ1 : Hid (R ≤ W1.heap.size) := Lib.hid (by have := hb1.size; omega)
    clear hb1 HRl b0 b1 b2
    have b0 : W1.cell? ⟨Bx, 0, none⟩ = some (.slice qa qn qc) := by rw [cell_of_row _ _ 0 _ _ _ HBx1.out]; rfl
    have b1 : W1.cell? ⟨Bx, 1, none⟩ = some (.slice ra rn rc) := by rw [cell_of_row _ _ 1 _ _ _ HBx1.out]; rfl
    have b2 : W1.cell? ⟨Bx, 2, none⟩ = some (.slice sa sn sc) := by rw [cell_of_row _ _ 2 _ _ _ HBx1.out]; rfl
    have r0 : W1.cell? ⟨R, 0, none⟩ = some u := by rw [cell_of_row _ _ 0 _ _ _ HRx1.out]; rfl
    have r1 : W1.cell? ⟨R, 1, none⟩ = some v := by rw [cell_of_row _ _ 1 _ _ _ HRx1.out]; rfl
    have r2 : W1.cell? ⟨R, 2, none⟩ = some x := by rw [cell_of_row _ _ 2 _ _ _ HRx1.out]; rfl
    have KB := Lib.hid (kept_any (.slice ca l.length cc) _ g l W1 HC1.out (HOLD.out W1 HW1.out).1 (by omega))
    have KP := Lib.hid (keptP_any _ _ _ u v x a b c g1 g2 g3 W1 CU1.out CV1.out CX1.out (HOLD.out W1 HW1.out).2.1 (HOLD.out W1 HW1.out).2.2.1 (HOLD.out W1 HW1.out).2.2.2 L3.out.1 L3.out.2.1 L3.out.2.2)
    rcases hres with ⟨hg, rv, rfl, hT⟩ | ⟨hg, rfl⟩
    · have HT := Lib.hid hT
      have HG := Lib.hid hg
      clear hT hg
      obtain ⟨rta, rtc, rfl, -⟩ := tk_nat HT.out
      go_wp2_with fail
      refine KB.out.mono ?_
      rintro e W2 ⟨rfl, rfl⟩
      go_wp2_with fail
      refine KP.out.mono ?_
      rintro e W3 ⟨rfl, hb3⟩
      have HW3 : Hid (Below R w W3) := Lib.hid (HW1.out.trans (hb3.mono HZ1.out))
      have HZ3 : Hid (R ≤ W3.heap.size) := Lib.hid (Nat.le_trans HZ1.out hb3.size)
      have HRx3 := Lib.hid ((hb3.block R (Array.getElem?_eq_some_iff.1 HRx1.out).1).trans HRx1.out)
      have HB3 := Lib.hid hb3
      have s0 := cell_old hb3 r0
      have s1 := cell_old hb3 r1
      have s2 := cell_old hb3 r2
      clear hb3 r0 r1 r2 b0 b1 b2 KB KP
      go_wp2_with fail
      refine (goodP_any u v x a b c W3 (HOLD.out W3 HW3.out).2.1 (HOLD.out W3 HW3.out).2.2.1 (HOLD.out W3 HW3.out).2.2.2 L3.out.1 L3.out.2.1 L3.out.2.2).mono ?_
      rintro e W4 ⟨rfl, hb4⟩
      rw [HG.out]
      have HW4 : Hid (Below R w W4) := Lib.hid (HW3.out.trans (hb4.mono HZ3.out))
      have HZ4 : Hid (R ≤ W4.heap.size) := Lib.hid (Nat.le_trans HZ3.out hb4.size)
      have HRx4 := Lib.hid ((hb4.block R (Array.getElem?_eq_some_iff.1 HRx3.out).1).trans HRx3.out)
      have HT4 := Lib.hid ((HT.out.old HB3.out).old hb4)
      clear hb4 s0 s1 s2
      go_wp2_with fail
      have CLE := cheap_least (cost := costN a b c) (l := l) (fun p t h => cost_pos HG.out p t h) (fun p h => cost_lit HG.out p h) (by omega)
      have HCL := Lib.hid CLE
      clear CLE
      refine (parses_any _ _ l _ W4 (HOLD.out W4 HW4.out).1 (by omega) HT4.out HCL.out.1).mono ?_
      rintro e W5 ⟨rfl, hb5⟩
      have HW5 : Hid (Below R w W5) := Lib.hid (HW4.out.trans (hb5.mono HZ4.out))
      have HZ5 : Hid (R ≤ W5.heap.size) := Lib.hid (Nat.le_trans HZ4.out hb5.size)
      have HRx5 := Lib.hid ((hb5.block R (Array.getElem?_eq_some_iff.1 HRx4.out).1).trans HRx4.out)
      have HT5 := Lib.hid (HT4.out.old hb5)
      clear hb5
      go_wp2_with fail
      obtain ⟨T, hTT⟩ : ∃ T, cheapL (costN a b c) l = T := ⟨_, rfl⟩
      have HTl : Hid (T.length ≤ 200) := Lib.hid (by have h := path_len _ _ _ HCL.out.1; rw [hTT] at h; omega)
      have HTS : Hid (∀ t ∈ T, ∃ p, Step l p t) := Lib.hid (fun t ht => path_steps _ _ _ HCL.out.1 t (by rw [hTT]; exact ht))
      have HSUM : Hid (sumC (costN a b c) T = leastAt (costN a b c) l 0) := Lib.hid (by rw [← hTT]; exact HCL.out.2.1)
      rw [hTT] at HT5
      obtain ⟨a9, c9, h9, hx9⟩ := tk_nat HT5.out
      simp only [Value.slice.injEq] at h9
      obtain ⟨rfl, h9l, rfl⟩ := h9
      have HX9 := Lib.hid hx9
      rw [hTT]
      clear hx9 hTT h9l HT4 HT HCL HRx4 HRx3 HW4 HW3 HZ4 HZ3
      go_loopw [9, 61] (fun s i w' => ∃ k : Nat, k ≤ T.length ∧ i = .int .i64 (k : Int) ∧ s = .int .i64 (sumC (costN a b c) (T.take k)) ∧ (0 ≤ sumC (costN a b c) (T.take k) ∧ sumC (costN a b c) (T.take k) ≤ 2097152 * (k : Int)) ∧ Below W5.heap.size W5 w') (fun _ i _ => T.length - (intOf i).toNat)
      case atStart => exact ⟨0, Nat.zero_le _, rfl, by simp [sumC], by simp [sumC], Below.refl _ _⟩
      case round =>
        obtain ⟨k, hk, rfl, rfl, hsb, hbw⟩ := hrel
        have HBW := Lib.hid hbw
        have hkl200 := HTl.out
        by_cases hkt : k < T.length
        · have f1 : decide ((k : Int) < (T.length : Int)) = true := by rw [decide_eq_true_eq]; omega
          have f2 : decide (k < T.length) = true := by rw [decide_eq_true_eq]; omega
          obtain ⟨b6, o6, rfl, p1, p2⟩ := HX9.out k hkt
          obtain ⟨pp, hst⟩ := HTS.out _ (List.getElem_mem hkt)
          have hgt := step_good hst
          have hcp := prT_in HG.out (t := ((T[k].1 : Int), (T[k].2 : Int))) hgt
          have hsum : sumC (costN a b c) (T.take (k + 1)) = sumC (costN a b c) (T.take k) + costN a b c T[k] := by rw [List.take_succ_eq_append_getElem hkt, sumC_app]; simp [sumC]
          obtain ⟨⟨ta, tb⟩, ht⟩ : ∃ t, T[k] = t := ⟨_, rfl⟩
          rw [ht] at p1 p2 hgt hcp hsum
          simp only at p1 p2 hgt hcp
          change 0 ≤ costN a b c (ta, tb) ∧ costN a b c (ta, tb) ≤ 2097152 at hcp
          obtain ⟨z1, hz1⟩ : ∃ z, costN a b c (ta, tb) = z := ⟨_, rfl⟩
          obtain ⟨z2, hz2⟩ : ∃ z, sumC (costN a b c) (T.take k) = z := ⟨_, rfl⟩
          rw [hz2] at hsb hsum ⊢
          have PR := Lib.hid (fun V h1 h2 h3 => priceN_any u v x a b c (ta : Int) ta tb rfl V h1 h2 h3 HG.out hgt)
          rw [hz1] at hcp hsum PR
          have HSM := Lib.hid hsum
          have q1 := cell_old hbw p1
          have q2 := cell_old hbw p2
          have r5 := (hbw.block R (Array.getElem?_eq_some_iff.1 HRx5.out).1).trans HRx5.out
          have ba : Below wr.heap.size wr (wr.alloc (.cells #[.int .i64 (ta : Int), .int .i64 (tb : Int)] 27)) := (Below.refl _ _).alloc (Nat.le_refl _) _
          have r6 := (ba.block R (Array.getElem?_eq_some_iff.1 r5).1).trans r5
          have s0 : (wr.alloc (.cells #[.int .i64 (ta : Int), .int .i64 (tb : Int)] 27)).cell? ⟨R, 0, none⟩ = some u := by rw [cell_of_row _ _ 0 _ _ _ r6]; rfl
          have s1 : (wr.alloc (.cells #[.int .i64 (ta : Int), .int .i64 (tb : Int)] 27)).cell? ⟨R, 1, none⟩ = some v := by rw [cell_of_row _ _ 1 _ _ _ r6]; rfl
          have s2 : (wr.alloc (.cells #[.int .i64 (ta : Int), .int .i64 (tb : Int)] 27)).cell? ⟨R, 2, none⟩ = some x := by rw [cell_of_row _ _ 2 _ _ _ r6]; rfl
          have hwa : Below W5.heap.size W5 (wr.alloc (.cells #[.int .i64 (ta : Int), .int .i64 (tb : Int)] 27)) := hbw.trans (ba.mono hbw.size)
          have HWA := Lib.hid hwa
          have hh := HOLD.out _ (HW5.out.trans (hwa.mono HZ5.out))
          have PR2 := Lib.hid (PR.out _ hh.2.1 hh.2.2.1 hh.2.2.2)
          clear p1 p2 hst hgt hsum ht hz1 hz2 PR r5 r6 ba hwa hh hbw
          go_wp2_with fail
          refine PR2.out.mono ?_
          rintro e W6 ⟨rfl, hb6⟩
          have HB6 := Lib.hid (HWA.out.trans (hb6.mono HWA.out.size))
          clear hb6
          go_wp2_with fail
          go_roundw
          case rel => exact ⟨k + 1, by omega, by go_num, by rw [HSM.out], by rw [HSM.out]; omega, HB6.out⟩
          case measure => simp [intOf]; omega
        · have f1 : decide ((k : Int) < (T.length : Int)) = false := by rw [decide_eq_false_iff_not]; omega
          have f2 : decide (k < T.length) = false := by rw [decide_eq_false_iff_not]; omega
          obtain rfl : k = T.length := by omega
          rw [List.take_length, HSUM.out]
          have r5 := (hbw.block R (Array.getElem?_eq_some_iff.1 HRx5.out).1).trans HRx5.out
          have s0 : wr.cell? ⟨R, 0, none⟩ = some u := by rw [cell_of_row _ _ 0 _ _ _ r5]; rfl
          have s1 : wr.cell? ⟨R, 1, none⟩ = some v := by rw [cell_of_row _ _ 1 _ _ _ r5]; rfl
          have s2 : wr.cell? ⟨R, 2, none⟩ = some x := by rw [cell_of_row _ _ 2 _ _ _ r5]; rfl
          clear hbw r5 hsb
          go_wp2_with fail
          have hwr : Below R w wr := HW5.out.trans (HBW.out.mono HZ5.out)
          have hh := HOLD.out wr hwr
          have HZr : Hid (R ≤ wr.heap.size) := Lib.hid (Nat.le_trans HZ5.out HBW.out.size)
          refine (least_any _ u v x l a b c wr hh.1 (by omega) hh.2.1 hh.2.2.1 hh.2.2.2 HG.out).mono ?_
          rintro e W7 ⟨rfl, hb7⟩
          have HW7 : Hid (Below R w W7) := Lib.hid (hwr.trans (hb7.mono HZr.out))
          clear hb7 hwr hh
          go_wp2_with fail
          go_ret
          exact ⟨by simp, by rw [HRR.out]; exact HW7.out⟩
    · have HG := Lib.hid hg
      clear hg
      go_wp2_with fail
      refine KB.out.mono ?_
      rintro e W2 ⟨rfl, rfl⟩
      go_wp2_with fail
      refine KP.out.mono ?_
      rintro e W3 ⟨rfl, hb3⟩
      have HW3 : Hid (Below R w W3) := Lib.hid (HW1.out.trans (hb3.mono HZ1.out))
      have HZ3 : Hid (R ≤ W3.heap.size) := Lib.hid (Nat.le_trans HZ1.out hb3.size)
      have HRx3 := Lib.hid ((hb3.block R (Array.getElem?_eq_some_iff.1 HRx1.out).1).trans HRx1.out)
      have HB3 := Lib.hid hb3
      have s0 := cell_old hb3 r0
      have s1 := cell_old hb3 r1
      have s2 := cell_old hb3 r2
      clear hb3 r0 r1 r2 b0 b1 b2 KB KP
      go_wp2_with fail
      refine (goodP_any u v x a b c W3 (HOLD.out W3 HW3.out).2.1 (HOLD.out W3 HW3.out).2.2.1 (HOLD.out W3 HW3.out).2.2.2 L3.out.1 L3.out.2.1 L3.out.2.2).mono ?_
      rintro e W4 ⟨rfl, hb4⟩
      rw [HG.out]
      have HW4 : Hid (Below R w W4) := Lib.hid (HW3.out.trans (hb4.mono HZ3.out))
      have HZ4 : Hid (R ≤ W4.heap.size) := Lib.hid (Nat.le_trans HZ3.out hb4.size)
      have HRx4 := Lib.hid ((hb4.block R (Array.getElem?_eq_some_iff.1 HRx3.out).1).trans HRx3.out)
      clear hb4 s0 s1 s2
      go_wp2_with fail
      refine (is_any 6 6 W4).mono ?_
      rintro e W5 ⟨rfl, rfl⟩
      go_wp2_with fail
      go_ret
      exact ⟨rfl, by rw [HRR.out]; exact HW4.out⟩
  go_region_with (first
    | (go_at_call 22
       refine (copy_any _ l _ (HOLD.out _ (by first | exact Z2.out.drew | exact HKB.out _)).1 hl).mono ?_
       rintro e w' ⟨cv, rfl, hC, hbx, -⟩
       obtain ⟨ca, cc, rfl⟩ := hC.bs.len
       have j0 : w'.cell? ⟨R, 0, none⟩ = some u := cell_old hbx (by first | exact k0 | exact k0' _)
       have j1 : w'.cell? ⟨R, 1, none⟩ = some v := cell_old hbx (by first | exact k1 | exact k1' _)
       have j2 : w'.cell? ⟨R, 2, none⟩ = some x := cell_old hbx (by first | exact k2 | exact k2' _)
       have j0' : ∀ O, (w'.alloc O).cell? ⟨R, 0, none⟩ = some u := fun O => cell_old ((Below.refl _ _).alloc (Nat.le_refl _) _) j0
       have j1' : ∀ O, (w'.alloc O).cell? ⟨R, 1, none⟩ = some v := fun O => cell_old ((Below.refl _ _).alloc (Nat.le_refl _) _) j1
       have j2' : ∀ O, (w'.alloc O).cell? ⟨R, 2, none⟩ = some x := fun O => cell_old ((Below.refl _ _).alloc (Nat.le_refl _) _) j2
       have HC := Lib.hid hC
       have HZ : Hid (Below R w w') := Lib.hid ((by first | exact Z2.out.drew | exact HKB.out _ : Below R w _).trans (hbx.mono (by first | exact HR2.out | exact Nat.le_trans HR2.out (by simp))))
       have HZS : Hid (R ≤ w'.heap.size) := Lib.hid (Nat.le_trans (by first | exact HR2.out | exact Nat.le_trans HR2.out (by simp)) hbx.size)
       have HRX : Hid (w'.heap[R]? = some (.cells #[u, v, x] 33 (0, 0))) := Lib.hid (by
         first
         | exact (hbx.block R (Array.getElem?_eq_some_iff.1 X2.out).1).trans X2.out
         | exact (hbx.block R (by have := (Array.getElem?_eq_some_iff.1 X2.out).1; simp; omega)).trans ((Below.heap_alloc _ _ _ (Array.getElem?_eq_some_iff.1 X2.out).1).trans X2.out))
       have HBX := Lib.hid hbx
       try have BXH : Hid (w'.heap[w2.heap.size]? = some (.cells #[.slice none 0 0, .slice none 0 0, .slice none 0 0] 38 (0, 0))) := Lib.hid ((hbx.block _ (by simp)).trans (heap_alloc_new w2 _))
       clear hC hbx)
    | (go_at_call 14
       refine (prices_any u v x a b c _ (HOLD.out _ (by first | exact HZ.out | exact HZ.out.alloc HZS.out _)).2.1 (HOLD.out _ (by first | exact HZ.out | exact HZ.out.alloc HZS.out _)).2.2.1 (HOLD.out _ (by first | exact HZ.out | exact HZ.out.alloc HZS.out _)).2.2.2 L3.out.1 L3.out.2.1 L3.out.2.2).mono ?_
       rintro e w'' ⟨pu, pv, px, g1, g2, g3, rfl, cu, cv', cx, hbz⟩
       have CU := Lib.hid cu
       have CV := Lib.hid cv'
       have CX := Lib.hid cx
       have HBZ := Lib.hid hbz
       have HC2 := Lib.hid (by first | exact HC.out.old hbz | exact (HC.out.old ((Below.refl _ _).alloc (Nat.le_refl _) _)).old hbz : Cp w'' (.slice ca l.length cc) _ l)
       have HR2' : Hid (w''.heap[R]? = some (.cells #[u, v, x] 33 (0, 0))) := Lib.hid (by
         first
         | exact (hbz.block R (Array.getElem?_eq_some_iff.1 HRX.out).1).trans HRX.out
         | exact (hbz.block R (by have := (Array.getElem?_eq_some_iff.1 HRX.out).1; simp; omega)).trans ((Below.heap_alloc _ _ _ (Array.getElem?_eq_some_iff.1 HRX.out).1).trans HRX.out))
       have HZ2 : Hid (Below R w w'') := Lib.hid (by first | exact HZ.out.trans (hbz.mono HZS.out) | exact (HZ.out.alloc HZS.out _).trans (hbz.mono (Nat.le_trans HZS.out (by simp))))
       have HZS2 : Hid (R ≤ w''.heap.size) := Lib.hid (Nat.le_of_lt (Array.getElem?_eq_some_iff.1 HR2'.out).1)
       try have BYH : Hid (w''.heap[w2.heap.size]? = some (.cells #[.slice none 0 0, .slice none 0 0, .slice none 0 0] 38 (0, 0))) := Lib.hid ((hbz.block _ (Array.getElem?_eq_some_iff.1 BXH.out).1).trans BXH.out)
       try have BYH : Hid (w''.heap[w'.heap.size]? = some (.cells #[.slice none 0 0, .slice none 0 0, .slice none 0 0] 38 (0, 0))) := Lib.hid ((hbz.block _ (by simp)).trans (heap_alloc_new w' _))
       try have y0 := cell_of_row _ _ 0 _ _ _ BYH.out
       try have y1 := cell_of_row _ _ 1 _ _ _ BYH.out
       try have y2 := cell_of_row _ _ 2 _ _ _ BYH.out
       try simp only [List.getElem?_toArray, List.getElem?_cons_zero, List.getElem?_cons_succ] at y0 y1 y2
       try have y3 := frozen_of_row0 BYH.out 0
       try have y4 := frozen_of_row0 BYH.out 1
       try have y5 := frozen_of_row0 BYH.out 2
       obtain ⟨qa, qn, qc, rfl⟩ : ∃ a n c, pu = .slice a n c := ⟨_, _, _, cu.1⟩
       obtain ⟨ra, rn, rc, rfl⟩ : ∃ a n c, pv = .slice a n c := ⟨_, _, _, cv'.1⟩
       obtain ⟨sa, sn, sc, rfl⟩ : ∃ a n c, px = .slice a n c := ⟨_, _, _, cx.1⟩
       clear cu cv' cx hbz))
  all_goals first
    | exact TAIL ca cc qa qn qc ra rn rc sa sn sc w''.heap.size _ g1 g2 g3 _ (HC2.out.old ((Below.refl _ _).alloc (Nat.le_refl _) _)) ⟨CU.out.1, (Below.heap_alloc _ _ _ (Array.getElem?_eq_some_iff.1 CU.out.2).1).trans CU.out.2⟩ ⟨CV.out.1, (Below.heap_alloc _ _ _ (Array.getElem?_eq_some_iff.1 CV.out.2).1).trans CV.out.2⟩ ⟨CX.out.1, (Below.heap_alloc _ _ _ (Array.getElem?_eq_some_iff.1 CX.out.2).1).trans CX.out.2⟩ (heap_alloc_new _ _) ((Below.heap_alloc _ _ _ (Array.getElem?_eq_some_iff.1 HR2'.out).1).trans HR2'.out) (HZ2.out.alloc HZS2.out _)
    | exact TAIL ca cc qa qn qc ra rn rc sa sn sc _ _ g1 g2 g3 _ ⟨HC2.out.1, set3_kept BYH.out HC2.out.2 (by decide)⟩ ⟨CU.out.1, set3_kept BYH.out CU.out.2 (by decide)⟩ ⟨CV.out.1, set3_kept BYH.out CV.out.2 (by decide)⟩ ⟨CX.out.1, set3_kept BYH.out CX.out.2 (by decide)⟩ (set3_same BYH.out) (set3_kept BYH.out HR2'.out (by decide)) (set3_below HZ2.out (by first | exact HR2.out | exact HZS.out))
end Go.Proofs.Ytheomjoadgfkeaa
