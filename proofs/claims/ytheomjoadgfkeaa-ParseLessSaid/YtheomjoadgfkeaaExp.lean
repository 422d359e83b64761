/- burnishref06.Expand of a path's tokens. By an AI agent. -/
import Derived.Test.YtheomjoadgfkeaaExpP
import Derived.Test.YtheomjoadgfkeaaParses
namespace Go.Proofs.Ytheomjoadgfkeaa
open Go.RowKit Go.Shelf
set_option linter.unusedVariables false
set_option linter.unusedSimpArgs false

theorem row_ne {w : World} {base : Nat} {e t : TypeId} {size n B : Nat} {v : Value} {xs : List Value} {C : Array Value} {fr : Nat × Nat} (h : w.ownsRow base e size v n xs) (hB : w.heap[B]? = some (.cells C t fr)) (ht : t ≠ e) : v.ownBlock ≠ some B := by
  rcases h.2 with ⟨rfl, _⟩ | ⟨g, cap, cur, rfl, _, hg, _⟩
  · simp [Value.ownBlock]
  · intro e
    simp only [Value.ownBlock, Option.some.injEq] at e
    subst e
    rw [hg] at hB
    simp only [Option.some.injEq, Obj.cells.injEq] at hB
    exact ht hB.2.1.symm
theorem own_len9 {w : World} {base : Nat} {e : TypeId} {size : Nat} {v : Value} {n : Nat} {xs : List Value} (h : w.ownsRow base e size v n xs) : ∃ a c, v = .slice a n c := by
  rcases h.2 with ⟨rfl, rfl⟩ | ⟨g, cap, cur, rfl, _⟩
  · exact ⟨_, _, rfl⟩
  · exact ⟨_, _, rfl⟩
/-- an owned byte row read at a place -/
theorem own_byte {w : World} {base : Nat} {v : Value} {n : Nat} {l : List UInt8} (h : w.ownsRow base 5 1 v n (vBs l)) (i : Nat) (hi : i < n) : ∃ g c, v = .slice (some ⟨g, 0, none⟩) n c ∧ w.cell? ⟨g, i, none⟩ = some (.int .u8 ((l.getD i 0).toNat : Int)) := by
  have h2 := sl_of_owns h
  have hl : l.length = n := by have := h2.1; rw [vBs_length] at this; omega
  rcases h.2 with ⟨_, h0⟩ | ⟨g, cap, cur, rfl, _⟩
  · omega
  rcases h2.2 with ⟨a, c, hv, h0⟩ | ⟨b, off, c, hv, hc, hn, hx⟩
  · omega
  · simp only [Value.slice.injEq, Option.some.injEq, Addr.mk.injEq, and_true, true_and] at hv
    obtain ⟨⟨rfl, rfl⟩, rfl⟩ := hv
    refine ⟨_, _, rfl, ?_⟩
    have := hx i (vB (l.getD i 0)) (by simp [vBs, List.getElem?_map, List.getD_eq_getElem?_getD, List.getElem?_eq_getElem (show i < l.length by omega)])
    rw [Nat.zero_add] at this
    exact this
set_option maxHeartbeats 4000000 in
theorem expand_any (v : Value) (l : List UInt8) (T : List (Nat × Nat)) (w : World) (ht : Tk w v (T.map fun t => ((t.1 : Int), (t.2 : Int)))) (hp : IsPath l 0 T l.length) (hl : l.length ≤ 2000) :
    Calls Try.prog 47 #[v, .int .i64 4000] w fun e w' => ∃ rv, e = .returned (.tuple #[rv, .int .i64 0]) ∧ w'.ownsRow w.heap.size 5 1 rv l.length (vBs l) ∧ Below w.heap.size w w' := by
  obtain ⟨R, hR⟩ : ∃ R, w.heap.size = R := ⟨_, rfl⟩
  have HR := Lib.hid hR
  obtain ⟨a, c, rfl, hx⟩ := tk_nat ht
  have HX := Lib.hid hx
  have HP := Lib.hid hp
  have HTL : Hid (T.length ≤ 2000) := Lib.hid (by have := (path_len2 l T 0 _ hp).2; omega)
  have HLL := Lib.hid hl
  clear ht hx hp hl hR
  go_enter Try.func47, Try.ntmps47
  go_wp2_with fail
  go_loopw [6, 7, 8, 9, 10, 11] (fun o i _ _ _ _ w' => ∃ (k p : Nat), k ≤ T.length ∧ i = .int .i64 (k : Int) ∧ p ≤ l.length ∧ IsPath l p (T.drop k) l.length ∧ w'.ownsRow R 5 1 o p (vBs (l.take p)) ∧ Below R w w') (fun _ i _ _ _ _ _ => T.length - (intOf i).toNat)
  case atStart => exact ⟨0, 0, Nat.zero_le _, rfl, Nat.zero_le _, HP.out, World.ownsRow_nil _ _ _ _, Below.refl _ _⟩
  case round =>
    obtain ⟨k, p, hk, rfl, hpl, hpath, hown, hbl⟩ := hrel
    have HO := Lib.hid hown
    have HB := Lib.hid hbl
    have HPA := Lib.hid hpath
    have HPL := Lib.hid hpl
    have hk2 : k ≤ 2000 := by have := HTL.out; omega
    clear hown hbl hpath hpl
    by_cases hkt : k < T.length
    · have f1 : decide ((k : Int) < (T.length : Int)) = true := by rw [decide_eq_true_eq]; omega
      have f2 : decide (k < T.length) = true := by rw [decide_eq_true_eq]; omega
      obtain ⟨b6, o6, rfl, p1, p2⟩ := HX.out k hkt
      have HD : Hid (p < l.length ∧ Step l p T[k] ∧ IsPath l (p + stepOf T[k]) (T.drop (k + 1)) l.length) := Lib.hid (by have := HPA.out; rw [List.drop_eq_getElem_cons hkt] at this; exact this)
      have ST := Lib.hid (step_tells HD.out.1 HD.out.2.1)
      have hgt := step_good HD.out.2.1
      obtain ⟨⟨ta, tb⟩, htt⟩ : ∃ t, T[k] = t := ⟨_, rfl⟩
      rw [htt] at p1 p2 HD ST hgt
      simp only at p1 p2 ST hgt
      have HG := Lib.hid hgt
      have q1 := cell_old (by rw [HR.out]; exact HB.out : Below w.heap.size w wr) p1
      have q2 := cell_old (by rw [HR.out]; exact HB.out : Below w.heap.size w wr) p2
      have hRw : R ≤ wr.heap.size := by have := HB.out.size; have := HR.out; omega
      have HRW := Lib.hid hRw
      clear hgt htt p1 p2
      go_wp2_with fail
      refine (goodT_any (ta : Int) (tb : Int) _).mono ?_
      rintro e w1 ⟨rfl, hb1⟩
      rw [HG.out]
      obtain ⟨Bx, hBx⟩ : ∃ Bx, wr.heap.size = Bx := ⟨_, rfl⟩
      have ba : Below wr.heap.size wr (wr.alloc (.cells #[.int .i64 (ta : Int), .int .i64 (tb : Int)] 27)) := (Below.refl _ _).alloc (Nat.le_refl _) _
      have hbw : Below wr.heap.size wr w1 := ba.trans (hb1.mono ba.size)
      have HB1 : Hid (Below R w w1) := Lib.hid (HB.out.trans (hbw.mono hRw))
      have HO1 : Hid (w1.ownsRow R 5 1 u6 p (vBs (l.take p))) := Lib.hid (owns_oldT HO.out hbw)
      have X1 : w1.heap[Bx]? = some (.cells #[.int .i64 (ta : Int), .int .i64 (tb : Int)] 27 (0, 0)) := by
        rw [hb1.block Bx (by simp [hBx]), ← hBx]; exact heap_alloc_new _ _
      have HX1 := Lib.hid X1
      have HRB : Hid (R ≤ Bx) := Lib.hid (by omega)
      have c0 : w1.cell? ⟨Bx, 0, none⟩ = some (.int .i64 (ta : Int)) := by rw [cell_of_row _ _ 0 _ _ _ X1]; rfl
      have c1 : w1.cell? ⟨Bx, 1, none⟩ = some (.int .i64 (tb : Int)) := by rw [cell_of_row _ _ 1 _ _ _ X1]; rfl
      rw [hBx]
      obtain ⟨st, hst⟩ : ∃ st, stepOf (ta, tb) = st := ⟨_, rfl⟩
      rw [hst] at ST HD
      have HST := Lib.hid hst
      obtain ⟨a6, c6, e6⟩ := own_len9 HO1.out
      have hst258 : st ≤ 258 := by
        have h := HG.out
        unfold goodT at h
        rw [← hst]; unfold stepOf
        split at h
        · simp only; omega
        · simp only [decide_eq_true_eq] at h; simp only; omega
      have H258 := Lib.hid hst258
      have K2 : Hid (p + st ≤ 2000) := Lib.hid (by have := ST.out.1; have := HLL.out; omega)
      clear hb1 ba hbw X1 q1 q2 hBx hRw HRW hst hst258
      by_cases h0 : 0 < ta
      · have g1 : decide ((0 : Int) < (ta : Int)) = true := by rw [decide_eq_true_eq]; omega
        have g2 : decide (0 < ta) = true := by rw [decide_eq_true_eq]; omega
        obtain ⟨s1, s2, s3, s4⟩ := ST.out.2.1 h0
        have g3 : decide ((p : Int) < (tb : Int)) = false := by rw [decide_eq_false_iff_not]; omega
        have g4 : decide (p < tb) = false := by rw [decide_eq_false_iff_not]; omega
        subst s3
        have HS4 := Lib.hid s4
        have HS12 : Hid (1 ≤ tb ∧ tb ≤ p ∧ 0 < st) := Lib.hid ⟨s1, s2, h0⟩
        have a1 : IntKind.i64.wrap ((p : Int) + (st : Int)) = (p : Int) + (st : Int) := by have := K2.out; rw [IntWalk.i64_in _ (by omega)]
        have a2 : wrap64 ((p : Int) + (st : Int)) = (p : Int) + (st : Int) := by have := K2.out; rw [IntWalk.wrap64_in _ (by omega)]
        have g5 : decide ((4000 : Int) < (p : Int) + (st : Int)) = false := by have := K2.out; rw [decide_eq_false_iff_not]; omega
        have g6 : decide (4000 < p + st) = false := by have := K2.out; rw [decide_eq_false_iff_not]; omega
        subst e6
        clear s1 s2 s4 h0
        go_wp2_with fail
        clear a1 a2 g5 g6 g3 g4
        go_loopw [6, 10, 11] (fun o j _ w' => ∃ n : Nat, n ≤ st ∧ j = .int .i64 (n : Int) ∧ w'.ownsRow R 5 1 o (p + n) (vBs (l.take (p + n))) ∧ w'.heap[Bx]? = some (.cells #[.int .i64 (st : Int), .int .i64 (tb : Int)] 27 (0, 0)) ∧ Below R w w') (fun _ j _ _ => st - (intOf j).toNat)
        case atStart => exact ⟨0, Nat.zero_le _, rfl, HO1.out, HX1.out, HB1.out⟩
        case round =>
          obtain ⟨n, hn, rfl, hown, hx1, hbl⟩ := hrel
          have HO2 := Lib.hid hown
          have HX2 := Lib.hid hx1
          have HB2 := Lib.hid hbl
          have d0 : wr.cell? ⟨Bx, 0, none⟩ = some (.int .i64 (st : Int)) := by rw [cell_of_row _ _ 0 _ _ _ hx1]; rfl
          have d1 : wr.cell? ⟨Bx, 1, none⟩ = some (.int .i64 (tb : Int)) := by rw [cell_of_row _ _ 1 _ _ _ hx1]; rfl
          clear hown hx1 hbl
          have hn258 : n ≤ 258 := by have := H258.out; omega
          by_cases hns : n < st
          · have f3 : decide ((n : Int) < (st : Int)) = true := by rw [decide_eq_true_eq]; omega
            have f4 : decide (n < st) = true := by rw [decide_eq_true_eq]; omega
            obtain ⟨g, cg, e7, hcg⟩ := own_byte HO2.out (p + n - tb) (by have := HS12.out; omega)
            have eb : (l.take (p + n)).getD (p + n - tb) 0 = l.getD (p + n) 0 := by
              rw [← HS4.out n hns, List.getD_eq_getElem?_getD, List.getElem?_take, if_pos (by have := HS12.out; omega), List.getD_eq_getElem?_getD]
            rw [eb] at hcg
            have m1 : IntKind.i64.wrap (((p + n : Nat) : Int) - (tb : Int)) = ((p + n - tb : Nat) : Int) := by have := K2.out; have := HS12.out; rw [IntWalk.i64_in _ (by omega)]; omega
            have m2 : wrap64 (((p + n : Nat) : Int) - (tb : Int)) = ((p + n - tb : Nat) : Int) := by have := K2.out; have := HS12.out; rw [IntWalk.wrap64_in _ (by omega)]; omega
            have m3 : p + n - tb < p + n := by have := HS12.out; omega
            have TM := Lib.hid (take_more l (p + n) (by have := ST.out.1; omega))
            have hLN : Hid (p + n ≤ 2000) := Lib.hid (by have := K2.out; omega)
            subst e7
            obtain ⟨q, hq⟩ : ∃ q, p + n = q := ⟨_, rfl⟩
            obtain ⟨r, hr⟩ : ∃ r, p + n - tb = r := ⟨_, rfl⟩
            rw [hr] at hcg m1 m2 m3
            rw [hq] at m1 m2 m3 hcg TM hLN HO2 ⊢
            have HQ := Lib.hid hq
            clear hr hq eb
            go_wp2_with (at_builtin; refine stop ?_)
            refine unstop (wpList_app tyB rfl _ _ rfl R _ q (vBs (l.take q)) rfl (World.ownsRow.alloc HO2.out _) _ 1 [vB (l.getD q 0)] rfl (sl_lit _ _ _ 1 rfl (by omega)) (by intro u hu; simp at hu; subst hu; rfl) (by have := hLN.out; omega) (by have := hLN.out; omega) (by have := HB2.out.size; have := HR.out; simp; omega) ?_)
            intro v1 w2 hown2 hg2 _
            have HB5 : Hid (Below R w w2) := Lib.hid (by
              have h0 : Below w.heap.size w (wr.alloc (.cells #[vB (l.getD q 0)] 5)) := by rw [HR.out]; exact HB2.out.alloc (by have := HB2.out.size; have := HR.out; omega) _
              have h1 := run_app_below (World.ownsRow.alloc HO2.out _) hg2 h0 (by rw [HR.out]; exact Nat.le_refl _)
              rw [HR.out] at h1; exact h1)
            have HX5 : Hid (w2.heap[Bx]? = some (.cells #[.int .i64 (st : Int), .int .i64 (tb : Int)] 27 (0, 0))) := Lib.hid (by
              have hlt : Bx < wr.heap.size := (Array.getElem?_eq_some_iff.1 HX2.out).1
              rw [hg2.block Bx (by simp; omega) (fun e => row_ne HO2.out HX2.out (by decide) e.symm), ← HX2.out]
              exact ((Below.refl _ wr).alloc (Nat.le_refl _) _).block Bx hlt)
            have HO5 : Hid (w2.ownsRow R 5 1 v1 (q + 1) (vBs (l.take (q + 1)))) := Lib.hid (by rw [TM.out, vBs_append]; exact hown2)
            clear hown2 hg2
            go_wp2_with fail
            go_roundw
            case rel =>
              exact ⟨n + 1, by omega, by go_num, by rw [← Nat.add_assoc, HQ.out]; exact HO5.out, HX5.out, HB5.out⟩
            case measure =>
              simp [intOf]; omega
          · obtain rfl : n = st := by omega
            have f3 : decide ((n : Int) < (n : Int)) = false := by rw [decide_eq_false_iff_not]; omega
            go_wp2_with fail
            go_roundw
            case rel => exact ⟨k + 1, p + n, by omega, by go_num, ST.out.1, HD.out.2.2, HO2.out, HB2.out⟩
            case measure => simp [intOf]; omega
      · obtain rfl : ta = 0 := by omega
        obtain ⟨s1, s2⟩ := ST.out.2.2 rfl
        have es : st = 1 := by rw [← HST.out]; rfl
        subst es
        have a1 : IntKind.i64.wrap ((p : Int) + 1) = (p : Int) + 1 := by have := K2.out; rw [IntWalk.i64_in _ (by omega)]
        have a2 : wrap64 ((p : Int) + 1) = (p : Int) + 1 := by have := K2.out; rw [IntWalk.wrap64_in _ (by omega)]
        have g5 : decide ((4000 : Int) < (p : Int) + 1) = false := by have := K2.out; rw [decide_eq_false_iff_not]; omega
        have TM := Lib.hid (take_more l p (by have := ST.out.1; omega))
        have hLN : Hid (p ≤ 2000) := Lib.hid (by have := K2.out; omega)
        have tb8 : Hid (tb < 256) := Lib.hid (by rw [s2]; exact (l.getD p 0).toNat_lt)
        have S2 := Lib.hid s2
        subst e6
        clear s1 s2 h0
        go_wp2_with fail
        clear a1 a2 g5
        go_loopw [6, 10, 11] (fun o j _ w' => ∃ n : Nat, n ≤ 1 ∧ j = .int .i64 (n : Int) ∧ w'.ownsRow R 5 1 o (p + n) (vBs (l.take (p + n))) ∧ w'.heap[Bx]? = some (.cells #[.int .i64 0, .int .i64 (tb : Int)] 27 (0, 0)) ∧ Below R w w') (fun _ j _ _ => 1 - (intOf j).toNat)
        case atStart => exact ⟨0, Nat.zero_le _, rfl, HO1.out, HX1.out, HB1.out⟩
        case round =>
          obtain ⟨n, hn, rfl, hown, hx1, hbl⟩ := hrel
          have HO2 := Lib.hid hown
          have HX2 := Lib.hid hx1
          have HB2 := Lib.hid hbl
          have d0 : wr.cell? ⟨Bx, 0, none⟩ = some (.int .i64 0) := by rw [cell_of_row _ _ 0 _ _ _ hx1]; rfl
          have d1 : wr.cell? ⟨Bx, 1, none⟩ = some (.int .i64 (tb : Int)) := by rw [cell_of_row _ _ 1 _ _ _ hx1]; rfl
          clear hown hx1 hbl
          by_cases hns : n < 1
          · obtain rfl : n = 0 := by omega
            have em : ((tb : Int) % 256) = ((l.getD p 0).toNat : Int) := by have := S2.out; have := tb8.out; omega
            rw [Nat.add_zero] at HO2
            go_wp2_with (at_builtin; refine stop ?_)
            refine unstop (wpList_app tyB rfl _ _ rfl R _ p (vBs (l.take p)) rfl (World.ownsRow.alloc HO2.out _) _ 1 [vB (l.getD p 0)] rfl (sl_lit _ _ _ 1 rfl (by omega)) (by intro u hu; simp at hu; subst hu; rfl) (by have := hLN.out; omega) (by have := hLN.out; omega) (by have := HB2.out.size; have := HR.out; simp; omega) ?_)
            intro v1 w2 hown2 hg2 _
            have HB5 : Hid (Below R w w2) := Lib.hid (by
              have h0 : Below w.heap.size w (wr.alloc (.cells #[vB (l.getD p 0)] 5)) := by rw [HR.out]; exact HB2.out.alloc (by have := HB2.out.size; have := HR.out; omega) _
              have h1 := run_app_below (World.ownsRow.alloc HO2.out _) hg2 h0 (by rw [HR.out]; exact Nat.le_refl _)
              rw [HR.out] at h1; exact h1)
            have HX5 : Hid (w2.heap[Bx]? = some (.cells #[.int .i64 0, .int .i64 (tb : Int)] 27 (0, 0))) := Lib.hid (by
              have hlt : Bx < wr.heap.size := (Array.getElem?_eq_some_iff.1 HX2.out).1
              rw [hg2.block Bx (by simp; omega) (fun e => row_ne HO2.out HX2.out (by decide) e.symm), ← HX2.out]
              exact ((Below.refl _ wr).alloc (Nat.le_refl _) _).block Bx hlt)
            have HO5 : Hid (w2.ownsRow R 5 1 v1 (p + 1) (vBs (l.take (p + 1)))) := Lib.hid (by rw [TM.out, vBs_append]; exact hown2)
            clear hown2 hg2
            go_wp2_with fail
            go_roundw
            case rel => exact ⟨1, by omega, rfl, HO5.out, HX5.out, HB5.out⟩
            case measure => simp [intOf]
          · obtain rfl : n = 1 := by omega
            go_wp2_with fail
            go_roundw
            case rel => exact ⟨k + 1, p + 1, by omega, by go_num, ST.out.1, HD.out.2.2, HO2.out, HB2.out⟩
            case measure => simp [intOf]; omega
    · obtain rfl : k = T.length := by omega
      have f1 : decide ((T.length : Int) < (T.length : Int)) = false := by rw [decide_eq_false_iff_not]; omega
      go_wp2_with fail
      go_ret2
      have hpe : Hid (p = l.length) := Lib.hid (by have := HPA.out; rw [List.drop_of_length_le (Nat.le_refl _)] at this; exact this)
      refine ⟨_, rfl, ?_, by rw [HR.out]; exact HB.out⟩
      have := HO.out
      rw [hpe.out, List.take_length] at this
      rw [HR.out]; exact this
end Go.Proofs.Ytheomjoadgfkeaa
