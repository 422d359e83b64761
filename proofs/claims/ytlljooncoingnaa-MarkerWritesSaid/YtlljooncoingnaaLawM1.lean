/- Chapter 20's laws: the fixed fact, the document's items of the program's. By an AI agent. -/
import Derived.Test.YtlljooncoingnaaSegS
import Derived.Test.YtlljooncoingnaaOver
namespace Go.Proofs.Ytlljooncoingnaa
open Go.RowKit Go.BigFrame
set_option linter.unusedVariables false
set_option linter.unusedSimpArgs false

theorem one_parse : parseS [255, 216, 255, 217] = ([], 0) := by decide +kernel
theorem two_parse : parseS [255, 216, 255, 255, 254, 0, 3, 7, 255, 217] = ([(254, [7], [])], 0) := by decide +kernel
set_option maxRecDepth 20000 in
set_option maxHeartbeats 3200000 in
theorem alive_any (w : World) : Calls Try.prog 13 #[] w fun e w' => e = .returned (.bool true) ∧ Below w.heap.size w w' := by
  have L1 := Lib.hid (bs_lit w [255, 216, 255, 217] 5 4 rfl (by decide))
  go_enter Try.func13, Try.ntmps13
  go_wp2_with fail
  refine (parse_any _ [255, 216, 255, 217] _ L1.out (by decide)).mono ?_
  rw [one_parse]
  rintro e w1 ⟨v1, xs, rfl, hv1, hxs, hb1⟩
  have hx0 : xs = [] := by simpa using hxs
  subst hx0
  obtain ⟨a1, k1, rfl⟩ := owns_len hv1.row
  have B1 : Hid (Below w.heap.size w w1) := Lib.hid (((Below.refl _ _).alloc (Nat.le_refl _) _).trans (hb1.mono (by simp)))
  have E0 : errV ((0 : Nat) : Int) = .nilIface := rfl
  rw [E0]
  have L2 := Lib.hid (bs_lit w1 [255, 216, 255, 255, 254, 0, 3, 7, 255, 217] 5 10 rfl (by decide))
  clear hv1 hxs hb1 E0 L1
  go_wp2_with fail
  refine (parse_any _ [255, 216, 255, 255, 254, 0, 3, 7, 255, 217] _ L2.out (by decide)).mono ?_
  rw [two_parse]
  rintro e w2 ⟨v2, ys, rfl, hv2, hys, hb2⟩
  have B2 : Hid (Below w.heap.size w w2) := Lib.hid (B1.out.trans ((((Below.refl _ _).alloc (Nat.le_refl _) _).trans (hb2.mono (by simp)) : Below w1.heap.size w1 w2).mono B1.out.size))
  have hck := hv2.its
  rw [hys] at hck
  obtain ⟨a2, k2, rfl, hk2, hx⟩ := its_at hck
  obtain ⟨b, off, dv, iv, rfl, q1, q2, q3, q4, q5⟩ := hx 0 (by decide)
  simp only [List.getElem_cons_zero, Nat.zero_mul, Nat.add_zero] at q1 q2 q3 q4 q5
  have E0 : errV ((0 : Nat) : Int) = .nilIface := rfl
  rw [E0]
  have cv := conv_str q1
  have s1 : ((strOf [7]).toList == [7]) = true := by rw [strOf_toList]; decide
  have hk2' : 1 ≤ k2 := hk2
  clear hv2 hys hb2 hck hx E0 L2 q1 q2 q5 hk2
  go_wp2_with fail
  go_ret
  exact ⟨rfl, B2.out⟩
/-- the cells of the items so far -/
def BackC (w : World) (its : List Itm) (k : Nat) (cs : List Value) : Prop :=
  ∀ j (h : j < its.length), j < k → ∃ dv iv, cs[j * 3]? = some (.int .i64 its[j].1) ∧ cs[j * 3 + 1]? = some dv ∧ cs[j * 3 + 2]? = some iv ∧ Bs w dv its[j].2.1 ∧ Bss w iv its[j].2.2
theorem BackC.snoc {w : World} {its : List Itm} {k : Nat} {cs : List Value} {dv iv : Value} (h : BackC w its k cs) (hk : k < its.length) (hl : cs.length = k * 3) (h1 : Bs w dv its[k].2.1) (h2 : Bss w iv its[k].2.2) : BackC w its (k + 1) (cs ++ [.int .i64 its[k].1, dv, iv]) := by
  intro j hj hjk
  by_cases e : j = k
  · subst e
    refine ⟨dv, iv, ?_, ?_, ?_, h1, h2⟩
    · rw [List.getElem?_append_right (by omega), hl]; simp
    · rw [List.getElem?_append_right (by omega), hl, show j * 3 + 1 - j * 3 = 1 by omega]; rfl
    · rw [List.getElem?_append_right (by omega), hl, show j * 3 + 2 - j * 3 = 2 by omega]; rfl
  · obtain ⟨d, i, q1, q2, q3, q4, q5⟩ := h j hj (by omega)
    refine ⟨d, i, ?_, ?_, ?_, q4, q5⟩
    · rw [List.getElem?_append_left (by omega)]; exact q1
    · rw [List.getElem?_append_left (by omega)]; exact q2
    · rw [List.getElem?_append_left (by omega)]; exact q3
theorem BackC.its {w W : World} {base : Nat} {its : List Itm} {v : Value} {cs : List Value} (h : BackC w its its.length cs) (ho : W.ownsRow base 47 3 v its.length cs) (hb : Below w.heap.size w W) : Its W v its := by
  have h1 := sl_of_owns ho
  rcases h1.2 with ⟨a, cap, rfl, h0⟩ | ⟨b, off, cap, rfl, hc, hn, hx⟩
  · have : its = [] := List.eq_nil_of_length_eq_zero h0
    subst this
    exact Els.nil _ _ _ _ _
  · refine ⟨some ⟨b, off, none⟩, cap, rfl, hc, fun i hi => ?_⟩
    obtain ⟨dv, iv, e1, e2, e3, q4, q5⟩ := h i hi hi
    refine ⟨b, off, [.int .i64 its[i].1, dv, iv], rfl, rfl, fun j u hj => ?_, dv, iv, rfl, q4.old hb, q5.old hb⟩
    match j, hj with
    | 0, hj => simp only [List.getElem?_cons_zero, Option.some.injEq] at hj; subst hj; exact hx _ _ e1
    | 1, hj => simp only [List.getElem?_cons_succ, List.getElem?_cons_zero, Option.some.injEq] at hj; subst hj; rw [Nat.add_assoc]; exact hx _ _ e2
    | 2, hj => simp only [List.getElem?_cons_succ, List.getElem?_cons_zero, Option.some.injEq] at hj; subst hj; rw [Nat.add_assoc]; exact hx _ _ e3
    | j + 3, hj => simp at hj
theorem boxM_of {w : World} {B : Nat} {u v x : Value} (h : w.heap[B]? = some (.cells #[u, v, x] 58 (0, 0))) : w.cell? ⟨B, 0, none⟩ = some u ∧ w.cell? ⟨B, 1, none⟩ = some v ∧ w.cell? ⟨B, 2, none⟩ = some x := by
  obtain ⟨h0, h1, h2, _⟩ := box3_of h
  exact ⟨h0, h1, h2⟩
set_option maxRecDepth 20000 in
set_option maxHeartbeats 3200000 in
theorem back_any (v : Value) (its : List Itm) (w : World) (hb : Its w v its) (hl : its.length ≤ 1000000) :
    Calls Try.prog 21 #[v] w fun e w' => ∃ v', e = .returned v' ∧ Its w' v' its ∧ Below w.heap.size w w' := by
  obtain ⟨a0, c0, rfl, hc0, hx⟩ := its_at hb
  have HX := Lib.hid hx
  have HL := Lib.hid hl
  clear hx hb hl
  go_enter Try.func21, Try.ntmps21
  go_wp2_with fail
  go_loopw [3, 9] (fun u i W => ∃ (k : Nat) (cs : List Value), k ≤ its.length ∧ i = .int .i64 k ∧ W.ownsRow w.heap.size 47 3 u k cs ∧ BackC w its k cs ∧ Below w.heap.size w W) (fun _ i _ => its.length - (intOf i).toNat)
  case atStart => exact ⟨0, [], Nat.zero_le _, rfl, World.ownsRow_lit (size := 3) w #[] 0 (Nat.le_refl _) (by unfold maxLen; omega) rfl, fun j _ h => absurd h (Nat.not_lt_zero j), (Below.refl _ _).alloc (Nat.le_refl _) _⟩
  case round =>
    obtain ⟨k, cs, hk, rfl, hown, hbc, hbel⟩ := hrel
    obtain ⟨u0, uc, rfl⟩ := owns_len hown
    have HO := Lib.hid hown
    have BC := Lib.hid hbc
    have BE := Lib.hid hbel
    by_cases hkl : k < its.length
    · have k1 : k < 1000000 := by have := HL.out; omega
      obtain ⟨b, off, dv, iv, rfl, p1, p2, p3, p4, p5⟩ := HX.out k hkl
      obtain ⟨da, dc, rfl⟩ := p1.len
      obtain ⟨va, vc, rfl, _⟩ := p2.read
      have q3 := cell_old hbel p3
      have q4 := cell_old hbel p4
      have q5 := cell_old hbel p5
      have CL : Hid (cs.length = k * 3) := Lib.hid (by have := (sl_of_owns hown).1; omega)
      have SN := Lib.hid (hbc.snoc hkl CL.out p1 p2)
      obtain ⟨⟨m, d, ivs⟩, hc⟩ : ∃ c, its[k] = c := ⟨_, rfl⟩
      rw [hc] at q3 q4 q5 SN
      simp only at q3 q4 q5 SN
      have e1 : decide ((k : Int) < (its.length : Int)) = true := by rw [decide_eq_true_eq]; omega
      have e2 : decide (k < its.length) = true := by rw [decide_eq_true_eq]; omega
      have SW : Hid (w.heap.size ≤ wr.heap.size) := Lib.hid hbel.size
      obtain ⟨dn, hdn⟩ : ∃ n, d.length = n := ⟨_, rfl⟩
      obtain ⟨vn, hvn⟩ : ∃ n, ivs.length = n := ⟨_, rfl⟩
      rw [hdn] at q4 SN
      rw [hvn] at q5 SN
      clear p1 p2 p3 p4 p5 hc hown hbc hbel hdn hvn
      go_wp2_with (at_builtin; refine stop ?_)
      obtain ⟨Z, hZ⟩ : ∃ Z, wr.alloc (.cells #[.int .i64 m, .slice da dn dc, .slice va vn vc] 58) = Z := ⟨_, rfl⟩
      rw [hZ]
      have ZB : Below wr.heap.size wr Z := by rw [← hZ]; exact (Below.refl _ _).alloc (Nat.le_refl _) _
      have ZS : Z.heap.size = wr.heap.size + 1 := by rw [← hZ]; simp
      have lit := sl_lit3 Z [.int .i64 m, .slice da dn dc, .slice va vn vc] 47 1 rfl (by omega)
      rw [ZS] at lit
      have OZ := owns_below HO.out (ZB.trans (((Below.refl _ Z).alloc (Nat.le_refl _) (.cells #[.int .i64 m, .slice da dn dc, .slice va vn vc] 47)).mono ZB.size))
      have BZ := BE.out.trans ((ZB.trans (((Below.refl _ Z).alloc (Nat.le_refl _) (.cells #[.int .i64 m, .slice da dn dc, .slice va vn vc] 47)).mono ZB.size)).mono BE.out.size)
      refine unstop (wpList_app tyR rfl _ _ rfl w.heap.size (.slice u0 k uc) k cs rfl OZ (.slice (some ⟨wr.heap.size + 1, 0, none⟩) 1 1) 1 [.int .i64 m, .slice da dn dc, .slice va vn vc] rfl lit (by intro u hu; simp at hu; rcases hu with rfl | rfl | rfl <;> rfl) (by omega) (by omega) BZ.size ?_)
      intro v9 w9 o9 g9 _
      have O9 := Lib.hid o9
      have B9 := Lib.hid (run_app_below OZ g9 BZ (Nat.le_refl _))
      obtain ⟨a9, c9, rfl⟩ := owns_len o9
      clear lit OZ BZ ZB ZS o9 g9 hZ
      go_wp2_with fail
      go_roundw
      case rel => exact ⟨k + 1, _, by omega, by go_num, O9.out, SN.out, B9.out⟩
      case measure => simp [intOf]; omega
    · obtain rfl : k = its.length := by omega
      have e1 : decide ((its.length : Int) < (its.length : Int)) = false := by rw [decide_eq_false_iff_not]; omega
      clear hown hbc hbel
      go_wp2_with fail
      go_ret
      exact ⟨_, rfl, BC.out.its HO.out BE.out, BE.out⟩
end Go.Proofs.Ytlljooncoingnaa
