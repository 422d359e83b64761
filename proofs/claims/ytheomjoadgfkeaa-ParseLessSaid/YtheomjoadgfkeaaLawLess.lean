/- ParseLess: the inner function's walk. By an AI agent. -/
import Derived.Test.YtheomjoadgfkeaaExp
import Derived.Test.YtheomjoadgfkeaaLawCheap
import Derived.Test.YtheomjoadgfkeaaPriceW
namespace Go.Proofs.Ytheomjoadgfkeaa
open Go.RowKit Go.Shelf
set_option linter.unusedVariables false
set_option linter.unusedSimpArgs false

theorem mod2000 (k : Int) : ∃ m : Int, 0 ≤ m ∧ m ≤ 2000 ∧ wrap64 ((IntKind.u64.wrap k).tmod 2000) = m ∧ IntKind.i64.wrap ((IntKind.u64.wrap k).tmod 2000) = m := by
  have h0 : 0 ≤ IntKind.u64.wrap k := by simp [IntKind.wrap, IntKind.signed, IntKind.bits]; omega
  refine ⟨IntKind.u64.wrap k % 2000, by omega, by omega, ?_, ?_⟩
  · rw [Int.tmod_eq_emod_of_nonneg h0, IntWalk.wrap64_in _ (by omega)]
  · rw [Int.tmod_eq_emod_of_nonneg h0, IntWalk.i64_in _ (by omega)]
theorem same_any9 (v v2 : Value) (l l2 : List UInt8) (w : World) (hb : Bs w v l) (hb2 : Bs w v2 l2) (he : l = l2) :
    Calls Try.prog 48 #[v, v2] w fun e w' => e = .returned (.bool true) ∧ w = w' := by
  have s1 := run_str (P := Try.prog) w 48 5 9 Try.underlying48 Try.underlying5 Try.underlying9 hb
  have s2 := run_str (P := Try.prog) w 48 5 9 Try.underlying48 Try.underlying5 Try.underlying9 hb2
  subst he
  go_enter Try.func48, Try.ntmps48
  go_wp2
  go_ret
  exact ⟨rfl, rfl⟩
def castT (T : List (Nat × Nat)) : List (Int × Int) := T.map fun t => ((t.1 : Int), (t.2 : Int))
theorem price_path {l : List UInt8} {a b c : List Int} (hg : goodP a b c = true) {T : List (Nat × Nat)} (h : IsPath l 0 T l.length) :
    priceA a b c (castT T) = (sumC (costN a b c) T, 0) ∧ (castT T).length = T.length ∧ (∀ t ∈ castT T, In1 t.1 ∧ In1 t.2) := by
  have hs := path_steps (l := l) T 0 _ h
  have hall : (castT T).all gT = true := by
    rw [List.all_eq_true]
    intro t ht
    obtain ⟨s, hs1, rfl⟩ := List.mem_map.1 ht
    obtain ⟨p, hp⟩ := hs s hs1
    exact step_good hp
  have hsum : sumT a b c (castT T) = sumC (costN a b c) T := by
    unfold sumT sumC castT
    rw [List.map_map]
    rfl
  refine ⟨by unfold priceA; rw [hg, hall, hsum]; rfl, by simp [castT], fun t ht => ?_⟩
  have hgt : goodT t.1 t.2 = true := List.all_eq_true.1 hall t ht
  unfold goodT at hgt
  unfold In1
  split at hgt
  · simp only [decide_eq_true_eq] at hgt; omega
  · simp only [decide_eq_true_eq] at hgt; omega
theorem flat_good (p q r : Int) (hp : 0 ≤ p ∧ p ≤ 2000) (hq : 0 ≤ q ∧ q ≤ 2000) (hr : 0 ≤ r ∧ r ≤ 2000) :
    goodP (List.replicate 256 p) ((List.range 259).map fun n : Nat => q + ((n % 7 : Nat) : Int)) ((List.range 30).map fun n : Nat => r * (n : Int)) = true := by
  have w1 : withinL (List.replicate 256 p) = true := by
    unfold withinL
    rw [List.all_eq_true]
    intro x hx
    have := List.eq_of_mem_replicate hx
    subst this
    simp [okP]; omega
  have w2 : withinL ((List.range 259).map fun n : Nat => q + ((n % 7 : Nat) : Int)) = true := by
    unfold withinL
    rw [List.all_eq_true]
    intro x hx
    obtain ⟨n, _, rfl⟩ := List.mem_map.1 hx
    simp [okP]; omega
  have w3 : withinL ((List.range 30).map fun n : Nat => r * (n : Int)) = true := by
    unfold withinL
    rw [List.all_eq_true]
    intro x hx
    obtain ⟨n, hn, rfl⟩ := List.mem_map.1 hx
    have hn30 : n < 30 := List.mem_range.1 hn
    have h1 : 0 ≤ r * (n : Int) := Int.mul_nonneg hr.1 (by omega)
    have h2 : r * (n : Int) ≤ 2000 * 30 := Int.mul_le_mul hr.2 (by omega) (by omega) (by omega)
    simp [okP]; omega
  have e1 : (List.replicate 256 p).length = 256 := List.length_replicate
  have e2 : ((List.range 259).map fun n : Nat => q + ((n % 7 : Nat) : Int)).length = 259 := by rw [List.length_map, List.length_range]
  have e3 : ((List.range 30).map fun n : Nat => r * (n : Int)).length = 30 := by rw [List.length_map, List.length_range]
  unfold goodP
  rw [w1, w2, w3, decide_eq_true e1, decide_eq_true e2, decide_eq_true e3]
  rfl
structure LessS (R Bq : Nat) (u v x : Value) (a b c : List Int) (w W : World) : Prop where
  below : Below R w W
  size : R ≤ W.heap.size
  box : W.heap[Bq]? = some (.cells #[u, v, x] 38 (0, 0))
  nu : Ns W u a
  nv : Ns W v b
  nx : Ns W x c
theorem LessS.old {R Bq : Nat} {u v x : Value} {a b c : List Int} {w W W' : World} (h : LessS R Bq u v x a b c w W) (hb : Below W.heap.size W W') : LessS R Bq u v x a b c w W' :=
  ⟨h.below.trans (hb.mono h.size), Nat.le_trans h.size hb.size, by rw [hb.block _ (Array.getElem?_eq_some_iff.1 h.box).1]; exact h.box, h.nu.old hb, h.nv.old hb, h.nx.old hb⟩
theorem LessS.cells {R Bq : Nat} {u v x : Value} {a b c : List Int} {w W : World} (h : LessS R Bq u v x a b c w W) : W.cell? ⟨Bq, 0, none⟩ = some u ∧ W.cell? ⟨Bq, 1, none⟩ = some v ∧ W.cell? ⟨Bq, 2, none⟩ = some x :=
  ⟨by rw [cell_of_row _ _ 0 _ _ _ h.box]; rfl, by rw [cell_of_row _ _ 1 _ _ _ h.box]; rfl, by rw [cell_of_row _ _ 2 _ _ _ h.box]; rfl⟩
theorem lits_take (l : List UInt8) (k : Nat) (hk : k < l.length) : (litsF l).take (k + 1) = (litsF l).take k ++ [(0, (l.getD k 0).toNat)] := by
  unfold litsF
  rw [← List.map_take, ← List.map_take, take_more l k hk, List.map_append]
  rfl

set_option maxRecDepth 100000 in
set_option maxHeartbeats 8000000 in
theorem less_any (tv : Value) (l : List UInt8) (x0 x1 x2 : Int) (w : World) (hb : Bs w tv l) (hl : l.length ≤ 140737488351232) :
    Calls Try.prog 30 #[tv, .int .i64 x0, .int .i64 x1, .int .i64 x2] w fun e w' => e = .returned (.bool true) ∧ Below w.heap.size w w' := by
  obtain ⟨R, hR⟩ : ∃ R, w.heap.size = R := ⟨_, rfl⟩
  have HRR := Lib.hid hR
  obtain ⟨av, cap, rfl⟩ := hb.len
  have HOLD : Hid (∀ V, Below R w V → Bs V (.slice av l.length cap) l) := Lib.hid (fun V h => by rw [← hR] at h; exact hb.old h)
  clear hb hR
  go_enter Try.func30, Try.ntmps30
  go_wp2_with fail
  refine (alive_any _).mono ?_; rintro e w1 ⟨rfl, hb1⟩
  have Z1 : Hid (Below R w w1) := Lib.hid (by rw [← HRR.out]; exact hb1)
  clear hb1
  by_cases hbig : 2000 < l.length
  · have d1 : decide ((2000 : Int) < (l.length : Int)) = true := by rw [decide_eq_true_eq]; omega
    go_wp2_with fail
    go_ret
    exact ⟨rfl, by rw [HRR.out]; exact Z1.out⟩
  have d1 : decide ((2000 : Int) < (l.length : Int)) = false := by rw [decide_eq_false_iff_not]; omega
  obtain ⟨p, p0, p1, ep, ep'⟩ := mod2000 x0
  obtain ⟨q, q0, q1, eq, eq'⟩ := mod2000 x1
  obtain ⟨r, r0, r1, er, er'⟩ := mod2000 x2
  have HGD := Lib.hid (flat_good p q r ⟨p0, p1⟩ ⟨q0, q1⟩ ⟨r0, r1⟩)
  have HPP := Lib.hid (And.intro (And.intro p0 p1) (And.intro (And.intro q0 q1) (And.intro r0 r1)))
  have HLL : Hid (l.length ≤ 2000) := Lib.hid (by omega)
  clear p0 p1 q0 q1 r0 r1 hbig
  go_wp2_with fail
  clear ep ep' eq eq' er er'
  refine (flat_any p q r _ HPP.out.1 HPP.out.2.1 HPP.out.2.2).mono ?_
  rintro e w2 ⟨fu, fv, fx, rfl, nu, nv, nx, hb2⟩
  obtain ⟨a, ha⟩ : ∃ a, List.replicate 256 p = a := ⟨_, rfl⟩
  obtain ⟨b, hbb⟩ : ∃ b, ((List.range 259).map fun n : Nat => q + ((n % 7 : Nat) : Int)) = b := ⟨_, rfl⟩
  obtain ⟨c, hc⟩ : ∃ c, ((List.range 30).map fun n : Nat => r * (n : Int)) = c := ⟨_, rfl⟩
  have L3 : Hid (a.length ≤ 1000 ∧ b.length ≤ 1000 ∧ c.length ≤ 1000) := Lib.hid (by rw [← ha, ← hbb, ← hc]; simp)
  rw [ha] at nu HGD
  rw [hbb] at nv HGD
  rw [hc] at nx HGD
  clear ha hbb hc
  go_wp2_with fail
  refine (prices_any _ _ _ a b c w2 nu nv nx L3.out.1 L3.out.2.1 L3.out.2.2).mono ?_
  rintro e w3 ⟨pu, pv, px, g1, g2, g3, rfl, cu, cv, cx, hb3⟩
  have Z3 : Hid (Below R w w3) := Lib.hid (by
    have h1 : Below R w w2 := Z1.out.trans (hb2.mono (by have := Z1.out.size; have := HRR.out; omega))
    exact h1.trans (hb3.mono (by have := h1.size; have := HRR.out; omega)))
  have CU := Lib.hid cu.ns
  have CV := Lib.hid cv.ns
  have CX := Lib.hid cx.ns
  have RS : Hid (R ≤ w3.heap.size) := Lib.hid (by have := Z3.out.size; have := HRR.out; omega)
  clear hb2 hb3 nu nv nx cu cv cx
  obtain ⟨pua, puc, rfl⟩ := CU.out.len
  obtain ⟨pva, pvc, rfl⟩ := CV.out.len
  obtain ⟨pxa, pxc, rfl⟩ := CX.out.len
  go_wp2_with fail
  have S0 : LessS R w3.heap.size (.slice pua a.length puc) (.slice pva b.length pvc) (.slice pxa c.length pxc) a b c w (w3.alloc (.cells #[.slice pua a.length puc, .slice pva b.length pvc, .slice pxa c.length pxc] 38)) :=
    have hb : Below w3.heap.size w3 (w3.alloc (.cells #[.slice pua a.length puc, .slice pva b.length pvc, .slice pxa c.length pxc] 38)) := (Below.refl _ _).alloc (Nat.le_refl _) _
    ⟨Z3.out.trans (hb.mono RS.out), by simp; have := RS.out; omega, heap_alloc_new _ _, CU.out.old hb, CV.out.old hb, CX.out.old hb⟩
  obtain ⟨Bq, hBq⟩ : ∃ Bq, w3.heap.size = Bq := ⟨_, rfl⟩
  rw [hBq] at S0 ⊢
  obtain ⟨w4, hw4⟩ : ∃ w4, w3.alloc (.cells #[.slice pua a.length puc, .slice pva b.length pvc, .slice pxa c.length pxc] 38) = w4 := ⟨_, rfl⟩
  rw [hw4] at S0 ⊢
  have HS4 := Lib.hid S0
  clear S0 hBq hw4
  refine (cheapest_any _ _ _ _ l a b c w4 (HOLD.out _ HS4.out.below) (by have := HLL.out; omega) HS4.out.nu HS4.out.nv HS4.out.nx L3.out.1 L3.out.2.1 L3.out.2.2).mono ?_
  rintro e w5 ⟨hb5, hres⟩
  rcases hres with ⟨_, rt, rfl, hT⟩ | ⟨hg, _⟩
  · have HS5 := Lib.hid (HS4.out.old hb5)
    have HT5 := Lib.hid hT
    clear hT hb5
    obtain ⟨ta, tc, rfl, -⟩ := tk_nat HT5.out
    go_wp2_with fail
    refine (greedy_any _ l w5 (HOLD.out _ HS5.out.below) (by have := HLL.out; omega)).mono ?_
    rintro e w6 ⟨rg, rfl, hG, hb6⟩
    have HS6 := Lib.hid (HS5.out.old hb6)
    have HT6 := Lib.hid (HT5.out.old hb6)
    have HG6 := Lib.hid hG
    clear hG hb6
    obtain ⟨ga, gc, rfl, -⟩ := tk_nat HG6.out
    have CLE := Lib.hid (cheap_least (cost := costN a b c) (l := l) (fun p t h => cost_pos HGD.out p t h) (fun p h => cost_lit HGD.out p h) (by have := HLL.out; omega))
    obtain ⟨T, hTT⟩ : ∃ T, cheapL (costN a b c) l = T := ⟨_, rfl⟩
    obtain ⟨G, hGG⟩ : ∃ G, greedL l = G := ⟨_, rfl⟩
    have GP : Hid (IsPath l 0 G l.length) := Lib.hid (by rw [← hGG]; exact greed_path l)
    rw [hTT] at CLE HT6 ⊢
    rw [hGG] at HG6 ⊢
    clear hTT hGG HT5 HS5 HS4
    obtain ⟨N, hN⟩ : ∃ N, w6.heap.size = N := ⟨_, rfl⟩
    have HN := Lib.hid hN
    clear hN
    go_wp2_with fail
    go_loopw [14, 16, 60] (fun o _ i w' => ∃ k : Nat, k ≤ l.length ∧ i = .int .i64 (k : Int) ∧ Tow N w' o ((litsF l).take k) ∧ Below N w6 w') (fun _ _ i _ => l.length - (intOf i).toNat)
    case atStart =>
      refine ⟨0, Nat.zero_le _, rfl, ?_, ?_⟩
      · rw [← HN.out]
        exact World.ownsRow_lit (base := w6.heap.size) (e := 27) (size := 2) w6 #[] 0 (Nat.le_refl _) (by unfold maxLen; omega) rfl
      · rw [← HN.out]
        exact (Below.refl _ _).alloc (Nat.le_refl _) _
    case round =>
      obtain ⟨k, hk, rfl, hown, hbl⟩ := hrel
      have HO := Lib.hid hown
      have HB := Lib.hid hbl
      have SW := Lib.hid (HS6.out.old (by rw [HN.out]; exact hbl))
      have hk2 : k ≤ 2000 := by have := HLL.out; omega
      have NW : Hid (N ≤ wr.heap.size) := Lib.hid (by have := hbl.size; have := HN.out; omega)
      clear hown hbl
      by_cases hkl : k < l.length
      · have f1 : decide ((k : Int) < (l.length : Int)) = true := by rw [decide_eq_true_eq]; omega
        have f2 : decide (k < l.length) = true := by rw [decide_eq_true_eq]; omega
        obtain ⟨a9, c9, h9, hx9⟩ := (HOLD.out _ SW.out.below).read
        simp only [Value.slice.injEq, true_and] at h9
        obtain ⟨rfl, rfl⟩ := h9
        obtain ⟨b9, o9, rfl, hc9⟩ := hx9 k hkl
        have eg : l[k] = l.getD k 0 := by rw [List.getD_eq_getElem?_getD, List.getElem?_eq_getElem hkl]; rfl
        rw [eg] at hc9
        have LT := Lib.hid (lits_take l k hkl)
        obtain ⟨x, hx⟩ : ∃ x, (l.getD k 0).toNat = x := ⟨_, rfl⟩
        have hx8 : x < 256 := by rw [← hx]; exact (l.getD k 0).toNat_lt
        rw [hx] at LT hc9
        clear hx hx9 eg
        obtain ⟨LL, hLL⟩ : ∃ LL, (litsF l).take k = LL := ⟨_, rfl⟩
        have LLL : Hid (LL.length = k) := Lib.hid (by rw [← hLL, List.length_take]; unfold litsF; rw [List.length_map]; omega)
        rw [hLL] at HO LT
        clear hLL
        go_wp2_with (at_builtin; refine stop ?_)
        have OWN := World.ownsRow.alloc HO.out (.cells #[.int .i64 0, .int .i64 (x : Int)] 27)
        refine unstop (wpList_app tyTok rfl _ _ rfl N _ LL.length (tokVals LL) rfl OWN _ 1 [.int .i64 0, .int .i64 (x : Int)] rfl (sl_lit2 _ _ _ _) (by intro u hu; simp at hu; rcases hu with rfl | rfl <;> rfl) (by have := LLL.out; omega) (by have := LLL.out; omega) (by have := NW.out; simp; omega) ?_)
        intro v7 w7 hown7 hg7 _
        have HB7 : Hid (Below N w6 w7) := Lib.hid (by
          have h0 : Below w6.heap.size w6 (wr.alloc (.cells #[.int .i64 0, .int .i64 (x : Int)] 27)) := by rw [HN.out]; exact HB.out.alloc NW.out _
          have h2 := run_app_below OWN hg7 h0 (by rw [HN.out]; exact Nat.le_refl _)
          rw [HN.out] at h2
          exact h2)
        have HT7 : Hid (Tow N w7 v7 ((litsF l).take (k + 1))) := Lib.hid (by
          rw [LT.out]
          unfold Tow
          rw [List.length_append, tokVals_app]
          exact hown7)
        clear hown7 hg7 OWN
        go_wp2_with fail
        go_roundw
        case rel => exact ⟨k + 1, by omega, by go_num, HT7.out, HB7.out⟩
        case measure => simp [intOf]; omega
      · obtain rfl : k = l.length := by omega
        have f1 : decide ((l.length : Int) < (l.length : Int)) = false := by rw [decide_eq_false_iff_not]; omega
        obtain ⟨c0, c1, c2⟩ := SW.out.cells
        have TW := Lib.hid (HT6.out.old (by rw [HN.out]; exact HB.out : Below w6.heap.size w6 wr))
        have GW := Lib.hid (HG6.out.old (by rw [HN.out]; exact HB.out : Below w6.heap.size w6 wr))
        have LW : Hid (Tk wr u14 (castT (litsF l))) := Lib.hid (by
          have h := HO.out.tk
          rw [List.take_of_length_le (by unfold litsF; rw [List.length_map]; exact Nat.le_refl _)] at h
          exact h)
        have TP := Lib.hid CLE.out.1
        have LP : Hid (IsPath l 0 (litsF l) l.length) := Lib.hid (by have := lits_path l l.length 0 (by omega); rw [List.drop_zero] at this; exact this)
        clear hk2
        go_wp2_with fail
        have P1 := price_path HGD.out TP.out
        have P2 := price_path HGD.out GP.out
        have P3 := price_path HGD.out LP.out
        have O2 := CLE.out.2.2 G GP.out
        have O3 := CLE.out.2.2 (litsF l) LP.out
        have TLN := (path_len2 l T 0 _ TP.out).2
        have GLN := (path_len2 l G 0 _ GP.out).2
        have LLN := (path_len2 l (litsF l) 0 _ LP.out).2
        obtain ⟨s1, e1⟩ : ∃ s, sumC (costN a b c) T = s := ⟨_, rfl⟩
        obtain ⟨s2, e2⟩ : ∃ s, sumC (costN a b c) G = s := ⟨_, rfl⟩
        obtain ⟨s3, e3⟩ : ∃ s, sumC (costN a b c) (litsF l) = s := ⟨_, rfl⟩
        rw [e1] at P1 O2 O3
        rw [e2] at P2 O2
        rw [e3] at P3 O3
        have HP1 := Lib.hid P1
        have HP2 := Lib.hid P2
        have HP3 := Lib.hid P3
        have HO2 := Lib.hid O2
        have HO3 := Lib.hid O3
        have LNS := Lib.hid (And.intro TLN (And.intro GLN LLN))
        clear e1 e2 e3 P1 P2 P3 O2 O3 TLN GLN LLN
        refine (price_any _ _ _ _ (castT T) a b c wr TW.out (by have := HP1.out.2.1; have := LNS.out; have := HLL.out; omega) HP1.out.2.2 SW.out.nu SW.out.nv SW.out.nx L3.out.1 L3.out.2.1 L3.out.2.2).mono ?_
        rintro e w7 ⟨rfl, hb7⟩
        rw [HP1.out.1, errV_zero]
        have S7 := Lib.hid (SW.out.old hb7)
        have T7 := Lib.hid (TW.out.old hb7)
        have G7 := Lib.hid (GW.out.old hb7)
        have L7 := Lib.hid (LW.out.old hb7)
        clear hb7 c0 c1 c2
        obtain ⟨c0, c1, c2⟩ := S7.out.cells
        go_wp2_with fail
        refine (price_any _ _ _ _ (castT G) a b c w7 G7.out (by have := HP2.out.2.1; have := LNS.out; have := HLL.out; omega) HP2.out.2.2 S7.out.nu S7.out.nv S7.out.nx L3.out.1 L3.out.2.1 L3.out.2.2).mono ?_
        rintro e w8 ⟨rfl, hb8⟩
        rw [HP2.out.1, errV_zero]
        have S8 := Lib.hid (S7.out.old hb8)
        have T8 := Lib.hid (T7.out.old hb8)
        have G8 := Lib.hid (G7.out.old hb8)
        have L8 := Lib.hid (L7.out.old hb8)
        clear hb8 c0 c1 c2
        obtain ⟨c0, c1, c2⟩ := S8.out.cells
        go_wp2_with fail
        refine (price_any _ _ _ _ (castT (litsF l)) a b c w8 L8.out (by have := HP3.out.2.1; have := LNS.out; have := HLL.out; omega) HP3.out.2.2 S8.out.nu S8.out.nv S8.out.nx L3.out.1 L3.out.2.1 L3.out.2.2).mono ?_
        rintro e w9 ⟨rfl, hb9⟩
        rw [HP3.out.1, errV_zero]
        have S9 := Lib.hid (S8.out.old hb9)
        have T9 := Lib.hid (T8.out.old hb9)
        have G9 := Lib.hid (G8.out.old hb9)
        clear hb9 c0 c1 c2
        go_wp2_with fail
        refine (expand_any _ l T w9 T9.out TP.out HLL.out).mono ?_
        rintro e w10 ⟨rv1, rfl, o10, hb10⟩
        have S10 := Lib.hid (S9.out.old hb10)
        have G10 := Lib.hid (G9.out.old hb10)
        have X10 : Hid (Bs w10 rv1 l) := Lib.hid (sl_of_owns o10)
        clear hb10 o10
        go_wp2_with fail
        refine (expand_any _ l G w10 G10.out GP.out HLL.out).mono ?_
        rintro e w11 ⟨rv2, rfl, o11, hb11⟩
        have S11 := Lib.hid (S10.out.old hb11)
        have X11 := Lib.hid (X10.out.old hb11)
        have Y11 : Hid (Bs w11 rv2 l) := Lib.hid (sl_of_owns o11)
        clear hb11 o11
        have z1 : decide (s1 ≤ s2) = true := decide_eq_true HO2.out
        have z2 : decide (s1 ≤ s3) = true := decide_eq_true HO3.out
        have z1' : s1 ≤ s2 := HO2.out
        have z2' : s1 ≤ s3 := HO3.out
        go_wp2_with fail
        refine (same_any9 _ _ l l w11 X11.out (HOLD.out _ S11.out.below) rfl).mono ?_
        rintro e w12 ⟨rfl, rfl⟩
        go_wp2_with fail
        refine (same_any9 _ _ l l w11 Y11.out (HOLD.out _ S11.out.below) rfl).mono ?_
        rintro e w12 ⟨rfl, rfl⟩
        go_wp2_with fail
        go_ret
        exact ⟨rfl, by rw [HRR.out]; exact S11.out.below⟩
  · rw [HGD.out] at hg
    cases hg
set_option maxHeartbeats 1600000 in
theorem lawLess_any (u : Value) (l : List UInt8) (x0 x1 x2 : Int) (w : World) (hb : Bs w u l) (hl : l.length ≤ 140737488351232) :
    Calls Try.prog 7 #[.agg #[u, .int .i64 x0, .int .i64 x1, .int .i64 x2]] w fun e w' => e = .returned (.bool true) ∧ Below w.heap.size w w' := by
  have HB := Lib.hid hb
  obtain ⟨a1, c1, rfl⟩ := hb.len
  have HL := Lib.hid hl
  clear hb hl
  go_enter Try.func7, Try.ntmps7
  have ba : Below w.heap.size w (w.alloc (.cells #[.slice a1 l.length c1, .int .i64 x0, .int .i64 x1, .int .i64 x2] 61)) := (Below.refl _ _).alloc (Nat.le_refl _) _
  have BA := Lib.hid ba
  clear ba
  go_wp2_with fail
  refine (less_any _ l x0 x1 x2 _ (HB.out.old BA.out) HL.out).mono ?_
  rintro e w2 ⟨rfl, hb2⟩
  have B2 := Lib.hid (BA.out.trans (hb2.mono BA.out.size))
  clear hb2
  go_wp2_with fail
  go_ret
  exact ⟨rfl, B2.out⟩
end Go.Proofs.Ytheomjoadgfkeaa
