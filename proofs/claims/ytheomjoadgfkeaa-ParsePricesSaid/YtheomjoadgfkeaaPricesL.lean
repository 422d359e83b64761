/- ParsePrices: the law's walk. By an AI agent. -/
import Derived.Test.YtheomjoadgfkeaaPriceW
import Derived.Test.YtheomjoadgfkeaaKept
import Derived.Test.YtheomjoadgfkeaaFlat
import Derived.Test.YtheomjoadgfkeaaPrices
namespace Go.Proofs.Ytheomjoadgfkeaa
open Go.RowKit
set_option linter.unusedVariables false
set_option linter.unusedSimpArgs false

theorem flatA : priceA (List.replicate 256 9) ((List.range 259).map fun n : Nat => 3 + ((n % 7 : Nat) : Int)) ((List.range 30).map fun n : Nat => 1 * (n : Int)) [(0, 1)] = (9, 0) := by decide +kernel

theorem tk_one (w : World) (t1 t2 : Int) (fr : Nat × Nat) : Tk (w.alloc (.cells #[.int .i64 t1, .int .i64 t2] 27 fr)) (.slice (some ⟨w.heap.size, 0, none⟩) 1 1) [(t1, t2)] := by
  refine ⟨_, _, rfl, fun i hi => ?_⟩
  obtain rfl : i = 0 := by simp at hi; omega
  refine ⟨_, _, rfl, ?_, ?_⟩
  · rw [cell_of_row _ w.heap.size (0 + 0 * 2) _ _ _ (heap_alloc_new _ _)]; rfl
  · rw [cell_of_row _ w.heap.size (0 + 0 * 2 + 1) _ _ _ (heap_alloc_new _ _)]; rfl

set_option maxRecDepth 20000 in
set_option maxHeartbeats 6400000 in
theorem lawPrices_any (vt u v x : Value) (ts : List (Int × Int)) (a b c : List Int) (w : World) (ht : Tk w vt ts) (hlen : ts.length ≤ 140737488351232) (hin : ∀ t ∈ ts, In1 t.1 ∧ In1 t.2) (hu : Ns w u a) (hv : Ns w v b) (hx : Ns w x c) (ha : a.length ≤ 140737488355328) (hb : b.length ≤ 140737488355328) (hc : c.length ≤ 140737488355328) :
    Calls Try.prog 4 #[vt, .agg #[u, v, x]] w fun e w' => e = .returned (.bool true) ∧ Below w.heap.size w w' := by
  obtain ⟨at_, ct, rfl, hcell⟩ := ht
  go_enter Try.func4, Try.ntmps4
  go_wp2_with fail
  refine (flat_any 9 3 1 _ (by omega) (by omega) (by omega)).mono ?_
  rintro e w1 ⟨fu, fv, fx, rfl, nu, nv, nx, hb1⟩
  have z1 : Below w.heap.size w w1 := (((Below.refl _ _).alloc (Nat.le_refl _) _).alloc (by simp) _).trans (hb1.mono (by simp; omega))
  have k1 : Tk w1 (.slice (some ⟨w.heap.size + 1, 0, none⟩) 1 1) [(0, 1)] := by
    have h := tk_one (w.alloc (.cells #[u, v, x] 33)) 0 1 (0, 0)
    rw [World.size_alloc] at h
    exact h.old hb1
  go_wp2_with fail
  refine (prices_any _ _ _ _ _ _ _ nu nv nx (by simp) (by simp) (by simp)).mono ?_
  rintro e w2 ⟨pu, pv, px, g1, g2, g3, rfl, cu, cv, cx, hb2⟩
  go_wp2_with fail
  refine (price_any _ _ _ _ [(0, 1)] _ _ _ _ (k1.old hb2) (by simp) (by simp [In1]) cu.ns cv.ns cx.ns (by simp) (by simp) (by simp)).mono ?_
  rintro e w3 ⟨rfl, hb3⟩
  rw [flatA]
  have Z3 : Hid (Below w.heap.size w w3) := Lib.hid ((z1.trans (hb2.mono z1.size)).trans (hb3.mono (Nat.le_trans z1.size hb2.size)))
  have X3 : Hid (w3.heap[w.heap.size]? = some (.cells #[u, v, x] 33 (0, 0)) ∧ w.heap.size < w3.heap.size) := Lib.hid (by
    have s1 := hb1.size
    have s2 := hb2.size
    have s3 := hb3.size
    simp at s1
    refine ⟨?_, by omega⟩
    rw [hb3.block _ (by omega), hb2.block _ (by omega), hb1.block _ (by simp; omega)]
    exact heap_new0 _ _ _)
  have HU := Lib.hid hu
  have HV := Lib.hid hv
  have HX := Lib.hid hx
  have HIN := Lib.hid hin
  have HT := Lib.hid hcell
  have LA := Lib.hid ha
  have LB := Lib.hid hb
  have LC := Lib.hid hc
  clear z1 k1 hb1 hb2 hb3 nu nv nx cu cv cx hu hv hx hin hcell ha hb hc
  simp only [errV_zero]
  by_cases hL : 3000 < ts.length
  · have d1 : decide ((3000 : Int) < (ts.length : Int)) = true := by rw [decide_eq_true_eq]; omega
    go_wp2_with fail
    go_ret
    exact ⟨rfl, Z3.out⟩
  have d1 : decide ((3000 : Int) < (ts.length : Int)) = false := by rw [decide_eq_false_iff_not]; omega
  have c0 : w3.cell? ⟨w.heap.size, 0, none⟩ = some u := by rw [cell_of_row _ _ 0 _ _ _ X3.out.1]; rfl
  have c1 : w3.cell? ⟨w.heap.size, 1, none⟩ = some v := by rw [cell_of_row _ _ 1 _ _ _ X3.out.1]; rfl
  have c2 : w3.cell? ⟨w.heap.size, 2, none⟩ = some x := by rw [cell_of_row _ _ 2 _ _ _ X3.out.1]; rfl
  go_wp2_with fail
  refine (large_any u v x a b c w3 (HU.out.old Z3.out) (HV.out.old Z3.out) (HX.out.old Z3.out) LA.out LB.out LC.out).mono ?_
  rintro e w4 ⟨rfl, hb4⟩
  have Z4 : Hid (Below w.heap.size w w4) := Lib.hid (Z3.out.trans (hb4.mono Z3.out.size))
  have X4 : Hid (w4.heap[w.heap.size]? = some (.cells #[u, v, x] 33 (0, 0)) ∧ w.heap.size < w4.heap.size) := Lib.hid ⟨by rw [hb4.block _ X3.out.2]; exact X3.out.1, Nat.lt_of_lt_of_le X3.out.2 hb4.size⟩
  clear hb4 c0 c1 c2
  cases hlg : largeP a b c
  case true =>
    go_wp2_with fail
    go_ret
    exact ⟨rfl, Z4.out⟩
  have hl3 : a.length ≤ 1000 ∧ b.length ≤ 1000 ∧ c.length ≤ 1000 := by
    simp only [largeP, Bool.or_eq_false_iff, decide_eq_false_iff_not] at hlg
    omega
  have L3 := Lib.hid hl3
  clear hl3 hlg LA LB LC
  have c0 : w4.cell? ⟨w.heap.size, 0, none⟩ = some u := by rw [cell_of_row _ _ 0 _ _ _ X4.out.1]; rfl
  have c1 : w4.cell? ⟨w.heap.size, 1, none⟩ = some v := by rw [cell_of_row _ _ 1 _ _ _ X4.out.1]; rfl
  have c2 : w4.cell? ⟨w.heap.size, 2, none⟩ = some x := by rw [cell_of_row _ _ 2 _ _ _ X4.out.1]; rfl
  go_wp2_with fail
  refine (prices_any u v x a b c w4 (HU.out.old Z4.out) (HV.out.old Z4.out) (HX.out.old Z4.out) L3.out.1 L3.out.2.1 L3.out.2.2).mono ?_
  rintro e w5 ⟨pu, pv, px, g1, g2, g3, rfl, cu, cv, cx, hb5⟩
  have Z5 : Hid (Below w.heap.size w w5) := Lib.hid (Z4.out.trans (hb5.mono Z4.out.size))
  have X5 : Hid (w5.heap[w.heap.size]? = some (.cells #[u, v, x] 33 (0, 0)) ∧ w.heap.size < w5.heap.size) := Lib.hid ⟨by rw [hb5.block _ X4.out.2]; exact X4.out.1, Nat.lt_of_lt_of_le X4.out.2 hb5.size⟩
  have CU := Lib.hid cu
  have CV := Lib.hid cv
  have CX := Lib.hid cx
  obtain ⟨qa, qn, qc, rfl⟩ : ∃ a n c, pu = .slice a n c := ⟨_, _, _, cu.1⟩
  obtain ⟨ra, rn, rc, rfl⟩ : ∃ a n c, pv = .slice a n c := ⟨_, _, _, cv.1⟩
  obtain ⟨sa, sn, sc, rfl⟩ : ∃ a n c, px = .slice a n c := ⟨_, _, _, cx.1⟩
  clear cu cv cx hb5 c0 c1 c2
  have b6 : Below w5.heap.size w5 (w5.alloc (.cells #[.slice qa qn qc, .slice ra rn rc, .slice sa sn sc] 38)) := (Below.refl _ _).alloc (Nat.le_refl _) _
  go_wp2_with fail
  refine (price_any _ _ _ _ ts a b c _ ⟨at_, ct, rfl, fun i hi => let ⟨b, off, e, h1, h2⟩ := HT.out i hi; ⟨b, off, e, cell_old b6 (cell_old Z5.out h1), cell_old b6 (cell_old Z5.out h2)⟩⟩ (by omega) HIN.out (CU.out.ns.old b6) (CV.out.ns.old b6) (CX.out.ns.old b6) L3.out.1 L3.out.2.1 L3.out.2.2).mono ?_
  rintro e w6 ⟨rfl, hb6⟩
  have b7 : Below w5.heap.size w5 w6 := b6.trans (hb6.mono b6.size)
  have Z6 : Hid (Below w.heap.size w w6) := Lib.hid (Z5.out.trans (b7.mono Z5.out.size))
  have X6 : Hid (w6.heap[w.heap.size]? = some (.cells #[u, v, x] 33 (0, 0)) ∧ w6.heap[w5.heap.size]? = some (.cells #[.slice qa qn qc, .slice ra rn rc, .slice sa sn sc] 38 (0, 0)) ∧ w.heap.size < w6.heap.size) := Lib.hid ⟨by rw [b7.block _ X5.out.2]; exact X5.out.1, by rw [hb6.block _ (by simp)]; exact heap_alloc_new _ _, Nat.lt_of_lt_of_le X5.out.2 b7.size⟩
  have B7 := Lib.hid b7
  obtain ⟨ea, eb, hE⟩ : ∃ ea eb, priceA a b c ts = (ea, eb) := ⟨_, _, rfl⟩
  rw [hE]
  have HE := Lib.hid hE
  clear hE b6 b7 hb6
  have c0 : w6.cell? ⟨w.heap.size, 0, none⟩ = some u := by rw [cell_of_row _ _ 0 _ _ _ X6.out.1]; rfl
  have c1 : w6.cell? ⟨w.heap.size, 1, none⟩ = some v := by rw [cell_of_row _ _ 1 _ _ _ X6.out.1]; rfl
  have c2 : w6.cell? ⟨w.heap.size, 2, none⟩ = some x := by rw [cell_of_row _ _ 2 _ _ _ X6.out.1]; rfl
  go_wp2_with fail
  refine (goodP_any u v x a b c w6 (HU.out.old Z6.out) (HV.out.old Z6.out) (HX.out.old Z6.out) L3.out.1 L3.out.2.1 L3.out.2.2).mono ?_
  rintro e w7 ⟨rfl, hb7⟩
  have Z7 : Hid (Below w.heap.size w w7) := Lib.hid (Z6.out.trans (hb7.mono Z6.out.size))
  have B57 : Hid (Below w5.heap.size w5 w7) := Lib.hid (B7.out.trans (hb7.mono B7.out.size))
  have X7 : Hid (w7.heap[w.heap.size]? = some (.cells #[u, v, x] 33 (0, 0)) ∧ w7.heap[w5.heap.size]? = some (.cells #[.slice qa qn qc, .slice ra rn rc, .slice sa sn sc] 38 (0, 0))) := Lib.hid ⟨by rw [hb7.block _ X6.out.2.2]; exact X6.out.1, by rw [hb7.block _ (Array.getElem?_eq_some_iff.1 X6.out.2.1).1]; exact X6.out.2.1⟩
  obtain ⟨gp, hgp⟩ : ∃ g, goodP a b c = g := ⟨_, rfl⟩
  rw [hgp]
  have GP := Lib.hid hgp
  clear hb7 c0 c1 c2 hgp B7 X6 X5 X4 X3 Z3 Z4 Z5 Z6
  go_wp2_with fail
  go_loopw [10, 49] (fun g i w' => ∃ k : Nat, k ≤ ts.length ∧ i = .int .i64 k ∧ g = .bool (gp && (ts.take k).all gT) ∧ Below w7.heap.size w7 w') (fun _ i _ => ts.length - (intOf i).toNat)
  case atStart => exact ⟨0, Nat.zero_le _, rfl, by simp, Below.refl _ _⟩
  case round =>
    obtain ⟨k, hk, rfl, rfl, hbl⟩ := hrel
    have BL := Lib.hid hbl
    by_cases hkl : k < ts.length
    · have f1 : decide ((k : Int) < (ts.length : Int)) = true := by rw [decide_eq_true_eq]; omega
      have f2 : decide (k < ts.length) = true := by rw [decide_eq_true_eq]; omega
      obtain ⟨bb, off, rfl, hc1, hc2⟩ := HT.out k hkl
      have hc1' := cell_old hbl (cell_old Z7.out hc1)
      have hc2' := cell_old hbl (cell_old Z7.out hc2)
      have ST := Lib.hid (all_step hkl)
      generalize hq : ts[k] = q at *
      obtain ⟨ta, tb⟩ := q
      simp only at hc1' hc2'
      obtain ⟨gk, hgk⟩ : ∃ g, (gp && (ts.take k).all gT) = g := ⟨_, rfl⟩
      rw [hgk]
      have GK := Lib.hid hgk
      clear hc1 hc2 hbl hq hgk
      have ba : Below wr.heap.size wr (wr.alloc (.cells #[.int .i64 ta, .int .i64 tb] 27)) := (Below.refl _ _).alloc (Nat.le_refl _) _
      have BA := Lib.hid (BL.out.trans (ba.mono BL.out.size))
      clear ba
      cases gk
      · go_wp2_with fail
        go_roundw
        case rel => exact ⟨k + 1, by omega, by go_num, by rw [ST.out, ← Bool.and_assoc, GK.out]; rfl, BA.out⟩
        case measure => simp [intOf]; omega
      · go_wp2_with fail
        refine (goodT_any ta tb _).mono ?_
        rintro e w8 ⟨rfl, hb8⟩
        have B8 := Lib.hid (BA.out.trans (hb8.mono BA.out.size))
        clear hb8
        go_wp2_with fail
        go_roundw
        case rel => exact ⟨k + 1, by omega, by go_num, by rw [ST.out, ← Bool.and_assoc, GK.out]; rfl, B8.out⟩
        case measure => simp [intOf]; omega
    · obtain rfl : k = ts.length := by omega
      have f1 : decide ((ts.length : Int) < (ts.length : Int)) = false := by rw [decide_eq_false_iff_not]; omega
      rw [List.take_length]
      obtain ⟨gg, hgg⟩ : ∃ g, (gp && ts.all gT) = g := ⟨_, rfl⟩
      rw [hgg]
      have GG := Lib.hid hgg
      clear hgg
      have Z8 : Hid (Below w.heap.size w wr) := Lib.hid (Z7.out.trans (hbl.mono Z7.out.size))
      have B58 : Hid (Below w5.heap.size w5 wr) := Lib.hid (B57.out.trans (hbl.mono B57.out.size))
      have X8 : Hid (wr.heap[w.heap.size]? = some (.cells #[u, v, x] 33 (0, 0)) ∧ wr.heap[w5.heap.size]? = some (.cells #[.slice qa qn qc, .slice ra rn rc, .slice sa sn sc] 38 (0, 0))) := Lib.hid ⟨by rw [hbl.block _ (Array.getElem?_eq_some_iff.1 X7.out.1).1]; exact X7.out.1, by rw [hbl.block _ (Array.getElem?_eq_some_iff.1 X7.out.2).1]; exact X7.out.2⟩
      have c0 : wr.cell? ⟨w.heap.size, 0, none⟩ = some u := by rw [cell_of_row _ _ 0 _ _ _ X8.out.1]; rfl
      have c1 : wr.cell? ⟨w.heap.size, 1, none⟩ = some v := by rw [cell_of_row _ _ 1 _ _ _ X8.out.1]; rfl
      have c2 : wr.cell? ⟨w.heap.size, 2, none⟩ = some x := by rw [cell_of_row _ _ 2 _ _ _ X8.out.1]; rfl
      have d0 : wr.cell? ⟨w5.heap.size, 0, none⟩ = some (.slice qa qn qc) := by rw [cell_of_row _ _ 0 _ _ _ X8.out.2]; rfl
      have e1 : wr.cell? ⟨w5.heap.size, 1, none⟩ = some (.slice ra rn rc) := by rw [cell_of_row _ _ 1 _ _ _ X8.out.2]; rfl
      have e2 : wr.cell? ⟨w5.heap.size, 2, none⟩ = some (.slice sa sn sc) := by rw [cell_of_row _ _ 2 _ _ _ X8.out.2]; rfl
      clear hbl BL B57 Z7
      go_wp2_with fail
      refine (kept_any _ _ _ u v x a b c g1 g2 g3 wr (CU.out.old B58.out) (CV.out.old B58.out) (CX.out.old B58.out) (HU.out.old Z8.out) (HV.out.old Z8.out) (HX.out.old Z8.out) L3.out.1 L3.out.2.1 L3.out.2.2).mono ?_
      rintro e w9 ⟨rfl, hb9⟩
      have Z9 : Hid (Below w.heap.size w w9) := Lib.hid (Z8.out.trans (hb9.mono Z8.out.size))
      have X9 : Hid (w9.heap[w.heap.size]? = some (.cells #[u, v, x] 33 (0, 0))) := Lib.hid (by rw [hb9.block _ (Array.getElem?_eq_some_iff.1 X8.out.1).1]; exact X8.out.1)
      clear hb9 c0 c1 c2 d0 e1 e2 X8 Z8 B58
      cases gg
      · have hea : ea = 0 ∧ eb = 6 := by
          have h := HE.out
          unfold priceA at h
          rw [GP.out, GG.out] at h
          simp at h
          exact ⟨h.1.symm, h.2.symm⟩
        obtain ⟨rfl, rfl⟩ := hea
        clear HE
        go_wp2_with fail
        refine (is_any 6 6 _).mono ?_
        rintro e w10 ⟨rfl, rfl⟩
        go_wp2_with fail
        go_ret
        exact ⟨rfl, Z9.out⟩
      · have hgg : gp = true ∧ ts.all gT = true := by have h := GG.out; rw [Bool.and_eq_true] at h; exact h
        have hsum : sumT a b c ts = ea ∧ eb = 0 := by
          have h := HE.out
          unfold priceA at h
          rw [GP.out, GG.out] at h
          simp at h
          exact ⟨h.1, h.2.symm⟩
        obtain ⟨hs0, rfl⟩ := hsum
        have HS0 := Lib.hid hs0
        have GA := Lib.hid hgg
        have c0 : w9.cell? ⟨w.heap.size, 0, none⟩ = some u := by rw [cell_of_row _ _ 0 _ _ _ X9.out]; rfl
        have c1 : w9.cell? ⟨w.heap.size, 1, none⟩ = some v := by rw [cell_of_row _ _ 1 _ _ _ X9.out]; rfl
        have c2 : w9.cell? ⟨w.heap.size, 2, none⟩ = some x := by rw [cell_of_row _ _ 2 _ _ _ X9.out]; rfl
        clear HE hs0 hgg
        simp only [errV_zero]
        go_wp2_with fail
        go_loopw [13, 73] (fun s i w' => ∃ k : Nat, k ≤ ts.length ∧ i = .int .i64 k ∧ s = .int .i64 (sumT a b c (ts.take k)) ∧ Below w9.heap.size w9 w') (fun _ i _ => ts.length - (intOf i).toNat)
        case atStart => exact ⟨0, Nat.zero_le _, rfl, by rw [List.take_zero, sumT_nil], Below.refl _ _⟩
        case round =>
          obtain ⟨k, hk, rfl, rfl, hbl⟩ := hrel
          have BL := Lib.hid hbl
          have C0 := cell_old hbl c0
          have C1 := cell_old hbl c1
          have C2 := cell_old hbl c2
          have hall : (ts.take k).all gT = true := by
            rw [List.all_eq_true]
            intro t ht
            exact List.all_eq_true.1 GA.out.2 t (List.mem_of_mem_take ht)
          have hsb := sumT_in (GP.out.trans GA.out.1) _ hall
          have hle : ((ts.take k).length : Int) ≤ 3000 := by rw [List.length_take]; omega
          obtain ⟨s, hs⟩ : ∃ s, sumT a b c (ts.take k) = s := ⟨_, rfl⟩
          rw [hs] at hsb ⊢
          have HS := Lib.hid hs
          have hs1 : 0 ≤ s ∧ s ≤ 6291456000 := by omega
          clear hall hs hsb hle
          by_cases hkl : k < ts.length
          · have f1 : decide ((k : Int) < (ts.length : Int)) = true := by rw [decide_eq_true_eq]; omega
            have f2 : decide (k < ts.length) = true := by rw [decide_eq_true_eq]; omega
            obtain ⟨bb, off, rfl, hc1, hc2⟩ := HT.out k hkl
            have hc1' := cell_old hbl (cell_old Z9.out hc1)
            have hc2' := cell_old hbl (cell_old Z9.out hc2)
            have hg : gT ts[k] = true := List.all_eq_true.1 GA.out.2 _ (List.getElem_mem hkl)
            have SP : Hid (sumT a b c (ts.take (k + 1)) = s + prT a b c ts[k]) := Lib.hid (by rw [List.take_succ_eq_append_getElem hkl, sumT_app, HS.out])
            have pi := prT_in (GP.out.trans GA.out.1) (t := ts[k]) hg
            have HG := Lib.hid hg
            generalize hq : ts[k] = q at *
            obtain ⟨ta, tb⟩ := q
            simp only at hc1' hc2'
            obtain ⟨p, hp⟩ : ∃ p, prT a b c (ta, tb) = p := ⟨_, rfl⟩
            rw [hp] at pi SP
            have HP := Lib.hid hp
            have ba : Below wr.heap.size wr (wr.alloc (.cells #[.int .i64 ta, .int .i64 tb] 27)) := (Below.refl _ _).alloc (Nat.le_refl _) _
            have D0 := cell_old ba C0
            have D1 := cell_old ba C1
            have D2 := cell_old ba C2
            have ZA := Lib.hid (Z9.out.trans ((hbl.trans (ba.mono hbl.size)).mono Z9.out.size))
            have BA := Lib.hid (hbl.trans (ba.mono hbl.size))
            clear hc1 hc2 hg hq hp hbl ba C0 C1 C2
            go_wp2_with fail
            refine (refPrice_any u v x a b c ta tb _ (HU.out.old ZA.out) (HV.out.old ZA.out) (HX.out.old ZA.out) (GP.out.trans GA.out.1) HG.out).mono ?_
            rintro e w10 ⟨rfl, hb10⟩
            rw [HP.out]
            have B10 := Lib.hid (BA.out.trans (hb10.mono BA.out.size))
            clear hb10 D0 D1 D2
            go_wp2_with fail
            go_roundw
            case rel => exact ⟨k + 1, by omega, by go_num, by rw [SP.out], B10.out⟩
            case measure => simp [intOf]; omega
          · obtain rfl : k = ts.length := by omega
            have f1 : decide ((ts.length : Int) < (ts.length : Int)) = false := by rw [decide_eq_false_iff_not]; omega
            have hes : ea = s := by have h1 := HS.out; have h2 := HS0.out; rw [List.take_length] at h1; rw [← h1, ← h2]
            obtain rfl := hes
            have f3 : (ea == ea) = true := by rw [beq_self_eq_true]
            have ZF : Hid (Below w.heap.size w wr) := Lib.hid (Z9.out.trans (hbl.mono Z9.out.size))
            clear hbl BL
            go_wp2_with fail
            go_ret
            exact ⟨rfl, ZF.out⟩
end Go.Proofs.Ytheomjoadgfkeaa
