/- burnishref09.Prices.Price, parse.Prices.of, parse.Price walked. By an AI agent. -/
import Derived.Test.YtheomjoadgfkeaaSound
import Derived.Test.YtheomjoadgfkeaaGoodT
import Derived.Test.YtheomjoadgfkeaaQT
import Derived.Deep.RegionHeld3
import Derived.RegionTactic
namespace Go.Proofs.Ytheomjoadgfkeaa
open Go.RowKit
set_option linter.unusedVariables false
set_option linter.unusedSimpArgs false

def prT (a b c : List Int) (t : Int × Int) : Int := if t.1 = 0 then a.getD t.2.toNat 0 else b.getD t.1.toNat 0 + c.getD (symN distsN t.2.toNat) 0

theorem goodP_lens {a b c : List Int} (h : goodP a b c = true) : a.length = 256 ∧ b.length = 259 ∧ c.length = 30 ∧ withinL a = true ∧ withinL b = true ∧ withinL c = true := by
  simp only [goodP, Bool.and_eq_true, decide_eq_true_eq] at h
  exact ⟨h.1.1.1.1.1, h.1.1.1.1.2, h.1.1.1.2, h.1.1.2, h.1.2, h.2⟩
theorem getD_in {l : List Int} {k : Nat} (h : withinL l = true) (hk : k < l.length) : 0 ≤ l.getD k 0 ∧ l.getD k 0 ≤ 1048576 := by
  rw [List.getD_eq_getElem?_getD, List.getElem?_eq_getElem hk]
  exact withinL_get h k hk
theorem ns_cell {w : World} {v : Value} {l : List Int} (h : Ns w v l) {k : Nat} (hk : k < l.length) : ∃ b off cap, v = .slice (some ⟨b, off, none⟩) l.length cap ∧ w.cell? ⟨b, off + k, none⟩ = some (.int .i64 (l.getD k 0)) := by
  obtain ⟨av, cap, rfl, hc⟩ := h.read
  obtain ⟨b, off, rfl, hx⟩ := hc k hk
  refine ⟨b, off, cap, rfl, ?_⟩
  rw [hx, List.getD_eq_getElem?_getD, List.getElem?_eq_getElem hk]
  rfl
theorem prT_in {a b c : List Int} (h : goodP a b c = true) {t : Int × Int} (ht : goodT t.1 t.2 = true) : 0 ≤ prT a b c t ∧ prT a b c t ≤ 2097152 := by
  obtain ⟨h1, h2, h3, h4, h5, h6⟩ := goodP_lens h
  unfold prT
  unfold goodT at ht
  split
  · rename_i h0
    rw [if_pos h0, decide_eq_true_eq] at ht
    have := getD_in (k := t.2.toNat) h4 (by omega)
    omega
  · rename_i h0
    rw [if_neg h0, decide_eq_true_eq] at ht
    have x1 := getD_in (k := t.1.toNat) h5 (by omega)
    have x2 := getD_in (k := symN distsN t.2.toNat) h6 (by have := dists_lt t.2.toNat (by omega); omega)
    omega

theorem keepP {w2 W W' : World} {p1 p2 p3 p4 p5 p6 : Addr} {v1 v2 v3 v4 v5 v6 : Value} (h : W.cell? p1 = some v1 ∧ W.cell? p2 = some v2 ∧ W.cell? p3 = some v3 ∧ W.cell? p4 = some v4 ∧ W.cell? p5 = some v5 ∧ W.cell? p6 = some v6 ∧ Below w2.heap.size w2 W) (hb : Below W.heap.size W W') : W'.cell? p1 = some v1 ∧ W'.cell? p2 = some v2 ∧ W'.cell? p3 = some v3 ∧ W'.cell? p4 = some v4 ∧ W'.cell? p5 = some v5 ∧ W'.cell? p6 = some v6 ∧ Below w2.heap.size w2 W' := by
  obtain ⟨h1, h2, h3, h4, h5, h6, h7⟩ := h
  exact ⟨cell_old hb h1, cell_old hb h2, cell_old hb h3, cell_old hb h4, cell_old hb h5, cell_old hb h6, h7.trans (hb.mono h7.size)⟩

set_option maxRecDepth 20000 in
set_option maxHeartbeats 3200000 in
theorem refPrice_any (u v x : Value) (a b c : List Int) (t1 t2 : Int) (w : World) (hu : Ns w u a) (hv : Ns w v b) (hx : Ns w x c) (hg : goodP a b c = true) (ht : goodT t1 t2 = true) :
    Calls Try.prog 20 #[.agg #[u, v, x], .agg #[.int .i64 t1, .int .i64 t2]] w fun e w' => e = .returned (.int .i64 (prT a b c (t1, t2))) ∧ Below w.heap.size w w' := by
  obtain ⟨l1, l2, l3, wa, wb, wc⟩ := goodP_lens hg
  unfold goodT at ht
  have hw : Below w.heap.size w ((w.alloc (.cells #[u, v, x] 33)).alloc (.cells #[.int .i64 t1, .int .i64 t2] 27)) := ((Below.refl _ _).alloc (Nat.le_refl _) _).alloc (by simp) _
  by_cases h0 : t1 = 0
  · rw [if_pos h0, decide_eq_true_eq] at ht
    subst h0
    obtain ⟨n, rfl⟩ : ∃ n : Nat, t2 = n := ⟨t2.toNat, by omega⟩
    have hn : n < 256 := by omega
    have he : prT a b c (0, (n : Int)) = a.getD n 0 := rfl
    rw [he]
    obtain ⟨b1, o1, k1, rfl, hc1⟩ := ns_cell (hu.old hw) (k := n) (by omega)
    generalize a.getD n 0 = z at *
    have HW := Lib.hid hw
    rw [l1] at HW hc1 ⊢
    have d1 : decide (n < 256) = true := by rw [decide_eq_true_eq]; omega
    have d2 : decide ((n : Int) < 256) = true := by rw [decide_eq_true_eq]; omega
    clear hu hv hx hg hw he wa wb wc l1 l2 l3 ht
    go_enter Try.func20, Try.ntmps20
    go_wp2_with fail
    go_ret
    exact ⟨rfl, HW.out⟩
  · rw [if_neg h0, decide_eq_true_eq] at ht
    obtain ⟨m, rfl⟩ : ∃ m : Nat, t1 = m := ⟨t1.toNat, by omega⟩
    obtain ⟨n, rfl⟩ : ∃ n : Nat, t2 = n := ⟨t2.toNat, by omega⟩
    have hs : symN distsN n < 30 := dists_lt n (by omega)
    have he : prT a b c ((m : Int), (n : Int)) = b.getD m 0 + c.getD (symN distsN n) 0 := by
      unfold prT; rw [if_neg h0]; rfl
    rw [he]
    have i1 := getD_in (k := m) wb (by omega)
    have i2 := getD_in (k := symN distsN n) wc (by omega)
    obtain ⟨b1, o1, k1, rfl, hc1⟩ := ns_cell (hv.old hw) (k := m) (by omega)
    obtain ⟨b2, o2, k2, rfl, hc2⟩ := ns_cell (hx.old hw) (k := symN distsN n) (by omega)
    have HD := Lib.hid (fun W => refDist_any n W (by omega) (by omega))
    obtain ⟨a1, k0, rfl⟩ := hu.len
    generalize b.getD m 0 = y at *
    generalize c.getD (symN distsN n) 0 = z at *
    rw [Nat.zero_add] at HD
    generalize symN distsN n = s at *
    have d0 : ((m : Int) == 0) = false := by rw [beq_eq_false_iff_ne]; omega
    have d0' : (m == 0) = false := by rw [beq_eq_false_iff_ne]; omega
    have HW := Lib.hid hw
    rw [l2, l3] at HW hc1 hc2 ⊢
    have hm : m < 259 := by omega
    have hm' : (m : Int) < 259 := by omega
    have hm'' : decide ((m : Int) < 259) = true := by rw [decide_eq_true_eq]; omega
    have hs' : (s : Int) < 30 := by omega
    have hs'' : decide ((s : Int) < 30) = true := by rw [decide_eq_true_eq]; omega
    clear hu hv hx hg hw he wa wb wc l1 l2 l3 ht
    go_enter Try.func20, Try.ntmps20
    go_wp2_with fail
    obtain ⟨w2, hw2⟩ : ∃ w2, w2 = (w.alloc (.cells #[.slice a1 a.length k0, .slice (some ⟨b1, o1, none⟩) 259 k1, .slice (some ⟨b2, o2, none⟩) 30 k2] 33)).alloc (.cells #[.int .i64 (m : Int), .int .i64 (n : Int)] 27) := ⟨_, rfl⟩
    rw [← hw2] at HW hc1 hc2 ⊢
    have k1' : w2.cell? ⟨w.heap.size, 1, none⟩ = some (.slice (some ⟨b1, o1, none⟩) 259 k1) := by rw [hw2, cell_of_row _ w.heap.size 1 _ _ (0, 0) (heap_new0 _ _ _)]; rfl
    have k2' : w2.cell? ⟨w.heap.size, 2, none⟩ = some (.slice (some ⟨b2, o2, none⟩) 30 k2) := by rw [hw2, cell_of_row _ w.heap.size 2 _ _ (0, 0) (heap_new0 _ _ _)]; rfl
    have k3' : w2.cell? ⟨w.heap.size + 1, 0, none⟩ = some (.int .i64 (m : Int)) := by rw [hw2, cell_of_row _ (w.heap.size + 1) 0 _ _ (0, 0) (heap_new1 _ _ _)]; rfl
    have k4' : w2.cell? ⟨w.heap.size + 1, 1, none⟩ = some (.int .i64 (n : Int)) := by rw [hw2, cell_of_row _ (w.heap.size + 1) 1 _ _ (0, 0) (heap_new1 _ _ _)]; rfl
    clear hw2
    go_region_held3 (fun W => W.cell? ⟨w.heap.size, 1, none⟩ = some (.slice (some ⟨b1, o1, none⟩) 259 k1) ∧ W.cell? ⟨w.heap.size, 2, none⟩ = some (.slice (some ⟨b2, o2, none⟩) 30 k2) ∧ W.cell? ⟨w.heap.size + 1, 0, none⟩ = some (.int .i64 (m : Int)) ∧ W.cell? ⟨w.heap.size + 1, 1, none⟩ = some (.int .i64 (n : Int)) ∧ W.cell? ⟨b1, o1 + m, none⟩ = some (.int .i64 y) ∧ W.cell? ⟨b2, o2 + s, none⟩ = some (.int .i64 z) ∧ Below w2.heap.size w2 W) (first | exact ⟨k1', k2', k3', k4', hc1, hc2, (Below.refl _ _).drew⟩ | assumption | exact keepP (by assumption) hbx) (first | (go_at_call 11; refine (HD.out _).mono ?_; rintro e w' ⟨rfl, hbx⟩))
    all_goals
      have hfin := (show _ ∧ _ ∧ _ ∧ _ ∧ _ ∧ _ ∧ Below w2.heap.size w2 w' by assumption).2.2.2.2.2.2
      have HF := Lib.hid (HW.out.trans (hfin.mono HW.out.size))
      clear hfin
      go_wp2_with fail
      go_ret
      exact ⟨ri (by rw [IntKind.wrap_i64]; omega), HF.out⟩

set_option maxRecDepth 20000 in
set_option maxHeartbeats 3200000 in
theorem of_yes (u v x : Value) (a b c : List Int) (t1 t2 : Int) (w : World) (hu : Ns w u a) (hv : Ns w v b) (hx : Ns w x c) (hg : goodP a b c = true) (ht : goodT t1 t2 = true) :
    Calls Try.prog 36 #[.agg #[u, v, x], .agg #[.int .i64 t1, .int .i64 t2]] w fun e w' => e = .returned (.tuple #[.int .i64 (prT a b c (t1, t2)), .bool true]) ∧ Below w.heap.size w w' := by
  obtain ⟨l1, l2, l3, wa, wb, wc⟩ := goodP_lens hg
  unfold goodT at ht
  have hw : Below w.heap.size w ((w.alloc (.cells #[u, v, x] 38)).alloc (.cells #[.int .i64 t1, .int .i64 t2] 27)) := ((Below.refl _ _).alloc (Nat.le_refl _) _).alloc (by simp) _
  by_cases h0 : t1 = 0
  · rw [if_pos h0, decide_eq_true_eq] at ht
    subst h0
    obtain ⟨n, rfl⟩ : ∃ n : Nat, t2 = n := ⟨t2.toNat, by omega⟩
    have hn : n < 256 := by omega
    have he : prT a b c (0, (n : Int)) = a.getD n 0 := rfl
    rw [he]
    obtain ⟨b1, o1, k1, rfl, hc1⟩ := ns_cell (hu.old hw) (k := n) (by omega)
    generalize a.getD n 0 = z at *
    have HW := Lib.hid hw
    rw [l1] at HW hc1 ⊢
    have d1 : decide (n < 256) = true := by rw [decide_eq_true_eq]; omega
    have d2 : decide ((n : Int) < 256) = true := by rw [decide_eq_true_eq]; omega
    have d3 : decide ((256 : Int) ≤ (n : Int)) = false := by rw [decide_eq_false_iff_not]; omega
    have d4 : decide (256 ≤ n) = false := by rw [decide_eq_false_iff_not]; omega
    have d5 : decide ((n : Int) < 0) = false := by rw [decide_eq_false_iff_not]; omega
    clear hu hv hx hg hw he wa wb wc l1 l2 l3 ht
    go_enter Try.func36, Try.ntmps36
    go_wp2_with fail
    go_ret2
    exact ⟨rfl, HW.out⟩
  · rw [if_neg h0, decide_eq_true_eq] at ht
    obtain ⟨m, rfl⟩ : ∃ m : Nat, t1 = m := ⟨t1.toNat, by omega⟩
    obtain ⟨n, rfl⟩ : ∃ n : Nat, t2 = n := ⟨t2.toNat, by omega⟩
    have hs : symN distsN n < 30 := dists_lt n (by omega)
    have he : prT a b c ((m : Int), (n : Int)) = b.getD m 0 + c.getD (symN distsN n) 0 := by
      unfold prT; rw [if_neg h0]; rfl
    rw [he]
    have i1 := getD_in (k := m) wb (by omega)
    have i2 := getD_in (k := symN distsN n) wc (by omega)
    obtain ⟨b1, o1, k1, rfl, hc1⟩ := ns_cell (hv.old hw) (k := m) (by omega)
    obtain ⟨b2, o2, k2, rfl, hc2⟩ := ns_cell (hx.old hw) (k := symN distsN n) (by omega)
    have HD := Lib.hid (fun W => distSym_yes n W (by omega))
    obtain ⟨a1, k0, rfl⟩ := hu.len
    generalize b.getD m 0 = y at *
    generalize c.getD (symN distsN n) 0 = z at *
    rw [Nat.zero_add] at HD
    generalize symN distsN n = s at *
    have d0 : ((m : Int) == 0) = false := by rw [beq_eq_false_iff_ne]; omega
    have d0' : (m == 0) = false := by rw [beq_eq_false_iff_ne]; omega
    have d1 : decide ((m : Int) < 3) = false := by rw [decide_eq_false_iff_not]; omega
    have d1' : decide (m < 3) = false := by rw [decide_eq_false_iff_not]; omega
    have d2 : decide ((258 : Int) < (m : Int)) = false := by rw [decide_eq_false_iff_not]; omega
    have d2' : decide (258 < m) = false := by rw [decide_eq_false_iff_not]; omega
    have HW := Lib.hid hw
    rw [l2, l3] at HW hc1 hc2 ⊢
    have hm : m < 259 := by omega
    clear hu hv hx hg hw he wa wb wc l1 l2 l3 ht
    go_enter Try.func36, Try.ntmps36
    go_wp2_with fail
    refine (HD.out _).mono ?_
    rintro e w' ⟨rfl, rfl⟩
    go_wp2_with fail
    go_quiet (fail)
    go_wp2_with fail
    go_ret2
    exact ⟨rfl, below_drewN HW.out _⟩

set_option maxRecDepth 20000 in
set_option maxHeartbeats 3200000 in
theorem of_no (u v x : Value) (t1 t2 : Int) (w : World) (hi1 : In1 t1) (hi2 : In1 t2) (ht : goodT t1 t2 = false) :
    Calls Try.prog 36 #[.agg #[u, v, x], .agg #[.int .i64 t1, .int .i64 t2]] w fun e w' => e = .returned (.tuple #[.int .i64 0, .bool false]) ∧ Below w.heap.size w w' := by
  have hw : Below w.heap.size w ((w.alloc (.cells #[u, v, x] 38)).alloc (.cells #[.int .i64 t1, .int .i64 t2] 27)) := ((Below.refl _ _).alloc (Nat.le_refl _) _).alloc (by simp) _
  have HW := Lib.hid hw
  have c : ((t1 == 0) = true ∧ decide (t2 < 0) = true) ∨ ((t1 == 0) = true ∧ decide (t2 < 0) = false ∧ decide (256 ≤ t2) = true) ∨ ((t1 == 0) = false ∧ (t2 < 1 ∨ 32768 < t2)) ∨
      ((t1 == 0) = false ∧ (1 ≤ t2 ∧ t2 ≤ 32768) ∧ decide (t1 < 3) = true) ∨ ((t1 == 0) = false ∧ (1 ≤ t2 ∧ t2 ≤ 32768) ∧ decide (t1 < 3) = false ∧ decide (258 < t1) = true) := by
    unfold goodT at ht
    by_cases h : t1 = 0
    · rw [if_pos h, decide_eq_false_iff_not] at ht
      simp only [beq_iff_eq, beq_eq_false_iff_ne, decide_eq_true_eq, decide_eq_false_iff_not]
      omega
    · rw [if_neg h, decide_eq_false_iff_not] at ht
      simp only [beq_iff_eq, beq_eq_false_iff_ne, decide_eq_true_eq, decide_eq_false_iff_not]
      omega
  clear hw ht
  rcases c with ⟨c1, c2⟩ | ⟨c1, c2, c3⟩ | ⟨c1, c2⟩ | ⟨c1, c2, c3⟩ | ⟨c1, c2, c3, c4⟩
  · go_enter Try.func36, Try.ntmps36
    go_wp2_with fail
    go_ret2
    exact ⟨rfl, HW.out⟩
  · go_enter Try.func36, Try.ntmps36
    go_wp2_with fail
    go_ret2
    exact ⟨rfl, HW.out⟩
  · have HD := Lib.hid (fun W => distSym_no t2 W c2)
    clear c2
    go_enter Try.func36, Try.ntmps36
    go_wp2_with fail
    refine (HD.out _).mono ?_
    rintro e w' ⟨rfl, rfl⟩
    go_wp2_with fail
    go_ret2
    exact ⟨rfl, HW.out⟩
  · obtain ⟨n, rfl⟩ : ∃ n : Nat, t2 = n := ⟨t2.toNat, by omega⟩
    have HD := Lib.hid (fun W => distSym_yes n W (by omega))
    clear c2
    go_enter Try.func36, Try.ntmps36
    go_wp2_with fail
    refine (HD.out _).mono ?_
    rintro e w' ⟨rfl, rfl⟩
    go_wp2_with fail
    go_ret2
    exact ⟨rfl, HW.out⟩
  · obtain ⟨n, rfl⟩ : ∃ n : Nat, t2 = n := ⟨t2.toNat, by omega⟩
    have HD := Lib.hid (fun W => distSym_yes n W (by omega))
    clear c2
    go_enter Try.func36, Try.ntmps36
    go_wp2_with fail
    refine (HD.out _).mono ?_
    rintro e w' ⟨rfl, rfl⟩
    go_wp2_with fail
    go_ret2
    exact ⟨rfl, HW.out⟩
end Go.Proofs.Ytheomjoadgfkeaa
