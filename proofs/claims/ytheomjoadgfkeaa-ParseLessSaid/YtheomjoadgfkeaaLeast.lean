/- The document's price of the cheapest parse, walked. By an AI agent. -/
import Derived.Test.YtheomjoadgfkeaaLeastP
import Derived.Test.YtheomjoadgfkeaaNear
import Derived.Test.YtheomjoadgfkeaaQT
import Derived.Deep.QuietTactic
import Derived.BigQuiet
namespace Go.Proofs.Ytheomjoadgfkeaa
open Go.RowKit Go.Shelf
set_option linter.unusedVariables false
set_option linter.unusedSimpArgs false

theorem keepL {w2 W W' : World} {p1 p2 p3 p4 p5 : Addr} {v1 v2 v3 v4 v5 : Value} (h : W.cell? p1 = some v1 ∧ W.cell? p2 = some v2 ∧ W.cell? p3 = some v3 ∧ W.cell? p4 = some v4 ∧ W.cell? p5 = some v5 ∧ Below w2.heap.size w2 W) (hb : Below W.heap.size W W') : W'.cell? p1 = some v1 ∧ W'.cell? p2 = some v2 ∧ W'.cell? p3 = some v3 ∧ W'.cell? p4 = some v4 ∧ W'.cell? p5 = some v5 ∧ Below w2.heap.size w2 W' := by
  obtain ⟨h1, h2, h3, h4, h5, h7⟩ := h
  exact ⟨cell_old hb h1, cell_old hb h2, cell_old hb h3, cell_old hb h4, cell_old hb h5, h7.trans (hb.mono h7.size)⟩
theorem priceN_any (u v x : Value) (a b c : List Int) (t1 : Int) (n d : Nat) (h1 : t1 = (n : Int)) (w : World) (hu : Ns w u a) (hv : Ns w v b) (hx : Ns w x c) (hg : goodP a b c = true) (ht : goodT (n : Int) (d : Int) = true) :
    Calls Try.prog 20 #[.agg #[u, v, x], .agg #[.int .i64 t1, .int .i64 (d : Int)]] w fun e w' => e = .returned (.int .i64 (costN a b c (n, d))) ∧ Below w.heap.size w w' := by
  subst h1
  have e : costN a b c (n, d) = prT a b c ((n : Int), (d : Int)) := rfl
  rw [e]
  exact refPrice_any u v x a b c _ _ w hu hv hx hg ht
structure LeastS (R g : Nat) (u v x : Value) (cost : Nat × Nat → Int) (l : List UInt8) (w : World) (j : Nat) (V : World) : Prop where
  below : Below R w V
  pr : V.heap[R]? = some (.cells #[u, v, x] 33 (0, 0))
  row : V.rowIs g 3 (l.length + 1) (rowL cost l j)
theorem LeastS.low {R g : Nat} {u v x : Value} {cost : Nat × Nat → Int} {l : List UInt8} {w : World} {j : Nat} {V X : World} (h : LeastS R g u v x cost l w j V) (hb : Below V.heap.size V X) (hR : R ≤ V.heap.size) : LeastS R g u v x cost l w j X :=
  ⟨h.below.trans (hb.mono hR), (hb.block _ (Array.getElem?_eq_some_iff.1 h.pr).1).trans h.pr, h.row.of_block (hb.block _ h.row.lt)⟩

set_option maxRecDepth 100000 in
set_option maxHeartbeats 8000000 in
theorem least_any (tv u v x : Value) (l : List UInt8) (a b c : List Int) (w : World) (hb : Bs w tv l) (hl : l.length ≤ 1000000) (hu : Ns w u a) (hv : Ns w v b) (hx : Ns w x c) (hg : goodP a b c = true) :
    Calls Try.prog 29 #[tv, .agg #[u, v, x]] w fun e w' => e = .returned (.int .i64 (leastAt (costN a b c) l 0)) ∧ Below w.heap.size w w' := by
  obtain ⟨la, lb, lc, _⟩ := goodP_lens hg
  obtain ⟨R, hR⟩ : ∃ R, w.heap.size = R := ⟨_, rfl⟩
  have HOLD : Hid (∀ V, Below R w V → Bs V tv l ∧ Ns V u a ∧ Ns V v b ∧ Ns V x c) := Lib.hid (fun V h => by rw [← hR] at h; exact ⟨hb.old h, hu.old h, hv.old h, hx.old h⟩)
  have HG := Lib.hid hg
  obtain ⟨av, cap, rfl⟩ := hb.len
  obtain ⟨au, cu, rfl, hcu⟩ := hu.read
  obtain ⟨bu, ou, rfl, _⟩ := hcu 0 (by omega)
  have HRR := Lib.hid hR
  have LA := Lib.hid la
  have HOLD2 : Hid (∀ V, Below R w V → Bs V (.slice av l.length cap) l ∧ Ns V (.slice (some ⟨bu, ou, none⟩) 256 cu) a ∧ Ns V v b ∧ Ns V x c) := Lib.hid (fun V h => by have hh := HOLD.out V h; rw [la] at hh; exact hh)
  clear HOLD
  obtain ⟨O, M1, hr⟩ := mkRow (l.length + 1) (by omega)
  have RO := Lib.hid hr
  rw [show ((l.length + 1 : Nat) : Int) = (l.length : Int) + 1 by omega] at M1
  clear hb hu hv hx hg hcu hr
  go_enter Try.func29, Try.ntmps29
  rw [la]
  go_wp2_with fail
  clear hR M1
  obtain ⟨w2, hw2⟩ : ∃ w2, w2 = (w.alloc (.cells #[.slice (some ⟨bu, ou, none⟩) 256 cu, v, x] 33)).alloc O := ⟨_, rfl⟩
  rw [← hw2]
  have s2 : Hid (R + 2 ≤ w2.heap.size) := Lib.hid (by rw [hw2]; simp [HRR.out])
  have I0 : Hid (LeastS R (R + 1) (.slice (some ⟨bu, ou, none⟩) 256 cu) v x (costN a b c) l w l.length w2) := Lib.hid (by
    refine ⟨?_, ?_, ?_⟩
    · rw [hw2, ← HRR.out]; exact ((Below.refl _ _).alloc (Nat.le_refl _) _).alloc (by simp) _
    · rw [hw2, ← HRR.out]; exact heap_new0 _ _ _
    · have h := RO.out (w.alloc (.cells #[.slice (some ⟨bu, ou, none⟩) 256 cu, v, x] 33))
      rw [World.size_alloc, HRR.out, ← hw2] at h
      refine World.rowIs.congr h (fun i hi => ?_)
      unfold rowL
      by_cases c0 : l.length ≤ i
      · obtain rfl : i = l.length := by omega
        rw [if_pos c0, least_end]
      · rw [if_neg c0])
  clear hw2 RO
  go_loopw [6] (fun p w' => ∃ j : Nat, j ≤ l.length ∧ p = .int .i64 ((j : Int) - 1) ∧ R + 2 ≤ w'.heap.size ∧ LeastS R (R + 1) (.slice (some ⟨bu, ou, none⟩) 256 cu) v x (costN a b c) l w j w') (fun p _ => (intOf p + 1).toNat)
  case atStart => exact ⟨l.length, Nat.le_refl _, rfl, s2.out, I0.out⟩
  case round =>
    obtain ⟨j, hj, rfl, hsz, hS⟩ := hrel
    clear s2 I0
    by_cases hj0 : 1 ≤ j
    · obtain ⟨q, rfl⟩ : ∃ q, j = q + 1 := ⟨j - 1, by omega⟩
      rw [show ((q + 1 : Nat) : Int) - 1 = (q : Int) by omega]
      have hql : q < l.length := by omega
      have hs0 := hS.below
      obtain ⟨_, _, hcap, hrd⟩ := (HOLD2.out wr hs0).1.read
      simp only [Value.slice.injEq] at hcap
      obtain ⟨rfl, -, rfl⟩ := hcap
      obtain ⟨tb, toff, rfl, htx⟩ := hrd q hql
      have EX : l.getD q 0 = l[q] := by rw [List.getD_eq_getElem?_getD, List.getElem?_eq_getElem hql]; rfl
      have hby := l[q].toNat_lt
      obtain ⟨y, hy⟩ : ∃ y, l[q] = y := ⟨_, rfl⟩
      rw [hy] at htx EX hby
      obtain ⟨b', o', c', he, hcy⟩ := ns_cell (HOLD2.out wr hs0).2.1 (k := y.toNat) (by rw [LA.out]; omega)
      simp only [Value.slice.injEq, Option.some.injEq, Addr.mk.injEq] at he
      obtain ⟨⟨rfl, rfl, -⟩, -, rfl⟩ := he
      have EC : a.getD y.toNat 0 = costN a b c (litT l q) := by
        unfold costN prT litT
        rw [EX, if_pos (by rfl)]
        rfl
      rw [EC] at hcy
      have c0 : wr.cell? ⟨R, 0, none⟩ = some (.slice (some ⟨bu, ou, none⟩) 256 cu) := by rw [cell_of_row _ _ 0 _ _ _ hS.pr]; rfl
      have c1 : wr.cell? ⟨R + 1, q + 1, none⟩ = some (.int .i64 (leastAt (costN a b c) l (q + 1))) := by rw [World.rowIs.cell hS.row (by omega)]; unfold rowL; rw [if_pos (Nat.le_refl _)]
      have B0 := best_in HG.out hql 0
      have EB := best_0 (costN a b c) l q
      obtain ⟨z1, hz1⟩ : ∃ z1, costN a b c (litT l q) = z1 := ⟨_, rfl⟩
      obtain ⟨z2, hz2⟩ : ∃ z2, leastAt (costN a b c) l (q + 1) = z2 := ⟨_, rfl⟩
      rw [hz1] at EB hcy
      rw [hz2] at EB c1
      rw [EB] at B0
      have EBH := Lib.hid EB
      have HS := Lib.hid hS
      have d1 : (q : Int) < (l.length : Int) := by omega
      have d2 : (y.toNat : Int) < 256 := by omega
      have d3 : (q : Int) + 1 < (l.length : Int) + 1 := by omega
      have d4 : IntKind.i64.wrap (z1 + z2) = z1 + z2 := by rw [IntWalk.i64_in _ (by omega)]
      have d5 : decide ((0 : Int) ≤ (q : Int)) = true := by rw [decide_eq_true_eq]; omega
      clear hrd hs0 hS EX hy EC hz1 hz2 EB
      go_wp2_with fail
      go_quiet (fail)
      go_wp2_with fail
      have bq : Below wr.heap.size wr (wr.drewN nq) := below_drewN (Below.refl _ _) nq
      have hRw : R ≤ wr.heap.size := by omega
      refine (refNear_any _ l (q : Int) (wr.drewN nq) (HOLD2.out _ (HS.out.below.trans (bq.mono hRw))).1 (by omega)).mono ?_
      rintro e w5 ⟨v5, rfl, hn5, hb5, _⟩
      have en : (nearI l q) = (nearL l q).map fun d : Nat => (d : Int) := if_pos ⟨by omega, by omega⟩
      have b5 : Below wr.heap.size wr w5 := bq.trans (hb5.mono bq.size)
      have HS5 := Lib.hid (HS.out.low b5 hRw)
      have HZ5 : Hid (R + 2 ≤ w5.heap.size) := Lib.hid (Nat.le_trans hsz b5.size)
      obtain ⟨a5, c5, rfl, hx5⟩ := hn5.read
      have eL : (nearI l q).length = (edgesL l q).length := by rw [en, List.length_map, edge_count hql]
      have HX5 : Hid (∀ i (h : i < (edgesL l q).length), ∃ b off d, a5 = some ⟨b, off, none⟩ ∧ (edgesL l q)[i]? = some (3 + i, d) ∧ w5.cell? ⟨b, off + i, none⟩ = some (.int .i64 (d : Int))) := Lib.hid (fun i h => by
        have h' : i < (nearI l q).length := by omega
        obtain ⟨b, off, e1, e2⟩ := hx5 i h'
        have h'' : i < (nearL l q).length := by rw [en, List.length_map] at h'; exact h'
        refine ⟨b, off, (nearL l q)[i], e1, by rw [edge_at hql, List.getElem?_eq_getElem h'']; rfl, ?_⟩
        rw [e2]
        have e3 : (nearI l q)[i]? = some (((nearL l q)[i] : Nat) : Int) := by rw [en, List.getElem?_map, List.getElem?_eq_getElem h'']; rfl
        rw [List.getElem?_eq_getElem h'] at e3
        rw [Option.some.inj e3])
      rw [eL]
      clear bq hn5 hb5 en b5 hx5 eL HS c0 c1 hcy htx
      go_wp2_with fail
      go_loopw [7, 9] (fun best p w' => ∃ i : Nat, i ≤ (edgesL l q).length ∧ p = .int .i64 (i : Int) ∧ best = .int .i64 (bestF (costN a b c) l q i) ∧ Below w5.heap.size w5 w') (fun _ p _ => (edgesL l q).length - (intOf p).toNat)
      case atStart => exact ⟨0, Nat.zero_le _, rfl, by rw [EBH.out], Below.refl _ _⟩
      case round =>
        obtain ⟨i, hi, rfl, rfl, hbw⟩ := hrel
        by_cases hiL : i < (edgesL l q).length
        · obtain ⟨b6, o6, d, rfl, hed, hcl⟩ := HX5.out i hiL
          have hst : Step l q (3 + i, d) := .inr (List.mem_of_getElem? hed)
          have hel := edge_len (List.mem_of_getElem? hed)
          simp only at hel
          have hS6 := HS5.out.low hbw (by have := HZ5.out; omega)
          have g0 := cell_old hbw hcl
          have p0 : wr.cell? ⟨R, 0, none⟩ = some (.slice (some ⟨bu, ou, none⟩) 256 cu) := by rw [cell_of_row _ _ 0 _ _ _ hS6.pr]; rfl
          have p1 : wr.cell? ⟨R, 1, none⟩ = some v := by rw [cell_of_row _ _ 1 _ _ _ hS6.pr]; rfl
          have p2 : wr.cell? ⟨R, 2, none⟩ = some x := by rw [cell_of_row _ _ 2 _ _ _ hS6.pr]; rfl
          have r0 : wr.cell? ⟨R + 1, q + 3 + i, none⟩ = some (.int .i64 (leastAt (costN a b c) l (q + (3 + i)))) := by
            rw [World.rowIs.cell hS6.row (by omega)]
            unfold rowL
            rw [if_pos (by omega), Nat.add_assoc]
          have hz6 : R ≤ wr.heap.size := by have := HZ5.out; have := hbw.size; omega
          have HPR : Hid (∀ V, Below wr.heap.size wr V → Calls Try.prog 20 #[.agg #[.slice (some ⟨bu, ou, none⟩) 256 cu, v, x], .agg #[.int .i64 (3 + (i : Int)), .int .i64 (d : Int)]] V fun e w' => e = .returned (.int .i64 (costN a b c (3 + i, d))) ∧ Below V.heap.size V w') := Lib.hid (fun V hV => by
            have hh := HOLD2.out V (hS6.below.trans (hV.mono hz6))
            exact priceN_any _ _ _ a b c (3 + (i : Int)) (3 + i) d (by omega) V hh.2.1 hh.2.2.1 hh.2.2.2 HG.out (step_good hst))
          have BI := best_in HG.out hql i
          have BN := best_succ (costN a b c) l q i _ hed
          unfold betterF at BN
          have LI := least_in HG.out (l := l) (l.length - (q + (3 + i))) (q + (3 + i)) (by omega)
          have CP := prT_in HG.out (t := (((3 + i : Nat) : Int), (d : Int))) (step_good hst)
          change 0 ≤ costN a b c (3 + i, d) ∧ costN a b c (3 + i, d) ≤ 2097152 at CP
          obtain ⟨z3, hz3⟩ : ∃ z, costN a b c (3 + i, d) = z := ⟨_, rfl⟩
          obtain ⟨z4, hz4⟩ : ∃ z, leastAt (costN a b c) l (q + (3 + i)) = z := ⟨_, rfl⟩
          obtain ⟨z5, hz5⟩ : ∃ z, bestF (costN a b c) l q i = z := ⟨_, rfl⟩
          simp only at BN
          rw [hz3] at HPR BN CP
          rw [hz4] at BN LI r0
          rw [hz5] at BN BI ⊢
          have HBN := Lib.hid BN
          have HBW := Lib.hid hbw
          have e1 : (q : Int) + 3 + (i : Int) < (l.length : Int) + 1 := by omega
          have e2 : decide ((i : Int) < ((edgesL l q).length : Int)) = true := by rw [decide_eq_true_eq]; omega
          have e3 : (i : Int) < ((edgesL l q).length : Int) := by omega
          have e4 : decide (i < (edgesL l q).length) = true := by rw [decide_eq_true_eq]; omega
          have e5 : IntKind.i64.wrap (z3 + z4) = z3 + z4 := by rw [IntWalk.i64_in _ (by omega)]
          have hil : i ≤ 300 := by omega
          have e6 : IntKind.i64.wrap (3 + (i : Int)) = 3 + (i : Int) := by rw [IntWalk.i64_in _ (by omega)]
          have e7 : IntKind.i64.wrap ((q : Int) + 3) = (q : Int) + 3 := by rw [IntWalk.i64_in _ (by omega)]
          have e8 : IntKind.i64.wrap ((q : Int) + 3 + (i : Int)) = (q : Int) + 3 + (i : Int) := by rw [IntWalk.i64_in _ (by omega)]
          have e9 : ((q : Int) + 3 + (i : Int)).toNat = q + 3 + i := by omega
          obtain ⟨L, hL⟩ : ∃ L, (edgesL l q).length = L := ⟨_, rfl⟩
          rw [hL] at e2 e3 e4 hi hiL ⊢
          clear hed hst hel hS6 BN hbw hz3 hz4 hz5 hcl
          go_wp2_with fail
          refine wp_region_q (fun W => W.cell? ⟨R, 0, none⟩ = some (.slice (some ⟨bu, ou, none⟩) 256 cu) ∧ W.cell? ⟨R, 1, none⟩ = some v ∧ W.cell? ⟨R, 2, none⟩ = some x ∧ W.cell? ⟨b6, o6 + i, none⟩ = some (.int .i64 (d : Int)) ∧ W.cell? ⟨R + 1, q + 3 + i, none⟩ = some (.int .i64 z4) ∧ Below wr.heap.size wr W) (by kernel_rfl) (by kernel_rfl) ⟨p0, p1, p2, g0, r0, (Below.refl _ _).drew⟩ ?_
          clear p0 p1 p2 g0 r0
          repeat
            refine wpQuiet_step (fun K hK => ?_)
            rw [if_pos (by rfl)]
            apply Exists.intro
            refine ⟨fun X hX => ?_, hK _ ?_⟩
            · have hXX := Lib.hid hX
              obtain ⟨x1, x2, x3, x4, x5, x6⟩ := hX
              have HX6 := Lib.hid x6
              clear x6
              unfold Oper.quietAt
              go_simp
              first
              | (go_at_call 20; exact (HPR.out _ HX6.out).mono (fun e W' ⟨h1, h2⟩ => ⟨h1, keepL hXX.out h2⟩))
              | exact ⟨rfl, rfl⟩
              | exact rfl
            clear hK K
            try simp only [Act.put, List.setIfInBounds_toArray, List.set_cons_zero, List.set_cons_succ]
          refine wpQuiet_nil ?_
          rintro X ⟨-, -, -, -, -, hbX⟩
          have HBX := Lib.hid hbX
          clear hbX
          have HL := Lib.hid hL
          by_cases hlt : z3 + z4 < z5
          · have l1 : decide (z3 + z4 < z5) = true := by rw [decide_eq_true_eq]; exact hlt
            have BE : Hid (bestF (costN a b c) l q (i + 1) = z3 + z4) := Lib.hid (by rw [HBN.out, if_pos hlt])
            clear hL
            go_wp2_with fail
            go_roundw
            case rel => exact ⟨i + 1, by have := HL.out; omega, by go_num, by rw [BE.out], HBW.out.trans (HBX.out.mono HBW.out.size)⟩
            case measure => have := HL.out; simp [intOf]; omega
          · have l1 : decide (z3 + z4 < z5) = false := by rw [decide_eq_false_iff_not]; exact hlt
            have BE : Hid (bestF (costN a b c) l q (i + 1) = z5) := Lib.hid (by rw [HBN.out, if_neg hlt])
            clear hL
            go_wp2_with fail
            go_roundw
            case rel => exact ⟨i + 1, by have := HL.out; omega, by go_num, by rw [BE.out], HBW.out.trans (HBX.out.mono HBW.out.size)⟩
            case measure => have := HL.out; simp [intOf]; omega
        · have EI : i = (edgesL l q).length := by omega
          have e2 : decide ((i : Int) < ((edgesL l q).length : Int)) = false := by rw [decide_eq_false_iff_not]; omega
          have e4 : decide (i < (edgesL l q).length) = false := by rw [decide_eq_false_iff_not]; omega
          have EB : bestF (costN a b c) l q i = leastAt (costN a b c) l q := by rw [EI]; exact best_all _ _ _ hql
          rw [EB]
          have hS6 := HS5.out.low hbw (by have := HZ5.out; omega)
          have c0 : ∃ z, wr.cell? ⟨R + 1, q, none⟩ = some (.int .i64 z) := ⟨_, by rw [World.rowIs.cell hS6.row (by omega)]; rfl⟩
          obtain ⟨z9, c0⟩ := c0
          have c1 := World.rowIs.frozen hS6.row q
          have HS6 := Lib.hid hS6
          have HB6 := Lib.hid hbw
          obtain ⟨L, hL⟩ : ∃ L, (edgesL l q).length = L := ⟨_, rfl⟩
          rw [hL] at e2 e4 ⊢
          have d6 : decide ((q : Int) < (l.length : Int) + 1) = true := by rw [decide_eq_true_eq]; omega
          have d7 : q < l.length + 1 := by omega
          clear hS6 hbw EB EI hL
          go_wp2_with fail
          go_roundw
          case rel =>
            refine ⟨q, by omega, by go_num, by have := HZ5.out; have := HB6.out.size; simp; omega, ⟨HS6.out.below.setCell (p := ⟨R + 1, q, none⟩) (by simp only; omega) _, ?_, ?_⟩⟩
            · rw [Go.Deep.blk_setCell_other _ _ _ _ (by simp only; omega)]; exact HS6.out.pr
            · refine World.rowIs.congr (World.rowIs.set HS6.out.row q _) (fun i hi => ?_)
              unfold rowL
              by_cases e : i = q
              · rw [if_pos e, if_pos (by omega), e]
              · rw [if_neg e]
                by_cases e3 : q + 1 ≤ i
                · rw [if_pos e3, if_pos (by omega)]
                · rw [if_neg e3, if_neg (by omega)]
          case measure => simp [intOf]
    · obtain rfl : j = 0 := by omega
      have c1 : wr.cell? ⟨R + 1, 0, none⟩ = some (.int .i64 (leastAt (costN a b c) l 0)) := by rw [World.rowIs.cell hS.row (by omega)]; unfold rowL; rw [if_pos (Nat.le_refl _)]
      have HBW := Lib.hid hS.below
      clear hS
      go_wp2_with fail
      go_ret
      exact ⟨rfl, by rw [HRR.out]; exact HBW.out⟩
end Go.Proofs.Ytheomjoadgfkeaa
