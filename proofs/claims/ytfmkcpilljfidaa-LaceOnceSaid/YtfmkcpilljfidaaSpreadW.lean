/- The walk of lace.Spread. By an AI agent. -/
import Derived.Test.YtfmkcpilljfidaaSpreadQ
import Derived.Test.YtfmkcpilljfidaaSpreadR
import Derived.Test.YtfmkcpilljfidaaGrid
import Derived.Test.YtfmkcpilljfidaaApp
import Derived.Lib.LazyBuf
import Derived.Deep.Upon
namespace Go.Proofs.Ytfmkcpilljfidaa
open Go.RowKit
set_option linter.unusedVariables false
set_option linter.unusedSimpArgs false

/-- a row of the table, and which pixels its pass takes -/
def GridAt (K : Nat) (W : World) (g k : Nat) : Prop := ∃ gx dx gy dy : Nat, W.rangeAt g (k * 4) [.int .i64 (gx : Int), .int .i64 (dx : Int), .int .i64 (gy : Int), .int .i64 (dy : Int)] ∧ gx < dx ∧ gy < dy ∧ dx ≤ 8 ∧ dy ≤ 8 ∧ ∀ x y, selP K k x y = (x % dx == gx && y % dy == gy)
theorem grid_row_1 (W : World) (g k : Nat) (hk : k < 7) {t : TypeId} (h : W.heap[g]? = some (.cells gridsA t (0, 0))) : GridAt 1 W g k := by
  have hr : ∀ (gx dx gy dy : Nat), (∀ j v, [Value.int .i64 (gx : Int), .int .i64 (dx : Int), .int .i64 (gy : Int), .int .i64 (dy : Int)][j]? = some v → gridsA[k * 4 + j]? = some v) → W.rangeAt g (k * 4) [.int .i64 (gx : Int), .int .i64 (dx : Int), .int .i64 (gy : Int), .int .i64 (dy : Int)] := by
    intro gx dx gy dy hh j v hv
    rw [cell_of_row W g (k * 4 + j) _ _ (0, 0) h]
    exact hh j v hv
  have hp : ∀ (gx dx gy dy : Nat), dx ∣ 8 → dy ∣ 8 → (∀ a, a < 8 → ∀ b, b < 8 → ((tab.getD b []).getD a 0 == k) = (a % dx == gx && b % dy == gy)) → ∀ x y, selP 1 k x y = (x % dx == gx && y % dy == gy) := by
    intro gx dx gy dy h1 h2 hh x y
    have := hh (x % 8) (Nat.mod_lt _ (by omega)) (y % 8) (Nat.mod_lt _ (by omega))
    rw [Nat.mod_mod_of_dvd _ h1, Nat.mod_mod_of_dvd _ h2] at this
    exact this
  have hj : ∀ (l : List Value) (P : Nat → Value → Prop), l.length = 4 → (∀ j, j < 4 → ∀ v, l[j]? = some v → P j v) → ∀ j v, l[j]? = some v → P j v := fun l P hl h j v hv => h j (by have := (List.getElem?_eq_some_iff.1 hv).1; omega) v hv
  rcases (by omega : k = 0 ∨ k = 1 ∨ k = 2 ∨ k = 3 ∨ k = 4 ∨ k = 5 ∨ k = 6) with rfl | rfl | rfl | rfl | rfl | rfl | rfl
  · exact ⟨0, 8, 0, 8, hr _ _ _ _ (hj _ _ rfl (fun j hj v hv => by rcases (by omega : j = 0 ∨ j = 1 ∨ j = 2 ∨ j = 3) with rfl | rfl | rfl | rfl <;> exact hv)), by decide, by decide, by decide, by decide, hp _ _ _ _ (by decide) (by decide) (by decide)⟩
  · exact ⟨4, 8, 0, 8, hr _ _ _ _ (hj _ _ rfl (fun j hj v hv => by rcases (by omega : j = 0 ∨ j = 1 ∨ j = 2 ∨ j = 3) with rfl | rfl | rfl | rfl <;> exact hv)), by decide, by decide, by decide, by decide, hp _ _ _ _ (by decide) (by decide) (by decide)⟩
  · exact ⟨0, 4, 4, 8, hr _ _ _ _ (hj _ _ rfl (fun j hj v hv => by rcases (by omega : j = 0 ∨ j = 1 ∨ j = 2 ∨ j = 3) with rfl | rfl | rfl | rfl <;> exact hv)), by decide, by decide, by decide, by decide, hp _ _ _ _ (by decide) (by decide) (by decide)⟩
  · exact ⟨2, 4, 0, 4, hr _ _ _ _ (hj _ _ rfl (fun j hj v hv => by rcases (by omega : j = 0 ∨ j = 1 ∨ j = 2 ∨ j = 3) with rfl | rfl | rfl | rfl <;> exact hv)), by decide, by decide, by decide, by decide, hp _ _ _ _ (by decide) (by decide) (by decide)⟩
  · exact ⟨0, 2, 2, 4, hr _ _ _ _ (hj _ _ rfl (fun j hj v hv => by rcases (by omega : j = 0 ∨ j = 1 ∨ j = 2 ∨ j = 3) with rfl | rfl | rfl | rfl <;> exact hv)), by decide, by decide, by decide, by decide, hp _ _ _ _ (by decide) (by decide) (by decide)⟩
  · exact ⟨1, 2, 0, 2, hr _ _ _ _ (hj _ _ rfl (fun j hj v hv => by rcases (by omega : j = 0 ∨ j = 1 ∨ j = 2 ∨ j = 3) with rfl | rfl | rfl | rfl <;> exact hv)), by decide, by decide, by decide, by decide, hp _ _ _ _ (by decide) (by decide) (by decide)⟩
  · exact ⟨0, 1, 1, 2, hr _ _ _ _ (hj _ _ rfl (fun j hj v hv => by rcases (by omega : j = 0 ∨ j = 1 ∨ j = 2 ∨ j = 3) with rfl | rfl | rfl | rfl <;> exact hv)), by decide, by decide, by decide, by decide, hp _ _ _ _ (by decide) (by decide) (by decide)⟩
theorem quo_nat' (a b q : Nat) (h : a / b = q) : (a : Int) / (b : Int) = (q : Int) := by rw [← h]; simp
theorem quo_nat (a b q : Nat) (h : a / b = q) : (a : Int).tdiv (b : Int) = (q : Int) := by rw [Int.tdiv_eq_ediv_of_nonneg (by omega)]; exact quo_nat' a b q h
theorem owns_old' {w w' : World} {base : Nat} {e : TypeId} {size : Nat} {v : Value} {n : Nat} {xs : List Value} (h : w.ownsRow base e size v n xs) (hb : Below w.heap.size w w') : w'.ownsRow base e size v n xs := by
  refine ⟨h.1, ?_⟩
  rcases h.2 with h | ⟨g, cap, cur, hv, hg, hc, hr⟩
  · exact .inl h
  · refine .inr ⟨g, cap, cur, hv, hg, ?_, hr⟩
    rw [hb.block g (Array.getElem?_eq_some_iff.1 hc).1]
    exact hc

set_option maxHeartbeats 3200000 in
theorem spread_1 (W H : Nat) (w : World) (hW : 1 ≤ W ∧ W ≤ 262144) (hH : 1 ≤ H ∧ H ≤ 262144) (hWH : W * H ≤ 262144) :
    Calls Try.prog 14 #[.int .i64 (W : Int), .int .i64 (H : Int), .int .i64 1] w fun e w' => ∃ v, e = .returned (.tuple #[v, .nilIface]) ∧ Ns w' v (passL (selP 1) W H 7) ∧ Below w.heap.size w w' := by
  have d1 : decide ((W : Int) < 1) = false := by rw [decide_eq_false_iff_not]; omega
  have d2 : decide ((H : Int) < 1) = false := by rw [decide_eq_false_iff_not]; omega
  have d3 : ((H : Int) == 0) = false := by rw [beq_eq_false_iff_ne]; omega
  have d3' : (H == 0) = false := by rw [beq_eq_false_iff_ne]; omega
  obtain ⟨q, hq⟩ : ∃ q, 262144 / H = q := ⟨_, rfl⟩
  have hqb : W ≤ q := by rw [← hq]; exact (Nat.le_div_iff_mul_le hH.1).2 hWH
  have hqm : q ≤ 262144 := by rw [← hq]; exact Nat.div_le_self _ _
  have d4 : (262144 : Int).tdiv (H : Int) = (q : Int) := quo_nat 262144 H q hq
  have d4' : (262144 : Int) / (H : Int) = (q : Int) := quo_nat' 262144 H q hq
  have n1 : ¬ (H : Int) = 0 := by omega
  have n2 : ¬ H = 0 := by omega
  have d5 : decide ((q : Int) < (W : Int)) = false := by rw [decide_eq_false_iff_not]; omega
  have d5' : decide (q < W) = false := by rw [decide_eq_false_iff_not]; omega
  have d7 : IntKind.i64.wrap (q : Int) = (q : Int) := IntWalk.i64_in _ (by omega)
  have d7' : wrap64 (q : Int) = (q : Int) := IntWalk.wrap64_in _ (by omega)
  obtain ⟨wh, hwh⟩ : ∃ q, W * H = q := ⟨_, rfl⟩
  have a0 : (W : Int) * (H : Int) = (wh : Int) := by rw [← hwh]; simp
  have d6 : IntKind.i64.wrap ((W : Int) * (H : Int)) = (wh : Int) := by rw [a0]; exact IntWalk.i64_in _ (by omega)
  have d6' : wrap64 ((W : Int) * (H : Int)) = (wh : Int) := by rw [a0]; exact IntWalk.wrap64_in _ (by omega)
  have HW := Lib.hid hW
  have HH := Lib.hid hH
  have HWH := Lib.hid hWH
  have hwb : wh ≤ 262144 := by rw [← hwh]; exact hWH
  clear hW hH hWH hwh a0 hq hqb
  go_enter Try.func14, Try.ntmps14
  go_wp2_with (at_make; refine stop ?_)
  refine unstop (wpList_mk0 tyN rfl _ _ rfl _ _ _ wh rfl rfl rfl (by omega) (by omega) ?_)
  intro w1 hown1 hb1 hz1
  have HO1 := Lib.hid hown1
  have HB1 := Lib.hid hb1
  clear hown1 hb1 hz1 d1 d2 d3 d3' d4 d4' d5 d5' d6 d6' d7 d7' hqm n1 n2
  go_wp2_with fail
  refine (grids_any _).mono ?_; rintro e w2 ⟨rfl, hb2⟩
  have HO2 : Hid (w2.ownsRow w.heap.size 3 1 _ 0 []) := Lib.hid (owns_old' HO1.out hb2)
  have HB2 := Lib.hid (HB1.out.trans (hb2.mono HB1.out.size))
  clear hb2 HO1
  have HZ : Hid ((Try.prog.info? 55).map (·.size) = some gridsA.size) := Lib.hid (by kernel_rfl)
  have H1 : Hid (gridsA.all (·.oneCell') = true) := Lib.hid (by kernel_rfl)
  go_wp2_with (refine wpList_store_row rfl _ _ _ rfl w2.heap.size gridsA rfl rfl 55 _ (heap_alloc_new _ _) HZ.out rfl H1.out ?_; refine stop ?_)
  refine unstop ?_
  obtain ⟨w3, hw3⟩ : ∃ w3, (w2.alloc (.cells #[.int .i64 0, .int .i64 0, .int .i64 0, .int .i64 0, .int .i64 0, .int .i64 0, .int .i64 0, .int .i64 0, .int .i64 0, .int .i64 0, .int .i64 0, .int .i64 0, .int .i64 0, .int .i64 0, .int .i64 0, .int .i64 0, .int .i64 0, .int .i64 0, .int .i64 0, .int .i64 0, .int .i64 0, .int .i64 0, .int .i64 0, .int .i64 0, .int .i64 0, .int .i64 0, .int .i64 0, .int .i64 0] 55)).setRow w2.heap.size gridsA = w3 := ⟨_, rfl⟩
  rw [hw3]
  have hb3 : Below w2.heap.size w2 w3 := by rw [← hw3]; exact below_setRow ((Below.refl _ _).alloc (Nat.le_refl _) _) (Nat.le_refl _) _
  have hx3 : w3.heap[w2.heap.size]? = some (.cells gridsA 55 (0, 0)) := by rw [← hw3]; exact setRow_heap _ _ _ _ _ _ (heap_alloc_new _ _)
  have HN : Hid (some w2.heap.size ≠ (Value.slice (some ⟨w.heap.size, 0, none⟩) 0 wh).ownBlock) := Lib.hid (own_new HO2.out (Nat.le_refl _))
  have HO3 : Hid (Ow w.heap.size w3 (.slice (some ⟨w.heap.size, 0, none⟩) 0 wh) []) := Lib.hid (owns_old' HO2.out hb3)
  have HB3 := Lib.hid (HB2.out.trans (hb3.mono HB2.out.size))
  have HX3 := Lib.hid hx3
  have HB2L : Hid (w.heap.size ≤ w2.heap.size) := Lib.hid HB2.out.size
  have GR : Hid (∀ V o, Gr w3 (.slice (some ⟨w.heap.size, 0, none⟩) 0 wh) V o → ∀ k, k < 7 → GridAt 1 V w2.heap.size k) := Lib.hid (fun V o hV k hk => grid_row_1 V _ k hk (hV.heap HX3.out HN.out))
  clear hw3 hb3 hx3 HZ H1 HO2 HB2
  have H4 : Hid (∀ a b c d : Int, (#[Value.int .i64 a, .int .i64 b, .int .i64 c, .int .i64 d] : Array Value).all (·.oneCell') = true) := Lib.hid (fun _ _ _ _ => by kernel_rfl)
  have HI4 : Hid (∀ a b c d : Int, (Try.prog.info? 54).map (·.size) = some ([Value.int .i64 a, .int .i64 b, .int .i64 c, .int .i64 d].length)) := Lib.hid (fun _ _ _ _ => by kernel_rfl)
  go_wp2_with fail
  go_loopw [8, 12, 13, 14, 48] (fun o _ _ _ kk w' => ∃ k : Nat, k ≤ 7 ∧ Ow w.heap.size w' o (passL (selP 1) W H k) ∧ kk = .int .i64 k ∧ Below w.heap.size w w' ∧ Gr w3 (.slice (some ⟨w.heap.size, 0, none⟩) 0 wh) w' o) (fun _ _ _ _ kk _ => 7 - (intOf kk).toNat)
  case atStart => exact ⟨0, Nat.zero_le _, HO3.out, rfl, HB3.out, Gr.refl _ _⟩
  case round =>
    obtain ⟨o0, rfl⟩ : ∃ x, x = u8 := ⟨u8, rfl⟩
    obtain ⟨k, hk, how, rfl, hbl, hgr⟩ := hrel
    have HO := Lib.hid how
    have HB := Lib.hid hbl
    have HG := Lib.hid hgr
    clear how hbl hgr
    by_cases hk7 : k < 7
    · have f1 : decide ((k : Int) < 7) = true := by rw [decide_eq_true_eq]; omega
      obtain ⟨gx, dx, gy, dy, hr, hgx, hgy, hdx, hdy, hsel⟩ := GR.out wr _ HG.out k hk7
      have RNG := Lib.hid hr
      have SEL := Lib.hid hsel
      clear hr hsel
      go_wp2_with (refine wpList_load_mid rfl _ _ rfl w2.heap.size (k * 4) rfl [.int .i64 (gx : Int), .int .i64 (dx : Int), .int .i64 (gy : Int), .int .i64 (dy : Int)] _ RNG.out Try.underlying54 rfl (HI4.out _ _ _ _) ?_; refine stop ?_)
      refine unstop ?_
      go_wp2_with (refine wpList_store_row rfl _ _ _ rfl wr.heap.size #[.int .i64 (gx : Int), .int .i64 (dx : Int), .int .i64 (gy : Int), .int .i64 (dy : Int)] rfl rfl 54 _ (heap_alloc_new _ _) (HI4.out (gx : Int) (dx : Int) (gy : Int) (dy : Int)) rfl (H4.out _ _ _ _) ?_; refine stop ?_)
      refine unstop ?_
      obtain ⟨w5, hw5⟩ : ∃ w5, (wr.alloc (.cells #[.int .i64 0, .int .i64 0, .int .i64 0, .int .i64 0] 54)).setRow wr.heap.size #[.int .i64 (gx : Int), .int .i64 (dx : Int), .int .i64 (gy : Int), .int .i64 (dy : Int)] = w5 := ⟨_, rfl⟩
      rw [hw5]
      have hb5 : Below wr.heap.size wr w5 := by rw [← hw5]; exact below_setRow ((Below.refl _ _).alloc (Nat.le_refl _) _) (Nat.le_refl _) _
      have hx5 : w5.heap[wr.heap.size]? = some (.cells #[.int .i64 (gx : Int), .int .i64 (dx : Int), .int .i64 (gy : Int), .int .i64 (dy : Int)] 54 (0, 0)) := by rw [← hw5]; exact setRow_heap _ _ _ _ _ _ (heap_alloc_new _ _)
      have HO5 : Hid (Ow w.heap.size w5 o0 (passL (selP 1) W H k)) := Lib.hid (owns_old' HO.out hb5)
      have HB5 := Lib.hid (HB.out.trans (hb5.mono HB.out.size))
      have HG5 := Lib.hid (HG.out.below hb5)
      have hne : some wr.heap.size ≠ o0.ownBlock := own_new HO.out (Nat.le_refl _)
      have hcells : ∀ (V : World) (o : Value), Gr w5 o0 V o → V.cell? ⟨wr.heap.size, 0, none⟩ = some (.int .i64 (gx : Int)) ∧ V.cell? ⟨wr.heap.size, 1, none⟩ = some (.int .i64 (dx : Int)) ∧ V.cell? ⟨wr.heap.size, 2, none⟩ = some (.int .i64 (gy : Int)) ∧ V.cell? ⟨wr.heap.size, 3, none⟩ = some (.int .i64 (dy : Int)) := by
        intro V o hV
        have hh := hV.heap hx5 hne
        exact ⟨by rw [cell_of_row V _ 0 _ _ (0, 0) hh]; rfl, by rw [cell_of_row V _ 1 _ _ (0, 0) hh]; rfl, by rw [cell_of_row V _ 2 _ _ (0, 0) hh]; rfl, by rw [cell_of_row V _ 3 _ _ (0, 0) hh]; rfl⟩
      have CE := Lib.hid hcells
      obtain ⟨e0, e1, e2, e3⟩ := hcells w5 o0 (Gr.refl _ _)
      have GX := Lib.hid hgx
      have GY := Lib.hid hgy
      clear hw5 hb5 hx5 hne hcells hgx hgy f1
      go_wp2_with fail
      clear e0 e1 e2 e3
      go_loopw [8, 13, 14] (fun o y _ w' => ∃ yv : Nat, yv < H + dy ∧ yv % dy = gy ∧ Ow w.heap.size w' o (passL (selP 1) W H k ++ rowsL (selP 1 k) W yv) ∧ y = .int .i64 yv ∧ Below w.heap.size w w' ∧ Gr w5 o0 w' o) (fun _ y _ _ => H + 8 - (intOf y).toNat)
      case atStart => exact ⟨gy, by have := GY.out; omega, Nat.mod_eq_of_lt GY.out, by rw [rowsL_start SEL.out W GY.out, List.append_nil]; exact HO5.out, rfl, HB5.out, Gr.refl _ _⟩
      case round =>
        obtain ⟨yv, hyv, hym, how, rfl, hbl, hgr⟩ := hrel
        have HO2 := Lib.hid how
        have HB2 := Lib.hid hbl
        have HG2 := Lib.hid hgr
        have HYM := Lib.hid hym
        obtain ⟨e0, e1, e2, e3⟩ := CE.out _ _ hgr
        clear how hbl hgr hym
        have hyb : yv ≤ 262152 := by have := HH.out; omega
        by_cases hyH : yv < H
        · have f2 : decide (yv < H) = true := by rw [decide_eq_true_eq]; exact hyH
          have f2' : decide ((yv : Int) < (H : Int)) = true := by rw [decide_eq_true_eq]; omega
          go_wp2_with fail
          go_loopw [8, 14] (fun o x w' => ∃ xv : Nat, xv < W + dx ∧ xv % dx = gx ∧ Ow w.heap.size w' o (passL (selP 1) W H k ++ rowsL (selP 1 k) W yv ++ cellsL (selP 1 k) W yv xv) ∧ x = .int .i64 xv ∧ Below w.heap.size w w' ∧ Gr w5 o0 w' o) (fun _ x _ => W + 8 - (intOf x).toNat)
          case atStart => exact ⟨gx, by have := GX.out; omega, Nat.mod_eq_of_lt GX.out, by rw [cellsL_start SEL.out W yv GX.out, List.append_nil]; exact HO2.out, rfl, HB2.out, HG2.out⟩
          case round =>
            obtain ⟨xv, hxv, hxm, how, rfl, hbl, hgr⟩ := hrel
            have HO3 := Lib.hid how
            have HB3' := Lib.hid hbl
            have HG3 := Lib.hid hgr
            have HXM := Lib.hid hxm
            obtain ⟨e0', e1', e2', e3'⟩ := CE.out _ _ hgr
            clear how hbl hgr hxm
            have hxb : xv ≤ 262152 := by have := HW.out; omega
            by_cases hxW : xv < W
            · have f3 : decide (xv < W) = true := by rw [decide_eq_true_eq]; exact hxW
              have f3' : decide ((xv : Int) < (W : Int)) = true := by rw [decide_eq_true_eq]; omega
              have LS := Lib.hid (cellsL_step SEL.out W yv xv GX.out HXM.out HYM.out)
              have LL : Hid ((passL (selP 1) W H k ++ rowsL (selP 1 k) W yv ++ cellsL (selP 1 k) W yv xv).length ≤ 3000000) := Lib.hid (by
                have h1 := passL_len (selP 1) W H k
                have h2 := rowsL_len (selP 1 k) W yv
                have h3 := cellsL_len (selP 1 k) W yv xv
                have h6 : H * W ≤ 262144 := by rw [Nat.mul_comm]; exact HWH.out
                have h4 := Nat.mul_le_mul_left k h6
                have h5 := Nat.mul_le_mul_right W (Nat.le_of_lt hyH)
                rw [List.length_append, List.length_append]
                omega)
              obtain ⟨L, hL⟩ : ∃ L, passL (selP 1) W H k ++ rowsL (selP 1 k) W yv ++ cellsL (selP 1 k) W yv xv = L := ⟨_, rfl⟩
              rw [hL] at HO3 LL
              have HL := Lib.hid hL
              clear hL
              obtain ⟨jw, hjw⟩ : ∃ q, yv * W = q := ⟨_, rfl⟩
              obtain ⟨t, ht⟩ : ∃ t, jw + xv = t := ⟨_, rfl⟩
              obtain ⟨m1, m2, m3, m4⟩ := sr_facts yv xv W H jw t hyH hxW HWH.out hjw ht
              rw [hjw, ht] at LS
              clear hjw ht
              go_wp2_with (at_builtin; refine stop ?_)
              refine unstop (wpList_appAt tyN rfl _ _ rfl w.heap.size _ L.length (vIs L) rfl (World.ownsRow.alloc HO3.out _) _ 1 [.int .i64 (t : Int)] rfl (sl_lit _ _ _ 1 rfl (by omega)) (by intro u hu; simp at hu; subst hu; rfl) (by have := LL.out; omega) (by have := LL.out; omega) (Nat.le_trans HB3'.out.size (by simp)) ?_)
              intro v7 w7 hown7 hg7 hat7
              have HB7 := Lib.hid (run_app_below (World.ownsRow.alloc HO3.out _) hg7 (HB3'.out.alloc HB3'.out.size _) (Nat.le_refl _))
              have HO7 : Hid (Ow w.heap.size w7 v7 (L ++ [(t : Int)])) := Lib.hid (Ow.snoc hown7 rfl)
              have hgr7 := (HG3.out.below ((Below.refl _ _).alloc (Nat.le_refl _) _)).app hg7 hat7
              have HG7 := Lib.hid hgr7
              clear e0' e1' e2' e3'
              obtain ⟨e0', e1', e2', e3'⟩ := CE.out _ _ hgr7
              clear hown7 hg7 hat7 hgr7
              go_wp2_with fail
              go_roundw
              case rel => exact ⟨xv + dx, by omega, add_mod_step HXM.out, by rw [LS.out, ← List.append_assoc, HL.out]; exact HO7.out, by go_num, HB7.out, HG7.out⟩
              case measure => have := GX.out; simp [intOf]; omega
            · have f3 : decide (xv < W) = false := by rw [decide_eq_false_iff_not]; exact hxW
              have f3' : decide ((xv : Int) < (W : Int)) = false := by rw [decide_eq_false_iff_not]; omega
              have CEND := Lib.hid (cellsL_end SEL.out W yv xv HXM.out (by omega) hxv)
              have RSTEP := Lib.hid (rowsL_step SEL.out W yv GY.out HYM.out)
              go_wp2_with fail
              go_roundw
              case rel => exact ⟨yv + dy, by omega, add_mod_step HYM.out, by rw [RSTEP.out, ← CEND.out, ← List.append_assoc]; exact HO3.out, by go_num, HB3'.out, HG3.out⟩
              case measure => have := GY.out; simp [intOf]; omega
        · have f2 : decide (yv < H) = false := by rw [decide_eq_false_iff_not]; exact hyH
          have f2' : decide ((yv : Int) < (H : Int)) = false := by rw [decide_eq_false_iff_not]; omega
          have REND := Lib.hid (rowsL_end SEL.out W H yv HYM.out (by omega) hyv)
          go_wp2_with fail
          go_roundw
          case rel => exact ⟨k + 1, by omega, by rw [passL_succ, ← REND.out]; exact HO2.out, by go_num, HB2.out, HG5.out.trans HG2.out⟩
          case measure => simp [intOf]; omega
    · obtain rfl : k = 7 := by omega
      go_wp2_with fail
      go_ret2
      exact ⟨_, rfl, HO.out.ns, HB.out⟩

set_option maxHeartbeats 3200000 in
theorem spread_0 (W H : Nat) (w : World) (hW : 1 ≤ W ∧ W ≤ 262144) (hH : 1 ≤ H ∧ H ≤ 262144) (hWH : W * H ≤ 262144) :
    Calls Try.prog 14 #[.int .i64 (W : Int), .int .i64 (H : Int), .int .i64 0] w fun e w' => ∃ v, e = .returned (.tuple #[v, .nilIface]) ∧ Ns w' v (passL (selP 0) W H 1) ∧ Below w.heap.size w w' := by
  have d1 : decide ((W : Int) < 1) = false := by rw [decide_eq_false_iff_not]; omega
  have d2 : decide ((H : Int) < 1) = false := by rw [decide_eq_false_iff_not]; omega
  have d3 : ((H : Int) == 0) = false := by rw [beq_eq_false_iff_ne]; omega
  have d3' : (H == 0) = false := by rw [beq_eq_false_iff_ne]; omega
  obtain ⟨q, hq⟩ : ∃ q, 262144 / H = q := ⟨_, rfl⟩
  have hqb : W ≤ q := by rw [← hq]; exact (Nat.le_div_iff_mul_le hH.1).2 hWH
  have hqm : q ≤ 262144 := by rw [← hq]; exact Nat.div_le_self _ _
  have d4 : (262144 : Int).tdiv (H : Int) = (q : Int) := quo_nat 262144 H q hq
  have d4' : (262144 : Int) / (H : Int) = (q : Int) := quo_nat' 262144 H q hq
  have n1 : ¬ (H : Int) = 0 := by omega
  have n2 : ¬ H = 0 := by omega
  have d5 : decide ((q : Int) < (W : Int)) = false := by rw [decide_eq_false_iff_not]; omega
  have d5' : decide (q < W) = false := by rw [decide_eq_false_iff_not]; omega
  have d7 : IntKind.i64.wrap (q : Int) = (q : Int) := IntWalk.i64_in _ (by omega)
  have d7' : wrap64 (q : Int) = (q : Int) := IntWalk.wrap64_in _ (by omega)
  obtain ⟨wh, hwh⟩ : ∃ q, W * H = q := ⟨_, rfl⟩
  have a0 : (W : Int) * (H : Int) = (wh : Int) := by rw [← hwh]; simp
  have d6 : IntKind.i64.wrap ((W : Int) * (H : Int)) = (wh : Int) := by rw [a0]; exact IntWalk.i64_in _ (by omega)
  have d6' : wrap64 ((W : Int) * (H : Int)) = (wh : Int) := by rw [a0]; exact IntWalk.wrap64_in _ (by omega)
  have HW := Lib.hid hW
  have HH := Lib.hid hH
  have HWH := Lib.hid hWH
  have hwb : wh ≤ 262144 := by rw [← hwh]; exact hWH
  clear hW hH hWH hwh a0 hq hqb
  go_enter Try.func14, Try.ntmps14
  go_wp2_with (at_make; refine stop ?_)
  refine unstop (wpList_mk0 tyN rfl _ _ rfl _ _ _ wh rfl rfl rfl (by omega) (by omega) ?_)
  intro w1 hown1 hb1 hz1
  have HO1 := Lib.hid hown1
  have HB1 := Lib.hid hb1
  clear hown1 hb1 hz1 d1 d2 d3 d3' d4 d4' d5 d5' d6 d6' d7 d7' hqm n1 n2
  go_wp2_with fail
  refine (grids_any _).mono ?_; rintro e w2 ⟨rfl, hb2⟩
  have HO2 : Hid (w2.ownsRow w.heap.size 3 1 _ 0 []) := Lib.hid (owns_old' HO1.out hb2)
  have HB2 := Lib.hid (HB1.out.trans (hb2.mono HB1.out.size))
  clear hb2 HO1
  have HZ : Hid ((Try.prog.info? 55).map (·.size) = some gridsA.size) := Lib.hid (by kernel_rfl)
  have H1 : Hid (gridsA.all (·.oneCell') = true) := Lib.hid (by kernel_rfl)
  go_wp2_with (refine wpList_store_row rfl _ _ _ rfl w2.heap.size gridsA rfl rfl 55 _ (heap_alloc_new _ _) HZ.out rfl H1.out ?_; refine stop ?_)
  refine unstop ?_
  obtain ⟨w3, hw3⟩ : ∃ w3, (w2.alloc (.cells #[.int .i64 0, .int .i64 0, .int .i64 0, .int .i64 0, .int .i64 0, .int .i64 0, .int .i64 0, .int .i64 0, .int .i64 0, .int .i64 0, .int .i64 0, .int .i64 0, .int .i64 0, .int .i64 0, .int .i64 0, .int .i64 0, .int .i64 0, .int .i64 0, .int .i64 0, .int .i64 0, .int .i64 0, .int .i64 0, .int .i64 0, .int .i64 0, .int .i64 0, .int .i64 0, .int .i64 0, .int .i64 0] 55)).setRow w2.heap.size gridsA = w3 := ⟨_, rfl⟩
  rw [hw3]
  have hb3 : Below w2.heap.size w2 w3 := by rw [← hw3]; exact below_setRow ((Below.refl _ _).alloc (Nat.le_refl _) _) (Nat.le_refl _) _
  have hx3 : w3.heap[w2.heap.size]? = some (.cells gridsA 55 (0, 0)) := by rw [← hw3]; exact setRow_heap _ _ _ _ _ _ (heap_alloc_new _ _)
  have HN : Hid (some w2.heap.size ≠ (Value.slice (some ⟨w.heap.size, 0, none⟩) 0 wh).ownBlock) := Lib.hid (own_new HO2.out (Nat.le_refl _))
  have HO3 : Hid (Ow w.heap.size w3 (.slice (some ⟨w.heap.size, 0, none⟩) 0 wh) []) := Lib.hid (owns_old' HO2.out hb3)
  have HB3 := Lib.hid (HB2.out.trans (hb3.mono HB2.out.size))
  have HX3 := Lib.hid hx3
  have HB2L : Hid (w.heap.size ≤ w2.heap.size) := Lib.hid HB2.out.size
  have TH : Hid (w3.there w2.heap.size 0 4) := Lib.hid (fun j hj => ⟨by rw [cell_of_row w3 _ _ _ _ (0, 0) HX3.out]; rcases (by omega : j = 0 ∨ j = 1 ∨ j = 2 ∨ j = 3) with rfl | rfl | rfl | rfl <;> rfl, frozen_of_row w3 _ _ _ _ HX3.out⟩)
  have BL : Hid (Try.prog.built 54 [(0, .int .i64 0), (1, .int .i64 1), (2, .int .i64 0), (3, .int .i64 1)] = some #[.int .i64 0, .int .i64 1, .int .i64 0, .int .i64 1]) := Lib.hid (by kernel_rfl)
  clear hw3 hb3 hx3 HZ H1 HO2 HB2
  have H4 : Hid (∀ a b c d : Int, (#[Value.int .i64 a, .int .i64 b, .int .i64 c, .int .i64 d] : Array Value).all (·.oneCell') = true) := Lib.hid (fun _ _ _ _ => by kernel_rfl)
  have HI4 : Hid (∀ a b c d : Int, (Try.prog.info? 54).map (·.size) = some ([Value.int .i64 a, .int .i64 b, .int .i64 c, .int .i64 d].length)) := Lib.hid (fun _ _ _ _ => by kernel_rfl)
  go_wp2_with (first | refine wpList_agg rfl _ _ rfl _ _ rfl BL.out ?_ | (refine wpList_store_mid rfl _ _ _ rfl w2.heap.size 0 #[.int .i64 0, .int .i64 1, .int .i64 0, .int .i64 1] rfl rfl TH.out (HI4.out 0 1 0 1) (H4.out 0 1 0 1) ?_; refine stop ?_))
  refine unstop ?_
  obtain ⟨w4, hw4⟩ : ∃ w4, w3.setCells w2.heap.size 0 [.int .i64 0, .int .i64 1, .int .i64 0, .int .i64 1] = w4 := ⟨_, rfl⟩
  rw [hw4]
  have hb4 : Below w.heap.size w w4 := by rw [← hw4]; exact below_setCells HB2L.out _ _ _ HB3.out
  have hr4 : w4.rangeAt w2.heap.size 0 [.int .i64 0, .int .i64 1, .int .i64 0, .int .i64 1] := by rw [← hw4]; exact World.rangeAt_setCells_same _ _ _ _ TH.out
  have ho4 : Ow w.heap.size w4 (.slice (some ⟨w.heap.size, 0, none⟩) 0 wh) [] := by
    refine ⟨HO3.out.1, ?_⟩
    rcases HO3.out.2 with h | ⟨g, cap, cur, hv, hg, hc, hr⟩
    · exact .inl h
    · refine .inr ⟨g, cap, cur, hv, hg, ?_, hr⟩
      rw [← hw4, World.heap_setCells_other _ _ _ _ (Array.getElem?_eq_some_iff.1 hc).1 (by intro he; apply HN.out; rw [hv, ← he]; rfl)]
      exact hc
  have HO4 := Lib.hid ho4
  have HB4 := Lib.hid hb4
  have GR : Hid (∀ V o, Gr w4 (.slice (some ⟨w.heap.size, 0, none⟩) 0 wh) V o → ∀ k, k < 1 → GridAt 0 V w2.heap.size k) := Lib.hid (fun V o hV k hk => by
    obtain rfl : k = 0 := by omega
    refine ⟨0, 1, 0, 1, ?_, by decide, by decide, by decide, by decide, fun x y => by simp [selP, Nat.mod_one]⟩
    intro j v hv
    exact hV.cell (hr4 j v hv) HN.out)
  clear hw4 hb4 hr4 ho4
  go_wp2_with fail
  go_loopw [8, 12, 13, 14, 48] (fun o _ _ _ kk w' => ∃ k : Nat, k ≤ 1 ∧ Ow w.heap.size w' o (passL (selP 0) W H k) ∧ kk = .int .i64 k ∧ Below w.heap.size w w' ∧ Gr w4 (.slice (some ⟨w.heap.size, 0, none⟩) 0 wh) w' o) (fun _ _ _ _ kk _ => 1 - (intOf kk).toNat)
  case atStart => exact ⟨0, Nat.zero_le _, HO4.out, rfl, HB4.out, Gr.refl _ _⟩
  case round =>
    obtain ⟨o0, rfl⟩ : ∃ x, x = u8 := ⟨u8, rfl⟩
    obtain ⟨k, hk, how, rfl, hbl, hgr⟩ := hrel
    have HO := Lib.hid how
    have HB := Lib.hid hbl
    have HG := Lib.hid hgr
    clear how hbl hgr
    by_cases hk7 : k < 1
    · have f1 : decide ((k : Int) < 1) = true := by rw [decide_eq_true_eq]; omega
      obtain ⟨gx, dx, gy, dy, hr, hgx, hgy, hdx, hdy, hsel⟩ := GR.out wr _ HG.out k hk7
      have RNG := Lib.hid hr
      have SEL := Lib.hid hsel
      clear hr hsel
      go_wp2_with (refine wpList_load_mid rfl _ _ rfl w2.heap.size (k * 4) rfl [.int .i64 (gx : Int), .int .i64 (dx : Int), .int .i64 (gy : Int), .int .i64 (dy : Int)] _ RNG.out Try.underlying54 rfl (HI4.out _ _ _ _) ?_; refine stop ?_)
      refine unstop ?_
      go_wp2_with (refine wpList_store_row rfl _ _ _ rfl wr.heap.size #[.int .i64 (gx : Int), .int .i64 (dx : Int), .int .i64 (gy : Int), .int .i64 (dy : Int)] rfl rfl 54 _ (heap_alloc_new _ _) (HI4.out (gx : Int) (dx : Int) (gy : Int) (dy : Int)) rfl (H4.out _ _ _ _) ?_; refine stop ?_)
      refine unstop ?_
      obtain ⟨w5, hw5⟩ : ∃ w5, (wr.alloc (.cells #[.int .i64 0, .int .i64 0, .int .i64 0, .int .i64 0] 54)).setRow wr.heap.size #[.int .i64 (gx : Int), .int .i64 (dx : Int), .int .i64 (gy : Int), .int .i64 (dy : Int)] = w5 := ⟨_, rfl⟩
      rw [hw5]
      have hb5 : Below wr.heap.size wr w5 := by rw [← hw5]; exact below_setRow ((Below.refl _ _).alloc (Nat.le_refl _) _) (Nat.le_refl _) _
      have hx5 : w5.heap[wr.heap.size]? = some (.cells #[.int .i64 (gx : Int), .int .i64 (dx : Int), .int .i64 (gy : Int), .int .i64 (dy : Int)] 54 (0, 0)) := by rw [← hw5]; exact setRow_heap _ _ _ _ _ _ (heap_alloc_new _ _)
      have HO5 : Hid (Ow w.heap.size w5 o0 (passL (selP 0) W H k)) := Lib.hid (owns_old' HO.out hb5)
      have HB5 := Lib.hid (HB.out.trans (hb5.mono HB.out.size))
      have HG5 := Lib.hid (HG.out.below hb5)
      have hne : some wr.heap.size ≠ o0.ownBlock := own_new HO.out (Nat.le_refl _)
      have hcells : ∀ (V : World) (o : Value), Gr w5 o0 V o → V.cell? ⟨wr.heap.size, 0, none⟩ = some (.int .i64 (gx : Int)) ∧ V.cell? ⟨wr.heap.size, 1, none⟩ = some (.int .i64 (dx : Int)) ∧ V.cell? ⟨wr.heap.size, 2, none⟩ = some (.int .i64 (gy : Int)) ∧ V.cell? ⟨wr.heap.size, 3, none⟩ = some (.int .i64 (dy : Int)) := by
        intro V o hV
        have hh := hV.heap hx5 hne
        exact ⟨by rw [cell_of_row V _ 0 _ _ (0, 0) hh]; rfl, by rw [cell_of_row V _ 1 _ _ (0, 0) hh]; rfl, by rw [cell_of_row V _ 2 _ _ (0, 0) hh]; rfl, by rw [cell_of_row V _ 3 _ _ (0, 0) hh]; rfl⟩
      have CE := Lib.hid hcells
      obtain ⟨e0, e1, e2, e3⟩ := hcells w5 o0 (Gr.refl _ _)
      have GX := Lib.hid hgx
      have GY := Lib.hid hgy
      clear hw5 hb5 hx5 hne hcells hgx hgy f1
      go_wp2_with fail
      clear e0 e1 e2 e3
      go_loopw [8, 13, 14] (fun o y _ w' => ∃ yv : Nat, yv < H + dy ∧ yv % dy = gy ∧ Ow w.heap.size w' o (passL (selP 0) W H k ++ rowsL (selP 0 k) W yv) ∧ y = .int .i64 yv ∧ Below w.heap.size w w' ∧ Gr w5 o0 w' o) (fun _ y _ _ => H + 8 - (intOf y).toNat)
      case atStart => exact ⟨gy, by have := GY.out; omega, Nat.mod_eq_of_lt GY.out, by rw [rowsL_start SEL.out W GY.out, List.append_nil]; exact HO5.out, rfl, HB5.out, Gr.refl _ _⟩
      case round =>
        obtain ⟨yv, hyv, hym, how, rfl, hbl, hgr⟩ := hrel
        have HO2 := Lib.hid how
        have HB2 := Lib.hid hbl
        have HG2 := Lib.hid hgr
        have HYM := Lib.hid hym
        obtain ⟨e0, e1, e2, e3⟩ := CE.out _ _ hgr
        clear how hbl hgr hym
        have hyb : yv ≤ 262152 := by have := HH.out; omega
        by_cases hyH : yv < H
        · have f2 : decide (yv < H) = true := by rw [decide_eq_true_eq]; exact hyH
          have f2' : decide ((yv : Int) < (H : Int)) = true := by rw [decide_eq_true_eq]; omega
          go_wp2_with fail
          go_loopw [8, 14] (fun o x w' => ∃ xv : Nat, xv < W + dx ∧ xv % dx = gx ∧ Ow w.heap.size w' o (passL (selP 0) W H k ++ rowsL (selP 0 k) W yv ++ cellsL (selP 0 k) W yv xv) ∧ x = .int .i64 xv ∧ Below w.heap.size w w' ∧ Gr w5 o0 w' o) (fun _ x _ => W + 8 - (intOf x).toNat)
          case atStart => exact ⟨gx, by have := GX.out; omega, Nat.mod_eq_of_lt GX.out, by rw [cellsL_start SEL.out W yv GX.out, List.append_nil]; exact HO2.out, rfl, HB2.out, HG2.out⟩
          case round =>
            obtain ⟨xv, hxv, hxm, how, rfl, hbl, hgr⟩ := hrel
            have HO3 := Lib.hid how
            have HB3' := Lib.hid hbl
            have HG3 := Lib.hid hgr
            have HXM := Lib.hid hxm
            obtain ⟨e0', e1', e2', e3'⟩ := CE.out _ _ hgr
            clear how hbl hgr hxm
            have hxb : xv ≤ 262152 := by have := HW.out; omega
            by_cases hxW : xv < W
            · have f3 : decide (xv < W) = true := by rw [decide_eq_true_eq]; exact hxW
              have f3' : decide ((xv : Int) < (W : Int)) = true := by rw [decide_eq_true_eq]; omega
              have LS := Lib.hid (cellsL_step SEL.out W yv xv GX.out HXM.out HYM.out)
              have LL : Hid ((passL (selP 0) W H k ++ rowsL (selP 0 k) W yv ++ cellsL (selP 0 k) W yv xv).length ≤ 3000000) := Lib.hid (by
                have h1 := passL_len (selP 0) W H k
                have h2 := rowsL_len (selP 0 k) W yv
                have h3 := cellsL_len (selP 0 k) W yv xv
                have h6 : H * W ≤ 262144 := by rw [Nat.mul_comm]; exact HWH.out
                have h4 := Nat.mul_le_mul_left k h6
                have h5 := Nat.mul_le_mul_right W (Nat.le_of_lt hyH)
                rw [List.length_append, List.length_append]
                omega)
              obtain ⟨L, hL⟩ : ∃ L, passL (selP 0) W H k ++ rowsL (selP 0 k) W yv ++ cellsL (selP 0 k) W yv xv = L := ⟨_, rfl⟩
              rw [hL] at HO3 LL
              have HL := Lib.hid hL
              clear hL
              obtain ⟨jw, hjw⟩ : ∃ q, yv * W = q := ⟨_, rfl⟩
              obtain ⟨t, ht⟩ : ∃ t, jw + xv = t := ⟨_, rfl⟩
              obtain ⟨m1, m2, m3, m4⟩ := sr_facts yv xv W H jw t hyH hxW HWH.out hjw ht
              rw [hjw, ht] at LS
              clear hjw ht
              go_wp2_with (at_builtin; refine stop ?_)
              refine unstop (wpList_appAt tyN rfl _ _ rfl w.heap.size _ L.length (vIs L) rfl (World.ownsRow.alloc HO3.out _) _ 1 [.int .i64 (t : Int)] rfl (sl_lit _ _ _ 1 rfl (by omega)) (by intro u hu; simp at hu; subst hu; rfl) (by have := LL.out; omega) (by have := LL.out; omega) (Nat.le_trans HB3'.out.size (by simp)) ?_)
              intro v7 w7 hown7 hg7 hat7
              have HB7 := Lib.hid (run_app_below (World.ownsRow.alloc HO3.out _) hg7 (HB3'.out.alloc HB3'.out.size _) (Nat.le_refl _))
              have HO7 : Hid (Ow w.heap.size w7 v7 (L ++ [(t : Int)])) := Lib.hid (Ow.snoc hown7 rfl)
              have hgr7 := (HG3.out.below ((Below.refl _ _).alloc (Nat.le_refl _) _)).app hg7 hat7
              have HG7 := Lib.hid hgr7
              clear e0' e1' e2' e3'
              obtain ⟨e0', e1', e2', e3'⟩ := CE.out _ _ hgr7
              clear hown7 hg7 hat7 hgr7
              go_wp2_with fail
              go_roundw
              case rel => exact ⟨xv + dx, by omega, add_mod_step HXM.out, by rw [LS.out, ← List.append_assoc, HL.out]; exact HO7.out, by go_num, HB7.out, HG7.out⟩
              case measure => have := GX.out; simp [intOf]; omega
            · have f3 : decide (xv < W) = false := by rw [decide_eq_false_iff_not]; exact hxW
              have f3' : decide ((xv : Int) < (W : Int)) = false := by rw [decide_eq_false_iff_not]; omega
              have CEND := Lib.hid (cellsL_end SEL.out W yv xv HXM.out (by omega) hxv)
              have RSTEP := Lib.hid (rowsL_step SEL.out W yv GY.out HYM.out)
              go_wp2_with fail
              go_roundw
              case rel => exact ⟨yv + dy, by omega, add_mod_step HYM.out, by rw [RSTEP.out, ← CEND.out, ← List.append_assoc]; exact HO3.out, by go_num, HB3'.out, HG3.out⟩
              case measure => have := GY.out; simp [intOf]; omega
        · have f2 : decide (yv < H) = false := by rw [decide_eq_false_iff_not]; exact hyH
          have f2' : decide ((yv : Int) < (H : Int)) = false := by rw [decide_eq_false_iff_not]; omega
          have REND := Lib.hid (rowsL_end SEL.out W H yv HYM.out (by omega) hyv)
          go_wp2_with fail
          go_roundw
          case rel => exact ⟨k + 1, by omega, by rw [passL_succ, ← REND.out]; exact HO2.out, by go_num, HB2.out, HG5.out.trans HG2.out⟩
          case measure => simp [intOf]; omega
    · obtain rfl : k = 1 := by omega
      go_wp2_with fail
      go_ret2
      exact ⟨_, rfl, HO.out.ns, HB.out⟩

end Go.Proofs.Ytfmkcpilljfidaa
