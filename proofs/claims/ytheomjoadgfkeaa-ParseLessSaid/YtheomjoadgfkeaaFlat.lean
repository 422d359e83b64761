/- burnishlaw09.flat walked. By an AI agent. -/
import Derived.Test.YtheomjoadgfkeaaCopyI
import Derived.RangeFuncBox
namespace Go.Proofs.Ytheomjoadgfkeaa
open Go.RowKit
set_option linter.unusedVariables false
set_option linter.unusedSimpArgs false

/-- From W on: new blocks, and block P written alone. -/
def GrP (W : World) (P : Nat) (w : World) : Prop := W.grownBy w (some P)
theorem GrP.refl (W : World) (P : Nat) : GrP W P W := ⟨rfl, rfl, rfl, Nat.le_refl _, fun _ _ _ => rfl⟩
theorem GrP.alloc {W w : World} {P : Nat} (h : GrP W P w) (o : Obj) : GrP W P (w.alloc o) :=
  ⟨h.os, h.tape, h.output, by have := h.size; simp; omega, fun k hk hne => by
    rw [← h.block k hk hne]
    have : k < w.heap.size := Nat.lt_of_lt_of_le hk h.size
    exact (((Below.refl w.heap.size w).alloc (Nat.le_refl _) o).block k this)⟩
theorem GrP.app {W w w' : World} {P : Nat} {row : Option Nat} (h : GrP W P w) (hg : w.grownBy w' row) (hr : ∀ k, row = some k → W.heap.size ≤ k) : GrP W P w' :=
  ⟨hg.os.trans h.os, hg.tape.trans h.tape, hg.output.trans h.output, Nat.le_trans h.size hg.size, fun k hk hne => by
    rw [hg.block k (Nat.lt_of_lt_of_le hk h.size) (fun he => by have := hr k he.symm; omega)]; exact h.block k hk hne⟩
theorem GrP.set {W w : World} {P : Nat} (h : GrP W P w) (i : Nat) (v : Value) : GrP W P (w.setCell ⟨P, i, none⟩ v) :=
  ⟨h.os, h.tape, h.output, by have := h.size; simpa using this, fun k hk hne => by
    rw [← h.block k hk hne]
    exact Go.Deep.blk_setCell_other _ _ _ _ (by simp only; intro he; exact hne (by rw [he]))⟩

theorem frozenB {w : World} {g i : Nat} {C : Array Value} {t : TypeId} (h : w.heap[g]? = some (.cells C t (0, 0))) : w.frozen? ⟨g, i, none⟩ = false := by
  simp [World.frozen?, h]
theorem owns_slice {w : World} {base n size : Nat} {e : TypeId} {v : Value} {xs : List Value} (h : w.ownsRow base e size v (n + 1) xs) : ∃ a c, v = .slice a (n + 1) c := by
  rcases h.2 with ⟨_, h⟩ | ⟨g, cap, cur, rfl, _⟩
  · omega
  · exact ⟨_, _, rfl⟩
theorem grow1 (w : World) (P i : Nat) (v : Value) : w.grownBy (w.setCell ⟨P, i, none⟩ v) (some P) := GrP.set (GrP.refl w P) i v
theorem vIs_snoc (l : List Int) (x : Int) : vIs l ++ [.int .i64 x] = vIs (l ++ [x]) := by rw [vIs_append]; rfl

set_option maxRecDepth 20000 in
set_option maxHeartbeats 3200000 in
theorem flat_any (p q r : Int) (w : World) (hp : 0 ≤ p ∧ p ≤ 2000) (hq : 0 ≤ q ∧ q ≤ 2000) (hr : 0 ≤ r ∧ r ≤ 2000) :
    Calls Try.prog 15 #[.int .i64 p, .int .i64 q, .int .i64 r] w fun e w' => ∃ u v x, e = .returned (.agg #[u, v, x]) ∧ Ns w' u (List.replicate 256 p) ∧ Ns w' v ((List.range 259).map fun n : Nat => q + ((n % 7 : Nat) : Int)) ∧ Ns w' x ((List.range 30).map fun n : Nat => r * (n : Int)) ∧ Below w.heap.size w w' := by
  go_enter Try.func15, Try.ntmps15
  go_wp2_with fail
  obtain ⟨W0, hW0⟩ : ∃ W0, (w.alloc (.cells #[.slice none 0 0, .slice none 0 0, .slice none 0 0] 33)).alloc (.cells #[.slice none 0 0, .slice none 0 0, .slice none 0 0] 33) = W0 := ⟨_, rfl⟩
  rw [hW0]
  have z1 : W0.heap[w.heap.size + 1]? = some (.cells #[.slice none 0 0, .slice none 0 0, .slice none 0 0] 33 (0, 0)) := by rw [← hW0]; exact heap_new1 _ _ _
  have z0 : W0.heap[w.heap.size]? = some (.cells #[.slice none 0 0, .slice none 0 0, .slice none 0 0] 33 (0, 0)) := by rw [← hW0]; exact heap_new0 _ _ _
  have zz : W0.heap.size = w.heap.size + 1 + 1 := by rw [← hW0]; simp
  have bz : Below w.heap.size w W0 := by rw [← hW0]; exact ((Below.refl _ _).alloc (Nat.le_refl _) _).alloc (by simp) _
  have Z0 := Lib.hid z0
  have Z1 := Lib.hid z1
  have ZZ := Lib.hid zz
  have BZ := Lib.hid bz
  clear hW0 z0 z1 zz bz
  go_loopw [11] (fun i w' => ∃ k : Nat, k ≤ 256 ∧ i = .int .i64 k ∧ ∃ v, GrP W0 (w.heap.size + 1) w' ∧ w'.heap[w.heap.size + 1]? = some (.cells #[v, .slice none 0 0, .slice none 0 0] 33 (0, 0)) ∧ w'.ownsRow W0.heap.size 3 1 v k (vIs (List.replicate k p))) (fun i _ => 256 - (intOf i).toNat)
  case atStart => exact ⟨0, Nat.zero_le _, rfl, _, GrP.refl _ _, Z1.out, World.ownsRow_nil _ _ _ _⟩
  case round =>
    obtain ⟨k, hk, rfl, v, hgr, hbx, hown⟩ := hrel
    have GR := Lib.hid hgr
    have BX := Lib.hid hbx
    have OW := Lib.hid hown
    have c0 : wr.cell? ⟨w.heap.size + 1, 0, none⟩ = some v := by rw [cell_of_row _ _ 0 _ _ _ hbx]; rfl
    clear hgr hbx hown
    by_cases hkl : k < 256
    · have f1 : decide ((k : Int) < 256) = true := by rw [decide_eq_true_eq]; omega
      have f2 : decide (k < 256) = true := by rw [decide_eq_true_eq]; omega
      go_wp2_with (at_builtin; refine stop ?_)
      refine unstop (wpList_app tyIC rfl _ _ rfl W0.heap.size v k _ rfl (OW.out.alloc _) _ 1 [.int .i64 p] rfl (sl_lit wr [.int .i64 p] _ 1 rfl (by omega)) (by intro u hu; simp at hu; subst hu; rfl) (by omega) (by omega) (by have := GR.out.size; simp; omega) ?_)
      intro v' w2 hown2 hg2 _
      have hlt : ∀ j, v.ownBlock = some j → W0.heap.size ≤ j := fun j hj => (OW.out.lt j hj).1
      have G2 : Hid (GrP W0 (w.heap.size + 1) w2) := Lib.hid ((GR.out.alloc _).app hg2 hlt)
      have bx2 : w2.heap[w.heap.size + 1]? = some (.cells #[v, .slice none 0 0, .slice none 0 0] 33 (0, 0)) := by
        rw [hg2.block _ (by have := GR.out.size; have := ZZ.out; simp; omega) (fun he => by have := hlt _ he.symm; have := ZZ.out; omega)]
        exact heap_old BX.out
      obtain ⟨sa, sc, rfl⟩ := owns_slice hown2
      have O2 := Lib.hid hown2
      have cc : w2.cell? ⟨w.heap.size + 1, 0, none⟩ = some v := by rw [cell_of_row _ _ 0 _ _ _ bx2]; rfl
      have cf := frozenB (i := 0) bx2
      have X2 := Lib.hid bx2
      clear hown2 hg2 hlt bx2
      go_wp2_with fail
      go_roundw
      case rel =>
        refine ⟨k + 1, by omega, by go_num, .slice sa (k + 1) sc, G2.out.set _ _, ?_, ?_⟩
        · rw [heap_setCell_same _ _ _ _ _ _ X2.out]; rfl
        · have h := ownsRow_setCell_below (a := ⟨w.heap.size + 1, 0, none⟩) O2.out (show w.heap.size + 1 < W0.heap.size by have := ZZ.out; omega) (.slice sa (k + 1) sc)
          rw [vIs_snoc, ← List.replicate_succ'] at h
          exact h
      case measure => simp [intOf]; omega
    · obtain rfl : k = 256 := by omega
      rw [show ((256 : Nat) : Int) = 256 from rfl]
      have hns : Ns wr v (List.replicate 256 p) := by have h := sl_of_owns OW.out; unfold Ns; rw [List.length_replicate]; exact h
      have hvb : v.ownBlock = none ∨ v.ownBlock ≠ some (w.heap.size + 1) := .inr (fun he => by have := (OW.out.lt _ he).1; have := ZZ.out; omega)
      obtain ⟨W1, rfl⟩ : ∃ W1, W1 = wr := ⟨_, rfl⟩
      have N1 := Lib.hid hns
      have V1 := Lib.hid hvb
      have U1 : Hid (v.ownBlock = none ∨ v.ownBlock ≠ some w.heap.size) := Lib.hid (.inr (fun he => by have := (OW.out.lt _ he).1; have := ZZ.out; omega))
      have S1 : Hid (w.heap.size + 1 < W1.heap.size) := Lib.hid (by have := GR.out.size; have := ZZ.out; omega)
      clear hns hvb OW c0
      go_wp2_with fail
      go_loopw [8, 20] (fun _ i w' => ∃ k : Nat, k ≤ 259 ∧ i = .int .i64 k ∧ ∃ x, GrP W1 (w.heap.size + 1) w' ∧ w'.heap[w.heap.size + 1]? = some (.cells #[v, x, .slice none 0 0] 33 (0, 0)) ∧ w'.ownsRow W1.heap.size 3 1 x k (vIs ((List.range k).map fun n : Nat => q + ((n % 7 : Nat) : Int)))) (fun _ i _ => 259 - (intOf i).toNat)
      case atStart => exact ⟨0, Nat.zero_le _, rfl, _, GrP.refl _ _, BX.out, World.ownsRow_nil _ _ _ _⟩
      case round =>
        obtain ⟨k, hk, rfl, x, hgr, hbx, hown⟩ := hrel
        have GR2 := Lib.hid hgr
        have BX2 := Lib.hid hbx
        have OW2 := Lib.hid hown
        have c0 : wr.cell? ⟨w.heap.size + 1, 1, none⟩ = some x := by rw [cell_of_row _ _ 1 _ _ _ hbx]; rfl
        clear hgr hbx hown
        by_cases hkl : k < 259
        · have f1 : decide ((k : Int) < 259) = true := by rw [decide_eq_true_eq]; omega
          have f2 : decide (k < 259) = true := by rw [decide_eq_true_eq]; omega
          obtain ⟨j, hj⟩ : ∃ j, k % 7 = j := ⟨_, rfl⟩
          have m2 : j < 7 := by omega
          have m1 : Int.tmod (k : Int) 7 = (j : Int) := by rw [Int.tmod_eq_emod_of_nonneg (by omega)]; omega
          have m3 : (k : Int) % 7 = (j : Int) := by omega
          have HJ := Lib.hid hj
          clear hj
          go_wp2_with (at_builtin; refine stop ?_)
          refine unstop (wpList_app tyIC rfl _ _ rfl W1.heap.size x k _ rfl (OW2.out.alloc _) _ 1 [.int .i64 (q + (j : Int))] rfl (sl_lit wr [.int .i64 (q + (j : Int))] _ 1 rfl (by omega)) (by intro u hu; simp at hu; subst hu; rfl) (by omega) (by omega) (by have := GR2.out.size; simp; omega) ?_)
          intro v' w2 hown2 hg2 _
          have hlt : ∀ j, x.ownBlock = some j → W1.heap.size ≤ j := fun j hj => (OW2.out.lt j hj).1
          have G2 : Hid (GrP W1 (w.heap.size + 1) w2) := Lib.hid ((GR2.out.alloc _).app hg2 hlt)
          have bx2 : w2.heap[w.heap.size + 1]? = some (.cells #[v, x, .slice none 0 0] 33 (0, 0)) := by
            rw [hg2.block _ (by have := GR2.out.size; have := S1.out; simp; omega) (fun he => by have := hlt _ he.symm; have := S1.out; omega)]
            exact heap_old BX2.out
          obtain ⟨sa, sc, rfl⟩ := owns_slice hown2
          have O2 := Lib.hid hown2
          have cc : w2.cell? ⟨w.heap.size + 1, 1, none⟩ = some x := by rw [cell_of_row _ _ 1 _ _ _ bx2]; rfl
          have cf := frozenB (i := 1) bx2
          have X2 := Lib.hid bx2
          clear hown2 hg2 hlt bx2
          go_wp2_with fail
          go_roundw
          case rel =>
            refine ⟨k + 1, by omega, by go_num, .slice sa (k + 1) sc, G2.out.set _ _, ?_, ?_⟩
            · rw [heap_setCell_same _ _ _ _ _ _ X2.out]; rfl
            · have h := ownsRow_setCell_below (a := ⟨w.heap.size + 1, 1, none⟩) O2.out S1.out (.slice sa (k + 1) sc)
              rw [vIs_snoc] at h
              rw [List.range_succ, List.map_append]
              simp only [List.map_cons, List.map_nil, HJ.out]
              exact h
          case measure => simp [intOf]; omega
        · obtain rfl : k = 259 := by omega
          rw [show ((259 : Nat) : Int) = 259 from rfl]
          have hns : Ns wr x ((List.range 259).map fun n : Nat => q + ((n % 7 : Nat) : Int)) := by have h := sl_of_owns OW2.out; unfold Ns; rw [List.length_map, List.length_range]; exact h
          have hvb : x.ownBlock = none ∨ x.ownBlock ≠ some (w.heap.size + 1) := .inr (fun he => by have := (OW2.out.lt _ he).1; have := S1.out; omega)
          obtain ⟨W2, rfl⟩ : ∃ W2, W2 = wr := ⟨_, rfl⟩
          have N2 := Lib.hid hns
          have V2 := Lib.hid hvb
          have U2 : Hid (x.ownBlock = none ∨ x.ownBlock ≠ some w.heap.size) := Lib.hid (.inr (fun he => by have := (OW2.out.lt _ he).1; have := S1.out; omega))
          have M1 : Hid (Ns W2 v (List.replicate 256 p)) := Lib.hid (SlN.grown N1.out GR2.out V1.out)
          have S2 : Hid (w.heap.size + 1 < W2.heap.size) := Lib.hid (by have := GR2.out.size; have := S1.out; omega)
          clear hns hvb OW2 c0
          go_wp2_with fail
          go_loopw [9, 33] (fun _ i w' => ∃ k : Nat, k ≤ 30 ∧ i = .int .i64 k ∧ ∃ y, GrP W2 (w.heap.size + 1) w' ∧ w'.heap[w.heap.size + 1]? = some (.cells #[v, x, y] 33 (0, 0)) ∧ w'.ownsRow W2.heap.size 3 1 y k (vIs ((List.range k).map fun n : Nat => r * (n : Int)))) (fun _ i _ => 30 - (intOf i).toNat)
          case atStart => exact ⟨0, Nat.zero_le _, rfl, _, GrP.refl _ _, BX2.out, World.ownsRow_nil _ _ _ _⟩
          case round =>
            obtain ⟨k, hk, rfl, y, hgr, hbx, hown⟩ := hrel
            have GR3 := Lib.hid hgr
            have BX3 := Lib.hid hbx
            have OW3 := Lib.hid hown
            have c0 : wr.cell? ⟨w.heap.size + 1, 0, none⟩ = some v := by rw [cell_of_row _ _ 0 _ _ _ hbx]; rfl
            have c1 : wr.cell? ⟨w.heap.size + 1, 1, none⟩ = some x := by rw [cell_of_row _ _ 1 _ _ _ hbx]; rfl
            have c2 : wr.cell? ⟨w.heap.size + 1, 2, none⟩ = some y := by rw [cell_of_row _ _ 2 _ _ _ hbx]; rfl
            clear hgr hbx hown
            by_cases hkl : k < 30
            · have f1 : decide ((k : Int) < 30) = true := by rw [decide_eq_true_eq]; omega
              have f2 : decide (k < 30) = true := by rw [decide_eq_true_eq]; omega
              obtain ⟨j, hj⟩ : ∃ j, r * (k : Int) = j := ⟨_, rfl⟩
              have m2 : 0 ≤ j ∧ j ≤ 60000 := by
                rw [← hj]
                have h1 : 0 ≤ r * (k : Int) := Int.mul_nonneg hr.1 (by omega)
                have h2 : r * (k : Int) ≤ 2000 * 30 := Int.mul_le_mul hr.2 (by omega) (by omega) (by omega)
                omega
              have m1 : IntKind.i64.wrap (r * (k : Int)) = j := by rw [hj, IntKind.wrap_i64]; omega
              have HJ := Lib.hid hj
              have M1' : wrap64 (r * (k : Int)) = j := by rw [hj, IntWalk.wrap64_in _ (by omega)]
              clear hj
              go_wp2_with (at_builtin; refine stop ?_)
              refine unstop (wpList_app tyIC rfl _ _ rfl W2.heap.size y k _ rfl (OW3.out.alloc _) _ 1 [.int .i64 j] rfl (sl_lit wr [.int .i64 j] _ 1 rfl (by omega)) (by intro u hu; simp at hu; subst hu; rfl) (by omega) (by omega) (by have := GR3.out.size; simp; omega) ?_)
              intro v' w2 hown2 hg2 _
              have hlt : ∀ j, y.ownBlock = some j → W2.heap.size ≤ j := fun j hj => (OW3.out.lt j hj).1
              have G2 : Hid (GrP W2 (w.heap.size + 1) w2) := Lib.hid ((GR3.out.alloc _).app hg2 hlt)
              have bx2 : w2.heap[w.heap.size + 1]? = some (.cells #[v, x, y] 33 (0, 0)) := by
                rw [hg2.block _ (by have := GR3.out.size; have := S2.out; simp; omega) (fun he => by have := hlt _ he.symm; have := S2.out; omega)]
                exact heap_old BX3.out
              obtain ⟨sa, sc, rfl⟩ := owns_slice hown2
              have O2 := Lib.hid hown2
              have cc : w2.cell? ⟨w.heap.size + 1, 2, none⟩ = some y := by rw [cell_of_row _ _ 2 _ _ _ bx2]; rfl
              have cf := frozenB (i := 2) bx2
              have X2 := Lib.hid bx2
              clear hown2 hg2 hlt bx2
              go_wp2_with fail
              go_roundw
              case rel =>
                refine ⟨k + 1, by omega, by go_num, .slice sa (k + 1) sc, G2.out.set _ _, ?_, ?_⟩
                · rw [heap_setCell_same _ _ _ _ _ _ X2.out]; rfl
                · have h := ownsRow_setCell_below (a := ⟨w.heap.size + 1, 2, none⟩) O2.out S2.out (.slice sa (k + 1) sc)
                  rw [vIs_snoc] at h
                  rw [List.range_succ, List.map_append]
                  simp only [List.map_cons, List.map_nil, HJ.out]
                  exact h
              case measure => simp [intOf]; omega
            · obtain rfl : k = 30 := by omega
              have hns : Ns wr y ((List.range 30).map fun n : Nat => r * (n : Int)) := by have h := sl_of_owns OW3.out; unfold Ns; rw [List.length_map, List.length_range]; exact h
              have P1 : Hid (Ns wr v (List.replicate 256 p)) := Lib.hid (SlN.grown M1.out GR3.out V1.out)
              have P2 : Hid (Ns wr x ((List.range 259).map fun n : Nat => q + ((n % 7 : Nat) : Int))) := Lib.hid (SlN.grown N2.out GR3.out V2.out)
              have P3 := Lib.hid hns
              have U3 : Hid (y.ownBlock = none ∨ y.ownBlock ≠ some w.heap.size) := Lib.hid (.inr (fun he => by have := (OW3.out.lt _ he).1; have := S2.out; omega))
              have zr : wr.heap[w.heap.size]? = some (.cells #[.slice none 0 0, .slice none 0 0, .slice none 0 0] 33 (0, 0)) := by
                have n0 : some w.heap.size ≠ some (w.heap.size + 1) := by intro h; have := Option.some.inj h; omega
                rw [GR3.out.block _ (by have := S2.out; omega) n0, GR2.out.block _ (by have := S1.out; omega) n0, GR.out.block _ (by have := ZZ.out; omega) n0]
                exact Z0.out
              have ZR := Lib.hid zr
              have BW : Hid (Below w.heap.size w wr) := Lib.hid (by
                have h1 : Below w.heap.size W0 W1 := ⟨GR.out.os, GR.out.tape, GR.out.output, GR.out.size, fun k hk => GR.out.block k (by have := ZZ.out; omega) (by intro h; have := Option.some.inj h; omega)⟩
                have h2 : Below w.heap.size W1 W2 := ⟨GR2.out.os, GR2.out.tape, GR2.out.output, GR2.out.size, fun k hk => GR2.out.block k (by have := S1.out; omega) (by intro h; have := Option.some.inj h; omega)⟩
                have h3 : Below w.heap.size W2 wr := ⟨GR3.out.os, GR3.out.tape, GR3.out.output, GR3.out.size, fun k hk => GR3.out.block k (by have := S2.out; omega) (by intro h; have := Option.some.inj h; omega)⟩
                exact ((BZ.out.trans h1).trans h2).trans h3)
              obtain ⟨sv, lv, cv, rfl⟩ : ∃ a n c, v = .slice a n c := by obtain ⟨a, c, h⟩ := P1.out.len; exact ⟨_, _, _, h⟩
              obtain ⟨sx, lx, cx, rfl⟩ : ∃ a n c, x = .slice a n c := by obtain ⟨a, c, h⟩ := P2.out.len; exact ⟨_, _, _, h⟩
              obtain ⟨sy, ly, cy, rfl⟩ : ∃ a n c, y = .slice a n c := by obtain ⟨a, c, h⟩ := P3.out.len; exact ⟨_, _, _, h⟩
              have d0 : wr.cell? ⟨w.heap.size, 0, none⟩ = some (.slice none 0 0) := by rw [cell_of_row _ _ 0 _ _ _ zr]; rfl
              have d1 : wr.cell? ⟨w.heap.size, 1, none⟩ = some (.slice none 0 0) := by rw [cell_of_row _ _ 1 _ _ _ zr]; rfl
              have d2 : wr.cell? ⟨w.heap.size, 2, none⟩ = some (.slice none 0 0) := by rw [cell_of_row _ _ 2 _ _ _ zr]; rfl
              have e0 := frozenB (i := 0) zr
              have e1 := frozenB (i := 1) zr
              have e2 := frozenB (i := 2) zr
              clear hns zr
              go_wp2_with fail
              have g1 := heap_setCell_same wr w.heap.size 0 _ _ (.slice sv lv cv) ZR.out
              have g2 := heap_setCell_same _ w.heap.size 1 _ _ (.slice sx lx cx) g1
              have g3 := heap_setCell_same _ w.heap.size 2 _ _ (.slice sy ly cy) g2
              refine bodyPost_ret (v := .agg #[.slice sv lv cv, .slice sx lx cx, .slice sy ly cy]) (results_cell_row rfl _ _ w.heap.size 33 #[.slice sv lv cv, .slice sx lx cx, .slice sy ly cy] (0, 0) _ rfl ?_ Try.underlying33 rfl (by kernel_rfl)) rfl ⟨_, _, _, rfl, ?_, ?_, ?_, ?_⟩
              · exact g3
              · exact SlN.grown (SlN.grown (SlN.grown P1.out (grow1 _ _ _ _) U1.out) (grow1 _ _ _ _) U1.out) (grow1 _ _ _ _) U1.out
              · exact SlN.grown (SlN.grown (SlN.grown P2.out (grow1 _ _ _ _) U2.out) (grow1 _ _ _ _) U2.out) (grow1 _ _ _ _) U2.out
              · exact SlN.grown (SlN.grown (SlN.grown P3.out (grow1 _ _ _ _) U3.out) (grow1 _ _ _ _) U3.out) (grow1 _ _ _ _) U3.out
              · exact ((BW.out.setCell (Nat.le_refl _) _).setCell (Nat.le_refl _) _).setCell (Nat.le_refl _) _
end Go.Proofs.Ytheomjoadgfkeaa
