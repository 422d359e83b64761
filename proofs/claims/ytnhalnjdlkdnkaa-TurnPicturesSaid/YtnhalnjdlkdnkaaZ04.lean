/- How many blocks a part has, and how many own ones: frame.Size, Own, burnishref23.Size, Own. By an AI agent. -/
import Derived.Test.YtnhalnjdlkdnkaaZ03
import Derived.Test.YtnhalnjdlkdnkaaZ01
import Derived.BigQuiet
namespace Go.Proofs.Ytnhalnjdlkdnkaa
open Go.RowKit Go.BigFrame
set_option linter.unusedVariables false
set_option linter.unusedSimpArgs false
set_option maxRecDepth 20000

def partAt (P : PicL) (k : Int) : PartL := P.parts.getD k.toNat ⟨0, 0, 0, 0, 0, 0, []⟩
def sizeL (P : PicL) (k : Int) : Int × Int := match mostL P k with
  | none => (0, 0)
  | some (h, v) => ((partAt P k).h * upI P.w (8 * h), (partAt P k).v * upI P.h (8 * v))
def ownL (P : PicL) (k : Int) : Int × Int := match mostL P k with
  | none => (0, 0)
  | some (h, v) => (upI (upI (P.w * (partAt P k).h) h) 8, upI (upI (P.h * (partAt P k).v) v) 8)
theorem mul_in {a b m n : Int} (ha : 0 ≤ a ∧ a ≤ m) (hb : 0 ≤ b ∧ b ≤ n) : 0 ≤ a * b ∧ a * b ≤ m * n :=
  ⟨Int.mul_nonneg ha.1 hb.1, Int.mul_le_mul ha.2 hb.2 hb.1 (Int.le_trans ha.1 ha.2)⟩
theorem part_in {P : PicL} {k h v : Int} (e : mostL P k = some (h, v)) : (1 ≤ (partAt P k).h ∧ (partAt P k).h ≤ h) ∧ (1 ≤ (partAt P k).v ∧ (partAt P k).v ≤ v) ∧ k.toNat < P.parts.length ∧ P.parts.getD k.toNat ⟨0, 0, 0, 0, 0, 0, []⟩ ∈ P.parts := by
  obtain ⟨hk, _, _, hf, _⟩ := mostL_some e
  have hlt : k.toNat < P.parts.length := by omega
  have hm : P.parts.getD k.toNat ⟨0, 0, 0, 0, 0, 0, []⟩ ∈ P.parts := by
    rw [List.getD_eq_getElem?_getD, List.getElem?_eq_getElem hlt]
    exact List.getElem_mem hlt
  exact ⟨(hf _ hm).1, (hf _ hm).2, hlt, hm⟩
/-- the cells that a region reads -/
def SzC (w : World) (B b o : Nat) (W H : Int) (pv : Value) (ph pw : Int) (X : World) : Prop :=
  X.cell? ⟨B, 0, none⟩ = some (.int .i64 W) ∧ X.cell? ⟨B, 1, none⟩ = some (.int .i64 H) ∧ X.cell? ⟨B, 6, none⟩ = some pv ∧ X.cell? ⟨b, o + 1, none⟩ = some (.int .i64 ph) ∧ X.cell? ⟨b, o + 2, none⟩ = some (.int .i64 pw) ∧ Below w.heap.size w X

set_option maxHeartbeats 4000000 in
theorem size_any (P : PicL) (q0 q1 q2 q3 pv kv : Value) (k : Int) (w : World) (hc : Pts w pv P.parts) (hl : P.parts.length ≤ 140737488351232) :
    Calls Try.prog 57 #[.agg (vPic P q0 q1 q2 q3 pv kv), .int .i64 k] w fun e w' => e = .returned (.tuple #[.int .i64 (sizeL P k).1, .int .i64 (sizeL P k).2]) ∧ Below w.heap.size w w' := by
  obtain ⟨pa, pc, rfl, _, hx⟩ := pts_at hc
  have HX := Lib.hid hx
  have HC := Lib.hid hc
  clear hx hc
  obtain ⟨w1, hw1⟩ : ∃ w1, w.alloc (.cells (vPic P q0 q1 q2 q3 (.slice pa P.parts.length pc) kv) 36) = w1 := ⟨_, rfl⟩
  have hb1 : Below w.heap.size w w1 := by rw [← hw1]; exact (Below.refl _ _).alloc (Nat.le_refl _) _
  have hbox : PBox w1 w.heap.size P q0 q1 q2 q3 (.slice pa P.parts.length pc) kv := by rw [← hw1]; exact heap_alloc_new _ _
  have B1 := Lib.hid hb1
  have BX1 := Lib.hid hbox
  obtain ⟨a0, a1, a2, a3, a4, a5, a6, a7, a8⟩ := hbox.cells
  unfold vPic at hw1
  clear hb1 hbox
  unfold vPic
  go_enter Try.func57, Try.ntmps57
  go_wp2_with fail
  refine (most_any P q0 q1 q2 q3 _ kv k w1 (HC.out.old B1.out) hl).mono ?_
  rintro e w2 ⟨rfl, hb2⟩
  have B2 := Lib.hid (B1.out.trans (hb2.mono B1.out.size))
  have BX2 := Lib.hid (BX1.out.old hb2)
  clear hb2 hw1 a0 a1 a2 a3 a4 a5 a6 a7 a8
  rcases hm : mostL P k with _ | ⟨h, v⟩
  · have SZ : Hid (sizeL P k = (0, 0)) := Lib.hid (by unfold sizeL; rw [hm])
    unfold mostV
    clear hm
    go_wp2_with fail
    go_returns
    exact ⟨by rw [SZ.out]; rfl, B2.out⟩
  · have SZ : Hid (sizeL P k = ((partAt P k).h * upI P.w (8 * h), (partAt P k).v * upI P.h (8 * v))) := Lib.hid (by unfold sizeL; rw [hm])
    obtain ⟨hk, hw, hh, hf, h14, v14⟩ := mostL_some hm
    obtain ⟨ph1, pv1, hlt, -⟩ := part_in hm
    obtain ⟨b, off, x, rfl, -, -, c0, c1, c2, c3, c4, c5, c6⟩ := HX.out k.toNat hlt
    have hpa : P.parts[k.toNat] = partAt P k := by unfold partAt; rw [List.getD_eq_getElem?_getD, List.getElem?_eq_getElem hlt]; rfl
    rw [hpa] at c1 c2
    obtain ⟨ph, hph⟩ : ∃ z, (partAt P k).h = z := ⟨_, rfl⟩
    obtain ⟨pw, hpw⟩ : ∃ z, (partAt P k).v = z := ⟨_, rfl⟩
    rw [hph] at c1 SZ ph1
    rw [hpw] at c2 SZ pv1
    have d1 := cell_old B2.out c1
    have d2 := cell_old B2.out c2
    obtain ⟨a0, a1, a2, a3, a4, a5, a6, a7, a8⟩ := BX2.out.cells
    obtain ⟨kn, hkn⟩ : ∃ n : Nat, k = (n : Int) := ⟨k.toNat, by omega⟩
    subst hkn
    simp only [Int.toNat_natCast] at d1 d2 hlt
    obtain ⟨W, hW⟩ : ∃ z, P.w = z := ⟨_, rfl⟩
    obtain ⟨H, hH⟩ : ∃ z, P.h = z := ⟨_, rfl⟩
    rw [hW] at hw a0 SZ
    rw [hH] at hh a1 SZ
    have i1 : decide ((kn : Int) < (P.parts.length : Int)) = true := by rw [decide_eq_true_eq]; omega
    have i2 : kn < P.parts.length := hlt
    have i3 : (0 : Int) ≤ (kn : Int) := by omega
    have i4 : (kn : Int) < (P.parts.length : Int) := by omega

    have u1 := upI_in W (8 * h) (by omega) (by omega)
    have u2 := upI_in H (8 * v) (by omega) (by omega)
    have g1 : IntKind.i64.wrap (8 * h) = 8 * h := IntWalk.i64_in _ (by omega)
    have g2 : IntKind.i64.wrap (8 * v) = 8 * v := IntWalk.i64_in _ (by omega)
    have b1 := mul_in (a := ph) (b := upI W (8 * h)) (m := 4) (n := 65535) (by omega) (by omega)
    have b2 := mul_in (a := pw) (b := upI H (8 * v)) (m := 4) (n := 65535) (by omega) (by omega)
    have g3 : IntKind.i64.wrap (ph * upI W (8 * h)) = ph * upI W (8 * h) := IntWalk.i64_in _ (by omega)
    have g4 : IntKind.i64.wrap (pw * upI H (8 * v)) = pw * upI H (8 * v) := IntWalk.i64_in _ (by omega)
    have BD : Hid ((0 ≤ W ∧ W ≤ 1000000) ∧ (0 ≤ H ∧ H ≤ 1000000) ∧ (1 ≤ h ∧ h ≤ 100) ∧ (1 ≤ v ∧ v ≤ 100)) := Lib.hid (by omega)
    clear b1 b2 u1 u2
    have CD : SzC w w.heap.size b (off + kn * 7) W H (.slice (some ⟨b, off, none⟩) P.parts.length pc) ph pw w2.drew := ⟨a0, a1, a6, d1, d2, B2.out.drew⟩
    clear hm hf h14 v14 ph1 pv1 c0 c1 c2 c3 c4 c5 c6 hpa hph hpw hw hh hW hH a2 a3 a4 a5 a7 a8 a0 a1 a6 d1 d2 hk
    unfold mostV
    go_wp2_with fail
    refine wp_region_q (SzC w w.heap.size b (off + kn * 7) W H (.slice (some ⟨b, off, none⟩) P.parts.length pc) ph pw) (by kernel_rfl) (by kernel_rfl) CD ?_
    clear CD
    repeat
      first
      | go_big_quiet_skip
      | (go_big_quiet_want
         first
         | (go_big_quiet_op; go_big_quiet_on)
         | (apply Exists.intro
            refine ⟨fun X hX => ?_, ?_⟩
            · have hXX := Lib.hid hX
              obtain ⟨x1, x2, x3, x4, x5, x6⟩ := hX
              clear x6
              unfold Oper.quietAt
              go_simp
              first
              | exact ⟨rfl, rfl⟩
              | exact rfl
              | (go_at_call 80; refine (up_any _ _ X (by have := BD.out; omega) (by have := BD.out; omega)).mono (fun e W' ⟨h1, h2⟩ => ⟨h1, h2 ▸ hXX.out⟩))
            go_big_quiet_on
            try simp only [Act.put, List.setIfInBounds_toArray, List.set_cons_zero, List.set_cons_succ]))
    refine wpQuiet_nil ?_
    rintro X ⟨-, -, -, -, -, hbX⟩
    have BX := Lib.hid hbX
    clear hbX
    go_wp2_with fail
    go_returns
    exact ⟨by rw [SZ.out]; rfl, BX.out⟩
set_option maxHeartbeats 4000000 in
theorem own_any (P : PicL) (q0 q1 q2 q3 pv kv : Value) (k : Int) (w : World) (hc : Pts w pv P.parts) (hl : P.parts.length ≤ 140737488351232) :
    Calls Try.prog 81 #[.agg (vPic P q0 q1 q2 q3 pv kv), .int .i64 k] w fun e w' => e = .returned (.tuple #[.int .i64 (ownL P k).1, .int .i64 (ownL P k).2]) ∧ Below w.heap.size w w' := by
  obtain ⟨pa, pc, rfl, _, hx⟩ := pts_at hc
  have HX := Lib.hid hx
  have HC := Lib.hid hc
  clear hx hc
  obtain ⟨w1, hw1⟩ : ∃ w1, w.alloc (.cells (vPic P q0 q1 q2 q3 (.slice pa P.parts.length pc) kv) 36) = w1 := ⟨_, rfl⟩
  have hb1 : Below w.heap.size w w1 := by rw [← hw1]; exact (Below.refl _ _).alloc (Nat.le_refl _) _
  have hbox : PBox w1 w.heap.size P q0 q1 q2 q3 (.slice pa P.parts.length pc) kv := by rw [← hw1]; exact heap_alloc_new _ _
  have B1 := Lib.hid hb1
  have BX1 := Lib.hid hbox
  obtain ⟨a0, a1, a2, a3, a4, a5, a6, a7, a8⟩ := hbox.cells
  unfold vPic at hw1
  clear hb1 hbox
  unfold vPic
  go_enter Try.func81, Try.ntmps81
  go_wp2_with fail
  refine (most_any P q0 q1 q2 q3 _ kv k w1 (HC.out.old B1.out) hl).mono ?_
  rintro e w2 ⟨rfl, hb2⟩
  have B2 := Lib.hid (B1.out.trans (hb2.mono B1.out.size))
  have BX2 := Lib.hid (BX1.out.old hb2)
  clear hb2 hw1 a0 a1 a2 a3 a4 a5 a6 a7 a8
  rcases hm : mostL P k with _ | ⟨h, v⟩
  · have SZ : Hid (ownL P k = (0, 0)) := Lib.hid (by unfold ownL; rw [hm])
    unfold mostV
    clear hm
    go_wp2_with fail
    go_returns
    exact ⟨by rw [SZ.out]; rfl, B2.out⟩
  · have SZ : Hid (ownL P k = (upI (upI (P.w * (partAt P k).h) h) 8, upI (upI (P.h * (partAt P k).v) v) 8)) := Lib.hid (by unfold ownL; rw [hm])
    obtain ⟨hk, hw, hh, hf, h14, v14⟩ := mostL_some hm
    obtain ⟨ph1, pv1, hlt, -⟩ := part_in hm
    obtain ⟨b, off, x, rfl, -, -, c0, c1, c2, c3, c4, c5, c6⟩ := HX.out k.toNat hlt
    have hpa : P.parts[k.toNat] = partAt P k := by unfold partAt; rw [List.getD_eq_getElem?_getD, List.getElem?_eq_getElem hlt]; rfl
    rw [hpa] at c1 c2
    obtain ⟨ph, hph⟩ : ∃ z, (partAt P k).h = z := ⟨_, rfl⟩
    obtain ⟨pw, hpw⟩ : ∃ z, (partAt P k).v = z := ⟨_, rfl⟩
    rw [hph] at c1 SZ ph1
    rw [hpw] at c2 SZ pv1
    have d1 := cell_old B2.out c1
    have d2 := cell_old B2.out c2
    obtain ⟨a0, a1, a2, a3, a4, a5, a6, a7, a8⟩ := BX2.out.cells
    obtain ⟨kn, hkn⟩ : ∃ n : Nat, k = (n : Int) := ⟨k.toNat, by omega⟩
    subst hkn
    simp only [Int.toNat_natCast] at d1 d2 hlt
    obtain ⟨W, hW⟩ : ∃ z, P.w = z := ⟨_, rfl⟩
    obtain ⟨H, hH⟩ : ∃ z, P.h = z := ⟨_, rfl⟩
    rw [hW] at hw a0 SZ
    rw [hH] at hh a1 SZ
    have i1 : decide ((kn : Int) < (P.parts.length : Int)) = true := by rw [decide_eq_true_eq]; omega
    have i2 : kn < P.parts.length := hlt
    have i3 : (0 : Int) ≤ (kn : Int) := by omega
    have i4 : (kn : Int) < (P.parts.length : Int) := by omega

    have b1 := mul_in (a := W) (b := ph) (m := 65535) (n := 4) (by omega) (by omega)
    have b2 := mul_in (a := H) (b := pw) (m := 65535) (n := 4) (by omega) (by omega)
    obtain ⟨m1, hm1⟩ : ∃ z, W * ph = z := ⟨_, rfl⟩
    obtain ⟨m2, hm2⟩ : ∃ z, H * pw = z := ⟨_, rfl⟩
    rw [hm1] at b1 SZ
    rw [hm2] at b2 SZ
    have u1 := upI_in m1 h (by omega) (by omega)
    have u2 := upI_in m2 v (by omega) (by omega)
    have BD : Hid ((0 ≤ m1 ∧ m1 ≤ 1000000) ∧ (0 ≤ m2 ∧ m2 ≤ 1000000) ∧ (0 ≤ upI m1 h ∧ upI m1 h ≤ 1000000) ∧ (0 ≤ upI m2 v ∧ upI m2 v ≤ 1000000) ∧ (1 ≤ h ∧ h ≤ 1000) ∧ (1 ≤ v ∧ v ≤ 1000)) := Lib.hid (by omega)
    have g1 : IntKind.i64.wrap (W * ph) = m1 := by rw [hm1]; exact IntWalk.i64_in _ (by omega)
    have g2 : IntKind.i64.wrap (H * pw) = m2 := by rw [hm2]; exact IntWalk.i64_in _ (by omega)
    clear hm1 hm2 b1 b2 u1 u2
    have CD : SzC w w.heap.size b (off + kn * 7) W H (.slice (some ⟨b, off, none⟩) P.parts.length pc) ph pw w2.drew := ⟨a0, a1, a6, d1, d2, B2.out.drew⟩
    clear hm hf h14 v14 ph1 pv1 c0 c1 c2 c3 c4 c5 c6 hpa hph hpw hw hh hW hH a2 a3 a4 a5 a7 a8 a0 a1 a6 d1 d2 hk
    unfold mostV
    go_wp2_with fail
    refine wp_region_q (SzC w w.heap.size b (off + kn * 7) W H (.slice (some ⟨b, off, none⟩) P.parts.length pc) ph pw) (by kernel_rfl) (by kernel_rfl) CD ?_
    clear CD
    repeat
      first
      | go_big_quiet_skip
      | (go_big_quiet_want
         first
         | (go_big_quiet_op; go_big_quiet_on)
         | (apply Exists.intro
            refine ⟨fun X hX => ?_, ?_⟩
            · have hXX := Lib.hid hX
              obtain ⟨x1, x2, x3, x4, x5, x6⟩ := hX
              clear x6
              unfold Oper.quietAt
              go_simp
              first
              | exact ⟨rfl, rfl⟩
              | exact rfl
              | (go_at_call 80; refine (up_any _ _ X (by have := BD.out; omega) (by have := BD.out; omega)).mono (fun e W' ⟨h1, h2⟩ => ⟨h1, h2 ▸ hXX.out⟩))
            go_big_quiet_on
            try simp only [Act.put, List.setIfInBounds_toArray, List.set_cons_zero, List.set_cons_succ]))
    refine wpQuiet_nil ?_
    rintro X ⟨-, -, -, -, -, hbX⟩
    have BX := Lib.hid hbX
    clear hbX
    go_wp2_with fail
    go_returns
    exact ⟨by rw [SZ.out]; rfl, BX.out⟩
set_option maxHeartbeats 4000000 in
theorem refSize_any (P : PicL) (q0 q1 q2 q3 pv kv : Value) (k : Int) (w : World) (hc : Pts w pv P.parts) (hl : P.parts.length ≤ 140737488351232) :
    Calls Try.prog 38 #[.agg (vPic P q0 q1 q2 q3 pv kv), .int .i64 k] w fun e w' => e = .returned (.tuple #[.int .i64 (sizeL P k).1, .int .i64 (sizeL P k).2]) ∧ Below w.heap.size w w' := by
  obtain ⟨pa, pc, rfl, _, hx⟩ := pts_at hc
  have HX := Lib.hid hx
  have HC := Lib.hid hc
  clear hx hc
  obtain ⟨w1, hw1⟩ : ∃ w1, w.alloc (.cells (vPic P q0 q1 q2 q3 (.slice pa P.parts.length pc) kv) 36) = w1 := ⟨_, rfl⟩
  have hb1 : Below w.heap.size w w1 := by rw [← hw1]; exact (Below.refl _ _).alloc (Nat.le_refl _) _
  have hbox : PBox w1 w.heap.size P q0 q1 q2 q3 (.slice pa P.parts.length pc) kv := by rw [← hw1]; exact heap_alloc_new _ _
  have B1 := Lib.hid hb1
  have BX1 := Lib.hid hbox
  obtain ⟨a0, a1, a2, a3, a4, a5, a6, a7, a8⟩ := hbox.cells
  unfold vPic at hw1
  clear hb1 hbox
  unfold vPic
  go_enter Try.func38, Try.ntmps38
  go_wp2_with fail
  refine (factors_any P q0 q1 q2 q3 _ kv k w1 (HC.out.old B1.out) hl).mono ?_
  rintro e w2 ⟨rfl, hb2⟩
  have B2 := Lib.hid (B1.out.trans (hb2.mono B1.out.size))
  have BX2 := Lib.hid (BX1.out.old hb2)
  clear hb2 hw1 a0 a1 a2 a3 a4 a5 a6 a7 a8
  rcases hm : mostL P k with _ | ⟨h, v⟩
  · have SZ : Hid (sizeL P k = (0, 0)) := Lib.hid (by unfold sizeL; rw [hm])
    unfold mostV
    clear hm
    go_wp2_with fail
    go_returns
    exact ⟨by rw [SZ.out]; rfl, B2.out⟩
  · have SZ : Hid (sizeL P k = ((partAt P k).h * upI P.w (8 * h), (partAt P k).v * upI P.h (8 * v))) := Lib.hid (by unfold sizeL; rw [hm])
    obtain ⟨hk, hw, hh, hf, h14, v14⟩ := mostL_some hm
    obtain ⟨ph1, pv1, hlt, -⟩ := part_in hm
    obtain ⟨b, off, x, rfl, -, -, c0, c1, c2, c3, c4, c5, c6⟩ := HX.out k.toNat hlt
    have hpa : P.parts[k.toNat] = partAt P k := by unfold partAt; rw [List.getD_eq_getElem?_getD, List.getElem?_eq_getElem hlt]; rfl
    rw [hpa] at c1 c2
    obtain ⟨ph, hph⟩ : ∃ z, (partAt P k).h = z := ⟨_, rfl⟩
    obtain ⟨pw, hpw⟩ : ∃ z, (partAt P k).v = z := ⟨_, rfl⟩
    rw [hph] at c1 SZ ph1
    rw [hpw] at c2 SZ pv1
    have d1 := cell_old B2.out c1
    have d2 := cell_old B2.out c2
    obtain ⟨a0, a1, a2, a3, a4, a5, a6, a7, a8⟩ := BX2.out.cells
    obtain ⟨kn, hkn⟩ : ∃ n : Nat, k = (n : Int) := ⟨k.toNat, by omega⟩
    subst hkn
    simp only [Int.toNat_natCast] at d1 d2 hlt
    obtain ⟨W, hW⟩ : ∃ z, P.w = z := ⟨_, rfl⟩
    obtain ⟨H, hH⟩ : ∃ z, P.h = z := ⟨_, rfl⟩
    rw [hW] at hw a0 SZ
    rw [hH] at hh a1 SZ
    have i1 : decide ((kn : Int) < (P.parts.length : Int)) = true := by rw [decide_eq_true_eq]; omega
    have i2 : kn < P.parts.length := hlt
    have i3 : (0 : Int) ≤ (kn : Int) := by omega
    have i4 : (kn : Int) < (P.parts.length : Int) := by omega

    have u1 := upI_in W (8 * h) (by omega) (by omega)
    have u2 := upI_in H (8 * v) (by omega) (by omega)
    have g1 : IntKind.i64.wrap (8 * h) = 8 * h := IntWalk.i64_in _ (by omega)
    have g2 : IntKind.i64.wrap (8 * v) = 8 * v := IntWalk.i64_in _ (by omega)
    have b1 := mul_in (a := ph) (b := upI W (8 * h)) (m := 4) (n := 65535) (by omega) (by omega)
    have b2 := mul_in (a := pw) (b := upI H (8 * v)) (m := 4) (n := 65535) (by omega) (by omega)
    have g3 : IntKind.i64.wrap (ph * upI W (8 * h)) = ph * upI W (8 * h) := IntWalk.i64_in _ (by omega)
    have g4 : IntKind.i64.wrap (pw * upI H (8 * v)) = pw * upI H (8 * v) := IntWalk.i64_in _ (by omega)
    have BD : Hid ((0 ≤ W ∧ W ≤ 1000000) ∧ (0 ≤ H ∧ H ≤ 1000000) ∧ (1 ≤ h ∧ h ≤ 100) ∧ (1 ≤ v ∧ v ≤ 100)) := Lib.hid (by omega)
    clear b1 b2 u1 u2
    have CD : SzC w w.heap.size b (off + kn * 7) W H (.slice (some ⟨b, off, none⟩) P.parts.length pc) ph pw w2.drew := ⟨a0, a1, a6, d1, d2, B2.out.drew⟩
    clear hm hf h14 v14 ph1 pv1 c0 c1 c2 c3 c4 c5 c6 hpa hph hpw hw hh hW hH a2 a3 a4 a5 a7 a8 a0 a1 a6 d1 d2 hk
    unfold mostV
    go_wp2_with fail
    refine wp_region_q (SzC w w.heap.size b (off + kn * 7) W H (.slice (some ⟨b, off, none⟩) P.parts.length pc) ph pw) (by kernel_rfl) (by kernel_rfl) CD ?_
    clear CD
    repeat
      first
      | go_big_quiet_skip
      | (go_big_quiet_want
         first
         | (go_big_quiet_op; go_big_quiet_on)
         | (apply Exists.intro
            refine ⟨fun X hX => ?_, ?_⟩
            · have hXX := Lib.hid hX
              obtain ⟨x1, x2, x3, x4, x5, x6⟩ := hX
              clear x6
              unfold Oper.quietAt
              go_simp
              first
              | exact ⟨rfl, rfl⟩
              | exact rfl
              | (go_at_call 63; refine (refUp_any _ _ X (by have := BD.out; omega) (by have := BD.out; omega)).mono (fun e W' ⟨h1, h2⟩ => ⟨h1, h2 ▸ hXX.out⟩))
            go_big_quiet_on
            try simp only [Act.put, List.setIfInBounds_toArray, List.set_cons_zero, List.set_cons_succ]))
    refine wpQuiet_nil ?_
    rintro X ⟨-, -, -, -, -, hbX⟩
    have BX := Lib.hid hbX
    clear hbX
    go_wp2_with fail
    go_returns
    exact ⟨by rw [SZ.out]; rfl, BX.out⟩
set_option maxHeartbeats 4000000 in
theorem refOwn_any (P : PicL) (q0 q1 q2 q3 pv kv : Value) (k : Int) (w : World) (hc : Pts w pv P.parts) (hl : P.parts.length ≤ 140737488351232) :
    Calls Try.prog 39 #[.agg (vPic P q0 q1 q2 q3 pv kv), .int .i64 k] w fun e w' => e = .returned (.tuple #[.int .i64 (ownL P k).1, .int .i64 (ownL P k).2]) ∧ Below w.heap.size w w' := by
  obtain ⟨pa, pc, rfl, _, hx⟩ := pts_at hc
  have HX := Lib.hid hx
  have HC := Lib.hid hc
  clear hx hc
  obtain ⟨w1, hw1⟩ : ∃ w1, w.alloc (.cells (vPic P q0 q1 q2 q3 (.slice pa P.parts.length pc) kv) 36) = w1 := ⟨_, rfl⟩
  have hb1 : Below w.heap.size w w1 := by rw [← hw1]; exact (Below.refl _ _).alloc (Nat.le_refl _) _
  have hbox : PBox w1 w.heap.size P q0 q1 q2 q3 (.slice pa P.parts.length pc) kv := by rw [← hw1]; exact heap_alloc_new _ _
  have B1 := Lib.hid hb1
  have BX1 := Lib.hid hbox
  obtain ⟨a0, a1, a2, a3, a4, a5, a6, a7, a8⟩ := hbox.cells
  unfold vPic at hw1
  clear hb1 hbox
  unfold vPic
  go_enter Try.func39, Try.ntmps39
  go_wp2_with fail
  refine (factors_any P q0 q1 q2 q3 _ kv k w1 (HC.out.old B1.out) hl).mono ?_
  rintro e w2 ⟨rfl, hb2⟩
  have B2 := Lib.hid (B1.out.trans (hb2.mono B1.out.size))
  have BX2 := Lib.hid (BX1.out.old hb2)
  clear hb2 hw1 a0 a1 a2 a3 a4 a5 a6 a7 a8
  rcases hm : mostL P k with _ | ⟨h, v⟩
  · have SZ : Hid (ownL P k = (0, 0)) := Lib.hid (by unfold ownL; rw [hm])
    unfold mostV
    clear hm
    go_wp2_with fail
    go_returns
    exact ⟨by rw [SZ.out]; rfl, B2.out⟩
  · have SZ : Hid (ownL P k = (upI (upI (P.w * (partAt P k).h) h) 8, upI (upI (P.h * (partAt P k).v) v) 8)) := Lib.hid (by unfold ownL; rw [hm])
    obtain ⟨hk, hw, hh, hf, h14, v14⟩ := mostL_some hm
    obtain ⟨ph1, pv1, hlt, -⟩ := part_in hm
    obtain ⟨b, off, x, rfl, -, -, c0, c1, c2, c3, c4, c5, c6⟩ := HX.out k.toNat hlt
    have hpa : P.parts[k.toNat] = partAt P k := by unfold partAt; rw [List.getD_eq_getElem?_getD, List.getElem?_eq_getElem hlt]; rfl
    rw [hpa] at c1 c2
    obtain ⟨ph, hph⟩ : ∃ z, (partAt P k).h = z := ⟨_, rfl⟩
    obtain ⟨pw, hpw⟩ : ∃ z, (partAt P k).v = z := ⟨_, rfl⟩
    rw [hph] at c1 SZ ph1
    rw [hpw] at c2 SZ pv1
    have d1 := cell_old B2.out c1
    have d2 := cell_old B2.out c2
    obtain ⟨a0, a1, a2, a3, a4, a5, a6, a7, a8⟩ := BX2.out.cells
    obtain ⟨kn, hkn⟩ : ∃ n : Nat, k = (n : Int) := ⟨k.toNat, by omega⟩
    subst hkn
    simp only [Int.toNat_natCast] at d1 d2 hlt
    obtain ⟨W, hW⟩ : ∃ z, P.w = z := ⟨_, rfl⟩
    obtain ⟨H, hH⟩ : ∃ z, P.h = z := ⟨_, rfl⟩
    rw [hW] at hw a0 SZ
    rw [hH] at hh a1 SZ
    have i1 : decide ((kn : Int) < (P.parts.length : Int)) = true := by rw [decide_eq_true_eq]; omega
    have i2 : kn < P.parts.length := hlt
    have i3 : (0 : Int) ≤ (kn : Int) := by omega
    have i4 : (kn : Int) < (P.parts.length : Int) := by omega

    have b1 := mul_in (a := W) (b := ph) (m := 65535) (n := 4) (by omega) (by omega)
    have b2 := mul_in (a := H) (b := pw) (m := 65535) (n := 4) (by omega) (by omega)
    obtain ⟨m1, hm1⟩ : ∃ z, W * ph = z := ⟨_, rfl⟩
    obtain ⟨m2, hm2⟩ : ∃ z, H * pw = z := ⟨_, rfl⟩
    rw [hm1] at b1 SZ
    rw [hm2] at b2 SZ
    have u1 := upI_in m1 h (by omega) (by omega)
    have u2 := upI_in m2 v (by omega) (by omega)
    have BD : Hid ((0 ≤ m1 ∧ m1 ≤ 1000000) ∧ (0 ≤ m2 ∧ m2 ≤ 1000000) ∧ (0 ≤ upI m1 h ∧ upI m1 h ≤ 1000000) ∧ (0 ≤ upI m2 v ∧ upI m2 v ≤ 1000000) ∧ (1 ≤ h ∧ h ≤ 1000) ∧ (1 ≤ v ∧ v ≤ 1000)) := Lib.hid (by omega)
    have g1 : IntKind.i64.wrap (W * ph) = m1 := by rw [hm1]; exact IntWalk.i64_in _ (by omega)
    have g2 : IntKind.i64.wrap (H * pw) = m2 := by rw [hm2]; exact IntWalk.i64_in _ (by omega)
    clear hm1 hm2 b1 b2 u1 u2
    have CD : SzC w w.heap.size b (off + kn * 7) W H (.slice (some ⟨b, off, none⟩) P.parts.length pc) ph pw w2.drew := ⟨a0, a1, a6, d1, d2, B2.out.drew⟩
    clear hm hf h14 v14 ph1 pv1 c0 c1 c2 c3 c4 c5 c6 hpa hph hpw hw hh hW hH a2 a3 a4 a5 a7 a8 a0 a1 a6 d1 d2 hk
    unfold mostV
    go_wp2_with fail
    refine wp_region_q (SzC w w.heap.size b (off + kn * 7) W H (.slice (some ⟨b, off, none⟩) P.parts.length pc) ph pw) (by kernel_rfl) (by kernel_rfl) CD ?_
    clear CD
    repeat
      first
      | go_big_quiet_skip
      | (go_big_quiet_want
         first
         | (go_big_quiet_op; go_big_quiet_on)
         | (apply Exists.intro
            refine ⟨fun X hX => ?_, ?_⟩
            · have hXX := Lib.hid hX
              obtain ⟨x1, x2, x3, x4, x5, x6⟩ := hX
              clear x6
              unfold Oper.quietAt
              go_simp
              first
              | exact ⟨rfl, rfl⟩
              | exact rfl
              | (go_at_call 63; refine (refUp_any _ _ X (by have := BD.out; omega) (by have := BD.out; omega)).mono (fun e W' ⟨h1, h2⟩ => ⟨h1, h2 ▸ hXX.out⟩))
            go_big_quiet_on
            try simp only [Act.put, List.setIfInBounds_toArray, List.set_cons_zero, List.set_cons_succ]))
    refine wpQuiet_nil ?_
    rintro X ⟨-, -, -, -, -, hbX⟩
    have BX := Lib.hid hbX
    clear hbX
    go_wp2_with fail
    go_returns
    exact ⟨by rw [SZ.out]; rfl, BX.out⟩
end Go.Proofs.Ytnhalnjdlkdnkaa
