/- A cut of a cut is a cut: plain. By an AI agent. -/
import Derived.Test.YtnhalnjdlkdnkaaCropP
namespace Go.Proofs.Ytnhalnjdlkdnkaa
set_option linter.unusedVariables false
set_option linter.unusedSimpArgs false
set_option maxRecDepth 20000

theorem gath_lenN {x : PartL} {c r : Int} {s : Nat} : ∀ n : Nat, (∀ i : Nat, i < n → (rowL x c r (s : Int) (i : Int)).length = s) → (gathL x c r (s : Int) n).length = n * s
  | 0, _ => by simp [gathL]
  | n + 1, h => by rw [gath_succ, List.length_append, gath_lenN n (fun i hi => h i (by omega)), h n (by omega), Nat.add_mul, Nat.one_mul]
theorem gath_at {x : PartL} {c r : Int} {s : Nat} : ∀ n : Nat, (∀ i : Nat, i < n → (rowL x c r (s : Int) (i : Int)).length = s) → ∀ i j : Nat, i < n → j < s → (gathL x c r (s : Int) n)[i * s + j]? = x.bs[rowAt x c r (i : Int) + j]?
  | 0, _, i, j, hi, _ => by omega
  | n + 1, h, i, j, hi, hj => by
    have hl := gath_lenN n (fun i hi => h i (by omega))
    rw [gath_succ]
    by_cases hin : i < n
    · have hlt := mul_add_lt hin hj
      rw [List.getElem?_append_left (by rw [hl]; exact hlt)]
      exact gath_at n (fun i hi => h i (by omega)) i j hin hj
    · obtain rfl : i = n := by omega
      rw [List.getElem?_append_right (by rw [hl]; omega), hl, Nat.add_sub_cancel_left]
      unfold rowL
      rw [List.getElem?_take, if_pos (by simpa using hj), List.getElem?_drop]
theorem shTo_at? (sw ow oh : Int) (bs : List (List Int)) (i : Nat) : (shTo sw ow oh bs bs.length)[i]? = (bs[i]?).map fun b => shB sw ow oh i b := by
  unfold shTo
  rw [List.getElem?_mapIdx]
  cases h : bs[i]? with
  | none => rfl
  | some b =>
    have := (List.getElem?_eq_some_iff.1 h).1
    simp [this]
theorem own_mono {a b m : Int} (h : a ≤ b) (hm : 0 < m) : upI (upI a m) 8 ≤ upI (upI b m) 8 := upI_mono (upI_mono h hm) (by decide)
theorem own_shift {r v m h2 H : Int} (hm : 0 < m) (hv : 0 ≤ v) (hH : r * (8 * m) + h2 ≤ H) : r * v + upI (upI (h2 * v) m) 8 ≤ upI (upI (H * v) m) 8 := by
  have h1 : r * (8 * m) * v + h2 * v ≤ H * v := by
    have := Int.mul_le_mul_of_nonneg_right hH hv
    rwa [Int.add_mul] at this
  have e1 : r * (8 * m) * v = (r * v * 8) * m := by
    rw [Int.mul_assoc, Int.mul_comm (8 * m) v, ← Int.mul_assoc, ← Int.mul_assoc]
  rw [e1] at h1
  have h2' := upI_mono h1 hm
  rw [upI_add _ _ _ hm] at h2'
  have h3 := upI_mono h2' (show (0 : Int) < 8 by decide)
  rwa [upI_add _ _ _ (by decide)] at h3
theorem place_of (a i j : Nat) (hj : j < a) : ((i * a + j : Nat) : Int) % (a : Int) = (j : Int) ∧ ((i * a + j : Nat) : Int) / (a : Int) = (i : Int) := by
  constructor
  · rw [← Int.natCast_emod, Nat.mul_comm, Nat.mul_add_mod, Nat.mod_eq_of_lt hj]
  · rw [← Int.natCast_ediv, Nat.mul_comm, Nat.mul_add_div (by omega), Nat.div_eq_of_lt hj, Nat.add_zero]
/-- the blocks of a cut of a cut -/
theorem cutB_cut (p : PartL) (c r : Int) (a b a1 b1 rv : Nat) (o o1 : Int × Int) (hrv : r * p.v = (rv : Int)) (haa : a ≤ a1) (hbb : rv + b ≤ b1) (how : o.1 ≤ o1.1) (hoh : (rv : Int) + o.2 ≤ o1.2)
    (r1 : ∀ i : Nat, i < b → (rowL (cutX p c 0 ((a1 : Int), (b1 : Int)) o1) 0 r (a : Int) (i : Int)).length = a) (r2 : ∀ i : Nat, i < b → (rowL p c r (a : Int) (i : Int)).length = a) (r3 : ∀ i : Nat, i < b1 → (rowL p c 0 (a1 : Int) (i : Int)).length = a1) :
    cutB (cutX p c 0 ((a1 : Int), (b1 : Int)) o1) 0 r ((a : Int), (b : Int)) o = cutB p c r ((a : Int), (b : Int)) o := by
  unfold cutB
  simp only [Int.toNat_natCast]
  apply List.ext_getElem?
  intro m
  rw [shTo_at?, shTo_at?]
  have l1 := gath_lenN b r1
  have l2 := gath_lenN b r2
  by_cases hm : m < b * a
  · have ha : 0 < a := by
      rcases Nat.eq_zero_or_pos a with h | h
      · rw [h] at hm; omega
      · exact h
    have hd : m / a < b := Nat.div_lt_of_lt_mul (by rw [Nat.mul_comm]; exact hm)
    have hr : m % a < a := Nat.mod_lt _ ha
    have e : m / a * a + m % a = m := by rw [Nat.mul_comm]; exact Nat.div_add_mod m a
    obtain ⟨i, hi⟩ : ∃ z, m / a = z := ⟨_, rfl⟩
    obtain ⟨j, hj⟩ : ∃ z, m % a = z := ⟨_, rfl⟩
    rw [hi, hj] at e
    rw [hi] at hd
    rw [hj] at hr
    rw [← e, gath_at b r1 i j hd hr, gath_at b r2 i j hd hr]
    have q1 : rowAt (cutX p c 0 ((a1 : Int), (b1 : Int)) o1) 0 r (i : Int) = (rv + i) * a1 := by
      unfold rowAt
      show ((r * p.v + (i : Int)) * (a1 : Int) + 0 * p.h).toNat = _
      rw [hrv, Int.zero_mul, Int.add_zero]
      have : ((rv : Int) + (i : Int)) * (a1 : Int) = (((rv + i) * a1 : Nat) : Int) := by push_cast; rfl
      rw [this, Int.toNat_natCast]
    have q2 : rowAt p c 0 ((rv + i : Nat) : Int) = rowAt p c r (i : Int) := by
      unfold rowAt
      rw [Int.zero_mul, Int.zero_add, hrv]
      push_cast
      rfl
    have hR : rv + i < b1 := by omega
    have q3 : (cutX p c 0 ((a1 : Int), (b1 : Int)) o1).bs[(rv + i) * a1 + j]? = (p.bs[rowAt p c r (i : Int) + j]?).map fun z => shB (a1 : Int) o1.1 o1.2 ((rv + i) * a1 + j) z := by
      show (cutB p c 0 ((a1 : Int), (b1 : Int)) o1)[(rv + i) * a1 + j]? = _
      unfold cutB
      simp only [Int.toNat_natCast]
      rw [shTo_at?, gath_at b1 r3 (rv + i) j hR (by omega), q2]
    rw [q1, q3]
    cases p.bs[rowAt p c r (i : Int) + j]? with
    | none => rfl
    | some z =>
      simp only [Option.map_some, Option.some.injEq]
      obtain ⟨p1, p2⟩ := place_of a i j hr
      obtain ⟨p3, p4⟩ := place_of a1 (rv + i) j (by omega)
      unfold shB
      rw [p1, p2, p3, p4]
      by_cases h : o.1 ≤ (j : Int) ∨ o.2 ≤ (i : Int)
      · rw [if_pos h, if_pos h]
      · rw [if_neg h, if_neg h, if_neg (by push_cast; omega)]
  · rw [List.getElem?_eq_none (by rw [l1]; omega), List.getElem?_eq_none (by rw [l2]; omega)]
/-- a cut of a cut is a cut -/
theorem cut_cut {P : PicL} {c r w1 w2 h2 : Int} (G : GoodS P) (I1 : In P c 0 w1 P.h) (I2 : In (cutL P c 0 w1 P.h) 0 r w2 h2) : In P c r w2 h2 ∧ cutL (cutL P c 0 w1 P.h) 0 r w2 h2 = cutL P c r w2 h2 := by
  have F := G.fit
  have F1 := (good_cut G I1).fit
  have kc := kin_cut P c 0 w1 P.h
  have mh := kin_maxH kc
  have mv := kin_maxV kc
  have x2 := I2.x
  have y2 := I2.y
  have x1 := I1.x
  rw [mh, Int.zero_mul, Int.zero_add] at x2
  rw [mv] at y2
  have x2' : w2 ≤ w1 := x2
  have y2' : r * (8 * maxV P.parts) + h2 ≤ P.h := y2
  have I : In P c r w2 h2 := ⟨I1.c0, I2.r0, I2.w1, I2.h1, by omega, y2'⟩
  refine ⟨I, ?_⟩
  have hparts : (cutL (cutL P c 0 w1 P.h) 0 r w2 h2).parts = (cutL P c r w2 h2).parts := by
    have hl1 : (cutL P c 0 w1 P.h).parts.length = P.parts.length := by unfold cutL; simp
    apply List.ext_getElem (by unfold cutL; simp)
    intro k hk1 hk2
    have hkP : k < P.parts.length := by
      have : (cutL P c r w2 h2).parts.length = P.parts.length := by unfold cutL; simp
      omega
    have hk3 : k < (cutL P c 0 w1 P.h).parts.length := by rw [hl1]; exact hkP
    rw [(cut_part (cutL P c 0 w1 P.h) 0 r w2 h2 k hk3).2 hk1, (cut_part P c r w2 h2 k hkP).2 hk2, (cut_part P c 0 w1 P.h k hkP).2 hk3]
    have ek := kin_cut P c 0 w1 P.h
    have es : sizeL (sidesL (cutL P c 0 w1 P.h) w2 h2) (k : Int) = sizeL (sidesL P w2 h2) (k : Int) := kin_size (P := sidesL (cutL P c 0 w1 P.h) w2 h2) (Q := sidesL P w2 h2) ek rfl rfl _
    have eo : ownL (sidesL (cutL P c 0 w1 P.h) w2 h2) (k : Int) = ownL (sidesL P w2 h2) (k : Int) := kin_own (P := sidesL (cutL P c 0 w1 P.h) w2 h2) (Q := sidesL P w2 h2) ek rfl rfl _
    have c1 := cut_sizes F I k hkP
    have c2 := cut_sizes F I1 k hkP
    have c3 := cut_sizes F1 I2 k hk3
    have g1 := fun i hi => rowL_len F1 I2 k hk3 i hi
    have g2 := fun i hi => rowL_len F I k hkP i hi
    have g3 := fun i hi => rowL_len F I1 k hkP i hi
    obtain ⟨f1, f2⟩ := fac_at F.fac k hkP
    obtain ⟨m1, m2⟩ := max_of F.fac F.n.1
    have hW := F.w
    have hH := F.h
    obtain ⟨sw2, sh2, _, _⟩ := I.sides F
    obtain ⟨sw1, _, _, _⟩ := I1.sides F
    have ow2 := own_of (P := sidesL P w2 h2) ⟨by show 1 ≤ w2; omega, by show w2 ≤ 65535; omega⟩ ⟨by show 1 ≤ h2; omega, by show h2 ≤ 65535; omega⟩ F.fac k hkP
    have ow1 := own_of (P := sidesL P w1 P.h) ⟨by show 1 ≤ w1; omega, by show w1 ≤ 65535; omega⟩ ⟨by show 1 ≤ P.h; omega, by show P.h ≤ 65535; omega⟩ F.fac k hkP
    rw [es] at g1 c3
    rw [(cut_part P c 0 w1 P.h k hkP).2 hk3] at g1 c3
    unfold cutP at g1 c3 ⊢
    rw [es, eo]
    obtain ⟨rv, hrv⟩ : ∃ z : Nat, r * (P.parts[k]).v = (z : Int) := ⟨(r * (P.parts[k]).v).toNat, (Int.toNat_of_nonneg (Int.mul_nonneg I2.r0 (show 0 ≤ (P.parts[k]).v by omega))).symm⟩
    obtain ⟨o, ho⟩ : ∃ z, ownL (sidesL P w2 h2) (k : Int) = z := ⟨_, rfl⟩
    obtain ⟨o1, ho1⟩ : ∃ z, ownL (sidesL P w1 P.h) (k : Int) = z := ⟨_, rfl⟩
    obtain ⟨⟨s1, s2⟩, hs⟩ : ∃ z, sizeL (sidesL P w2 h2) (k : Int) = z := ⟨_, rfl⟩
    obtain ⟨⟨t1, t2⟩, ht⟩ : ∃ z, sizeL (sidesL P w1 P.h) (k : Int) = z := ⟨_, rfl⟩
    rw [hs, ht] at c3 g1
    rw [hs] at c1 g2
    rw [ht] at c2 g3
    rw [ho, ho1, hs, ht]
    rw [ho1] at g1 c3
    rw [ho] at ow2
    rw [ho1] at ow1
    obtain ⟨a, rfl⟩ : ∃ z : Nat, s1 = (z : Int) := ⟨_, (Int.toNat_of_nonneg (by have := c1.1.1; simp only at this; omega)).symm⟩
    obtain ⟨b, rfl⟩ : ∃ z : Nat, s2 = (z : Int) := ⟨_, (Int.toNat_of_nonneg (by have := c1.2.1; simp only at this; omega)).symm⟩
    obtain ⟨a1, rfl⟩ : ∃ z : Nat, t1 = (z : Int) := ⟨_, (Int.toNat_of_nonneg (by have := c2.1.1; simp only at this; omega)).symm⟩
    obtain ⟨b1, rfl⟩ : ∃ z : Nat, t2 = (z : Int) := ⟨_, (Int.toNat_of_nonneg (by have := c2.2.1; simp only at this; omega)).symm⟩
    have k1 : (0 : Int) * (P.parts[k]).h + (a : Int) ≤ (a1 : Int) := c3.1.2
    have k2 : r * (P.parts[k]).v + (b : Int) ≤ (b1 : Int) := c3.2.2
    rw [hrv] at k2
    have hb : cutB (cutX P.parts[k] c 0 ((a1 : Int), (b1 : Int)) o1) 0 r ((a : Int), (b : Int)) o = cutB P.parts[k] c r ((a : Int), (b : Int)) o := by
      refine cutB_cut P.parts[k] c r a b a1 b1 rv o o1 hrv (by omega) (by omega) ?_ ?_ (fun i hi => ?_) (fun i hi => ?_) (fun i hi => ?_)
      · rw [ow2, ow1]
        exact own_mono (Int.mul_le_mul_of_nonneg_right x2' (show 0 ≤ (P.parts[k]).h by omega)) (by show 0 < maxH P.parts; omega)
      · rw [ow2, ow1, ← hrv]
        exact own_shift (by show 0 < maxV P.parts; omega) (by show 0 ≤ (P.parts[k]).v; omega) y2'
      · have := g1 (i : Int) ⟨Int.natCast_nonneg _, by simp only; omega⟩
        simpa using this
      · have := g2 (i : Int) ⟨Int.natCast_nonneg _, by simp only; omega⟩
        simpa using this
      · have := g3 (i : Int) ⟨Int.natCast_nonneg _, by simp only; omega⟩
        simpa using this
    show cutX (cutX P.parts[k] c 0 ((a1 : Int), (b1 : Int)) o1) 0 r ((a : Int), (b : Int)) o = cutX P.parts[k] c r ((a : Int), (b : Int)) o
    unfold cutX at hb ⊢
    rw [hb]
  have e : cutL (cutL P c 0 w1 P.h) 0 r w2 h2 = { sidesL P w2 h2 with parts := (cutL (cutL P c 0 w1 P.h) 0 r w2 h2).parts } := rfl
  rw [e, hparts]
  rfl
end Go.Proofs.Ytnhalnjdlkdnkaa
