/- The walk of burnishref13.Check. By an AI agent. -/
import Derived.Test.YtlgjjoglajgbeaaDoorHead
namespace Go.Proofs.YtlgjjoglajgbeaaDoor
open Go.RowKit
set_option linter.unusedVariables false
set_option linter.unusedSimpArgs false

def pairsL : List Int := [0, 1, 0, 2, 0, 4, 0, 8, 0, 16, 2, 8, 2, 16, 3, 1, 3, 2, 3, 4, 3, 8, 4, 8, 4, 16, 6, 8, 6, 16]
def goodN (C D : Int) (n : Nat) : Bool := (List.range n).any fun j => j % 2 == 0 && pairsL.getD j 0 == C && pairsL.getD (j + 1) 0 == D
theorem goodN_step (C D : Int) (n : Nat) (h : n % 2 = 0) : goodN C D (n + 2) = (goodN C D n || (pairsL.getD n 0 == C && pairsL.getD (n + 1) 0 == D)) := by
  have h1 : (n + 1) % 2 = 1 := by omega
  unfold goodN
  rw [show n + 2 = n + 1 + 1 from rfl, List.range_succ, List.any_append, List.range_succ, List.any_append]
  simp [h, h1]
def pairsP : List (Int × Int) := [(0, 1), (0, 2), (0, 4), (0, 8), (0, 16), (2, 8), (2, 16), (3, 1), (3, 2), (3, 4), (3, 8), (4, 8), (4, 16), (6, 8), (6, 16)]
theorem goodN_pairs (C D : Int) : goodN C D 30 = pairsP.any fun p => p.1 == C && p.2 == D := by
  have h : ∀ n, n ≤ 15 → goodN C D (2 * n) = (pairsP.take n).any fun p => p.1 == C && p.2 == D := by
    intro n
    induction n with
    | zero => intro _; rfl
    | succ n ih =>
      intro hn
      have hl : n < pairsP.length := by show n < 15; omega
      have hp : ∀ k, k < 15 → (pairsL.getD (2 * k) 0, pairsL.getD (2 * k + 1) 0) = pairsP.getD k (0, 0) := by decide
      have hk := hp n (by omega)
      rw [show pairsP.getD n (0, 0) = pairsP[n] by rw [List.getD_eq_getElem?_getD, List.getElem?_eq_getElem hl, Option.getD_some]] at hk
      rw [show 2 * (n + 1) = 2 * n + 2 by omega, goodN_step C D _ (by omega), ih (by omega), List.take_succ_eq_append_getElem hl, List.any_append, ← hk]
      simp
  have := h 15 (by omega)
  exact this
theorem goodN_end (C D : Int) : goodN C D 30 = decide (D ∈ depthsL C) := by
  rw [goodN_pairs, Bool.eq_iff_iff]
  unfold depthsL pairsP
  by_cases h0 : C = 0
  · subst h0; simp <;> omega
  by_cases h3 : C = 3
  · subst h3; simp <;> omega
  by_cases h2 : C = 2
  · subst h2; simp <;> omega
  by_cases h4 : C = 4
  · subst h4; simp <;> omega
  by_cases h6 : C = 6
  · subst h6; simp <;> omega
  have e0 : ((0 : Int) == C) = false := by rw [beq_eq_false_iff_ne]; omega
  have e3 : ((3 : Int) == C) = false := by rw [beq_eq_false_iff_ne]; omega
  have e2 : ((2 : Int) == C) = false := by rw [beq_eq_false_iff_ne]; omega
  have e4 : ((4 : Int) == C) = false := by rw [beq_eq_false_iff_ne]; omega
  have e6 : ((6 : Int) == C) = false := by rw [beq_eq_false_iff_ne]; omega
  simp [e0, e3, e2, e4, e6, h0, h2, h3, h4, h6]
/-- the table's cells -/
def PairsAt (g : Nat) (V : World) : Prop := ∀ n, n < 30 → V.cell? ⟨g, n, none⟩ = some (.int .i64 (pairsL.getD n 0))
theorem PairsAt.old {g : Nat} {V V' : World} (h : PairsAt g V) (hb : Below V.heap.size V V') : PairsAt g V' := fun n hn => cell_old hb (h n hn)
theorem pairs_of {g : Nat} {V : World} {C : Array Value} {t : TypeId} {fr : Nat × Nat} (h : V.heap[g]? = some (.cells C t fr)) (hC : C.toList = vIs pairsL) : PairsAt g V := by
  intro n hn
  rw [cell_of_row V g n _ _ _ h, ← Array.getElem?_toList, hC]
  have : n < pairsL.length := hn
  simp [vIs, vI, List.getElem?_map, List.getElem?_eq_getElem this, List.getD_eq_getElem?_getD]

def TableCases (W H D C L : Int) (r : Bool) : Prop :=
  (r = false ∧ Hid (headC W H D C L = 2)) ∨ (r = true ∧ decide (W < 1) = true ∧ Hid (headC W H D C L = 2)) ∨ (r = true ∧ decide (W < 1) = false ∧ decide (H < 1) = true ∧ Hid (headC W H D C L = 2)) ∨
  (r = true ∧ decide (W < 1) = false ∧ decide (H < 1) = false ∧ (L != 0) = true ∧ (L != 1) = true ∧ Hid (headC W H D C L = 2)) ∨
  (r = true ∧ decide (W < 1) = false ∧ decide (H < 1) = false ∧ ((L != 0) = false ∨ ((L != 0) = true ∧ (L != 1) = false)) ∧
    ((decide (65535 < W) = true ∧ Hid (headC W H D C L = 4)) ∨ (decide (65535 < W) = false ∧ decide (65535 < H) = true ∧ Hid (headC W H D C L = 4)) ∨ (∃ M, decide (65535 < W) = false ∧ decide (65535 < H) = false ∧ IntKind.i64.wrap (W * H) = M ∧ ((decide (262144 < M) = true ∧ Hid (headC W H D C L = 4)) ∨ (decide (262144 < M) = false ∧ Hid (headC W H D C L = 0))))))
theorem table_cases (W H D C L : Int) : TableCases W H D C L (goodN C D 30) := by
  unfold TableCases
  rw [goodN_end]
  by_cases h3 : D ∈ depthsL C
  case neg => exact Or.inl ⟨decide_eq_false h3, Lib.hid (by unfold headC; rw [if_pos (Or.inr (Or.inr (Or.inl h3)))])⟩
  refine Or.inr ?_
  rw [decide_eq_true h3]
  by_cases h1 : W < 1
  · exact Or.inl ⟨rfl, decide_eq_true h1, Lib.hid (by unfold headC; rw [if_pos (Or.inl h1)])⟩
  refine Or.inr ?_
  by_cases h2 : H < 1
  · exact Or.inl ⟨rfl, decide_eq_false h1, decide_eq_true h2, Lib.hid (by unfold headC; rw [if_pos (Or.inr (Or.inl h2))])⟩
  refine Or.inr ?_
  by_cases h4 : L = 0 ∨ L = 1
  case neg => exact Or.inl ⟨rfl, decide_eq_false h1, decide_eq_false h2, by rw [bne_iff_ne]; omega, by rw [bne_iff_ne]; omega, Lib.hid (by unfold headC; rw [if_pos (Or.inr (Or.inr (Or.inr (by omega))))])⟩
  have hL : (L != 0) = false ∨ ((L != 0) = true ∧ (L != 1) = false) := by
    rcases h4 with rfl | rfl
    · exact Or.inl rfl
    · exact Or.inr ⟨rfl, rfl⟩
  refine Or.inr ⟨rfl, decide_eq_false h1, decide_eq_false h2, hL, ?_⟩
  have hF : headC W H D C L = if 65535 < W ∨ 65535 < H ∨ 262144 < W * H then 4 else 0 := by unfold headC; rw [if_neg (by rintro (h | h | h | h); exact h1 h; exact h2 h; exact h h3; omega)]
  by_cases g1 : 65535 < W
  · exact Or.inl ⟨decide_eq_true g1, Lib.hid (by rw [hF, if_pos (Or.inl g1)])⟩
  by_cases g2 : 65535 < H
  · exact Or.inr (Or.inl ⟨decide_eq_false g1, decide_eq_true g2, Lib.hid (by rw [hF, if_pos (Or.inr (Or.inl g2))])⟩)
  refine Or.inr (Or.inr ⟨W * H, decide_eq_false g1, decide_eq_false g2, wrap_mul (by omega) (by omega) (by omega) (by omega), ?_⟩)
  by_cases g3 : 262144 < W * H
  · exact Or.inl ⟨decide_eq_true g3, Lib.hid (by rw [hF, if_pos (Or.inr (Or.inr g3))])⟩
  · exact Or.inr ⟨decide_eq_false g3, Lib.hid (by rw [hF, if_neg (by rintro (h | h | h); exact g1 h; exact g2 h; exact g3 h)])⟩

set_option maxHeartbeats 3200000 in
theorem refCheck_any (W H D C L : Int) (w : World) :
    Calls Tryd.prog 35 #[headV W H D C L] w fun e w' => e = .returned (.int .i64 (headC W H D C L)) ∧ Below w.heap.size w w' := by
  unfold headV
  go_enter Tryd.func35, Tryd.ntmps35
  go_wp2_with fail
  go_loopw [4, 5] (fun r i w' => ∃ n : Nat, n ≤ 30 ∧ n % 2 = 0 ∧ r = .bool (goodN C D n) ∧ i = .int .i64 (n : Int) ∧ Box w.heap.size W H D C L w' ∧ PairsAt (w.heap.size + 1) w' ∧ Below w.heap.size w w') (fun r i _ => 30 - (intOf i).toNat)
  case atStart =>
    refine ⟨0, by omega, rfl, rfl, rfl, ?_, ?_, ?_⟩
    · exact box_of (heap_new0 _ _ _)
    · exact pairs_of (heap_new1 _ _ _) rfl
    · exact ((Below.refl _ _).alloc (Nat.le_refl _) _).alloc (by simp) _
  case round =>
    obtain ⟨n, hn, hev, rfl, rfl, hbox, hpairs, hbel⟩ := hrel
    have HBOX := Lib.hid hbox
    have HPAIRS := Lib.hid hpairs
    have HBEL := Lib.hid hbel
    obtain ⟨k0, k1, k2, k3, k4⟩ := hbox
    by_cases hlt : n < 30
    · have c1 := hpairs n hlt
      have c2 := hpairs (n + 1) (by omega)
      have hst := goodN_step C D n hev
      have HEV := Lib.hid hev
      have i1 : (n : Int) + 1 < 30 := by omega
      clear hpairs hbel hev hn
      generalize pairsL.getD n 0 = p at *
      generalize pairsL.getD (n + 1) 0 = q at *
      generalize goodN C D n = g at *
      have l1 : decide ((n : Int) < 30) = true := by rw [decide_eq_true_eq]; omega
      have l2 : (n : Int) < 30 := by omega
      have w1 : IntKind.i64.wrap ((n : Int) + 1) = (n : Int) + 1 := IntWalk.i64_in _ (by omega)
      have w2 : IntKind.i64.wrap ((n : Int) + 2) = (n : Int) + 2 := IntWalk.i64_in _ (by omega)
      have t1 : ((n : Int) + 1).toNat = n + 1 := by omega
      have p1 : 0 ≤ (n : Int) + 1 := by omega
      have hd : (g = true ∧ Hid (goodN C D (n + 2) = true)) ∨ (g = false ∧ (p == C) = false ∧ Hid (goodN C D (n + 2) = false)) ∨ (g = false ∧ (p == C) = true ∧ (q == D) = false ∧ Hid (goodN C D (n + 2) = false)) ∨ (g = false ∧ (p == C) = true ∧ (q == D) = true ∧ Hid (goodN C D (n + 2) = true)) := by
        rw [hst]
        cases g <;> cases (p == C) <;> cases (q == D) <;> simp [Hid]
      clear hst
      rcases hd with ⟨rfl, hg⟩ | ⟨rfl, e1, hg⟩ | ⟨rfl, e1, e2, hg⟩ | ⟨rfl, e1, e2, hg⟩
      all_goals
        go_wp2_with fail
        go_quiet (fail)
        go_wp2_with fail
        go_roundw
        case rel => exact ⟨n + 2, by omega, by have := HEV.out; omega, congrArg Value.bool hg.out.symm, by go_num, HBOX.out.old (below_drewN (Below.refl _ _) _), HPAIRS.out.old (below_drewN (Below.refl _ _) _), below_drewN HBEL.out _⟩
        case measure => simp [intOf]; omega
    · obtain rfl : n = 30 := by omega
      have hc := table_cases W H D C L
      clear hpairs hbel hev hn hlt
      generalize goodN C D 30 = g at *
      rcases hc with ⟨rfl, F⟩ | ⟨rfl, d1, F⟩ | ⟨rfl, d1, d2, F⟩ | ⟨rfl, d1, d2, e1, e2, F⟩ | ⟨rfl, d1, d2, e1 | ⟨e1, e2⟩, ⟨g1, F⟩ | ⟨g1, g2, F⟩ | ⟨M, g1, g2, hM, ⟨g3, F⟩ | ⟨g3, F⟩⟩⟩
      all_goals
        go_wp2_with fail
        go_ret
        exact ⟨ri F.out.symm, HBEL.out⟩
end Go.Proofs.YtlgjjoglajgbeaaDoor
