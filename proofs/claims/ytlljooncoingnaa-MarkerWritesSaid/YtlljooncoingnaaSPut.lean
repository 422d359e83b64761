/- The walks of slices.Clone (with the row that it owns) and sums.Put. By an AI agent. -/
import Derived.Test.YtlljooncoingnaaTake
import Derived.Test.YtlljooncoingnaaPut
namespace Go.Proofs.Ytlljooncoingnaa
open Go.RowKit
set_option linter.unusedVariables false
set_option linter.unusedSimpArgs false

set_option maxHeartbeats 800000 in
theorem clone_own (v : Value) (l : List UInt8) (w : World) (hb : Bs w v l) (hl : l.length ≤ 140737488351232) :
    Calls Try.prog 45 #[v] w fun e w' => ∃ v', e = .returned v' ∧ w'.ownsRow w.heap.size 5 1 v' l.length (vBs l) ∧ Below w.heap.size w w' := by
  obtain ⟨a, cap, rfl⟩ := hb.len
  have HB := Lib.hid hb
  have HL := Lib.hid hl
  clear hb hl
  cases a with
  | none =>
    have hn : l = [] := by
      rcases HB.out.shape with ⟨a, cap', h, h2⟩ | ⟨b, off, cap', h, _⟩
      · exact h2
      · simp at h
    subst hn
    go_enter Try.func45, Try.ntmps45
    have ne := nil_yes cap
    go_wp2_with fail
    go_ret
    exact ⟨_, rfl, ⟨rfl, .inl ⟨rfl, rfl⟩⟩, Below.refl _ _⟩
  | some a =>
    have ne := nil_no a l.length cap
    go_enter Try.func45, Try.ntmps45
    go_wp2_with (at_builtin; refine stop ?_)
    have hb0 : Below w.heap.size w (w.alloc (.cells #[] 5)) := (Below.refl _ _).alloc (Nat.le_refl _) _
    refine unstop (wpList_app tyB rfl _ _ rfl w.heap.size _ 0 [] rfl (own0 w _) _ l.length (vBs l) rfl (SlN.old HB.out hb0) (vBs_one l) (by have := HL.out; omega) (by have := HL.out; omega) (by simp) ?_)
    intro v1 w1 hown1 hg1 _
    have HB1 := Lib.hid (run_app_below (own0 w _) hg1 hb0 (Nat.le_refl _))
    have HO1 : Hid (w1.ownsRow w.heap.size 5 1 v1 l.length (vBs l)) := Lib.hid (by have := hown1; rw [List.nil_append, Nat.zero_add] at this; exact this)
    clear hb0 hown1 hg1
    go_wp2_with fail
    go_ret
    exact ⟨_, rfl, HO1.out, HB1.out⟩

/-- the first k of a number's s bytes -/
def preL (s n k : Nat) : List UInt8 := (List.range k).map fun j => UInt8.ofNat (n / 256 ^ (s - 1 - j))
theorem preL_succ (s n k : Nat) : preL s n (k + 1) = preL s n k ++ [UInt8.ofNat (n / 256 ^ (s - 1 - k))] := by simp [preL, List.range_succ]
theorem preL_len (s n k : Nat) : (preL s n k).length = k := by simp [preL]
theorem preL_all (s n : Nat) : preL s n s = putL s n := by
  unfold preL putL
  apply List.ext_getElem
  · simp
  · intro i h1 h2
    simp

theorem sized_yes (s : Nat) (w : World) (h : 1 ≤ s ∧ s ≤ 4) : Calls Try.prog 47 #[.int .i64 (s : Int)] w fun e w' => e = .returned (.bool true) ∧ w = w' := by
  have c1 : decide ((1 : Int) ≤ (s : Int)) = true := by simp only [decide_eq_true_eq]; omega
  have c2 : decide ((s : Int) ≤ 4) = true := by simp only [decide_eq_true_eq]; omega
  have c4 : decide (0 < s) = true := by simp only [decide_eq_true_eq]; omega
  have c5 : decide (s ≤ 4) = true := by simp only [decide_eq_true_eq]; omega
  clear h
  go_enter Try.func47, Try.ntmps47
  go_wp2
  go_ret
  exact ⟨rfl, rfl⟩
theorem sized_no (S : Int) (w : World) (h : S < 1 ∨ 4 < S) : Calls Try.prog 47 #[.int .i64 S] w fun e w' => e = .returned (.bool false) ∧ w = w' := by
  have c : decide (1 ≤ S) = false ∨ (decide (1 ≤ S) = true ∧ decide (S ≤ 4) = false) := by simp only [decide_eq_true_eq, decide_eq_false_iff_not]; omega
  clear h
  rcases c with c1 | ⟨c1, c2⟩
  all_goals
    go_enter Try.func47, Try.ntmps47
    go_wp2
    go_ret
    exact ⟨rfl, rfl⟩
theorem shr_run (n i q : Nat) (y : Int) (hy : y = ((8 * i : Nat) : Int)) (hi : i ≤ 7) (hq : n / 256 ^ i = q) (w : World) : (Op.shift .shr .i64 (n : Int) .i64 y).run Try.prog w = .ok (.int .i64 (q : Int)) w := by
  subst hy
  have h1 : ¬ (((8 * i : Nat) : Int) < 0) := by omega
  have h2 : min ((8 * i : Nat) : Int).toNat IntKind.i64.bits = 8 * i := by
    show min ((8 * i : Nat) : Int).toNat 64 = 8 * i
    rw [Int.toNat_natCast]; omega
  have h3 : (n : Int).fdiv (2 ^ (8 * i)) = (q : Int) := by
    have h4 : (2 : Int) ^ (8 * i) = ((256 ^ i : Nat) : Int) := by
      rw [Int.pow_mul]; simp
    rw [h4, Int.fdiv_eq_ediv_of_nonneg _ (Int.natCast_nonneg _), ← hq]
    rfl
  unfold Op.shift
  rw [if_neg h1]
  simp only [h2, h3]
  rfl
theorem wrap_u8 (q : Nat) : IntKind.u8.wrap (q : Int) = ((UInt8.ofNat q).toNat : Int) := by simp [IntKind.wrap, IntKind.signed, IntKind.bits]
theorem pow_small (n s : Nat) (hs : 1 ≤ s ∧ s ≤ 4) (hn : n < 256 ^ s) : n < 4294967296 := by
  have h := Nat.pow_le_pow_right (n := 256) (by omega) hs.2
  have : (256 : Nat) ^ 4 = 4294967296 := by decide
  omega
set_option maxHeartbeats 1600000 in
theorem put_good (v : Value) (l : List UInt8) (s n : Nat) (w : World) (hb : Bs w v l) (hl : l.length ≤ 140737488351232) (hs : 1 ≤ s ∧ s ≤ 4) (hn : n < 256 ^ s) :
    Calls Try.prog 38 #[v, .int .i64 (s : Int), .int .i64 (n : Int)] w fun e w' => ∃ v', e = .returned (.tuple #[v', .nilIface]) ∧ w'.ownsRow w.heap.size 5 1 v' (l.length + s) (vBs (l ++ putL s n)) ∧ Below w.heap.size w w' := by
  have c1 : decide ((1 : Int) ≤ (s : Int)) = true := by simp only [decide_eq_true_eq]; omega
  have c2 : decide ((s : Int) ≤ 4) = true := by simp only [decide_eq_true_eq]; omega
  have c4 : decide (0 < s) = true := by simp only [decide_eq_true_eq]; omega
  have c5 : decide (s ≤ 4) = true := by simp only [decide_eq_true_eq]; omega
  have HS := Lib.hid hs
  have HN := Lib.hid hn
  have HB := Lib.hid hb
  have HL := Lib.hid hl
  clear hb hl hs hn
  go_enter Try.func38, Try.ntmps38
  go_wp2_with fail
  refine (sized_yes s _ HS.out).mono ?_; rintro e w' ⟨rfl, rfl⟩
  have n0 : decide ((n : Int) < 0) = false := by rw [decide_eq_false_iff_not]; omega
  have q0 : ∀ W, (Op.shift .shr .i64 (n : Int) .i64 (wrap64 (8 * (s : Int)))).run Try.prog W = .ok (.int .i64 ((0 : Nat) : Int)) W := shr_run n s 0 _ (by have := HS.out; rw [IntWalk.wrap64_in _ (by omega)]; omega) (by have := HS.out; omega) (Nat.div_eq_of_lt HN.out)
  go_wp2_with fail
  clear q0 n0
  refine (clone_own v l _ HB.out HL.out).mono ?_; rintro e w1 ⟨v1, rfl, hv1, hb1⟩
  have O1 := Lib.hid hv1
  have B1 := Lib.hid hb1
  have Z1 : Hid (w.heap.size ≤ w1.heap.size) := Lib.hid hb1.size
  clear hv1 hb1
  have sw1 : wrap64 ((s : Int) - 1) = (s : Int) - 1 := by have := HS.out; exact IntWalk.wrap64_in _ (by omega)
  go_wp2_with fail
  go_loopw [8, 9] (fun b i w' => ∃ k m : Nat, s = k + m ∧ w'.ownsRow w.heap.size 5 1 b (l.length + k) (vBs (l ++ preL s n k)) ∧ i = .int .i64 ((m : Int) - 1) ∧ Below w.heap.size w w') (fun _ i _ => (intOf i + 1).toNat)
  case atStart => exact ⟨0, s, by omega, by simpa [preL] using O1.out, vi sw1, B1.out⟩
  case round =>
    clear sw1
    obtain ⟨k, m, hm, how, rfl, hbl⟩ := hrel
    have HO := Lib.hid how
    have HBL := Lib.hid hbl
    have HM := Lib.hid hm
    clear how hbl
    cases m with
    | zero =>
      have hk : k = s := by omega
      have e0 : ((0 : Nat) : Int) - 1 = -1 := rfl
      rw [e0]
      clear hm e0
      go_wp2_with fail
      go_ret2
      refine ⟨_, rfl, ?_, HBL.out⟩
      have h := HO.out
      rw [hk, preL_all] at h
      exact h
    | succ m =>
      have e0 : ((m + 1 : Nat) : Int) - 1 = (m : Int) := by omega
      have hm3 : m ≤ 3 := by have := HS.out; omega
      have g0 : decide ((0 : Int) ≤ (m : Int)) = true := by rw [decide_eq_true_eq]; omega
      rw [e0]
      obtain ⟨q, hq⟩ : ∃ q, n / 256 ^ m = q := ⟨_, rfl⟩
      have u1 : (n : Int) / 2 ^ (8 * m) % 256 = ((UInt8.ofNat q).toNat : Int) := by
        have h4 : (2 : Int) ^ (8 * m) = ((256 ^ m : Nat) : Int) := by
          rw [Int.pow_mul]; simp
        have h5 : (n : Int) / ((256 ^ m : Nat) : Int) = (q : Int) := by rw [← hq]; rfl
        rw [h4, h5]
        simp
      have LS : Hid (l ++ preL s n (k + 1) = l ++ preL s n k ++ [UInt8.ofNat q]) := Lib.hid (by
        rw [preL_succ, show s - 1 - k = m by omega, hq, List.append_assoc])
      generalize UInt8.ofNat q = byte at u1 LS
      have hk4 : k ≤ 4 := by have := HS.out; omega
      clear hq hm
      go_wp2_with (at_builtin; refine stop ?_)
      refine unstop (wpList_app tyB rfl _ _ rfl w.heap.size _ (l.length + k) (vBs (l ++ preL s n k)) rfl (World.ownsRow.alloc HO.out _) _ 1 [vB byte] rfl (sl_lit _ _ _ 1 rfl (by omega)) (by intro u hu; simp at hu; subst hu; rfl) (by have := HL.out; omega) (by have := HL.out; omega) (Nat.le_trans HBL.out.size (by simp)) ?_)
      intro v2 w2 hown2 hg2 _
      have HB2 := Lib.hid (run_app_below (World.ownsRow.alloc HO.out _) hg2 (HBL.out.alloc HBL.out.size _) (Nat.le_refl _))
      have HO2 : Hid (w2.ownsRow w.heap.size 5 1 v2 (l.length + (k + 1)) (vBs (l ++ preL s n (k + 1)))) := Lib.hid (by
        rw [LS.out, vBs_append]
        exact hown2)
      clear hown2 hg2
      go_wp2_with fail
      go_roundw
      case rel => exact ⟨k + 1, m, by have := HM.out; omega, HO2.out, rfl, HB2.out⟩
      case measure => simp [intOf]
end Go.Proofs.Ytlljooncoingnaa
