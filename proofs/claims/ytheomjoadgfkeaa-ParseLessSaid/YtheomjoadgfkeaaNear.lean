/- burnishref08.Nearest walked. By an AI agent. -/
import Derived.Test.YtheomjoadgfkeaaRefMatch
import Derived.Test.YtheomjoadgfkeaaRecs
import Derived.Test.YtheomjoadgfkeaaInts
import Derived.Test.YtheomjoadgfkeaaCopy
namespace Go.Proofs.Ytheomjoadgfkeaa
open Go.RowKit
set_option linter.unusedVariables false
set_option linter.unusedSimpArgs false

theorem refMatch_in (v : Value) (l : List UInt8) (p n d : Nat) (w : World) (hb : Bs w v l) (hl : l.length ≤ 140737488355328) (hg : 3 ≤ n ∧ n ≤ 258 ∧ 1 ≤ d ∧ d ≤ 32768 ∧ d ≤ p ∧ p < l.length) :
    Calls Try.prog 56 #[v, .int .i64 (p : Int), .int .i64 (n : Int), .int .i64 (d : Int)] w fun e w' => e = .returned (.bool (decide (n ≤ commonOf l (p - d) p))) ∧ ∃ q, w' = w.drewN q := by
  by_cases h : p + n ≤ l.length
  · exact refMatch_good v l p n d w hb hl ⟨hg.1, hg.2.1, hg.2.2.1, hg.2.2.2.1, hg.2.2.2.2.1, h⟩
  · have e : decide (n ≤ commonOf l (p - d) p) = false := by
      rw [decide_eq_false_iff_not]
      intro hn
      exact h (common_end l (p - d) p n hn (by omega))
    rw [e]
    exact (refMatch_bad v l p n d w hb hl (by omega) (by omega) (by omega) (by omega)).mono fun e w' ⟨h1, h2⟩ => ⟨h1, 0, h2.symm⟩
def farV : Option Nat → Int
  | none => 0
  | some d => d
theorem firstFar_pos {l : List UInt8} {p n : Nat} : ∀ {m d : Nat}, firstFar l p n m = some d → 1 ≤ d ∧ d ≤ m
  | 0, d, h => by simp [firstFar] at h
  | m + 1, d, h => by
    rw [firstFar] at h
    cases hf : firstFar l p n m with
    | some x =>
      rw [hf] at h
      have := firstFar_pos hf
      simp only [Option.some.injEq] at h
      omega
    | none =>
      rw [hf] at h
      simp only at h
      split at h
      · simp only [Option.some.injEq] at h; omega
      · cases h
theorem firstFar_keep {l : List UInt8} {p n m d : Nat} (h : firstFar l p n m = some d) : ∀ k, firstFar l p n (m + k) = some d
  | 0 => h
  | k + 1 => by rw [← Nat.add_assoc, firstFar, firstFar_keep h k]
theorem farV_some {o : Option Nat} {l : List UInt8} {p n m : Nat} (h : firstFar l p n m = o) : (farV o = 0 ∧ o = none) ∨ (1 ≤ farV o ∧ farV o ≤ m ∧ ∃ d, o = some d ∧ farV o = (d : Int)) := by
  cases o with
  | none => exact .inl ⟨rfl, rfl⟩
  | some d =>
    have := firstFar_pos h
    exact .inr ⟨by simp only [farV]; omega, by simp only [farV]; omega, d, rfl, rfl⟩
/-- the nearest distances as ints -/
def nearI (l : List UInt8) (p : Int) : List Int := if 0 ≤ p ∧ p < l.length then (nearL l p.toNat).map fun d : Nat => (d : Int) else []
theorem tyI : ElemTy Try.prog 23 3 (.int .i64 0) 1 8 := elemTy Try.underlying23 (by kernel_rfl) rfl (by decide)

set_option maxRecDepth 20000 in
set_option maxHeartbeats 3200000 in
theorem refNear_any (v : Value) (l : List UInt8) (p : Int) (w : World) (hb : Bs w v l) (hl : l.length ≤ 1048576) :
    Calls Try.prog 43 #[v, .int .i64 p] w fun e w' => ∃ v', e = .returned v' ∧ Ns w' v' (nearI l p) ∧ Below w.heap.size w w' ∧ ∀ k, v'.ownBlock = some k → w.heap.size ≤ k := by
  obtain ⟨av, cap, rfl⟩ := hb.len
  have HB := Lib.hid hb
  clear hb
  by_cases hok : 0 ≤ p ∧ p < l.length
  case neg =>
    have e0 : nearI l p = [] := if_neg hok
    rw [e0]
    clear e0
    by_cases h1 : p < 0
    · have g1 : decide (p < 0) = true := by rw [decide_eq_true_eq]; exact h1
      clear hok h1
      go_enter Try.func43, Try.ntmps43
      go_wp2_with fail
      go_ret
      exact ⟨_, rfl, Ns.nil _ _ _, Below.refl _ _, fun k hk => by simp [Value.ownBlock] at hk⟩
    · have g1 : decide (p < 0) = false := by rw [decide_eq_false_iff_not]; exact h1
      have g2 : decide ((l.length : Int) ≤ p) = true := by rw [decide_eq_true_eq]; omega
      clear hok h1
      go_enter Try.func43, Try.ntmps43
      go_wp2_with fail
      go_ret
      exact ⟨_, rfl, Ns.nil _ _ _, Below.refl _ _, fun k hk => by simp [Value.ownBlock] at hk⟩
  case pos =>
    obtain ⟨P, rfl⟩ : ∃ P : Nat, p = (P : Int) := ⟨p.toNat, by omega⟩
    have hPl : P < l.length := by omega
    have e0 : nearI l (P : Int) = (nearL l P).map fun d : Nat => (d : Int) := if_pos hok
    rw [e0]
    have g1 : decide ((P : Int) < 0) = false := by rw [decide_eq_false_iff_not]; omega
    have g2 : decide ((l.length : Int) ≤ (P : Int)) = false := by rw [decide_eq_false_iff_not]; omega
    have g3 : decide (l.length ≤ P) = false := by rw [decide_eq_false_iff_not]; omega
    clear hok e0
    go_enter Try.func43, Try.ntmps43
    go_wp2_with fail
    clear g1 g2 g3
    go_loopw [5, 6] (fun out n wr => ∃ k : Nat, k ≤ 256 ∧ n = .int .i64 ((3 + k : Nat) : Int) ∧ k ≤ (nearL l P).length ∧ wr.ownsRow w.heap.size 3 1 out k (vIs (((nearL l P).take k).map fun d : Nat => (d : Int))) ∧ Below w.heap.size w wr) (fun _ n _ => 259 - (intOf n).toNat)
    case atStart => exact ⟨0, by omega, rfl, Nat.zero_le _, World.ownsRow_nil _ _ _ _, Below.refl _ _⟩
    case round =>
      obtain ⟨k, hk, rfl, hkl, hown, hbl⟩ := hrel
      have HO := Lib.hid hown
      have BL := Lib.hid hbl
      have NA := Lib.hid (near_at l P k)
      have NL := Lib.hid (near_le l P)
      clear hown hbl
      by_cases hk2 : k < 256
      · have f1 : decide (((3 + k : Nat) : Int) ≤ 258) = true := by rw [decide_eq_true_eq]; omega
        have f2 : decide (3 + k ≤ 258) = true := by rw [decide_eq_true_eq]; omega
        obtain ⟨n, hn⟩ : ∃ n, 3 + k = n := ⟨_, rfl⟩
        rw [hn] at f1 f2 NA ⊢
        have hn3 : 3 ≤ n ∧ n ≤ 258 := by omega
        have HN := Lib.hid hn
        clear hn
        go_wp2_with fail
        go_loopw [7, 8] (fun f far w' => ∃ j : Nat, far = .int .i64 ((j + 1 : Nat) : Int) ∧ f = .int .i64 (farV (firstFar l P n j)) ∧ j ≤ min P 32768 ∧ ∃ q, w' = wr.drewN q) (fun _ far _ => 40000 - (intOf far).toNat)
        case atStart => exact ⟨0, rfl, rfl, Nat.zero_le _, 0, rfl⟩
        case round =>
          obtain ⟨j, rfl, rfl, hj, q, rfl⟩ := hrel
          have CC : (∃ d, firstFar l P n j = some d) ∨ (firstFar l P n j = none ∧ j < P ∧ j < 32768) ∨ (firstFar l P n j = none ∧ j = min P 32768) := by
            cases hf : firstFar l P n j with
            | some d => exact .inl ⟨d, rfl⟩
            | none => by_cases hjm : j < min P 32768
                      · exact .inr (.inl ⟨rfl, by omega, by omega⟩)
                      · exact .inr (.inr ⟨rfl, by omega⟩)
          by_cases hgo : firstFar l P n j = none ∧ j < P ∧ j < 32768
          · obtain ⟨hf, hjP, hj3⟩ := hgo
            clear CC
            rw [hf]
            have i1 : decide (((j + 1 : Nat) : Int) ≤ (P : Int)) = true := by rw [decide_eq_true_eq]; omega
            have i1' : decide (j + 1 ≤ P) = true := by rw [decide_eq_true_eq]; omega
            have i2 : decide (((j + 1 : Nat) : Int) ≤ 32768) = true := by rw [decide_eq_true_eq]; omega
            have i2' : decide (j + 1 ≤ 32768) = true := by rw [decide_eq_true_eq]; omega
            have FF : Hid (firstFar l P n (j + 1) = if n ≤ commonOf l (P - (j + 1)) P then some (j + 1) else none) := Lib.hid (by rw [firstFar, hf])
            have MT : Hid (∀ W, Bs W (.slice av l.length cap) l → Calls Try.prog 56 #[.slice av l.length cap, .int .i64 (P : Int), .int .i64 (n : Int), .int .i64 ((j + 1 : Nat) : Int)] W fun e w' => e = .returned (.bool (decide (n ≤ commonOf l (P - (j + 1)) P))) ∧ ∃ q, w' = W.drewN q) :=
              Lib.hid (fun W hW => refMatch_in _ l P n (j + 1) W hW (by omega) ⟨hn3.1, hn3.2, by omega, by omega, by omega, hPl⟩)
            clear hf
            obtain ⟨J, hJ⟩ : ∃ J, j + 1 = J := ⟨_, rfl⟩
            rw [hJ] at i1 i1' i2 i2' FF MT ⊢
            have HJ := Lib.hid hJ
            have hJ2 : J ≤ 32768 := by omega
            have hJ3 : J ≤ P := by omega
            clear hJ
            simp only [farV]
            go_wp2_with fail
            refine (MT.out _ ((HB.out.old BL.out).drewN _)).mono ?_; rintro e w' ⟨rfl, q2, rfl⟩
            by_cases hr : n ≤ commonOf l (P - J) P
            · have hr' : decide (n ≤ commonOf l (P - J) P) = true := decide_eq_true hr
              rw [hr']
              have F2 : Hid (firstFar l P n J = some J) := Lib.hid (by rw [FF.out, if_pos hr])
              clear hr hr'
              go_wp2_with fail
              go_roundw
              case rel => exact ⟨J, by go_num, by rw [F2.out], by omega, q + q2, rfl⟩
              case measure => simp [intOf]; omega
            · have hr' : decide (n ≤ commonOf l (P - J) P) = false := decide_eq_false hr
              rw [hr']
              have F2 : Hid (firstFar l P n J = none) := Lib.hid (by rw [FF.out, if_neg hr])
              clear hr hr'
              go_wp2_with fail
              go_roundw
              case rel => exact ⟨J, by go_num, by rw [F2.out], by omega, q + q2, rfl⟩
              case measure => simp [intOf]; omega
          · have FE : farV (firstFar l P n j) = farV (firstFar l P n (min P 32768)) ∧ ((firstFar l P n j = none) → j = min P 32768) := by
              rcases CC with ⟨d, hd⟩ | h | ⟨h1, h2⟩
              · refine ⟨?_, fun h => by rw [hd] at h; cases h⟩
                obtain ⟨m, hm⟩ : ∃ m, min P 32768 = j + m := ⟨min P 32768 - j, by omega⟩
                rw [hm, firstFar_keep hd, hd]
              · exact absurd h hgo
              · rw [← h2]; exact ⟨rfl, fun _ => rfl⟩
            obtain ⟨FE1, FE2⟩ := FE
            rw [FE1]
            have NA2 := NA.out
            have J2 : j + 1 ≤ 32769 := by omega
            clear CC
            cases hF : firstFar l P n (min P 32768) with
            | none =>
              have hn : Hid (Ns wr u5 ((nearL l P).map fun d : Nat => (d : Int))) := Lib.hid (by
                rw [hF, List.getElem?_eq_none_iff] at NA2
                have h := sl_of_owns HO.out
                rw [List.take_of_length_le NA2] at h
                have e : (nearL l P).length = k := by omega
                unfold Ns
                rw [List.length_map, e]
                exact h)
              have hj0 : firstFar l P n j = none := by
                cases hf : firstFar l P n j with
                | none => rfl
                | some d => rw [hf, hF] at FE1; have := firstFar_pos hf; simp only [farV] at FE1; omega
              have hjm := FE2 hj0
              simp only [farV]
              clear hF FE1 FE2 NA2 hj0 hgo
              obtain ⟨J, hJ⟩ : ∃ J, j + 1 = J := ⟨_, rfl⟩
              have GD : (decide ((J : Int) ≤ (P : Int)) = false ∧ decide (J ≤ P) = false) ∨ (decide ((J : Int) ≤ (P : Int)) = true ∧ decide (J ≤ P) = true ∧ decide ((J : Int) ≤ 32768) = false ∧ decide (J ≤ 32768) = false) := by
                simp only [decide_eq_true_eq, decide_eq_false_iff_not]
                omega
              rw [hJ]
              have J3 : J ≤ 32769 := by omega
              clear hJ hjm hj J2
              rcases GD with ⟨a1, a2⟩ | ⟨a1, a2, a3, a4⟩
              all_goals
                go_wp2_with fail
                go_ret
                exact ⟨_, rfl, hn.out.old (below_drewN (Below.refl _ _) _), below_drewN BL.out _, fun j hj => (HO.out.lt j hj).1⟩
            | some d =>
              rw [hF] at NA2
              have hd := firstFar_pos hF
              simp only [farV]
              have TK : Hid (k < (nearL l P).length ∧ (nearL l P).take (k + 1) = (nearL l P).take k ++ [d]) := Lib.hid (by
                obtain ⟨h1, h2⟩ := List.getElem?_eq_some_iff.1 NA2
                exact ⟨h1, by rw [List.take_succ_eq_append_getElem h1, h2]⟩)
              obtain ⟨J, hJ⟩ : ∃ J, j + 1 = J := ⟨_, rfl⟩
              have GD : (decide ((J : Int) ≤ (P : Int)) = false ∧ decide (J ≤ P) = false) ∨ (decide ((J : Int) ≤ (P : Int)) = true ∧ decide (J ≤ P) = true ∧ decide ((J : Int) ≤ 32768) = false ∧ decide (J ≤ 32768) = false) ∨ (decide ((J : Int) ≤ (P : Int)) = true ∧ decide (J ≤ P) = true ∧ decide ((J : Int) ≤ 32768) = true ∧ decide (J ≤ 32768) = true) := by
                simp only [decide_eq_true_eq, decide_eq_false_iff_not]
                omega
              have hd1 : 1 ≤ d := hd.1
              have hd2 : d ≤ 32768 := by omega
              have i1 : ((d : Int) == 0) = false := by rw [beq_eq_false_iff_ne]; omega
              have i2 : (d == 0) = false := by rw [beq_eq_false_iff_ne]; omega
              rw [hJ]
              have J3 : J ≤ 32769 := by omega
              clear hJ hj J2 hF FE1 FE2 NA2 hgo hd
              rcases GD with ⟨a1, a2⟩ | ⟨a1, a2, a3, a4⟩ | ⟨a1, a2, a3, a4⟩
              all_goals
                go_wp2_with (at_builtin; refine stop ?_)
                have hbd : Below wr.heap.size wr ((wr.drewN q).alloc (.cells #[.int .i64 (d : Int)] 3)) := (below_drewN (Below.refl _ _) q).alloc (Nat.le_refl _) _
                refine unstop (wpList_app tyI rfl _ _ rfl w.heap.size u5 k _ rfl ((show (wr.drewN q).ownsRow w.heap.size 3 1 u5 k (vIs (((nearL l P).take k).map fun d : Nat => (d : Int))) from HO.out).alloc _) _ 1 [.int .i64 (d : Int)] rfl (sl_lit (wr.drewN q) [.int .i64 (d : Int)] _ 1 rfl (by omega)) (by intro u hu; simp at hu; subst hu; rfl) (by omega) (by omega) (by have := BL.out.size; simpa using Nat.le_succ_of_le this) ?_)
                intro v' w2 hown2 hg2 _
                have B2 : Hid (Below w.heap.size w w2) := Lib.hid ((BL.out.trans (hbd.mono BL.out.size)).grown hg2 (by have := BL.out.size; simpa using Nat.le_succ_of_le this) (fun j hj => (HO.out.lt j hj).1))
                have O2 : Hid (w2.ownsRow w.heap.size 3 1 v' (k + 1) (vIs (((nearL l P).take (k + 1)).map fun d : Nat => (d : Int)))) := Lib.hid (by
                  rw [TK.out.2, List.map_append, vIs_append]; exact hown2)
                clear hown2 hg2 hbd
                go_wp2_with fail
                go_roundw
                case rel => exact ⟨k + 1, by omega, by have := HN.out; go_num, TK.out.1, O2.out, B2.out⟩
                case measure => simp [intOf]; omega
      · obtain rfl : k = 256 := by omega
        have f1 : decide (((3 + 256 : Nat) : Int) ≤ 258) = false := by decide
        have hn : Hid (Ns wr u5 ((nearL l P).map fun d : Nat => (d : Int))) := Lib.hid (by
          have h := sl_of_owns HO.out
          rw [List.take_of_length_le NL.out] at h
          have e : (nearL l P).length = 256 := by have := NL.out; omega
          unfold Ns
          rw [List.length_map, e]
          exact h)
        rw [show ((3 + 256 : Nat) : Int) = 259 from rfl]
        clear f1
        go_wp2_with fail
        go_ret
        exact ⟨_, rfl, hn.out, BL.out, fun j hj => (HO.out.lt j hj).1⟩
end Go.Proofs.Ytheomjoadgfkeaa
