/- slices.Reverse of tokens, a row of the call's own. By an AI agent. -/
import Derived.Test.YtheomjoadgfkeaaTry
import Derived.Test.YtheomjoadgfkeaaTok
namespace Go.Proofs.Ytheomjoadgfkeaa
open Go.RowKit
set_option linter.unusedVariables false
set_option linter.unusedSimpArgs false

def tokN (x : Nat × Nat) (i : Nat) : Value := .int .i64 (if i = 0 then (x.1 : Int) else (x.2 : Int))
def tokF (T : Nat → Nat × Nat) (R : Nat → Value) (n : Nat) (i : Nat) : Value := if i < 2 * n then tokN (T (i / 2)) (i % 2) else R i
def revK (T : Nat → Nat × Nat) (n k : Nat) (i : Nat) : Nat × Nat := if i < k ∨ n - k ≤ i then T (n - 1 - i) else T i
theorem tokF0 {V : World} {g sz : Nat} {ty : TypeId} {T : Nat → Nat × Nat} {R : Nat → Value} {n : Nat} (h : V.rowIs g ty sz (tokF T R n)) (hsz : 2 * n ≤ sz) {i : Nat} (hi : i < n) : V.cell? ⟨g, i * 2, none⟩ = some (.int .i64 ((T i).1 : Int)) := by
  rw [World.rowIs.cell h (by omega)]; unfold tokF; rw [if_pos (by omega), show i * 2 / 2 = i by omega, show i * 2 % 2 = 0 by omega]; rfl
theorem tokF1 {V : World} {g sz : Nat} {ty : TypeId} {T : Nat → Nat × Nat} {R : Nat → Value} {n : Nat} (h : V.rowIs g ty sz (tokF T R n)) (hsz : 2 * n ≤ sz) {i : Nat} (hi : i < n) : V.cell? ⟨g, i * 2 + 1, none⟩ = some (.int .i64 ((T i).2 : Int)) := by
  rw [World.rowIs.cell h (by omega)]; unfold tokF; rw [if_pos (by omega), show (i * 2 + 1) / 2 = i by omega, show (i * 2 + 1) % 2 = 1 by omega]; rfl
theorem tok_put {V : World} {g sz : Nat} {ty : TypeId} {T : Nat → Nat × Nat} {R : Nat → Value} {n : Nat} (h : V.rowIs g ty sz (tokF T R n)) {i : Nat} (hi : i < n) (x : Nat × Nat) :
    ((V.setCell ⟨g, i * 2, none⟩ (.int .i64 (x.1 : Int))).setCell ⟨g, i * 2 + 1, none⟩ (.int .i64 (x.2 : Int))).rowIs g ty sz (tokF (fun j => if j = i then x else T j) R n) := by
  refine World.rowIs.congr ((h.set _ _).set _ _) (fun j hj => ?_)
  unfold tokF
  by_cases e : j / 2 = i
  · have : j = i * 2 ∨ j = i * 2 + 1 := by omega
    rcases this with rfl | rfl
    · rw [if_neg (by omega), if_pos rfl, if_pos (by omega)]; simp only [if_pos e]; rw [show i * 2 % 2 = 0 by omega]; rfl
    · rw [if_pos rfl, if_pos (by omega)]; simp only [if_pos e]; rw [show (i * 2 + 1) % 2 = 1 by omega]; rfl
  · rw [if_neg (by omega), if_neg (by omega)]; simp only [if_neg e]
theorem revK_0 (T : Nat → Nat × Nat) (n i : Nat) (h : i < n) : revK T n 0 i = T i := by unfold revK; rw [if_neg (by omega)]
theorem revK_end (T : Nat → Nat × Nat) (n k i : Nat) (h : i < n) (hk : n ≤ 2 * k + 1) : revK T n k i = T (n - 1 - i) := by
  unfold revK; split
  · rfl
  · rw [show n - 1 - i = i by omega]
theorem revK_next (T : Nat → Nat × Nat) (n k : Nat) (hk : 2 * k + 1 < n) (i : Nat) (hi : i < n) : (if i = n - 1 - k then revK T n k k else if i = k then revK T n k (n - 1 - k) else revK T n k i) = revK T n (k + 1) i := by
  have e1 : revK T n k k = T k := by unfold revK; rw [if_neg (by omega)]
  have e2 : revK T n k (n - 1 - k) = T (n - 1 - k) := by unfold revK; rw [if_neg (by omega)]
  rw [e1, e2]
  unfold revK
  by_cases a : i = n - 1 - k
  · rw [if_pos a, if_pos (by omega), show n - 1 - i = k by omega]
  · rw [if_neg a]
    by_cases b : i = k
    · rw [if_pos b, if_pos (by omega), b]
    · rw [if_neg b]
      by_cases c : i < k ∨ n - k ≤ i
      · rw [if_pos c, if_pos (by omega)]
      · rw [if_neg c, if_neg (by omega)]
theorem tokF_congr {T T' : Nat → Nat × Nat} {R : Nat → Value} {n : Nat} (h : ∀ i, i < n → T i = T' i) (j : Nat) : tokF T R n j = tokF T' R n j := by
  unfold tokF; split
  · rw [h _ (by omega)]
  · rfl

set_option maxRecDepth 20000 in
set_option maxHeartbeats 3200000 in
theorem rev_row (g n cap sz : Nat) (T : Nat → Nat × Nat) (R : Nat → Value) (w : World) (hr : w.rowIs g 27 sz (tokF T R n)) (hsz : 2 * n ≤ sz) (hn : n ≤ 4194304) :
    Calls Try.prog 46 #[.slice (some ⟨g, 0, none⟩) n cap] w fun e w' => (∃ r, e = .returned r) ∧ w'.rowIs g 27 sz (tokF (fun i => T (n - 1 - i)) R n) ∧ w.grownBy w' (some g) := by
  have HR0 : Hid (w.rowIs g 27 sz (tokF (revK T n 0) R n)) := Lib.hid (World.rowIs.congr hr (fun i hi => tokF_congr (fun j hj => (revK_0 T n j hj).symm) i))
  clear hr
  go_enter Try.func46, Try.ntmps46
  go_wp2_with fail
  go_loopw [2, 3] (fun i j w' => ∃ k : Nat, k ≤ n ∧ i = .int .i64 (k : Int) ∧ j = .int .i64 ((n : Int) - 1 - (k : Int)) ∧ w'.rowIs g 27 sz (tokF (revK T n k) R n) ∧ w.grownBy w' (some g)) (fun i _ _ => n - (intOf i).toNat)
  case atStart => exact ⟨0, Nat.zero_le _, rfl, by simp, HR0.out, grown_of_below (Below.refl _ _) _⟩
  case round =>
    obtain ⟨k, hk, rfl, rfl, hR, hG⟩ := hrel
    by_cases hlt : 2 * k + 1 < n
    · have f1 : decide ((k : Int) < (n : Int) - 1 - (k : Int)) = true := by rw [decide_eq_true_eq]; omega
      obtain ⟨m, hm⟩ : ∃ m : Nat, n - 1 - k = m := ⟨_, rfl⟩
      have em : (n : Int) - 1 - (k : Int) = (m : Int) := by omega
      rw [em] at f1 ⊢
      have f2 : decide ((m : Int) < (n : Int)) = true := by rw [decide_eq_true_eq]; omega
      have f3 : decide ((k : Int) < (n : Int)) = true := by rw [decide_eq_true_eq]; omega
      have f1' : decide (k < m) = true := by rw [decide_eq_true_eq]; omega
      have f4 : m < n := by omega
      have f5 : k < n := by omega
      have n1 : ¬ k = m := by omega
      have n2 : ¬ m = k := by omega
      have n3 : ¬ k * 2 = m * 2 + 1 := by omega
      have n4 : ¬ k * 2 + 1 = m * 2 := by omega
      have n5 : ¬ m * 2 = k * 2 + 1 := by omega
      have n6 : ¬ m * 2 + 1 = k * 2 := by omega
      have a0 := tokF0 hR hsz (i := k) (by omega)
      have a1 := tokF1 hR hsz (i := k) (by omega)
      have b0 := tokF0 hR hsz (i := m) (by omega)
      have b1 := tokF1 hR hsz (i := m) (by omega)
      have z0 := World.rowIs.frozen hR (k * 2)
      have z1 := World.rowIs.frozen hR (k * 2 + 1)
      have z2 := World.rowIs.frozen hR (m * 2)
      have z3 := World.rowIs.frozen hR (m * 2 + 1)
      have HR := Lib.hid hR
      have HG := Lib.hid hG
      have EM := Lib.hid em
      have HM := Lib.hid hm
      clear hR hG em hm
      go_wp2_with fail
      go_region
      go_wp2_with fail
      go_roundw
      case rel =>
        refine ⟨k + 1, by omega, by go_num, by have := EM.out; go_num, ?_, ?_⟩
        · have h1 := tok_put HR.out (i := k) f5 (revK T n k m)
          have h2 := tok_put h1 (i := m) f4 (revK T n k k)
          refine World.rowIs.congr h2.drew (fun i hi => tokF_congr (fun j hj => ?_) i)
          have h3 := revK_next T n k hlt j hj
          rw [HM.out] at h3
          exact h3
        · have h := grownB_set (grownB_set (grownB_set (grownB_set HG.out (k * 2) (.int .i64 ((revK T n k m).1 : Int))) (k * 2 + 1) (.int .i64 ((revK T n k m).2 : Int))) (m * 2) (.int .i64 ((revK T n k k).1 : Int))) (m * 2 + 1) (.int .i64 ((revK T n k k).2 : Int))
          exact ⟨h.os, h.tape, h.output, h.size, h.block⟩
      case measure => simp [intOf]; omega
    · have f1 : decide ((k : Int) < (n : Int) - 1 - (k : Int)) = false := by rw [decide_eq_false_iff_not]; omega
      have HR := Lib.hid hR
      have HG := Lib.hid hG
      clear hR hG
      go_wp2_with fail
      go_end0
      exact ⟨⟨_, rfl⟩, World.rowIs.congr HR.out (fun i hi => tokF_congr (fun j hj => revK_end T n k j hj (by omega)) i), HG.out⟩

theorem owns_oldT {w w' : World} {base : Nat} {e : TypeId} {size : Nat} {v : Value} {n : Nat} {xs : List Value} (h : w.ownsRow base e size v n xs) (hb : Below w.heap.size w w') : w'.ownsRow base e size v n xs := by
  refine ⟨h.1, ?_⟩
  rcases h.2 with h | ⟨g, cap, cur, hv, hg, hc, hr⟩
  · exact .inl h
  · refine .inr ⟨g, cap, cur, hv, hg, ?_, hr⟩
    rw [hb.block g (Array.getElem?_eq_some_iff.1 hc).1]
    exact hc

set_option maxHeartbeats 3200000 in
/-- a row of tokens that the call has made -/
def tokVals (T : List (Nat × Nat)) : List Value := T.flatMap (fun t => [.int .i64 (t.1 : Int), .int .i64 (t.2 : Int)])
theorem tokVals_len (T : List (Nat × Nat)) : (tokVals T).length = T.length * 2 := by
  induction T with
  | nil => rfl
  | cons t T ih => show (_ :: _ :: tokVals T).length = _; simp only [List.length_cons, ih]; omega
theorem tokVals_app (S T : List (Nat × Nat)) : tokVals (S ++ T) = tokVals S ++ tokVals T := by simp [tokVals]
theorem tokVals_get : ∀ (T : List (Nat × Nat)) (i : Nat), i < T.length * 2 → (tokVals T)[i]? = some (tokN (T.getD (i / 2) (0, 0)) (i % 2))
  | [], i, h => by simp at h
  | t :: T, 0, h => rfl
  | t :: T, 1, h => rfl
  | t :: T, i + 2, h => by
    have ih := tokVals_get T i (by simp only [List.length_cons] at h; omega)
    show (_ :: _ :: tokVals T)[i + 2]? = _
    rw [List.getElem?_cons_succ, List.getElem?_cons_succ, ih, show (i + 2) / 2 = i / 2 + 1 by omega, show (i + 2) % 2 = i % 2 by omega]
    rfl
def Tow (b : Nat) (w : World) (v : Value) (T : List (Nat × Nat)) : Prop := w.ownsRow b 27 2 v T.length (tokVals T)
theorem Tow.nil (b : Nat) (w : World) : Tow b w (.slice none 0 0) [] := ⟨rfl, .inl ⟨rfl, rfl⟩⟩
theorem Tow.old {b : Nat} {w w' : World} {v : Value} {T : List (Nat × Nat)} (h : Tow b w v T) (hb : Below w.heap.size w w') : Tow b w' v T := owns_oldT h hb
theorem Tow.tk {b : Nat} {w : World} {v : Value} {T : List (Nat × Nat)} (h : Tow b w v T) : Tk w v (T.map (fun t => ((t.1 : Int), (t.2 : Int)))) := by
  rcases h.2 with ⟨rfl, hn⟩ | ⟨g, cap, cur, rfl, hg, hb, hc, hm, hs, ht⟩
  · have : T = [] := List.length_eq_zero_iff.1 hn
    subst this
    exact ⟨none, 0, rfl, fun i h => absurd h (Nat.not_lt_zero i)⟩
  · refine ⟨some ⟨g, 0, none⟩, cap, by simp, fun i hi => ⟨g, 0, rfl, ?_, ?_⟩⟩
    all_goals
      simp only [List.length_map] at hi
      have key : ∀ j, j < T.length * 2 → cur[j]? = some (tokN (T.getD (j / 2) (0, 0)) (j % 2)) := fun j hj => by
        rw [← tokVals_get T j hj, ← ht, List.getElem?_take_of_lt hj, Array.getElem?_toList]
      simp only [World.cell?, hb, Nat.zero_add, List.getElem_map]
    · rw [key _ (by omega), show i * 2 / 2 = i by omega, show i * 2 % 2 = 0 by omega, List.getD_eq_getElem?_getD, List.getElem?_eq_getElem hi]; rfl
    · rw [key _ (by omega), show (i * 2 + 1) / 2 = i by omega, show (i * 2 + 1) % 2 = 1 by omega, List.getD_eq_getElem?_getD, List.getElem?_eq_getElem hi]; rfl
set_option maxHeartbeats 800000 in
theorem rev_nil (w : World) :
    Calls Try.prog 46 #[.slice none 0 0] w fun e w' => (∃ r, e = .returned r) ∧ Below w.heap.size w w' := by
  have HB : Hid (Below w.heap.size w w) := Lib.hid (Below.refl _ _)
  go_enter Try.func46, Try.ntmps46
  go_wp2_with fail
  go_loopw [2, 3] (fun i j w' => i = .int .i64 0 ∧ j = .int .i64 (-1) ∧ Below w.heap.size w w') (fun _ _ _ => 0)
  case atStart => exact ⟨rfl, rfl, HB.out⟩
  case round =>
    obtain ⟨rfl, rfl, hb⟩ := hrel
    have HB2 := Lib.hid hb
    clear hb
    go_wp2_with fail
    go_end0
    exact ⟨⟨_, rfl⟩, HB2.out⟩
/-- turned round -/
theorem rev_any (b : Nat) (v : Value) (T : List (Nat × Nat)) (w : World) (h : Tow b w v T) (hn : T.length ≤ 4194304) (hbw : b ≤ w.heap.size) :
    Calls Try.prog 46 #[v] w fun e w' => (∃ r, e = .returned r) ∧ Tow b w' v T.reverse ∧ w.grownBy w' v.ownBlock := by
  have h0 := h
  rcases h.2 with ⟨rfl, he⟩ | ⟨g, cap, cur, rfl, hg, hb, hc, hm, hs, ht⟩
  · have : T = [] := List.length_eq_zero_iff.1 he
    subst this
    refine (rev_nil w).mono ?_
    rintro e w' ⟨hr, hb⟩
    exact ⟨hr, h0.old hb, grown_of_below hb _⟩
  · have key : ∀ j, j < T.length * 2 → cur[j]? = some (tokN (T.getD (j / 2) (0, 0)) (j % 2)) := fun j hj => by
      rw [← tokVals_get T j hj, ← ht, List.getElem?_take_of_lt hj, Array.getElem?_toList]
    have hr : w.rowIs g 27 cur.size (tokF (fun i => T.getD i (0, 0)) (fun i => cur.getD i undef) T.length) := by
      refine ⟨cur, hb, rfl, fun i hi => ?_⟩
      unfold tokF
      by_cases c : i < 2 * T.length
      · rw [if_pos c]; exact key i (by omega)
      · rw [if_neg c]; simp [Array.getElem?_eq_getElem hi, hi]
    refine (rev_row g T.length cap cur.size _ _ w hr (by rw [hs]; have := Nat.mul_le_mul_right 2 hc; omega) hn).mono ?_
    rintro e w' ⟨hr', ⟨c2, hb2, hs2, hx2⟩, hgr⟩
    refine ⟨hr', ⟨by rw [tokVals_len], .inr ⟨g, cap, c2, by rw [List.length_reverse], hg, hb2, by rw [List.length_reverse]; exact hc, hm, by rw [hs2, hs], ?_⟩⟩, hgr⟩
    have hle := Nat.mul_le_mul_right 2 hc
    refine List.ext_getElem? (fun i => ?_)
    rw [List.length_reverse]
    by_cases c : i < T.length * 2
    · rw [List.getElem?_take_of_lt c, Array.getElem?_toList, hx2 i (by omega), tokVals_get _ i (by rw [List.length_reverse]; exact c)]
      unfold tokF
      rw [if_pos (by omega)]
      congr 2
      simp only [List.getD_eq_getElem?_getD]
      rw [List.getElem?_reverse (by omega)]
    · rw [List.getElem?_eq_none (by rw [List.length_take]; omega), List.getElem?_eq_none (by rw [tokVals_len, List.length_reverse]; omega)]
end Go.Proofs.Ytheomjoadgfkeaa
