/- A region that draws its order and whose last operations are stores that spoil the condition C, one behind the other: all others are held under C, these are not. By an AI agent; over the kit's theory of orders. slices.Reverse of blocks: a stretch of a row of one's own. By an AI agent. A loop over an iterator that has boxes of its own: what the caller says must not speak of blocks made since. By an AI agent; over the kit's laws of the loop's record. XRangeR with more kept: blocks made since the iterator began are kept too. A loop over an iterator whose values aren't known ahead (clones): what it hands over satisfies a relation in the world at the yield. By an AI agent; XRangeB's text turned. slices.Chunk of blocks: the iterator. By an AI agent. What flip and flop lean on: rows turned, plain; what stays. By an AI agent. -/
import Derived.Test.YtnhalnjdlkdnkaaZ19
import Derived.Test.YtnhalnjdlkdnkaaZ01
import Derived.Shelf.Abstract
import Derived.Test.YtnhalnjdlkdnkaaZ02
import Derived.Deep.DeepCutAuto
import Derived.OwnWalkIn
import Derived.TacticsInMore
import Derived.LoopNIn
import Derived.LoopIn
import Derived.Handy
import Derived.BigQuiet
import Derived.Test.YtnhalnjdlkdnkaaZ21
namespace Go.Proofs.Ytnhalnjdlkdnkaa
open Go.RowKit
set_option linter.unusedVariables false
set_option linter.unusedSimpArgs false

section
variable {P : Program} {ops : Array Oper} {md : Region.Mode} {C : World → Prop} {Q : Exit → Act → World → Prop}

def NoLate (L : List Nat) (listed : Array Bool) : Prop := ∀ l ∈ L, listed.getD l false = false
theorem noLate_put {L : List Nat} {listed : Array Bool} {i : Nat} (hi : i ∉ L) : NoLate L (listed.setIfInBounds i true) ↔ NoLate L listed := by
  unfold NoLate
  constructor <;> intro h l hl <;> have h1 := h l hl <;> have hne : i ≠ l := fun e => hi (e ▸ hl)
  · rw [getD_set_ne false hne] at h1; exact h1
  · rw [getD_set_ne false hne]; exact h1
/-- whatever order is picked; C holds as long as none of L has come up -/
def wpAnyM (P : Program) (md : Region.Mode) (ops : Array Oper) (Q : Exit → Act → World → Prop) (C : World → Prop) (L : List Nat) : Nat → Array Bool → Act → World → Prop
  | 0, listed, a, w => Region.ready md ops listed = [] ∧ Q .normal a w
  | fuel + 1, listed, a, w => (Region.ready md ops listed = [] → Q .normal a w) ∧
    ∀ i ∈ Region.ready md ops listed, wpOp P ops Q i (fun a' w' => (NoLate L (listed.setIfInBounds i true) → C w') ∧ wpAnyM P md ops Q C L fuel (listed.setIfInBounds i true) a' w') a w
theorem wpAny_of_M {L : List Nat} : ∀ (fuel : Nat) (listed : Array Bool) (a : Act) (w : World), wpAnyM P md ops Q C L fuel listed a w → wpAny P md ops Q fuel listed a w
  | 0, _, _, _, h => h
  | fuel + 1, _, _, _, h => ⟨h.1, fun i hi => wpOp_mono (fun a' w' h' => wpAny_of_M fuel _ a' w' h'.2) (h.2 i hi)⟩
theorem wpAnyM_first {i : Nat} {L : List Nat} {oi : Oper} {v : Value} {S : World → Prop} (hi : ops[i]? = some oi) (hsel : ∀ (j : Nat) (o : Oper) cs b, ops[j]? = some o → o.op ≠ .select cs b)
    (hQ : ∀ c a w, Q (.panic c) (a.put oi.dst v) w → Q (.panic c) a w) (hL : i ∉ L) (hS : ∀ listed w, ShutL md ops listed → i ∈ Region.ready md ops listed → (NoLate L listed → C w) → S w) :
    ∀ (fuel : Nat) (listed : Array Bool) (a : Act) (w : World), ShutL md ops listed →
      (∀ j oj, ops[j]? = some oj → j ≠ i → listed.getD j true = false → (∀ e ∈ oj.after, Region.binds md e = true → e.on ≠ i) → oi.apart ops oj = true) →
      i ∈ Region.ready md ops listed → YieldsIf P ops S oi v a → (NoLate L listed → C w) →
      wpAnyM P md ops Q C L fuel (listed.setIfInBounds i true) (a.put oi.dst v) w → wpAnyM P md ops Q C L (fuel + 1) listed a w := by
  intro fuel
  induction fuel with
  | zero =>
    intro listed a w hsh _ hr hy hC H
    refine ⟨fun h => (by rw [h] at hr; cases hr), fun j hj => ?_⟩
    by_cases hji : j = i
    · subst hji; exact hy.wpOp hi (hS _ _ hsh hr hC) ⟨fun h => hC ((noLate_put hL).1 h), H⟩
    · have := ready_mono hj hji
      rw [H.1] at this
      cases this
  | succ fuel ih =>
    intro listed a w hsh hfree hr hy hC H
    refine ⟨fun h => (by rw [h] at hr; cases hr), fun j hj => ?_⟩
    by_cases hji : j = i
    · subst hji; exact hy.wpOp hi (hS _ _ hsh hr hC) ⟨fun h => hC ((noLate_put hL).1 h), H⟩
    · have h1 := H.2 j (ready_mono hj hji)
      obtain ⟨hjun, oj, hoj, hall⟩ := mem_ready.1 hj
      have hnot : ∀ e ∈ oj.after, Region.binds md e = true → e.on ≠ i := fun e he hbe heq => by
        have h1 := hall e he hbe
        have h0 := (mem_ready.1 hr).1
        rw [heq] at h1
        rcases Nat.lt_or_ge i listed.size with h' | h'
        · simp [h'] at h0 h1; rw [h0] at h1; cases h1
        · simp [Array.getElem?_eq_none h'] at h1
      have h2 := wpOp_putIf hoj (hfree j oj hoj hji hjun hnot) (fun cs b => hsel i oi cs b hi) (fun cs b => hsel j oj cs b hoj) hQ hy h1
      have comm : (listed.setIfInBounds i true).setIfInBounds j true = (listed.setIfInBounds j true).setIfInBounds i true := Array.setIfInBounds_comm _ _ (Ne.symm hji)
      refine wpOp_mono (fun a' w' h3 => ?_) h2
      rw [comm] at h3
      have hC' : NoLate L (listed.setIfInBounds j true) → C w' := fun h => h3.2.1 ((noLate_put hL).2 h)
      refine ⟨hC', ih (listed.setIfInBounds j true) a' w' (hsh.put hj) (fun k ok hk hki hun hno => ?_) (ready_mono hr (Ne.symm hji)) h3.1 hC' h3.2.2⟩
      refine hfree k ok hk hki ?_ hno
      by_cases hjk : j = k
      · subst hjk; exact hjun
      · rw [getD_set_ne true hjk] at hun; exact hun
def lateB (md : Region.Mode) (ops : Array Oper) : List Nat → Array Bool → Bool
  | [], listed => (Region.ready md ops listed).isEmpty
  | l :: ls, listed => (Region.ready md ops listed == [l]) && lateB md ops ls (listed.setIfInBounds l true)
/-- 0: carried out; 1: taken, as it yields its value where C holds; 2: taken, as it yields its value anywhere -/
def lastsB (md : Region.Mode) (ops : Array Oper) (L : List Nat) (nb : Nat) : List (Nat × Nat) → Array Bool → Bool
  | [], listed => lateB md ops L listed
  | (k, 1) :: ms, listed => (Region.ready md ops listed).contains k && Region.free md ops listed k && !L.contains k && L.all (befB md ops k nb) && lastsB md ops L nb ms (listed.setIfInBounds k true)
  | (k, 2) :: ms, listed => (Region.ready md ops listed).contains k && Region.free md ops listed k && !L.contains k && lastsB md ops L nb ms (listed.setIfInBounds k true)
  | (k, _) :: ms, listed => (Region.ready md ops listed == [k]) && !L.contains k && lastsB md ops L nb ms (listed.setIfInBounds k true)
def wpLate (P : Program) (ops : Array Oper) (Q : Exit → Act → World → Prop) : List Nat → Act → World → Prop
  | [], a, w => Q .normal a w
  | l :: ls, a, w => ∃ o, ops[l]? = some o ∧ ∀ K : Act → World → Prop, Shut (∀ a' w', wpLate P ops Q ls a' w' → K a' w') →
      if Region.wanted o (yielded ops a.tmps) = true then Oper.wp P o a w K (strictQ Q) else K (a.put o.dst undef) w
def wpLasts (P : Program) (ops : Array Oper) (C : World → Prop) (Q : Exit → Act → World → Prop) (L : List Nat) : List (Nat × Nat) → Act → World → Prop
  | [], a, w => wpLate P ops Q L a w
  | (k, 1) :: ms, a, w => ∃ o, ops[k]? = some o ∧ ∃ v, YieldsIf P ops C o v a ∧ wpLasts P ops C Q L ms (a.put o.dst v) w
  | (k, 2) :: ms, a, w => ∃ o, ops[k]? = some o ∧ ∃ v, YieldsIf P ops (fun _ => True) o v a ∧ wpLasts P ops C Q L ms (a.put o.dst v) w
  | (k, _) :: ms, a, w => ∃ o, ops[k]? = some o ∧ ∀ K : Act → World → Prop, Shut (∀ a' w', C w' → (C w' → wpLasts P ops C Q L ms a' w') → K a' w') →
      if Region.wanted o (yielded ops a.tmps) = true then Oper.wp P o a w K (strictQ Q) else K (a.put o.dst undef) w
theorem lasts_take {l : List Oper} {L : List Nat} {k : Nat} {o : Oper} {ms : List (Nat × Nat)} {a : Act} {w : World} (ho : l[k]? = some o) (h : ∃ v, YieldsIf P l.toArray C o v a ∧ wpLasts P l.toArray C Q L ms (a.put o.dst v) w) : wpLasts P l.toArray C Q L ((k, 1) :: ms) a w := ⟨o, by simpa using ho, h⟩
theorem lasts_any {l : List Oper} {L : List Nat} {k : Nat} {o : Oper} {ms : List (Nat × Nat)} {a : Act} {w : World} (ho : l[k]? = some o) (h : ∃ v, YieldsIf P l.toArray (fun _ => True) o v a ∧ wpLasts P l.toArray C Q L ms (a.put o.dst v) w) : wpLasts P l.toArray C Q L ((k, 2) :: ms) a w := ⟨o, by simpa using ho, h⟩
theorem lasts_step {l : List Oper} {L : List Nat} {k : Nat} {o : Oper} {ms : List (Nat × Nat)} {a : Act} {w : World} (ho : l[k]? = some o) (h : ∀ K : Act → World → Prop, Shut (∀ a' w', C w' → (C w' → wpLasts P l.toArray C Q L ms a' w') → K a' w') →
    if Region.wanted o (yielded l.toArray a.tmps) = true then Oper.wp P o a w K (strictQ Q) else K (a.put o.dst undef) w) : wpLasts P l.toArray C Q L ((k, 0) :: ms) a w := ⟨o, by simpa using ho, h⟩
theorem lasts_late {L : List Nat} {a : Act} {w : World} (h : wpLate P ops Q L a w) : wpLasts P ops C Q L [] a w := h
theorem late_step {l : List Oper} {e : Nat} {ls : List Nat} {o : Oper} {a : Act} {w : World} (ho : l[e]? = some o) (h : ∀ K : Act → World → Prop, Shut (∀ a' w', wpLate P l.toArray Q ls a' w' → K a' w') →
    if Region.wanted o (yielded l.toArray a.tmps) = true then Oper.wp P o a w K (strictQ Q) else K (a.put o.dst undef) w) : wpLate P l.toArray Q (e :: ls) a w := ⟨o, by simpa using ho, h⟩
theorem late_done {a : Act} {w : World} (h : Q .normal a w) : wpLate P ops Q [] a w := h
theorem wpAnyM_late {L : List Nat} : ∀ (ls : List Nat) (listed : Array Bool) (a : Act) (w : World), (∀ l ∈ ls, l ∈ L) → (∀ l ∈ L, l < listed.size) → lateB md ops ls listed = true → wpLate P ops Q ls a w → wpAnyM P md ops (strictQ Q) C L ls.length listed a w
  | [], listed, a, w, _, _, hB, h => by
    simp only [lateB, List.isEmpty_iff] at hB
    exact ⟨hB, h⟩
  | l :: ls, listed, a, w, hm, hs, hB, h => by
    simp only [lateB, Bool.and_eq_true, beq_iff_eq] at hB
    obtain ⟨o, h0, hh⟩ := h
    refine ⟨fun h => by rw [hB.1] at h; simp at h, fun i hi => ?_⟩
    rw [hB.1, List.mem_singleton] at hi
    subst hi
    have hiL := hm i (by simp)
    have hno : ¬ NoLate L (listed.setIfInBounds i true) := fun h => by
      have := h i hiL
      simp [hs i hiL] at this
    exact wpOp_step h0 (fun K hK => hh K (fun a' w' hW => hK a' w' ⟨fun h => absurd h hno, wpAnyM_late ls _ a' w' (fun l hl => hm l (by simp [hl])) (fun l hl => by simpa using hs l hl) hB.2 hW⟩))
theorem wpAnyM_lasts (hsel : Region.noSelect ops = true) {L : List Nat} {nb : Nat} : ∀ (ms : List (Nat × Nat)) (listed : Array Bool) (a : Act) (w : World), ShutL md ops listed → (∀ l ∈ L, l < listed.size) → lastsB md ops L nb ms listed = true → C w → wpLasts P ops C Q L ms a w → wpAnyM P md ops (strictQ Q) C L (ms.length + L.length) listed a w := by
  intro ms
  induction ms with
  | nil =>
    intro listed a w hsh hs hB hC h
    rw [List.length_nil, Nat.zero_add]
    exact wpAnyM_late L listed a w (fun l hl => hl) hs hB h
  | cons m ms ih =>
    intro listed a w hsh hs hB hC h
    obtain ⟨k, b⟩ := m
    rw [List.length_cons, Nat.add_right_comm]
    have hs' : ∀ l ∈ L, l < (listed.setIfInBounds k true).size := fun l hl => by simpa using hs l hl
    match b, hB, h with
    | 1, hB, h =>
      simp only [lastsB, Bool.and_eq_true, Bool.not_eq_true', List.contains_eq_mem, decide_eq_true_eq, decide_eq_false_iff_not] at hB
      obtain ⟨o, h0, v, hy, hr⟩ := h
      refine wpAnyM_first h0 (Region.noSelect_spec hsel) (fun _ _ _ h => h) hB.1.1.2 (S := C) (fun ls w' hsh' hr' hC' => hC' (fun l hl => ?_)) _ listed a w hsh (Region.free_spec h0 hB.1.1.1.2) hB.1.1.1.1 hy (fun _ => hC) (ih _ _ _ (hsh.put hB.1.1.1.1) hs' hB.2 hC hr)
      cases hx : ls.getD l false with
      | false => rfl
      | true =>
        exfalso
        have hi1 := befB_listed hsh' nb l (List.all_eq_true.1 hB.1.2 l hl) (fun o' ho' e he hbe => hsh' l o' ho' hx e he hbe)
        have hi2 := (mem_ready.1 hr').1
        rcases Nat.lt_or_ge k ls.size with h' | h'
        · simp [h'] at hi1 hi2; rw [hi1] at hi2; cases hi2
        · simp [Array.getElem?_eq_none h'] at hi1
    | 2, hB, h =>
      simp only [lastsB, Bool.and_eq_true, Bool.not_eq_true', List.contains_eq_mem, decide_eq_true_eq, decide_eq_false_iff_not] at hB
      obtain ⟨o, h0, v, hy, hr⟩ := h
      exact wpAnyM_first h0 (Region.noSelect_spec hsel) (fun _ _ _ h => h) hB.1.2 (S := fun _ => True) (fun _ _ _ _ _ => trivial) _ listed a w hsh (Region.free_spec h0 hB.1.1.2) hB.1.1.1 hy (fun _ => hC) (ih _ _ _ (hsh.put hB.1.1.1) hs' hB.2 hC hr)
    | 0, hB, h =>
      simp only [lastsB, Bool.and_eq_true, beq_iff_eq] at hB
      obtain ⟨o, h0, hh⟩ := h
      refine ⟨fun h => by rw [hB.1.1] at h; simp at h, fun i hi => ?_⟩
      have hrd := hi
      rw [hB.1.1, List.mem_singleton] at hi
      subst hi
      exact wpOp_step h0 (fun K hK => hh K (fun a' w' hC' hW => hK a' w' ⟨fun _ => hC', ih _ _ _ (hsh.put hrd) hs' hB.2 hC' (hW hC')⟩))
    | b + 3, hB, h =>
      simp only [lastsB, Bool.and_eq_true, beq_iff_eq] at hB
      obtain ⟨o, h0, hh⟩ := h
      refine ⟨fun h => by rw [hB.1.1] at h; simp at h, fun i hi => ?_⟩
      have hrd := hi
      rw [hB.1.1, List.mem_singleton] at hi
      subst hi
      exact wpOp_step h0 (fun K hK => hh K (fun a' w' hC' hW => hK a' w' ⟨fun _ => hC', ih _ _ _ (hsh.put hrd) hs' hB.2 hC' (hW hC')⟩))
/-- ms: the order of one's own for all but the last ones, L; nb: how far back 'before' is looked for -/
theorem wp_region_lasts {id : Nat} {a : Act} {w : World} {l : List Oper} (C : World → Prop) (L : List Nat) (nb : Nat) (ms : List (Nat × Nat)) (hm : P.follows .mixedOrders = true)
    (hB : (Region.noSelect l.toArray && decide (l.length = ms.length + L.length) && L.all (fun x => decide (x < l.length)) && lastsB .any l.toArray L nb ms (Array.replicate l.toArray.size false)) = true) (hC : C w.drew)
    (h : C w.drew → wpLasts P l.toArray C Q L ms a w.drew) : (Code.region id l.toArray true).wp P Q a w := by
  simp only [Bool.and_eq_true, decide_eq_true_eq] at hB
  have hs : ∀ x ∈ L, x < (Array.replicate l.toArray.size false).size := fun x hx => by
    have := List.all_eq_true.1 hB.1.2 x hx
    simpa using this
  have H := wpAnyM_lasts (md := .any) hB.1.1.1 ms _ a w.drew (shutL_none _) hs hB.2 hC (h hC)
  rw [← hB.1.1.2] at H
  exact wp_region_any hm (wpAny_strict _ _ _ _ (wpAny_of_M _ _ _ _ (by simpa using H)))
end
end Go.Proofs.Ytnhalnjdlkdnkaa

namespace Go.Proofs.Ytnhalnjdlkdnkaa
open Go.RowKit Go.BigFrame
set_option linter.unusedVariables false
set_option linter.unusedSimpArgs false
set_option maxRecDepth 20000

def rvTo (bs : List (List Int)) (a m k : Nat) : List (List Int) := (List.range bs.length).map fun j => if a ≤ j ∧ j < a + m ∧ (j - a < k ∨ m - k ≤ j - a) then bs.getD (a + (m - 1 - (j - a))) [] else bs.getD j []
def rvSeg (bs : List (List Int)) (a m : Nat) : List (List Int) := (List.range bs.length).map fun j => if a ≤ j ∧ j < a + m then bs.getD (a + (m - 1 - (j - a))) [] else bs.getD j []
theorem rvTo_len (bs : List (List Int)) (a m k : Nat) : (rvTo bs a m k).length = bs.length := by simp [rvTo]
theorem rvSeg_len (bs : List (List Int)) (a m : Nat) : (rvSeg bs a m).length = bs.length := by simp [rvSeg]
theorem getD_of {l : List (List Int)} {j : Nat} (h : j < l.length) : l.getD j [] = l[j] := by rw [List.getD_eq_getElem?_getD, List.getElem?_eq_getElem h]; rfl
theorem rvTo_zero (bs : List (List Int)) (a m : Nat) : rvTo bs a m 0 = bs := by
  apply List.ext_getElem (by simp [rvTo])
  intro j h1 h2
  simp only [rvTo, List.getElem_map, List.getElem_range]
  rw [if_neg (by omega), getD_of h2]
theorem rvTo_end (bs : List (List Int)) (a m k : Nat) (h : m ≤ 2 * k + 1) : rvTo bs a m k = rvSeg bs a m := by
  unfold rvTo rvSeg
  refine List.map_congr_left fun j _ => ?_
  by_cases h1 : a ≤ j ∧ j < a + m
  · rw [if_pos h1]
    by_cases h2 : j - a < k ∨ m - k ≤ j - a
    · rw [if_pos ⟨h1.1, h1.2, h2⟩]
    · rw [if_neg (fun h => h2 h.2.2), show a + (m - 1 - (j - a)) = j by omega]
  · rw [if_neg h1, if_neg (fun h => h1 ⟨h.1, h.2.1⟩)]
theorem rvTo_mid (bs : List (List Int)) (a m k : Nat) (h : 2 * k + 1 < m) (hl : a + m ≤ bs.length) : ∀ (i : Nat) (hi : i < (rvTo bs a m k).length), i = a + k ∨ i = a + (m - 1 - k) → (rvTo bs a m k)[i] = bs[i]'(by rw [rvTo_len] at hi; exact hi) := by
  intro i hi hii
  have hi' : i < bs.length := by rw [rvTo_len] at hi; exact hi
  simp only [rvTo, List.getElem_map, List.getElem_range]
  rw [if_neg (by omega), getD_of hi']
theorem rvTo_succ (bs : List (List Int)) (a m k : Nat) (h : 2 * k + 1 < m) (hl : a + m ≤ bs.length) : rvTo bs a m (k + 1) = ((rvTo bs a m k).set (a + k) (bs[a + (m - 1 - k)]'(by omega))).set (a + (m - 1 - k)) (bs[a + k]'(by omega)) := by
  apply List.ext_getElem (by simp [rvTo])
  intro j h1 h2
  have hj : j < bs.length := by rw [rvTo_len] at h1; exact h1
  rw [List.getElem_set]
  by_cases e1 : a + (m - 1 - k) = j
  · rw [if_pos e1]
    simp only [rvTo, List.getElem_map, List.getElem_range]
    rw [if_pos (by omega), show a + (m - 1 - (j - a)) = a + k by omega, getD_of (by omega)]
  · rw [if_neg e1, List.getElem_set]
    by_cases e2 : a + k = j
    · rw [if_pos e2]
      simp only [rvTo, List.getElem_map, List.getElem_range]
      rw [if_pos (by omega), show a + (m - 1 - (j - a)) = a + (m - 1 - k) by omega, getD_of (by omega)]
    · rw [if_neg e2]
      simp only [rvTo, List.getElem_map, List.getElem_range]
      by_cases h3 : a ≤ j ∧ j < a + m ∧ (j - a < k ∨ m - k ≤ j - a)
      · rw [if_pos h3, if_pos (by omega)]
      · rw [if_neg h3, if_neg (by omega)]
theorem grownK_refl (w : World) (r : Option Nat) : w.grownBy w r := ⟨rfl, rfl, rfl, Nat.le_refl _, fun _ _ _ => rfl⟩
theorem grownK_trans {a b c : World} {r : Option Nat} (h : a.grownBy b r) (k : b.grownBy c r) : a.grownBy c r :=
  ⟨k.os.trans h.os, k.tape.trans h.tape, k.output.trans h.output, Nat.le_trans h.size k.size, fun i hi hne => (k.block i (Nat.lt_of_lt_of_le hi h.size) hne).trans (h.block i hi hne)⟩
theorem grownK_below {w w' : World} (h : Below w.heap.size w w') (r : Option Nat) : w.grownBy w' r := ⟨h.os, h.tape, h.output, h.size, fun b hb _ => h.block b hb⟩
set_option maxHeartbeats 8000000 in
theorem revB_any (base g n c a m cap : Nat) (bs : List (List Int)) (w : World) (hb : BkO base w (.slice (some ⟨g, 0, none⟩) n c) bs) (hm : a + m ≤ bs.length) (h65 : bs.length ≤ 65536) :
    Calls Try.prog 67 #[.slice (some ⟨g, a * 64, none⟩) m cap] w fun e w' => (∃ v, e = .returned v) ∧ BkO base w' (.slice (some ⟨g, 0, none⟩) n c) (rvSeg bs a m) ∧ w.grownBy w' (some g) := by
  have HB0 : Hid (BkO base w (.slice (some ⟨g, 0, none⟩) n c) (rvTo bs a m 0)) := Lib.hid (by rw [rvTo_zero]; exact hb)
  have ALL := Lib.hid hb.all
  have HM := Lib.hid hm
  have H65 := Lib.hid h65
  have e0 : IntKind.i64.wrap ((m : Int) - 1) = (m : Int) - 1 := IntWalk.i64_in _ (by omega)
  clear hb hm h65
  go_enter Try.func67, Try.ntmps67
  go_wp2_with fail
  go_loopw [2, 3] (fun i j W => ∃ k : Nat, k ≤ m ∧ i = .int .i64 (k : Nat) ∧ j = .int .i64 ((m : Int) - 1 - (k : Int)) ∧ BkO base W (.slice (some ⟨g, 0, none⟩) n c) (rvTo bs a m k) ∧ w.grownBy W (some g)) (fun i _ _ => m - (intOf i).toNat)
  case atStart => exact ⟨0, Nat.zero_le _, rfl, by simp, HB0.out, grownK_refl _ _⟩
  case round =>
    clear HB0 e0
    obtain ⟨k, hk, rfl, rfl, hbk, hg⟩ := hrel
    have BK := Lib.hid hbk
    have GR := Lib.hid hg
    clear hbk hg
    by_cases hlt : 2 * k + 1 < m
    · have hm65 : m ≤ 65536 := by have := HM.out; have := H65.out; omega
      have f1 : decide ((k : Int) < (m : Int) - 1 - (k : Int)) = true := by rw [decide_eq_true_eq]; omega
      obtain ⟨j, hj⟩ : ∃ j : Nat, m - 1 - k = j := ⟨_, rfl⟩
      have em : (m : Int) - 1 - (k : Int) = (j : Int) := by omega
      rw [em] at f1 ⊢
      have f1' : decide (k < j) = true := by rw [decide_eq_true_eq]; omega
      have i1 : (k : Int) < (m : Int) := by omega
      have i2 : (j : Int) < (m : Int) := by omega
      have G1 : Hid (IntKind.i64.wrap ((k : Int) + 1) = (k : Int) + 1) := Lib.hid (IntWalk.i64_in _ (by omega))
      have G2 : Hid (IntKind.i64.wrap ((j : Int) - 1) = (j : Int) - 1) := Lib.hid (IntWalk.i64_in _ (by omega))
      have hl := HM.out
      have LK : Hid (a + k < (rvTo bs a m k).length) := Lib.hid (by rw [rvTo_len]; omega)
      have LJ : Hid (a + j < (rvTo bs a m k).length) := Lib.hid (by rw [rvTo_len]; omega)
      have RK := BK.out.range (a + k) LK.out
      have RJ := BK.out.range (a + j) LJ.out
      rw [rvTo_mid bs a m k hlt hl _ LK.out (.inl rfl)] at RK
      rw [rvTo_mid bs a m k hlt hl _ LJ.out (.inr (by omega))] at RJ
      have ST := rvTo_succ bs a m k hlt hl
      simp only [hj] at ST
      obtain ⟨bk, hbk⟩ : ∃ z, bs[a + k]'(by omega) = z := ⟨_, rfl⟩
      obtain ⟨bj, hbj⟩ : ∃ z, bs[a + j]'(by omega) = z := ⟨_, rfl⟩
      have CK : Hid (Blk64 bk) := Lib.hid (by rw [← hbk]; exact ALL.out.at _ (by omega))
      have CJ : Hid (Blk64 bj) := Lib.hid (by rw [← hbj]; exact ALL.out.at _ (by omega))
      rw [hbk] at RK ST
      rw [hbj] at RJ ST
      have SS := Lib.hid ST
      rw [Nat.add_mul] at RK RJ
      have HIK : Hid ((Try.prog.info? 23).map (·.size) = some (vIs bk).length) := Lib.hid (by rw [vIs_length, CK.out.1]; kernel_rfl)
      have HIJ : Hid ((Try.prog.info? 23).map (·.size) = some (vIs bj).length) := Lib.hid (by rw [vIs_length, CJ.out.1]; kernel_rfl)
      have KJ : Hid (k < j ∧ j < m ∧ m - 1 - k = j ∧ (m : Int) - 1 - ((k : Int) + 1) = (j : Int) - 1) := Lib.hid (by omega)
      have hd := (Below.refl wr.heap.size wr).drew
      have CC0 : (fun X => X.rangeAt g (a * 64 + k * 64) (vIs bk) ∧ X.rangeAt g (a * 64 + j * 64) (vIs bj)) wr.drew := ⟨range_old hd RK, range_old hd RJ⟩
      clear ST hbk hbj RK RJ hj em hl hlt hd
      go_upto_region 3 with (fail)
      refine wp_region_lasts (fun X => X.rangeAt g (a * 64 + k * 64) (vIs bk) ∧ X.rangeAt g (a * 64 + j * 64) (vIs bj)) [13, 14, 15] 16 [(0, 2), (1, 2), (2, 2), (3, 2), (4, 2), (5, 2), (6, 2), (7, 1), (8, 2), (9, 2), (10, 2), (11, 1), (12, 2)] (by kernel_rfl) (by kernel_rfl) CC0 (fun hC0 => ?_)
      have CC := Lib.hid hC0
      clear hC0 CC0
      iterate 7
        (refine lasts_any rfl ?_
         apply Exists.intro
         refine ⟨Or.inl ⟨by rfl, fun X _ => ?_⟩, ?_⟩
         · go_simp
           exact rfl
         simp only [Act.put, List.setIfInBounds_toArray, List.set_cons_zero, List.set_cons_succ])
      refine lasts_take rfl ?_
      refine ⟨_, yieldsIf_load_mid (by rfl) _ _ rfl g (a * 64 + j * 64) rfl (vIs bj) _ (fun X hX => hX.2) Try.underlying23 rfl HIJ.out, ?_⟩
      simp only [Act.put, List.setIfInBounds_toArray, List.set_cons_zero, List.set_cons_succ]
      iterate 3
        (refine lasts_any rfl ?_
         apply Exists.intro
         refine ⟨Or.inl ⟨by rfl, fun X _ => ?_⟩, ?_⟩
         · go_simp
           exact rfl
         simp only [Act.put, List.setIfInBounds_toArray, List.set_cons_zero, List.set_cons_succ])
      refine lasts_take rfl ?_
      refine ⟨_, yieldsIf_load_mid (by rfl) _ _ rfl g (a * 64 + k * 64) rfl (vIs bk) _ (fun X hX => hX.1) Try.underlying23 rfl HIK.out, ?_⟩
      simp only [Act.put, List.setIfInBounds_toArray, List.set_cons_zero, List.set_cons_succ]
      iterate 1
        (refine lasts_any rfl ?_
         apply Exists.intro
         refine ⟨Or.inl ⟨by rfl, fun X _ => ?_⟩, ?_⟩
         · go_simp
           exact rfl
         simp only [Act.put, List.setIfInBounds_toArray, List.set_cons_zero, List.set_cons_succ])
      refine lasts_late ?_
      have BD := Lib.hid (BK.out.old (Below.refl wr.heap.size wr).drew)
      have S1 := Lib.hid (BD.out.stored (a + k) LK.out CJ.out)
      rw [Nat.add_mul] at S1
      have TK : Hid (wr.drew.there g (a * 64 + k * 64) (vIs bj).toArray.size) := Lib.hid (by
        have h := BD.out.there (a + k) LK.out
        rw [Nat.add_mul] at h
        have e : (vIs bj).toArray.size = 64 := by simp [vIs_length, CJ.out.1]
        rw [e]; exact h)
      have HAJ : Hid ((Try.prog.info? 23).map (·.size) = some (vIs bj).toArray.size) := Lib.hid (by have := HIJ.out; simpa using this)
      have HAK : Hid ((Try.prog.info? 23).map (·.size) = some (vIs bk).toArray.size) := Lib.hid (by have := HIK.out; simpa using this)
      refine late_step rfl (fun K hK => ?_)
      rw [if_pos (by rfl)]
      refine wp_store_mid _ _ _ rfl g (a * 64 + k * 64) (vIs bj).toArray rfl rfl TK.out HAJ.out (all_oneCell_toArray (vIs_one _)) ?_
      refine hK.out _ _ ?_
      clear hK K
      obtain ⟨W1, hW1⟩ : ∃ W1, wr.drew.setCells g (a * 64 + k * 64) (vIs bj).toArray.toList = W1 := ⟨_, rfl⟩
      rw [hW1]
      have hW1' : wr.drew.setCells g (a * 64 + k * 64) (vIs bj) = W1 := hW1
      rw [hW1'] at S1
      have S2 := Lib.hid (S1.out.1.stored (a + j) (by rw [List.length_set]; exact LJ.out) CK.out)
      rw [Nat.add_mul] at S2
      have TJ : Hid (W1.there g (a * 64 + j * 64) (vIs bk).toArray.size) := Lib.hid (by
        have h := S1.out.1.there (a + j) (by rw [List.length_set]; exact LJ.out)
        rw [Nat.add_mul] at h
        have e : (vIs bk).toArray.size = 64 := by simp [vIs_length, CK.out.1]
        rw [e]; exact h)
      clear hW1 hW1'
      simp only [Act.put, List.setIfInBounds_toArray, List.set_cons_zero, List.set_cons_succ]
      refine late_step rfl (fun K hK => ?_)
      rw [if_pos (by rfl)]
      go_wp2_with fail
      refine hK.out _ _ ?_
      clear hK K
      try simp only [Act.put, List.setIfInBounds_toArray, List.set_cons_zero, List.set_cons_succ]
      refine late_step rfl (fun K hK => ?_)
      rw [if_pos (by rfl)]
      refine wp_store_mid _ _ _ rfl g (a * 64 + j * 64) (vIs bk).toArray rfl rfl TJ.out HAK.out (all_oneCell_toArray (vIs_one _)) ?_
      refine hK.out _ _ ?_
      clear hK K
      obtain ⟨W2, hW2⟩ : ∃ W2, W1.setCells g (a * 64 + j * 64) (vIs bk).toArray.toList = W2 := ⟨_, rfl⟩
      rw [hW2]
      have hW2' : W1.setCells g (a * 64 + j * 64) (vIs bk) = W2 := hW2
      rw [hW2', ← SS.out] at S2
      have GW : Hid (w.grownBy W2 (some g)) := Lib.hid (grownK_trans (grownK_trans (grownK_trans GR.out (grownK_below (Below.refl wr.heap.size wr).drew _)) S1.out.2) S2.out.2)
      have g1 := G1.out
      have g2 := G2.out
      refine late_done ?_
      clear hW2 hW2' i1 i2 f1 f1'
      go_wp2_with fail
      go_roundw
      case rel => exact ⟨k + 1, by have := KJ.out; omega, by go_num, by rw [← KJ.out.2.2.2]; push_cast; rfl, S2.out.1, GW.out⟩
      case measure => simp [intOf]; have := KJ.out; omega
    · have f1 : decide ((k : Int) < (m : Int) - 1 - (k : Int)) = false := by rw [decide_eq_false_iff_not]; omega
      have RE : Hid (BkO base wr (.slice (some ⟨g, 0, none⟩) n c) (rvSeg bs a m)) := Lib.hid (by rw [← rvTo_end bs a m k (by omega)]; exact BK.out)
      clear hlt
      go_wp2_with fail
      go_end0
      exact ⟨⟨_, rfl⟩, RE.out, GR.out⟩
end Go.Proofs.Ytnhalnjdlkdnkaa

namespace Go.Proofs.Ytnhalnjdlkdnkaa
open Go.RowKit
set_option linter.unusedVariables false
set_option linter.unusedSimpArgs false

/-- J speaks of nothing that lies at B or behind it. -/
def SinceB {β : Type} (B : Nat) (J : β → World → Prop) : Prop := ∀ s X Y, J s X → Below B X Y → J s Y
theorem SinceB.and {β : Type} {B : Nat} {I J : β → World → Prop} (h : SinceB B I) (k : SinceB B J) : SinceB B (fun s W => I s W ∧ J s W) := fun s X Y hs hb => ⟨h s X Y hs.1 hb, k s X Y hs.2 hb⟩
/-- Two worlds that agree but in one block. -/
structure SameBut (l : Nat) (A B : World) : Prop where
  os : B.os = A.os
  tape : B.tape = A.tape
  output : B.output = A.output
  size : B.heap.size = A.heap.size
  block : ∀ k, k ≠ l → B.heap[k]? = A.heap[k]?
theorem SameBut.below {l n : Nat} {A B : World} (h : SameBut l A B) (hn : n ≤ l) : Below n A B := ⟨h.os, h.tape, h.output, by have := h.size; omega, fun k hk => h.block k (by omega)⟩
theorem sameBut_put (W : World) (l : Nat) (o : Obj) : SameBut l W (W.putObj l o) := ⟨rfl, rfl, rfl, by simp [World.putObj], fun k hk => World.putObj_heap_other hk⟩
/-- Of what there was: the blocks of bs, and all from U on, lie as they lay. -/
def KeepU (bs : List Nat) (U : Nat) (A B : World) : Prop := A.heap.size ≤ B.heap.size ∧ ∀ b, b ∈ bs ∨ U ≤ b → b < A.heap.size → B.heap[b]? = A.heap[b]?
theorem KeepU.refl (bs : List Nat) (U : Nat) (A : World) : KeepU bs U A A := ⟨Nat.le_refl _, fun _ _ _ => rfl⟩
theorem KeepU.trans {bs : List Nat} {U : Nat} {A B C : World} (h : KeepU bs U A B) (k : KeepU bs U B C) : KeepU bs U A C := ⟨Nat.le_trans h.1 k.1, fun b hb hl => (k.2 b hb (Nat.lt_of_lt_of_le hl h.1)).trans (h.2 b hb hl)⟩
theorem KeepU.below {bs : List Nat} {U : Nat} {A B : World} (h : Below A.heap.size A B) : KeepU bs U A B := ⟨h.size, fun b _ hl => h.block b hl⟩
/-- the end of a round's body, from the round's world W and the body's V -/
def postB {α : Type} (T : Nat) (bs : List Nat) (I : List α → World → Prop) (Ix : Code → List α → World → Prop) (xs : List α) (W V : World) : Exit → Act → World → Prop
  | .normal, _, V' => KeepsFrom T V V' ∧ KeepU bs (T + 2) W V' ∧ I xs V'
  | .ret, _, V' => KeepsFrom T V V' ∧ KeepU bs (T + 2) W V' ∧ Ix .ret xs V'
  | .exit id, _, V' => KeepsFrom T V V' ∧ KeepU bs (T + 2) W V' ∧ Ix (.exit id) xs V'
  | .goto t, _, V' => KeepsFrom T V V' ∧ KeepU bs (T + 2) W V' ∧ Ix (.goto t) xs V'
  | .panic _, _, _ => False
  | .outgrown, _, _ => False
/-- The iterator's contract: it may write what it has made; it hands the elements of L over, in order, until it is told to stop. -/
def SeqB {α : Type} (n : Nat) (P : Program) (g : Nat) (lb : Array Value) (encs : α → Array Value) (bs : List Nat) (L : List α) (w : World) : Prop :=
  ∀ (l : Nat) (J Jx : List α → World → Prop) (W : World), Below w.heap.size w W → SinceB W.heap.size J → SinceB W.heap.size Jx →
    (∀ pre x W1, W.heap.size ≤ W1.heap.size → J pre W1 → pre ++ [x] <+: L → YieldAt Fence.wide (n - 1) P l (encs x) W1 fun e W' =>
      (e = .returned (.bool true) ∧ J (pre ++ [x]) W' ∧ KeepU bs W.heap.size W1 W') ∨ (e = .returned (.bool false) ∧ Jx (pre ++ [x]) W' ∧ KeepU bs W.heap.size W1 W')) →
    J [] W →
    CallsIn Fence.wide n P g (#[.func (.yield l) #[] #[]] ++ lb) W fun e W' => (∃ v, e = .returned v) ∧ (J L W' ∨ ∃ pre, pre <+: L ∧ Jx pre W')

theorem rangeB {α : Type} {P : Program} {n : Nat} {g : Operand} {ps : Array Tmp} {assign body : Code} {Q : Exit → Act → World → Prop} {a : Act} {w : World}
    (h1 : 1 ≤ n) {gf : Nat} {lb : Array Value} (hg : a.eval g = .func (.func gf) #[] lb) (eg : ∀ args w, (callFunc gf args).run P w = .ok (.enter gf args) w)
    {encs : α → Array Value} {bs : List Nat} {L : List α} {w0 : World} (hseq : SeqB (n - 1) P gf lb encs bs L w0) (hb0 : Below w0.heap.size w0 w) (hps : ∀ x, (encs x).size = ps.size)
    (hbs : ∀ b ∈ bs, b < w.heap.size)
    (I : List α → World → Prop) (Ix : Code → List α → World → Prop) (hI : SinceB w.heap.size I) (hIx : ∀ c, SinceB w.heap.size (Ix c)) (h0 : I [] w)
    (hround : ∀ (l : Nat) (pre : List α) (x : α) (W : World), l = w.heap.size + 1 → l < W.heap.size → I pre W → pre ++ [x] <+: L →
      assign.wpIn (Fence.wide.inRound l) (n - 1 - 1) P (Exit.then (fun a' W1 => KeepsFrom w.heap.size W W1 ∧ ∀ V, SameBut l W1 V →
        body.wpIn (Fence.wide.inRound l) (n - 1 - 1) P (postB w.heap.size bs I Ix (pre ++ [x]) W V) a' V) (fun _ _ _ => False))
        { tmps := (ps.zip (encs x)).foldl (fun t (p, v) => t.setIfInBounds p v) a.tmps, defers := [] } W)
    (hdone : ∀ (D : Nat) (W : World), w.heap.size ≤ D → D < W.heap.size → I L W → W.heap[D]? = some (.deferred (some [])) → Q .normal { a with defers := { target := .collected D, args := #[] } :: a.defers } W)
    (hstop : ∀ (D : Nat) (c : Code) (pre : List α) (W : World), w.heap.size ≤ D → D < W.heap.size → pre <+: L → Ix c pre W → W.heap[D]? = some (.deferred (some [])) → c.wpIn Fence.wide n P Q { a with defers := { target := .collected D, args := #[] } :: a.defers } W) :
    (Code.rangeFunc g ps assign body).wpIn Fence.wide n P Q a w := by
  refine wpIn_rangeFunc fun fn hfn => ?_
  -- the loop's record, in each of its states
  obtain ⟨rec, hrec⟩ : ∃ rec : LoopState → Option Code → Loop, ∀ st pe, rec st pe = { state := st, pending := pe, fn, tmps := a.tmps, params := ps, assign, body, defers := w.heap.size } := ⟨_, fun _ _ => rfl⟩
  obtain ⟨T, hT⟩ : ∃ T, w.heap.size = T := ⟨_, rfl⟩
  obtain ⟨W1, hW1⟩ : ∃ W1, (w.alloc (.deferred (some []))).alloc (.loop (rec .ready none)) = W1 := ⟨_, rfl⟩
  have s1 : W1.heap.size = T + 2 := by rw [← hW1, ← hT]; simp
  have b1 : Below T w W1 := by rw [← hW1, ← hT]; exact ((Below.refl _ _).alloc (Nat.le_refl _) _).alloc (by simp) _
  have r1 : W1.heap[T + 1]? = some (.loop (rec .ready none)) := by rw [← hW1, ← hT]; exact heap_new1 _ _ _
  have m1 : W1.heap[T]? = some (.deferred (some [])) := by rw [← hW1, ← hT]; exact heap_new0 _ _ _
  rw [hT] at hI hIx hbs hround hdone hstop
  -- what the iterator is told
  have hJ : SinceB W1.heap.size (fun (pre : List α) W => I pre W ∧ W.heap[T + 1]? = some (.loop (rec .ready none)) ∧ W.heap[T]? = some (.deferred (some []))) := fun s X Y ⟨i, l, m⟩ hb =>
    ⟨hI s X Y i (hb.mono (by omega)), by rw [hb.block _ (by omega)]; exact l, by rw [hb.block _ (by omega)]; exact m⟩
  have hJx : SinceB W1.heap.size (fun (pre : List α) W => ∃ c, Ix c pre W ∧ W.heap[T + 1]? = some (.loop (rec .done (some c))) ∧ W.heap[T]? = some (.deferred (some []))) := fun s X Y ⟨c, i, l, m⟩ hb =>
    ⟨c, hIx c s X Y i (hb.mono (by omega)), by rw [hb.block _ (by omega)]; exact l, by rw [hb.block _ (by omega)]; exact m⟩
  refine ⟨T + 1, [{ target := .collected T, args := #[] }], W1, { target := .fn (.func gf) lb, args := #[.func (.yield (T + 1)) #[] #[]] }, W1, gf, #[.func (.yield (T + 1)) #[] #[]] ++ lb, W1, ?_, ?_, fun _ _ => trivial, ?_, fun _ => h1, ?_⟩
  · have h := run_enterLoop_outer (P := P) (w := w) fn a.tmps ps assign body
    rw [hT] at h
    rw [← hW1, hrec, hT]
    exact h
  · simp only [resolve, hg]
    simp [go_sem]
  · simp [invoke, go_sem, eg]
  have hcall := hseq (T + 1) _ _ W1 (hb0.trans ((b1.mono (by omega)).mono hb0.size)) hJ hJx ?_ ⟨hI [] w W1 h0 b1, r1, m1⟩
  · refine hcall.mono ?_
    rintro e W2 ⟨⟨v, rfl⟩, (⟨i, l, m⟩ | ⟨pre, hp, c, i, l, m⟩)⟩
    · have e1 := run_endLoop (P := P) l (by rw [hrec]; simp)
      rw [hrec] at e1
      refine ⟨none, _, e1, ?_⟩
      have sb := sameBut_put W2 (T + 1) (.loop { (rec .ready none) with state := .exhausted })
      rw [hrec] at sb
      have m2 := (sb.block T (by omega)).trans m
      exact hdone T _ (Nat.le_refl _) (Array.getElem?_eq_some_iff.1 m2).1 (hI _ _ _ i (sb.below (by omega))) m2
    · have e1 := run_endLoop (P := P) l (by rw [hrec]; simp)
      rw [hrec] at e1
      refine ⟨some c, _, e1, ?_⟩
      have sb := sameBut_put W2 (T + 1) (.loop { (rec .done (some c)) with state := .exhausted })
      rw [hrec] at sb
      have m2 := (sb.block T (by omega)).trans m
      exact hstop T c pre _ (Nat.le_refl _) (Array.getElem?_eq_some_iff.1 m2).1 hp (hIx c _ _ _ i (sb.below (by omega))) m2
  · -- a round
    rintro pre x W hs ⟨i, l, m⟩ hx
    have hy := run_yield (P := P) (args := encs x) l (by rw [hrec]; exact hps x)
    rw [hrec] at hy
    refine ⟨fn, _, assign, body, hy, roundIn_of_wpIn hfn (wpIn_mono (hround (T + 1) pre x W rfl (by omega) i hx) ?_)⟩
    rintro e a' V h
    cases e with
    | normal =>
      obtain ⟨hk, hV⟩ := h
      have l1 := hk.same _ _ (by omega) l rfl
      have m2 := hk.same _ _ (Nat.le_refl _) m rfl
      refine ⟨_, run_beginRound l1 (by rw [hrec]), wpIn_mono (hV _ (sameBut_put _ _ _)) ?_⟩
      have lt1 := (Array.getElem?_eq_some_iff.1 l1).1
      have l2 : (V.putObj (T + 1) (.loop { (rec .ready none) with state := .busy })).heap[T + 1]? = some (.loop { (rec .ready none) with state := .busy }) := World.putObj_heap_same lt1
      have m3 : (V.putObj (T + 1) (.loop { (rec .ready none) with state := .busy })).heap[T]? = some (.deferred (some [])) := (World.putObj_heap_other (by omega)).trans m2
      generalize V.putObj (T + 1) (.loop { (rec .ready none) with state := .busy }) = V2 at l2 m3
      -- the round's end, whatever the way
      have fin : ∀ (jump : Option Code) (W3 : World), KeepsFrom T V2 W3 → ∃ r W4, (Instr.endRound (T + 1) jump).run P W3 = .ok r W4 ∧ r = .bool jump.isNone ∧ SameBut (T + 1) W3 W4 ∧
          W4.heap[T + 1]? = some (.loop (rec (if jump.isNone then .ready else .done) jump)) ∧ W4.heap[T]? = some (.deferred (some [])) := fun jump W3 hk3 => by
        have l3 := hk3.same _ _ (by omega) l2 rfl
        have m4 := hk3.same _ _ (Nat.le_refl _) m3 rfl
        have lt3 := (Array.getElem?_eq_some_iff.1 l3).1
        refine ⟨_, _, run_endRound (P := P) jump l3, rfl, sameBut_put _ _ _, ?_, (World.putObj_heap_other (by omega)).trans m4⟩
        rw [World.putObj_heap_same lt3, hrec, hrec]
      rintro e3 a3 W3 hp
      cases e3 with
      | normal =>
        obtain ⟨k3, kp3, i3⟩ := hp
        obtain ⟨r, W4, hr, rfl, sb, l4, m4⟩ := fin none W3 k3
        exact ⟨_, W4, hr, .inl ⟨rfl, ⟨hI _ _ _ i3 (sb.below (by omega)), l4, m4⟩, by rw [s1]; exact kp3.trans ⟨by have := sb.size; omega, fun k hk _ => sb.block k (hk.elim (fun h => by have := hbs k h; omega) (fun h => by omega))⟩⟩⟩
      | ret =>
        obtain ⟨k3, kp3, i3⟩ := hp
        obtain ⟨r, W4, hr, rfl, sb, l4, m4⟩ := fin (some .ret) W3 k3
        exact ⟨_, W4, hr, .inr ⟨rfl, ⟨.ret, hIx _ _ _ _ i3 (sb.below (by omega)), l4, m4⟩, by rw [s1]; exact kp3.trans ⟨by have := sb.size; omega, fun k hk _ => sb.block k (hk.elim (fun h => by have := hbs k h; omega) (fun h => by omega))⟩⟩⟩
      | exit id =>
        obtain ⟨k3, kp3, i3⟩ := hp
        obtain ⟨r, W4, hr, rfl, sb, l4, m4⟩ := fin (some (.exit id)) W3 k3
        exact ⟨_, W4, hr, .inr ⟨rfl, ⟨.exit id, hIx _ _ _ _ i3 (sb.below (by omega)), l4, m4⟩, by rw [s1]; exact kp3.trans ⟨by have := sb.size; omega, fun k hk _ => sb.block k (hk.elim (fun h => by have := hbs k h; omega) (fun h => by omega))⟩⟩⟩
      | goto t =>
        obtain ⟨k3, kp3, i3⟩ := hp
        obtain ⟨r, W4, hr, rfl, sb, l4, m4⟩ := fin (some (.goto t)) W3 k3
        exact ⟨_, W4, hr, .inr ⟨rfl, ⟨.goto t, hIx _ _ _ _ i3 (sb.below (by omega)), l4, m4⟩, by rw [s1]; exact kp3.trans ⟨by have := sb.size; omega, fun k hk _ => sb.block k (hk.elim (fun h => by have := hbs k h; omega) (fun h => by omega))⟩⟩⟩
      | panic ch => exact hp.elim
      | outgrown => exact hp.elim
    | _ => exact h.elim
end Go.Proofs.Ytnhalnjdlkdnkaa

namespace Go.Proofs.Ytnhalnjdlkdnkaa
open Go.RowKit
set_option linter.unusedVariables false
set_option linter.unusedSimpArgs false

/-- the end of a round's body, from the round's world W and the body's V -/
def postU {α : Type} (T : Nat) (bs : List Nat) (I : List α → World → Prop) (Ix : Code → List α → World → Prop) (xs : List α) (W V : World) : Exit → Act → World → Prop
  | .normal, _, V' => KeepsFrom T V V' ∧ KeepU bs (T + 2) W V' ∧ I xs V'
  | .ret, _, V' => KeepsFrom T V V' ∧ KeepU bs (T + 2) W V' ∧ Ix .ret xs V'
  | .exit id, _, V' => KeepsFrom T V V' ∧ KeepU bs (T + 2) W V' ∧ Ix (.exit id) xs V'
  | .goto t, _, V' => KeepsFrom T V V' ∧ KeepU bs (T + 2) W V' ∧ Ix (.goto t) xs V'
  | .panic _, _, _ => False
  | .outgrown, _, _ => False
/-- The iterator's contract: it may write what it has made; it hands the elements of L over, in order, until it is told to stop. -/
def SeqU {α : Type} (n : Nat) (P : Program) (g : Nat) (lb : Array Value) (encs : α → Array Value) (bs : List Nat) (Ok : List α → α → World → Prop) (Fin : List α → Prop) (w : World) : Prop :=
  ∀ (l : Nat) (J Jx : List α → World → Prop) (W : World), Below w.heap.size w W → SinceB W.heap.size J → SinceB W.heap.size Jx →
    (∀ pre x W1, W.heap.size ≤ W1.heap.size → J pre W1 → Ok pre x W1 → YieldAt Fence.wide (n - 1) P l (encs x) W1 fun e W' =>
      (e = .returned (.bool true) ∧ J (pre ++ [x]) W' ∧ KeepU bs W.heap.size W1 W') ∨ (e = .returned (.bool false) ∧ Jx (pre ++ [x]) W' ∧ KeepU bs W.heap.size W1 W')) →
    J [] W →
    CallsIn Fence.wide n P g (#[.func (.yield l) #[] #[]] ++ lb) W fun e W' => (∃ v, e = .returned v) ∧ ((∃ pre, Fin pre ∧ J pre W') ∨ ∃ pre, Jx pre W')

theorem rangeU {α : Type} {P : Program} {n : Nat} {g : Operand} {ps : Array Tmp} {assign body : Code} {Q : Exit → Act → World → Prop} {a : Act} {w : World}
    (h1 : 1 ≤ n) {gf : Nat} {lb : Array Value} (hg : a.eval g = .func (.func gf) #[] lb) (eg : ∀ args w, (callFunc gf args).run P w = .ok (.enter gf args) w)
    {encs : α → Array Value} {bs : List Nat} {Ok : List α → α → World → Prop} {Fin : List α → Prop} {w0 : World} (hseq : SeqU (n - 1) P gf lb encs bs Ok Fin w0) (hb0 : Below w0.heap.size w0 w) (hps : ∀ x, (encs x).size = ps.size)
    (hbs : ∀ b ∈ bs, b < w.heap.size)
    (I : List α → World → Prop) (Ix : Code → List α → World → Prop) (hI : SinceB w.heap.size I) (hIx : ∀ c, SinceB w.heap.size (Ix c)) (h0 : I [] w)
    (hround : ∀ (l : Nat) (pre : List α) (x : α) (W : World), l = w.heap.size + 1 → l < W.heap.size → (∃ r, W.heap[l]? = some (.loop r)) → I pre W → Ok pre x W →
      assign.wpIn (Fence.wide.inRound l) (n - 1 - 1) P (Exit.then (fun a' W1 => KeepsFrom w.heap.size W W1 ∧ ∀ V, SameBut l W1 V →
        body.wpIn (Fence.wide.inRound l) (n - 1 - 1) P (postU w.heap.size bs I Ix (pre ++ [x]) W V) a' V) (fun _ _ _ => False))
        { tmps := (ps.zip (encs x)).foldl (fun t (p, v) => t.setIfInBounds p v) a.tmps, defers := [] } W)
    (hdone : ∀ (D : Nat) (pre : List α) (W : World), w.heap.size ≤ D → D < W.heap.size → Fin pre → I pre W → W.heap[D]? = some (.deferred (some [])) → Q .normal { a with defers := { target := .collected D, args := #[] } :: a.defers } W)
    (hstop : ∀ (D : Nat) (c : Code) (pre : List α) (W : World), w.heap.size ≤ D → D < W.heap.size → Ix c pre W → W.heap[D]? = some (.deferred (some [])) → c.wpIn Fence.wide n P Q { a with defers := { target := .collected D, args := #[] } :: a.defers } W) :
    (Code.rangeFunc g ps assign body).wpIn Fence.wide n P Q a w := by
  refine wpIn_rangeFunc fun fn hfn => ?_
  -- the loop's record, in each of its states
  obtain ⟨rec, hrec⟩ : ∃ rec : LoopState → Option Code → Loop, ∀ st pe, rec st pe = { state := st, pending := pe, fn, tmps := a.tmps, params := ps, assign, body, defers := w.heap.size } := ⟨_, fun _ _ => rfl⟩
  obtain ⟨T, hT⟩ : ∃ T, w.heap.size = T := ⟨_, rfl⟩
  obtain ⟨W1, hW1⟩ : ∃ W1, (w.alloc (.deferred (some []))).alloc (.loop (rec .ready none)) = W1 := ⟨_, rfl⟩
  have s1 : W1.heap.size = T + 2 := by rw [← hW1, ← hT]; simp
  have b1 : Below T w W1 := by rw [← hW1, ← hT]; exact ((Below.refl _ _).alloc (Nat.le_refl _) _).alloc (by simp) _
  have r1 : W1.heap[T + 1]? = some (.loop (rec .ready none)) := by rw [← hW1, ← hT]; exact heap_new1 _ _ _
  have m1 : W1.heap[T]? = some (.deferred (some [])) := by rw [← hW1, ← hT]; exact heap_new0 _ _ _
  rw [hT] at hI hIx hbs hround hdone hstop
  -- what the iterator is told
  have hJ : SinceB W1.heap.size (fun (pre : List α) W => I pre W ∧ W.heap[T + 1]? = some (.loop (rec .ready none)) ∧ W.heap[T]? = some (.deferred (some []))) := fun s X Y ⟨i, l, m⟩ hb =>
    ⟨hI s X Y i (hb.mono (by omega)), by rw [hb.block _ (by omega)]; exact l, by rw [hb.block _ (by omega)]; exact m⟩
  have hJx : SinceB W1.heap.size (fun (pre : List α) W => ∃ c, Ix c pre W ∧ W.heap[T + 1]? = some (.loop (rec .done (some c))) ∧ W.heap[T]? = some (.deferred (some []))) := fun s X Y ⟨c, i, l, m⟩ hb =>
    ⟨c, hIx c s X Y i (hb.mono (by omega)), by rw [hb.block _ (by omega)]; exact l, by rw [hb.block _ (by omega)]; exact m⟩
  refine ⟨T + 1, [{ target := .collected T, args := #[] }], W1, { target := .fn (.func gf) lb, args := #[.func (.yield (T + 1)) #[] #[]] }, W1, gf, #[.func (.yield (T + 1)) #[] #[]] ++ lb, W1, ?_, ?_, fun _ _ => trivial, ?_, fun _ => h1, ?_⟩
  · have h := run_enterLoop_outer (P := P) (w := w) fn a.tmps ps assign body
    rw [hT] at h
    rw [← hW1, hrec, hT]
    exact h
  · simp only [resolve, hg]
    simp [go_sem]
  · simp [invoke, go_sem, eg]
  have hcall := hseq (T + 1) _ _ W1 (hb0.trans ((b1.mono (by omega)).mono hb0.size)) hJ hJx ?_ ⟨hI [] w W1 h0 b1, r1, m1⟩
  · refine hcall.mono ?_
    rintro e W2 ⟨⟨v, rfl⟩, (⟨pre, hp, i, l, m⟩ | ⟨pre, c, i, l, m⟩)⟩
    · have e1 := run_endLoop (P := P) l (by rw [hrec]; simp)
      rw [hrec] at e1
      refine ⟨none, _, e1, ?_⟩
      have sb := sameBut_put W2 (T + 1) (.loop { (rec .ready none) with state := .exhausted })
      rw [hrec] at sb
      have m2 := (sb.block T (by omega)).trans m
      exact hdone T pre _ (Nat.le_refl _) (Array.getElem?_eq_some_iff.1 m2).1 hp (hI _ _ _ i (sb.below (by omega))) m2
    · have e1 := run_endLoop (P := P) l (by rw [hrec]; simp)
      rw [hrec] at e1
      refine ⟨some c, _, e1, ?_⟩
      have sb := sameBut_put W2 (T + 1) (.loop { (rec .done (some c)) with state := .exhausted })
      rw [hrec] at sb
      have m2 := (sb.block T (by omega)).trans m
      exact hstop T c pre _ (Nat.le_refl _) (Array.getElem?_eq_some_iff.1 m2).1 (hIx c _ _ _ i (sb.below (by omega))) m2
  · -- a round
    rintro pre x W hs ⟨i, l, m⟩ hx
    have hy := run_yield (P := P) (args := encs x) l (by rw [hrec]; exact hps x)
    rw [hrec] at hy
    refine ⟨fn, _, assign, body, hy, roundIn_of_wpIn hfn (wpIn_mono (hround (T + 1) pre x W rfl (by omega) ⟨_, l⟩ i hx) ?_)⟩
    rintro e a' V h
    cases e with
    | normal =>
      obtain ⟨hk, hV⟩ := h
      have l1 := hk.same _ _ (by omega) l rfl
      have m2 := hk.same _ _ (Nat.le_refl _) m rfl
      refine ⟨_, run_beginRound l1 (by rw [hrec]), wpIn_mono (hV _ (sameBut_put _ _ _)) ?_⟩
      have lt1 := (Array.getElem?_eq_some_iff.1 l1).1
      have l2 : (V.putObj (T + 1) (.loop { (rec .ready none) with state := .busy })).heap[T + 1]? = some (.loop { (rec .ready none) with state := .busy }) := World.putObj_heap_same lt1
      have m3 : (V.putObj (T + 1) (.loop { (rec .ready none) with state := .busy })).heap[T]? = some (.deferred (some [])) := (World.putObj_heap_other (by omega)).trans m2
      generalize V.putObj (T + 1) (.loop { (rec .ready none) with state := .busy }) = V2 at l2 m3
      -- the round's end, whatever the way
      have fin : ∀ (jump : Option Code) (W3 : World), KeepsFrom T V2 W3 → ∃ r W4, (Instr.endRound (T + 1) jump).run P W3 = .ok r W4 ∧ r = .bool jump.isNone ∧ SameBut (T + 1) W3 W4 ∧
          W4.heap[T + 1]? = some (.loop (rec (if jump.isNone then .ready else .done) jump)) ∧ W4.heap[T]? = some (.deferred (some [])) := fun jump W3 hk3 => by
        have l3 := hk3.same _ _ (by omega) l2 rfl
        have m4 := hk3.same _ _ (Nat.le_refl _) m3 rfl
        have lt3 := (Array.getElem?_eq_some_iff.1 l3).1
        refine ⟨_, _, run_endRound (P := P) jump l3, rfl, sameBut_put _ _ _, ?_, (World.putObj_heap_other (by omega)).trans m4⟩
        rw [World.putObj_heap_same lt3, hrec, hrec]
      rintro e3 a3 W3 hp
      cases e3 with
      | normal =>
        obtain ⟨k3, kp3, i3⟩ := hp
        obtain ⟨r, W4, hr, rfl, sb, l4, m4⟩ := fin none W3 k3
        exact ⟨_, W4, hr, .inl ⟨rfl, ⟨hI _ _ _ i3 (sb.below (by omega)), l4, m4⟩, by rw [s1]; exact kp3.trans ⟨by have := sb.size; omega, fun k hk _ => sb.block k (hk.elim (fun h => by have := hbs k h; omega) (fun h => by omega))⟩⟩⟩
      | ret =>
        obtain ⟨k3, kp3, i3⟩ := hp
        obtain ⟨r, W4, hr, rfl, sb, l4, m4⟩ := fin (some .ret) W3 k3
        exact ⟨_, W4, hr, .inr ⟨rfl, ⟨.ret, hIx _ _ _ _ i3 (sb.below (by omega)), l4, m4⟩, by rw [s1]; exact kp3.trans ⟨by have := sb.size; omega, fun k hk _ => sb.block k (hk.elim (fun h => by have := hbs k h; omega) (fun h => by omega))⟩⟩⟩
      | exit id =>
        obtain ⟨k3, kp3, i3⟩ := hp
        obtain ⟨r, W4, hr, rfl, sb, l4, m4⟩ := fin (some (.exit id)) W3 k3
        exact ⟨_, W4, hr, .inr ⟨rfl, ⟨.exit id, hIx _ _ _ _ i3 (sb.below (by omega)), l4, m4⟩, by rw [s1]; exact kp3.trans ⟨by have := sb.size; omega, fun k hk _ => sb.block k (hk.elim (fun h => by have := hbs k h; omega) (fun h => by omega))⟩⟩⟩
      | goto t =>
        obtain ⟨k3, kp3, i3⟩ := hp
        obtain ⟨r, W4, hr, rfl, sb, l4, m4⟩ := fin (some (.goto t)) W3 k3
        exact ⟨_, W4, hr, .inr ⟨rfl, ⟨.goto t, hIx _ _ _ _ i3 (sb.below (by omega)), l4, m4⟩, by rw [s1]; exact kp3.trans ⟨by have := sb.size; omega, fun k hk _ => sb.block k (hk.elim (fun h => by have := hbs k h; omega) (fun h => by omega))⟩⟩⟩
      | panic ch => exact hp.elim
      | outgrown => exact hp.elim
    | _ => exact h.elim
end Go.Proofs.Ytnhalnjdlkdnkaa

namespace Go.Proofs.Ytnhalnjdlkdnkaa
open Go.RowKit Go.BigFrame
set_option linter.unusedVariables false
set_option linter.unusedSimpArgs false
attribute [local go_sem] Oper.semAt_some

theorem chunkK_any (a : Option Addr) (n c N : Nat) (w : World) (hN : 1 ≤ N) : Calls Try.prog 66 #[.slice a n c, .int .i64 (N : Nat)] w fun e w' =>
    e = .returned (.func (.func 82) #[] #[.pointer (some ⟨w.heap.size, 0, none⟩), .pointer (some ⟨w.heap.size + 1, 0, none⟩)]) ∧
    w' = (w.alloc (.cells #[.slice a n c] 68)).alloc (.cells #[.int .i64 (N : Nat)] 3) := by
  have d : decide ((N : Int) < 1) = false := by rw [decide_eq_false_iff_not]; omega
  have d' : decide (N < 1) = false := by rw [decide_eq_false_iff_not]; omega
  clear hN
  go_enter Try.func66, Try.ntmps66
  go_wp2
  go_ret
  exact ⟨rfl, rfl⟩
/-- what is handed over: parts of the row, by their places -/
def OkCh (b o N m : Nat) (pre : List Value) (x : Value) (W : World) : Prop := pre.length < m ∧ x = .slice (some ⟨b, o + pre.length * N * 64, none⟩) N N
def FinCh (m : Nat) (pre : List Value) : Prop := pre.length = m
set_option maxRecDepth 20000 in
set_option maxHeartbeats 8000000 in
theorem chunkK_seq (n b1 b2 : Nat) (bs : List Nat) (b o N m c : Nat) (w : World) (hN : 1 ≤ N) (hsz : m * N ≤ 140737488351232) (hNs : N ≤ 140737488351232) (h1 : Boxed w b1 68 (.slice (some ⟨b, o, none⟩) (m * N) c)) (h2 : Boxed w b2 3 (.int .i64 (N : Nat))) (hb1 : b1 ∈ bs) (hb2 : b2 ∈ bs) (hc : m * N ≤ c) :
    SeqU n Try.prog 82 #[.pointer (some ⟨b1, 0, none⟩), .pointer (some ⟨b2, 0, none⟩)] (fun x => #[x]) bs (OkCh b o N m) (FinCh m) w := fun ll J Jx V hV hJ hJx hY h0 => by
  have YY := Lib.hid hY
  have HJ := Lib.hid hJ
  have X1 : Hid (Boxed V b1 68 (.slice (some ⟨b, o, none⟩) (m * N) c)) := Lib.hid (boxed_below h1 hV)
  have X2 : Hid (Boxed V b2 3 (.int .i64 (N : Nat))) := Lib.hid (boxed_below h2 hV)
  have J0 := Lib.hid h0
  obtain ⟨T, hT⟩ : ∃ T, m * N = T := ⟨_, rfl⟩
  rw [hT] at X1 hsz hc
  have HT := Lib.hid hT
  have HB := Lib.hid (show b1 ∈ bs ∧ b2 ∈ bs from ⟨hb1, hb2⟩)
  have BD := Lib.hid (show T ≤ c ∧ T ≤ 140737488351232 ∧ 1 ≤ N ∧ N ≤ 140737488351232 from ⟨hc, hsz, hN, hNs⟩)
  clear hY hJ hJx h0 h1 h2 hT hV hb1 hb2 hc hsz hN hNs
  refine callsIn_wide.2 ?_
  show Calls Try.prog 82 #[.func (.yield ll) #[] #[], .pointer (some ⟨b1, 0, none⟩), .pointer (some ⟨b2, 0, none⟩)] V _
  go_enter Try.func82, Try.ntmps82
  go_wp2_with fail
  go_loopw [4] (fun i W => ∃ (k : Nat) (pre : List Value), i = .int .i64 ((k * N : Nat) : Int) ∧ k ≤ m ∧ pre.length = k ∧ J pre W ∧ V.heap.size ≤ W.heap.size ∧ Boxed W b1 68 (.slice (some ⟨b, o, none⟩) T c) ∧ Boxed W b2 3 (.int .i64 (N : Nat))) (fun i _ => m * N + N - (intOf i).toNat)
  case atStart => exact ⟨0, [], by simp, Nat.zero_le _, rfl, J0.out, Nat.le_refl _, X1.out, X2.out⟩
  case round =>
    clear X1 X2 J0
    obtain ⟨k, pre, rfl, hk, hpre, hjj, hus, hx1, hx2⟩ := hrel
    obtain ⟨i, hi⟩ : ∃ i, k * N = i := ⟨_, rfl⟩
    have HI := Lib.hid hi
    have JJ := Lib.hid hjj
    have PRE := Lib.hid hpre
    have US := Lib.hid hus
    have X1 := Lib.hid hx1
    have X2 := Lib.hid hx2
    have c1 := hx1.cell
    have c2 := hx2.cell
    rw [hi]
    clear hjj hpre hus hx1 hx2 hi
    by_cases hkm : k < m
    · have bd := BD.out
      have hiN : i + N ≤ T := by
        rw [← HI.out, ← HT.out, ← Nat.succ_mul]
        exact Nat.mul_le_mul_right _ hkm
      have e1 : decide ((i : Int) < (T : Int)) = true := by rw [decide_eq_true_eq]; omega
      have e1' : decide (i < T) = true := by rw [decide_eq_true_eq]; omega
      have MN : Hid (¬ (T - i < N)) := Lib.hid (by omega)
      obtain ⟨e, he⟩ : ∃ e : Nat, i + N = e := ⟨_, rfl⟩
      have HE := Lib.hid he
      have G1 : Hid (IntKind.i64.wrap ((i : Int) + (N : Int)) = (e : Int)) := Lib.hid (by rw [IntWalk.i64_in _ (by omega)]; omega)
      have i1 : (i : Int) ≤ (T : Int) := by omega
      have i2 : (T : Int) ≤ (c : Int) := by omega
      have i3 : ¬ c = i := by omega
      have HIN := Lib.hid hiN
      clear hiN he bd
      have US3 := US.out
      go_upto_region 3 with (fail)
      refine wp_region_q (fun Y => Y.cell? ⟨b1, 0, none⟩ = some (.slice (some ⟨b, o, none⟩) T c) ∧ Y.cell? ⟨b2, 0, none⟩ = some (.int .i64 (N : Nat)) ∧ Below wr.heap.size wr Y) (by kernel_rfl) (by kernel_rfl) ⟨cell_old (Below.refl _ _).drew c1, cell_old (Below.refl _ _).drew c2, (Below.refl _ _).drew⟩ ?_
      clear c1 c2
      repeat
        first
        | go_big_quiet_skip
        | (go_big_quiet_want
           first
           | (go_big_quiet_op; go_big_quiet_on; try rw [if_neg MN.out])
           | (apply Exists.intro
              refine ⟨fun X hX => ?_, ?_⟩
              · obtain ⟨q1, q2, eZ⟩ := hX
                clear eZ
                unfold Oper.quietAt
                go_simp
                first
                | exact ⟨rfl, rfl⟩
                | exact rfl
              go_big_quiet_on
              try simp only [Act.put, List.setIfInBounds_toArray, List.set_cons_zero, List.set_cons_succ]; try rw [if_neg MN.out]))
      refine wpQuiet_nil ?_
      rintro Y ⟨c1, c2, hbY⟩
      have EN : Hid (e - i = N) := Lib.hid (by have := HE.out; omega)
      obtain ⟨f1, t1, as1, y1, hy1, hR1⟩ := YY.out pre (.slice (some ⟨b, o + i * 64, none⟩) (e - i) (e - i)) Y (Nat.le_trans US.out hbY.size) (HJ.out _ _ _ JJ.out (hbY.mono US.out)) ⟨by rw [PRE.out]; exact hkm, by rw [PRE.out, HI.out, EN.out]⟩
      have RR := Lib.hid hR1
      have BY := Lib.hid hbY
      have HKM := Lib.hid hkm
      have g1 := G1.out
      have i4 : (i : Int) ≤ (e : Int) := by have := HE.out; omega
      have i5 : (e : Int) ≤ (c : Int) := by have := HE.out; have := BD.out; have := MN.out; omega
      have i6 : ¬ e = i := by have := HE.out; have := BD.out; omega
      clear hR1 hbY hkm US3 i1 i2 i3 e1 e1'
      go_upto_region 4 with (fail)
      refine (wpIn_wide (n := n - 1 + 1)).1 ?_
      gi_wp2_with fail
      refine RR.out.mono ?_
      rintro z W5 (⟨rfl, hj5, hk5⟩ | ⟨rfl, hj5, hk5⟩)
      · have J5 := Lib.hid hj5
        have K5 := Lib.hid hk5
        have Z1 : Hid (Boxed W5 b1 68 (.slice (some ⟨b, o, none⟩) T c)) := Lib.hid (by
          have h := boxed_below X1.out BY.out
          exact (hk5.2 b1 (.inl HB.out.1) h.lt).trans h)
        have Z2 : Hid (Boxed W5 b2 3 (.int .i64 (N : Nat))) := Lib.hid (by
          have h := boxed_below X2.out BY.out
          exact (hk5.2 b2 (.inl HB.out.2) h.lt).trans h)
        have z2 := Z2.out.cell
        have SZ : Hid (V.heap.size ≤ W5.heap.size) := Lib.hid (Nat.le_trans US.out (Nat.le_trans BY.out.size hk5.1))
        clear hj5 hk5 hy1 c1 c2 i4 i5 i6
        gi_wp2_with fail
        go_wp2_with fail
        go_roundw
        case rel => exact ⟨k + 1, pre ++ [_], by rw [← HE.out, ← HI.out, Nat.succ_mul], HKM.out, by rw [List.length_append, PRE.out]; rfl, J5.out, SZ.out, Z1.out, Z2.out⟩
        case measure =>
          have := HE.out
          have := HI.out
          have := HT.out
          have := BD.out
          have h2 : (k + 1) * N ≤ m * N := Nat.mul_le_mul_right _ HKM.out
          rw [Nat.succ_mul] at h2
          simp [intOf]
          omega
      · have J5 := Lib.hid hj5
        clear hj5 hk5 hy1 c1 c2 i4 i5 i6
        gi_wp2_with fail
        go_wp2_with fail
        refine bodyPost_ret (results_none rfl _ _ _) rfl ?_
        exact ⟨⟨_, rfl⟩, .inr ⟨_, J5.out⟩⟩
    · obtain rfl : k = m := by omega
      have hiT : i = T := by rw [← HI.out, HT.out]
      subst hiT
      have e1 : decide ((i : Int) < (i : Int)) = false := by rw [decide_eq_false_iff_not]; omega
      clear hkm
      go_wp2_with fail
      go_end0
      exact ⟨⟨_, rfl⟩, .inl ⟨pre, PRE.out, JJ.out⟩⟩
end Go.Proofs.Ytnhalnjdlkdnkaa

namespace Go.Proofs.Ytnhalnjdlkdnkaa
open Go.RowKit Go.BigFrame
set_option linter.unusedVariables false
set_option linter.unusedSimpArgs false
set_option maxRecDepth 20000

def flTo (wd : Nat) (bs : List (List Int)) (r : Nat) : List (List Int) := (List.range bs.length).map fun j => if j < r * wd then bs.getD (flSrc wd j) [] else bs.getD j []
theorem flTo_len (wd : Nat) (bs : List (List Int)) (r : Nat) : (flTo wd bs r).length = bs.length := by simp [flTo]
theorem flTo_zero (wd : Nat) (bs : List (List Int)) : flTo wd bs 0 = bs := by
  apply List.ext_getElem (by simp [flTo])
  intro j h1 h2
  simp only [flTo, List.getElem_map, List.getElem_range]
  rw [if_neg (by omega), getD_of h2]
theorem flTo_full (wd hi : Nat) (bs : List (List Int)) (h : bs.length = hi * wd) : flTo wd bs hi = flR wd bs := by
  unfold flTo flR
  refine List.map_congr_left fun j hj => ?_
  rw [List.mem_range, h] at hj
  rw [if_pos hj]
theorem row_of {r wd j : Nat} (h1 : r * wd ≤ j) (h2 : j < r * wd + wd) : j / wd = r ∧ j % wd = j - r * wd := by
  have hw : 0 < wd := by omega
  obtain ⟨e1, e2⟩ := mod_at (a := r) (b := wd) (c := j - r * wd) (by omega)
  rw [show r * wd + (j - r * wd) = j by omega] at e1 e2
  exact ⟨e2, e1⟩
theorem flTo_succ (wd hi : Nat) (bs : List (List Int)) (h : bs.length = hi * wd) (r : Nat) (hr : r < hi) : rvSeg (flTo wd bs r) (r * wd) wd = flTo wd bs (r + 1) := by
  have hle : r * wd + wd ≤ bs.length := by
    rw [h, ← Nat.succ_mul]
    exact Nat.mul_le_mul_right _ hr
  apply List.ext_getElem (by simp [flTo, rvSeg])
  intro j h1 h2
  have hj : j < bs.length := by rw [flTo_len] at h2; exact h2
  simp only [rvSeg, List.getElem_map, List.getElem_range]
  by_cases c : r * wd ≤ j ∧ j < r * wd + wd
  · rw [if_pos c]
    obtain ⟨e1, e2⟩ := row_of c.1 c.2
    have hi2 : r * wd + (wd - 1 - (j - r * wd)) < (flTo wd bs r).length := by rw [flTo_len]; omega
    rw [getD_of hi2]
    simp only [flTo, List.getElem_map, List.getElem_range]
    rw [if_neg (by omega), if_pos (by rw [Nat.succ_mul]; omega)]
    unfold flSrc
    rw [e1, e2]
  · rw [if_neg c, getD_of (by rw [flTo_len]; exact hj)]
    simp only [flTo, List.getElem_map, List.getElem_range]
    by_cases c2 : j < r * wd
    · rw [if_pos c2, if_pos (by rw [Nat.succ_mul]; omega)]
    · rw [if_neg c2, if_neg (by rw [Nat.succ_mul]; omega)]
/-- what stays while blocks are turned where they lie -/
structure FlI (base : Nat) (w : World) (B : Nat) (P : PicL) (q0 q1 q2 q3 pv kv : Value) (ss : List ((Int × List UInt8) × Value)) (W : World) : Prop where
  n0 : NO base W q0 P.q0
  n1 : NO base W q1 P.q1
  n2 : NO base W q2 P.q2
  n3 : NO base W q3 P.q3
  box : PBox W B P q0 q1 q2 q3 pv kv
  z : ZBox W (B + 1)
  sg : SgO base W kv ss
  l : Below base w W
  kp : KeepN w W
theorem FlI.lt {base : Nat} {w : World} {B : Nat} {P : PicL} {q0 q1 q2 q3 pv kv : Value} {ss : List ((Int × List UInt8) × Value)} {W : World} (h : FlI base w B P q0 q1 q2 q3 pv kv ss W) : B + 1 < W.heap.size := (Array.getElem?_eq_some_iff.1 h.z).1
theorem FlI.old {base : Nat} {w : World} {B : Nat} {P : PicL} {q0 q1 q2 q3 pv kv : Value} {ss : List ((Int × List UInt8) × Value)} {W W' : World} (h : FlI base w B P q0 q1 q2 q3 pv kv ss W) (hb : Below W.heap.size W W') (hB : base ≤ B) : FlI base w B P q0 q1 q2 q3 pv kv ss W' :=
  ⟨owns_below h.n0 hb, owns_below h.n1 hb, owns_below h.n2 hb, owns_below h.n3 hb, h.box.old hb, h.z.old hb, h.sg.hi (keepHi_below hb), h.l.trans (hb.mono (by have := h.lt; omega)), h.kp.old hb⟩
theorem FlI.ty {base : Nat} {w : World} {B : Nat} {P : PicL} {q0 q1 q2 q3 pv kv : Value} {ss : List ((Int × List UInt8) × Value)} {W W' : World} (h : FlI base w B P q0 q1 q2 q3 pv kv ss W) {t : TypeId} (k : KeepTy t W W') (hl : Below base W W') (h0 : 3 ≠ t) (h1 : 36 ≠ t) (h2 : 73 ≠ t) (h3 : 5 ≠ t ∧ (t = 70 ∨ t = 23 ∨ t = 68)) : FlI base w B P q0 q1 q2 q3 pv kv ss W' :=
  ⟨owns_ty h.n0 k h0, owns_ty h.n1 k h0, owns_ty h.n2 k h0, owns_ty h.n3 k h0, k _ _ _ _ h1 h.box, k _ _ _ _ h1 h.z, h.sg.ty k h2 h3.1, h.l.trans hl, h.kp.ty k h3.2⟩
/-- a world that keeps all blocks below L, where what is said lies -/
theorem FlI.low {base : Nat} {w : World} {B : Nat} {P : PicL} {q0 q1 q2 q3 pv kv : Value} {ss : List ((Int × List UInt8) × Value)} {W W' : World} (h : FlI base w B P q0 q1 q2 q3 pv kv ss W) (L : Nat) (hb : Below L W W') (hL : B + 1 < L) (hB : base ≤ B) (hw : w.heap.size ≤ L)
    (hq : ∀ v ∈ [q0, q1, q2, q3, kv], ∀ b, v.ownBlock = some b → b < L) (hs : ∀ p ∈ ss, ∀ b, p.2.ownBlock = some b → b < L) : FlI base w B P q0 q1 q2 q3 pv kv ss W' := by
  have key : ∀ {e : TypeId} {size : Nat} {v : Value} {n : Nat} {xs : List Value}, W.ownsRow base e size v n xs → (∀ b, v.ownBlock = some b → b < L) → W'.ownsRow base e size v n xs := fun hr hv => by
    refine ⟨hr.1, ?_⟩
    rcases hr.2 with h | ⟨g, cap, cur, rfl, hg, hc, hx⟩
    · exact .inl h
    · exact .inr ⟨g, cap, cur, rfl, hg, by rw [hb.block g (hv g rfl)]; exact hc, hx⟩
  refine ⟨key h.n0 (hq _ (by simp)), key h.n1 (hq _ (by simp)), key h.n2 (hq _ (by simp)), key h.n3 (hq _ (by simp)), ?_, ?_, ⟨key h.sg.row (hq _ (by simp)), h.sg.ok, fun p hp => key (h.sg.dt p hp) (hs p hp)⟩, h.l.trans (hb.mono (by omega)), h.kp.low hb hw⟩
  · unfold PBox; rw [hb.block B (by omega)]; exact h.box
  · unfold ZBox; rw [hb.block (B + 1) hL]; exact h.z
theorem PtO.low {base : Nat} {W W' : World} {v : Value} {rs : List (PartL × Value)} (h : PtO base W v rs) (L : Nat) (hb : Below L W W') (hv : ∀ b, v.ownBlock = some b → b < L) (hr : ∀ p ∈ rs, ∀ b, p.2.ownBlock = some b → b < L) : PtO base W' v rs := by
  have key : ∀ {e : TypeId} {size : Nat} {v : Value} {n : Nat} {xs : List Value}, W.ownsRow base e size v n xs → (∀ b, v.ownBlock = some b → b < L) → W'.ownsRow base e size v n xs := fun hr hv => by
    refine ⟨hr.1, ?_⟩
    rcases hr.2 with h | ⟨g, cap, cur, rfl, hg, hc, hx⟩
    · exact .inl h
    · exact .inr ⟨g, cap, cur, rfl, hg, by rw [hb.block g (hv g rfl)]; exact hc, hx⟩
  exact ⟨key h.row hv, h.ok, fun p hp => ⟨key (h.bk p hp).row (hr p hp), (h.bk p hp).all⟩, h.sep⟩
/-- the marks of the loops that are over -/
def Marks (lo : Nat) (w : World) : List Deferred → Nat → Prop
  | [], _ => True
  | d :: ds, hi => ∃ D, d = { target := .collected D, args := #[] } ∧ lo ≤ D ∧ D < hi ∧ w.heap[D]? = some (.deferred (some [])) ∧ Marks lo w ds D
theorem Marks.mono {lo : Nat} {w : World} {ds : List Deferred} {hi hi' : Nat} (h : Marks lo w ds hi) (hle : hi ≤ hi') : Marks lo w ds hi' := by
  cases ds with
  | nil => trivial
  | cons d ds => obtain ⟨D, h1, h2, h3, h4, h5⟩ := h; exact ⟨D, h1, h2, by omega, h4, h5⟩
theorem Marks.same {lo : Nat} {w w' : World} : ∀ {ds : List Deferred} {hi : Nat}, Marks lo w ds hi → (∀ k, lo ≤ k → k < hi → w'.heap[k]? = w.heap[k]?) → Marks lo w' ds hi
  | [], _, _, _ => trivial
  | d :: ds, hi, ⟨D, h1, h2, h3, h4, h5⟩, hs => ⟨D, h1, h2, h3, (hs D h2 h3).trans h4, h5.same (fun k a b => hs k a (by omega))⟩
theorem marks_leave {F : Fence} {n : Nat} {P : Program} {fn : Func} {tmps : Array Value} {R : Ending → World → Prop} {lo : Nat} : ∀ (ds : List Deferred) (hi : Nat) (w : World), Marks lo w ds hi → (∀ w', Below lo w w' → (∀ k, hi ≤ k → w'.heap[k]? = w.heap[k]?) → LeavesIn F n P fn tmps R [] .returning w') → LeavesInM F n P fn tmps R ds .returning w
  | [], hi, w, _, h => h w (Below.refl _ _) (fun _ _ => rfl)
  | d :: ds, hi, w, ⟨D, h1, h2, h3, h4, h5⟩, h => by
    refine ⟨by simp, .inl ⟨D, _, by rw [h1], run_takeDeferred h4, ?_⟩⟩
    have hb : Below lo w (w.putObj D (.deferred none)) := (sameBut_put _ _ _).below h2
    exact marks_leave ds D _ (h5.same (fun k _ hk => World.putObj_heap_other (by omega))) (fun w' hw hs => h w' (hb.trans hw) (fun k hk => (hs k (by omega)).trans (World.putObj_heap_other (by omega))))
end Go.Proofs.Ytnhalnjdlkdnkaa
