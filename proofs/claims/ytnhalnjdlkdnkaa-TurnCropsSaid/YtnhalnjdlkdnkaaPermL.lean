/- A region that draws its order and whose last operation is a store that spoils the condition C: all others are held under C, the last one is not. By an AI agent; over the kit's theory of orders. -/
import Derived.Test.YtnhalnjdlkdnkaaPerm
namespace Go.Proofs.Ytnhalnjdlkdnkaa
open Go.RowKit
set_option linter.unusedVariables false
set_option linter.unusedSimpArgs false

section
variable {P : Program} {ops : Array Oper} {md : Region.Mode} {C : World → Prop} {Q : Exit → Act → World → Prop}

/-- what has come up had all before it that binds it -/
def ShutL (md : Region.Mode) (ops : Array Oper) (listed : Array Bool) : Prop := ∀ (j : Nat) (o : Oper), ops[j]? = some o → listed.getD j false = true → ∀ e ∈ o.after, Region.binds md e = true → listed.getD e.on false = true
theorem shutL_none (n : Nat) : ShutL md ops (Array.replicate n false) := fun j o _ h => by
  by_cases hj : j < n
  · simp [hj] at h
  · simp [hj] at h
theorem ShutL.put {listed : Array Bool} {j : Nat} (h : ShutL md ops listed) (hj : j ∈ Region.ready md ops listed) : ShutL md ops (listed.setIfInBounds j true) := fun k o ho hk e he hb => by
  by_cases hkj : j = k
  · subst hkj
    obtain ⟨_, o', ho', hall⟩ := mem_ready.1 hj
    rw [ho] at ho'
    obtain rfl := Option.some.inj ho'
    exact getD_set_true (hall e he hb)
  · rw [getD_set_ne false hkj] at hk
    exact getD_set_true (h k o ho hk e he hb)
/-- i must come before j -/
def befB (md : Region.Mode) (ops : Array Oper) (i : Nat) : Nat → Nat → Bool
  | 0, _ => false
  | n + 1, j => match ops[j]? with
    | none => false
    | some o => o.after.any fun e => Region.binds md e && (e.on == i || befB md ops i n e.on)
theorem befB_listed {listed : Array Bool} {i : Nat} (h : ShutL md ops listed) : ∀ (n j : Nat), befB md ops i n j = true → (∀ o, ops[j]? = some o → ∀ e ∈ o.after, Region.binds md e = true → listed.getD e.on false = true) → listed.getD i false = true
  | 0, _, hb, _ => by simp [befB] at hb
  | n + 1, j, hb, hl => by
    unfold befB at hb
    cases ho : ops[j]? with
    | none => rw [ho] at hb; simp at hb
    | some o =>
      rw [ho] at hb
      obtain ⟨e, he, hbe⟩ := Array.any_eq_true'.1 hb
      simp only [Bool.and_eq_true, Bool.or_eq_true, beq_iff_eq] at hbe
      have hon := hl o ho e he hbe.1
      rcases hbe.2 with h1 | h1
      · rw [← h1]; exact hon
      · exact befB_listed h n e.on h1 (fun o' ho' e' he' hb' => h e.on o' ho' hon e' he' hb')
theorem befB_not {listed : Array Bool} {i l n : Nat} (h : ShutL md ops listed) (hb : befB md ops i n l = true) (hi : i ∈ Region.ready md ops listed) : l ∉ Region.ready md ops listed := fun hl => by
  obtain ⟨_, o, ho, hall⟩ := mem_ready.1 hl
  have h1 := befB_listed h n l hb (fun o' ho' e he hbe => by rw [ho] at ho'; obtain rfl := Option.some.inj ho'; exact hall e he hbe)
  have h2 := (mem_ready.1 hi).1
  rcases Nat.lt_or_ge i listed.size with h' | h'
  · simp [h'] at h1 h2; rw [h1] at h2; cases h2
  · simp [Array.getElem?_eq_none h'] at h1
/-- whatever order is picked; C holds behind each operation but the last -/
def wpAnyL (P : Program) (md : Region.Mode) (ops : Array Oper) (Q : Exit → Act → World → Prop) (C : World → Prop) (l : Nat) : Nat → Array Bool → Act → World → Prop
  | 0, listed, a, w => Region.ready md ops listed = [] ∧ Q .normal a w
  | fuel + 1, listed, a, w => (Region.ready md ops listed = [] → Q .normal a w) ∧
    ∀ i ∈ Region.ready md ops listed, wpOp P ops Q i (fun a' w' => (i ≠ l → C w') ∧ wpAnyL P md ops Q C l fuel (listed.setIfInBounds i true) a' w') a w
theorem wpAny_of_L {l : Nat} : ∀ (fuel : Nat) (listed : Array Bool) (a : Act) (w : World), wpAnyL P md ops Q C l fuel listed a w → wpAny P md ops Q fuel listed a w
  | 0, _, _, _, h => h
  | fuel + 1, _, _, _, h => ⟨h.1, fun i hi => wpOp_mono (fun a' w' h' => wpAny_of_L fuel _ a' w' h'.2) (h.2 i hi)⟩
theorem wpAnyL_first {i l nb : Nat} {oi : Oper} {v : Value} (hi : ops[i]? = some oi) (hsel : ∀ (j : Nat) (o : Oper) cs b, ops[j]? = some o → o.op ≠ .select cs b)
    (hQ : ∀ c a w, Q (.panic c) (a.put oi.dst v) w → Q (.panic c) a w) (hb : befB md ops i nb l = true) :
    ∀ (fuel : Nat) (listed : Array Bool) (a : Act) (w : World), ShutL md ops listed →
      (∀ j oj, ops[j]? = some oj → j ≠ i → listed.getD j true = false → (∀ e ∈ oj.after, Region.binds md e = true → e.on ≠ i) → oi.apart ops oj = true) →
      i ∈ Region.ready md ops listed → YieldsIf P ops C oi v a → C w →
      wpAnyL P md ops Q C l fuel (listed.setIfInBounds i true) (a.put oi.dst v) w → wpAnyL P md ops Q C l (fuel + 1) listed a w := by
  intro fuel
  induction fuel with
  | zero =>
    intro listed a w _ _ hr hy hC H
    refine ⟨fun h => (by rw [h] at hr; cases hr), fun j hj => ?_⟩
    by_cases hji : j = i
    · subst hji; exact hy.wpOp hi hC ⟨fun _ => hC, H⟩
    · have := ready_mono hj hji
      rw [H.1] at this
      cases this
  | succ fuel ih =>
    intro listed a w hsh hfree hr hy hC H
    refine ⟨fun h => (by rw [h] at hr; cases hr), fun j hj => ?_⟩
    by_cases hji : j = i
    · subst hji; exact hy.wpOp hi hC ⟨fun _ => hC, H⟩
    · have h1 := H.2 j (ready_mono hj hji)
      have hjl : j ≠ l := fun e => befB_not hsh hb hr (e ▸ hj)
      obtain ⟨hjun, oj, hoj, hall⟩ := mem_ready.1 hj
      have hnot : ∀ e ∈ oj.after, Region.binds md e = true → e.on ≠ i := fun e he hbe heq => by
        have h1 := hall e he hbe
        have h0 := (mem_ready.1 hr).1
        rw [heq] at h1
        rcases Nat.lt_or_ge i listed.size with h' | h'
        · simp [h'] at h0 h1; rw [h0] at h1; cases h1
        · simp [Array.getElem?_eq_none h'] at h1
      have h2 := wpOp_putIf hoj (hfree j oj hoj hji hjun hnot) (fun cs b => hsel i oi cs b hi) (fun cs b => hsel j oj cs b hoj) hQ hy h1
      refine wpOp_mono (fun a' w' h3 => ⟨h3.2.1, ih (listed.setIfInBounds j true) a' w' (hsh.put hj) (fun k ok hk hki hun hno => ?_) (ready_mono hr (Ne.symm hji)) h3.1 (h3.2.1 hjl) ?_⟩) h2
      · refine hfree k ok hk hki ?_ hno
        by_cases hjk : j = k
        · subst hjk; exact hjun
        · rw [getD_set_ne true hjk] at hun; exact hun
      · rw [Array.setIfInBounds_comm _ _ hji]
        exact h3.2.2
def lastB (md : Region.Mode) (ops : Array Oper) (l nb : Nat) : List (Nat × Bool) → Array Bool → Bool
  | [], listed => (Region.ready md ops listed == [l]) && (Region.ready md ops (listed.setIfInBounds l true)).isEmpty
  | (k, true) :: ms, listed => (Region.ready md ops listed).contains k && Region.free md ops listed k && befB md ops k nb l && lastB md ops l nb ms (listed.setIfInBounds k true)
  | (k, false) :: ms, listed => (Region.ready md ops listed == [k]) && lastB md ops l nb ms (listed.setIfInBounds k true)
def wpLast (P : Program) (ops : Array Oper) (C : World → Prop) (Q : Exit → Act → World → Prop) (l : Nat) : List (Nat × Bool) → Act → World → Prop
  | [], a, w => ∃ o, ops[l]? = some o ∧ ∀ K : Act → World → Prop, Shut (∀ a' w', Q .normal a' w' → K a' w') →
      if Region.wanted o (yielded ops a.tmps) = true then Oper.wp P o a w K (strictQ Q) else K (a.put o.dst undef) w
  | (k, true) :: ms, a, w => ∃ o, ops[k]? = some o ∧ ∃ v, YieldsIf P ops C o v a ∧ wpLast P ops C Q l ms (a.put o.dst v) w
  | (k, false) :: ms, a, w => ∃ o, ops[k]? = some o ∧ ∀ K : Act → World → Prop, Shut (∀ a' w', C w' → (C w' → wpLast P ops C Q l ms a' w') → K a' w') →
      if Region.wanted o (yielded ops a.tmps) = true then Oper.wp P o a w K (strictQ Q) else K (a.put o.dst undef) w
theorem last_take {l : List Oper} {e k : Nat} {o : Oper} {ms : List (Nat × Bool)} {a : Act} {w : World} (ho : l[k]? = some o) (h : ∃ v, YieldsIf P l.toArray C o v a ∧ wpLast P l.toArray C Q e ms (a.put o.dst v) w) : wpLast P l.toArray C Q e ((k, true) :: ms) a w := ⟨o, by simpa using ho, h⟩
theorem last_step {l : List Oper} {e k : Nat} {o : Oper} {ms : List (Nat × Bool)} {a : Act} {w : World} (ho : l[k]? = some o) (h : ∀ K : Act → World → Prop, Shut (∀ a' w', C w' → (C w' → wpLast P l.toArray C Q e ms a' w') → K a' w') →
    if Region.wanted o (yielded l.toArray a.tmps) = true then Oper.wp P o a w K (strictQ Q) else K (a.put o.dst undef) w) : wpLast P l.toArray C Q e ((k, false) :: ms) a w := ⟨o, by simpa using ho, h⟩
theorem last_done {l : List Oper} {e : Nat} {o : Oper} {a : Act} {w : World} (ho : l[e]? = some o) (h : ∀ K : Act → World → Prop, Shut (∀ a' w', Q .normal a' w' → K a' w') →
    if Region.wanted o (yielded l.toArray a.tmps) = true then Oper.wp P o a w K (strictQ Q) else K (a.put o.dst undef) w) : wpLast P l.toArray C Q e [] a w := ⟨o, by simpa using ho, h⟩
theorem wpAnyL_last (hsel : Region.noSelect ops = true) {l nb : Nat} : ∀ (ms : List (Nat × Bool)) (listed : Array Bool) (a : Act) (w : World), ShutL md ops listed → lastB md ops l nb ms listed = true → C w → wpLast P ops C Q l ms a w → wpAnyL P md ops (strictQ Q) C l (ms.length + 1) listed a w := by
  intro ms
  induction ms with
  | nil =>
    intro listed a w hsh hB hC h
    simp only [lastB, Bool.and_eq_true, beq_iff_eq, List.isEmpty_iff] at hB
    obtain ⟨o, h0, hh⟩ := h
    refine ⟨fun h => by rw [hB.1] at h; simp at h, fun i hi => ?_⟩
    rw [hB.1, List.mem_singleton] at hi
    subst hi
    exact wpOp_step h0 (fun K hK => hh K (fun a' w' hQ => hK a' w' ⟨fun h => absurd rfl h, hB.2, hQ⟩))
  | cons m ms ih =>
    intro listed a w hsh hB hC h
    obtain ⟨k, b⟩ := m
    cases b with
    | true =>
      simp only [lastB, Bool.and_eq_true] at hB
      obtain ⟨o, h0, v, hy, hr⟩ := h
      have hrd : k ∈ Region.ready md ops listed := by simpa using hB.1.1.1
      exact wpAnyL_first h0 (Region.noSelect_spec hsel) (fun _ _ _ h => h) hB.1.2 _ listed a w hsh (Region.free_spec h0 hB.1.1.2) hrd hy hC (ih _ _ _ (hsh.put hrd) hB.2 hC hr)
    | false =>
      simp only [lastB, Bool.and_eq_true, beq_iff_eq] at hB
      obtain ⟨o, h0, hh⟩ := h
      refine ⟨fun h => by rw [hB.1] at h; simp at h, fun i hi => ?_⟩
      have hrd := hi
      rw [hB.1, List.mem_singleton] at hi
      subst hi
      exact wpOp_step h0 (fun K hK => hh K (fun a' w' hC' hW => hK a' w' ⟨fun _ => hC', ih _ _ _ (hsh.put hrd) hB.2 hC' (hW hC')⟩))
/-- ms: the order of one's own for all but the last, e; nb: how far back 'before' is looked for -/
theorem wp_region_last {id : Nat} {a : Act} {w : World} {l : List Oper} (C : World → Prop) (e nb : Nat) (ms : List (Nat × Bool)) (hm : P.follows .mixedOrders = true)
    (hB : (Region.noSelect l.toArray && decide (l.length = ms.length + 1) && lastB .any l.toArray e nb ms (Array.replicate l.toArray.size false)) = true) (hC : C w.drew)
    (h : C w.drew → wpLast P l.toArray C Q e ms a w.drew) : (Code.region id l.toArray true).wp P Q a w := by
  simp only [Bool.and_eq_true, decide_eq_true_eq] at hB
  have H := wpAnyL_last (md := .any) hB.1.1 ms _ a w.drew (shutL_none _) hB.2 hC (h hC)
  rw [← hB.1.2] at H
  exact wp_region_any hm (wpAny_strict _ _ _ _ (wpAny_of_L _ _ _ _ (by simpa using H)))
end
end Go.Proofs.Ytnhalnjdlkdnkaa
