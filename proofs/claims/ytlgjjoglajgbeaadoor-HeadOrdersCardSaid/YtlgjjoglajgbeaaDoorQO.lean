/- A region that draws its order: quiet operations in any order, then some one behind the other, then quiet ones in any order (x, err := f(..) with loads ahead). In an activation and in a round. By an AI agent. -/
import Derived.Test.YtlgjjoglajgbeaaDoorQT
import Derived.BigQuiet
namespace Go.Proofs.YtlgjjoglajgbeaaDoor
set_option linter.unusedVariables false
set_option linter.unusedSimpArgs false

section
variable {P : Program} {ops : Array Oper} {md : Region.Mode} {C : World → Prop}

/-- each operation behind n waits for one from n on -/
def chainW (md : Region.Mode) (ops : Array Oper) (n : Nat) : Bool :=
  (List.range ops.size).all fun t => decide (t ≤ n) || (List.range t).any fun j => decide (n ≤ j) && Region.waitsFor md ops t j
theorem tail_waitsW {n : Nat} {listed : Array Bool} (hs : Region.sinkB md ops n = true) (hc : chainW md ops n = true) (hn : n < ops.size) (inv : HeadInv md ops n listed) :
    ∀ (d i : Nat), n - i = d → i < n → listed.getD i true = false → ∀ t, n ≤ t → t ∉ Region.ready md ops listed := by
  intro d
  induction d using Nat.strongRecOn with
  | _ d ih =>
    intro i hd hi hun t ht hr
    obtain ⟨_, ot, hot, hall⟩ := mem_ready.1 hr
    have htlt : t < ops.size := (Array.getElem?_eq_some_iff.1 hot).1
    by_cases htn : t = n
    · subst htn
      have h1 := List.all_eq_true.1 hs i (List.mem_range.2 hi)
      obtain ⟨j, hj, hj2⟩ := List.any_eq_true.1 h1
      simp only [Bool.and_eq_true, decide_eq_true_eq] at hj2
      obtain ⟨oj, hoj, e, he, hb, hon⟩ := Region.waitsFor_spec hj2.2
      have hjt : j ≤ t := by have := List.mem_range.1 hj; omega
      have hl : listed.getD j false = false := by
        cases hl : listed.getD j false with
        | false => rfl
        | true =>
          have h2 := inv.closed j oj hoj hl e he hb
          rw [hon, getD_both hun] at h2
          exact h2.symm
      rcases Nat.lt_or_ge j t with hlt | hge
      · exact ih (t - j) (by omega) j rfl hlt (getD_in (by rw [inv.size]; omega) hl) t (Nat.le_refl _) hr
      · obtain rfl : j = t := by omega
        obtain rfl : oj = ot := Option.some.inj (hoj.symm.trans hot)
        have h2 := hall e he hb
        rw [hon, getD_both hun] at h2
        cases h2
    · have h1 := List.all_eq_true.1 hc t (List.mem_range.2 htlt)
      simp only [Bool.or_eq_true, decide_eq_true_eq] at h1
      rcases h1 with h1 | h1
      · omega
      · obtain ⟨j, hj, hj2⟩ := List.any_eq_true.1 h1
        simp only [Bool.and_eq_true, decide_eq_true_eq] at hj2
        have hjt := List.mem_range.1 hj
        obtain ⟨o', ho', e, he, hb, hon⟩ := Region.waitsFor_spec hj2.2
        obtain rfl : o' = ot := Option.some.inj (ho'.symm.trans hot)
        have h2 := hall e he hb
        rw [hon, getD_both (inv.tail j hj2.1 (by omega))] at h2
        cases h2

theorem headW_first {n i : Nat} {oi : Oper} {v : Value} {T : Array Bool → Act → Prop} (hi : ops[i]? = some oi) (hsel : ∀ (j : Nat) (o : Oper) cs b, ops[j]? = some o → o.op ≠ .select cs b)
    (hs : Region.sinkB md ops n = true) (hc : chainW md ops n = true) (hn : n < ops.size) (hin : i < n) (hdone : ∀ listed a, T listed a → ∀ j ∈ Region.ready md ops listed, n ≤ j) :
    ∀ (f : Nat) (listed : Array Bool) (a : Act), HeadInv md ops n listed →
      (∀ j oj, ops[j]? = some oj → j ≠ i → listed.getD j true = false → (∀ e ∈ oj.after, Region.binds md e = true → e.on ≠ i) → oi.apart ops oj = true) →
      i ∈ Region.ready md ops listed → YieldsIn P ops C oi v a → HeadQ P md ops C n T f (listed.setIfInBounds i true) (a.put oi.dst v) → HeadQ P md ops C n T (f + 1) listed a := by
  have low : ∀ (listed : Array Bool), HeadInv md ops n listed → i ∈ Region.ready md ops listed → ∀ j ∈ Region.ready md ops listed, j < n := by
    intro listed inv hr j hj
    refine Nat.lt_of_not_le fun hnj => ?_
    exact tail_waitsW hs hc hn inv (n - i) i rfl hin (mem_ready.1 hr).1 j hnj hj
  intro f
  induction f with
  | zero =>
    intro listed a inv _ hr hy H
    refine ⟨fun h => (by rw [h] at hr; cases hr), fun j hj => ⟨low listed inv hr j hj, ?_⟩⟩
    by_cases hji : j = i
    · subst hji; exact hy.qOp hi H
    · have h1 := hdone _ _ H j (ready_mono hj hji)
      have h2 := low listed inv hr j hj
      omega
  | succ f ih =>
    intro listed a inv hfree hr hy H
    refine ⟨fun h => (by rw [h] at hr; cases hr), fun j hj => ⟨low listed inv hr j hj, ?_⟩⟩
    have hjn := low listed inv hr j hj
    by_cases hji : j = i
    · subst hji; exact hy.qOp hi H
    · have h1 := (H.2 j (ready_mono hj hji)).2
      obtain ⟨hjun, oj, hoj, hall⟩ := mem_ready.1 hj
      have hnot : ∀ e ∈ oj.after, Region.binds md e = true → e.on ≠ i := fun e he hb heq => by
        have h1 := hall e he hb
        have h0 := (mem_ready.1 hr).1
        rw [heq] at h1
        rcases Nat.lt_or_ge i listed.size with h' | h'
        · simp [h'] at h0 h1; rw [h0] at h1; cases h1
        · simp [Array.getElem?_eq_none h'] at h1
      have h2 := qOp_put hoj (hfree j oj hoj hji hjun hnot) (fun cs b => hsel i oi cs b hi) (fun cs b => hsel j oj cs b hoj) hy h1
      have hfree' : ∀ k ok, ops[k]? = some ok → k ≠ i → (listed.setIfInBounds j true).getD k true = false →
          (∀ e ∈ ok.after, Region.binds md e = true → e.on ≠ i) → oi.apart ops ok = true := fun k ok hk hki hun hno => by
        refine hfree k ok hk hki ?_ hno
        by_cases hjk : j = k
        · subst hjk; exact hjun
        · rw [getD_set_ne true hjk] at hun; exact hun
      refine qOp_mono (fun a' h3 => ih (listed.setIfInBounds j true) a' (inv.set hj hjn) hfree' (ready_mono hr (Ne.symm hji)) h3.1 ?_) h2
      rw [Array.setIfInBounds_comm _ _ hji]
      exact h3.2

/-- m operations one behind the other, then quiet ones -/
def midB (md : Region.Mode) (ops : Array Oper) : Nat → Nat → Array Bool → Bool
  | 0, k, listed => Region.lexFrom md ops (ops.size - k) k listed
  | m + 1, k, listed => decide (Region.ready md ops listed = [k]) && midB md ops m (k + 1) (listed.setIfInBounds k true)
def headB (md : Region.Mode) (ops : Array Oper) (m : Nat) : Nat → Nat → Array Bool → Bool
  | 0, k, listed => midB md ops (m + 1) k listed
  | f + 1, k, listed => (Region.ready md ops listed).contains k && Region.free md ops listed k && headB md ops m f (k + 1) (listed.setIfInBounds k true)
/-- n quiet ones, m + 1 behind each other, quiet ones -/
def qmqB (md : Region.Mode) (ops : Array Oper) (n m : Nat) : Bool :=
  Region.noSelect ops && decide (n + m + 1 ≤ ops.size) && Region.sinkB md ops n && chainW md ops n && headB md ops m n 0 (Array.replicate ops.size false)

theorem headW_lex {n m : Nat} {Tq : Act → Prop} (hsel : Region.noSelect ops = true) (hs : Region.sinkB md ops n = true) (hc : chainW md ops n = true) (hn : n < ops.size) :
    ∀ (l : List Oper) (k : Nat) (listed : Array Bool) (a : Act), (∀ j, j < l.length → l[j]? = ops[k + j]?) → k + l.length = n → HeadInv md ops n listed →
    headB md ops m l.length k listed = true → wpQuiet P ops C Tq l a → HeadQ P md ops C n (fun listed' a' => midB md ops (m + 1) n listed' = true ∧ Tq a') l.length listed a := by
  intro l
  induction l with
  | nil =>
    intro k listed a _ hk _ hB h
    obtain rfl : k = n := by simpa using hk
    exact ⟨by simpa [headB] using hB, h⟩
  | cons o l ih =>
    intro k listed a hl hk inv hB h
    have h0 : ops[k]? = some o := by simpa using (hl 0 (by simp)).symm
    simp only [List.length_cons, headB, Bool.and_eq_true] at hB
    obtain ⟨⟨hr, hf⟩, hB'⟩ := hB
    have hkn : k < n := by simp only [List.length_cons] at hk; omega
    have hr' : k ∈ Region.ready md ops listed := by simpa using hr
    have hst : qOp P ops C k (wpQuiet P ops C Tq l) a := by unfold qOp; simp only [h0]; exact h
    obtain ⟨v, hy, hK⟩ := yieldsIn_of_qOp h0 hst
    refine headW_first h0 (Region.noSelect_spec hsel) hs hc hn hkn (fun listed' a' hL j hj => ?_) l.length listed a inv (Region.free_spec h0 hf) hr' hy
      (ih (k + 1) _ _ (fun j hj => by have := hl (j + 1) (by simp; omega); simpa [Nat.add_assoc, Nat.add_comm 1 j] using this) (by simp only [List.length_cons] at hk; omega) (inv.set hr' hkn) hB' hK)
    have h1 := hL.1
    simp only [midB, Bool.and_eq_true, decide_eq_true_eq] at h1
    rw [h1.1] at hj
    have : j = n := by simpa using hj
    omega

/-- what is asked behind the middle operations -/
def TailP (P : Program) (ops : Array Oper) (Q : Exit → Act → World → Prop) (l : List Oper) (a : Act) (w : World) : Prop :=
  ∃ D : World → Prop, D w ∧ wpQuiet P ops D (fun a' => ∀ w', D w' → Q .normal a' w') l a
def tailQ (T : Act → World → Prop) (Q : Exit → Act → World → Prop) : Exit → Act → World → Prop
  | .normal, a, w => T a w
  | e, a, w => Q e a w
theorem wp_tailQ {o : Oper} {a : Act} {w : World} {K T : Act → World → Prop} {Q : Exit → Act → World → Prop} (h : o.wp P a w K (tailQ T Q)) : o.wp P a w K Q := by
  unfold Oper.wp at *
  generalize (execOp a.eval o).run P w = r at *
  cases r with
  | ok x w' =>
    cases x with
    | enter f args =>
      refine Calls.mono h ?_
      intro e w'' he
      cases e <;> exact he
    | _ => exact h
  | halt x w' => cases x <;> exact h
theorem letsOut_tailQ {T : Act → World → Prop} {Q : Exit → Act → World → Prop} (h : LetsOut (tailQ T Q)) : LetsOut Q := h
theorem wpAny_of_mid {Q : Exit → Act → World → Prop} {T : Act → World → Prop} : ∀ (l : List Oper) (k : Nat) (listed : Array Bool) (a : Act) (w : World), (∀ j, j < l.length → l[j]? = ops[k + j]?) → k + l.length ≤ ops.size →
    midB md ops l.length k listed = true → wpList P ops (tailQ T Q) l a w →
    (∀ listed a w, Region.lexFrom md ops (ops.size - (k + l.length)) (k + l.length) listed = true → T a w → wpAny P md ops Q (ops.size - (k + l.length)) listed a w) → wpAny P md ops Q (ops.size - k) listed a w
  | [], k, listed, a, w, _, _, hB, h, hT => by simpa using hT listed a w (by simpa [midB] using hB) h
  | o :: l, k, listed, a, w, hl, hk, hB, h, hT => by
    have h0 : ops[k]? = some o := by simpa using (hl 0 (by simp)).symm
    simp only [List.length_cons, midB, Bool.and_eq_true, decide_eq_true_eq] at hB
    have hks : k < ops.size := (Array.getElem?_eq_some_iff.1 h0).1
    rw [show ops.size - k = (ops.size - (k + 1)) + 1 by omega]
    refine ⟨fun h1 => (by rw [hB.1] at h1; cases h1), fun i hi => ?_⟩
    rw [hB.1] at hi
    have hik : i = k := by simpa using hi
    subst hik
    have hw : wpOp P ops Q i (wpList P ops (tailQ T Q) l) a w := by
      unfold wpOp
      simp only [h0]
      simp only [wpList] at h
      split
      · rename_i hw
        rw [if_pos hw] at h
        rcases h with h | ⟨h, h2⟩
        · exact .inl (wp_tailQ h)
        · exact .inr ⟨h, letsOut_tailQ h2⟩
      · rename_i hw
        rw [if_neg hw] at h
        exact h
    refine wpOp_mono (fun a' w' h' => wpAny_of_mid l (i + 1) _ a' w' (fun j hj => by have := hl (j + 1) (by simp; omega); simpa [Nat.add_assoc, Nat.add_comm 1 j] using this) (by simp only [List.length_cons] at hk; omega) hB.2 h' ?_) hw
    intro listed a w h1 h2
    rw [show i + 1 + l.length = i + (o :: l).length by simp; omega] at h1 ⊢
    exact hT listed a w h1 h2

theorem wpAny_qmq {Q : Exit → Act → World → Prop} {a : Act} {w : World} {l : List Oper} (n m : Nat) (hB : qmqB .any l.toArray n m = true) (hC : C w)
    (h : wpQuiet P l.toArray C (fun a' => ∀ w', C w' → wpList P l.toArray (tailQ (TailP P l.toArray Q (l.drop (n + (m + 1)))) Q) ((l.drop n).take (m + 1)) a' w') (l.take n) a) : wpAny P .any l.toArray Q l.toArray.size (Array.replicate l.toArray.size false) a w := by
  simp only [qmqB, Bool.and_eq_true, decide_eq_true_eq] at hB
  obtain ⟨⟨⟨⟨hsel, hnm⟩, hs⟩, hc⟩, hlex⟩ := hB
  have hnm' : n + m + 1 ≤ l.length := by simpa using hnm
  have htl : (l.take n).length = n := by simp; omega
  have hml : ((l.drop n).take (m + 1)).length = m + 1 := by simp; omega
  have inv0 : HeadInv .any l.toArray n (Array.replicate l.toArray.size false) :=
    ⟨by simp, fun j oj _ hl => (by rw [getD_replicate_false] at hl; cases hl), fun t _ ht => getD_in (by simpa using ht) (getD_replicate_false _ _)⟩
  have H := headW_lex (md := .any) (m := m) hsel hs hc (by omega) (l.take n) 0 _ a (fun j hj => by
    have hj' : j < n := by rw [htl] at hj; exact hj
    simp [hj']) (by simpa using htl) inv0 (by rw [htl]; exact hlex) h
  have := wpAny_of_headQ (Q' := Q) (g := l.toArray.size - n) (fun listed a' w' hC' hL => by
    refine wpAny_of_mid (T := TailP P l.toArray Q (l.drop (n + (m + 1)))) ((l.drop n).take (m + 1)) n listed a' w' (fun j hj => ?_) (by rw [hml]; simp; omega) (by rw [hml]; exact hL.1) (hL.2 w' hC') ?_
    · rw [hml] at hj
      simp [List.getElem?_take, List.getElem?_drop, hj]
    · rw [hml]
      rintro listed a w h1 ⟨D, hD, hq⟩
      refine wpAny_of_quiet (C := D) (Q := fun a' => ∀ w', D w' → Q .normal a' w') (fun a' w' hw' h => h w' hw') _ _ _ _ hD ?_
      have hlen : (l.drop (n + (m + 1))).length = l.toArray.size - (n + (m + 1)) := by simp
      have := wpAnyQ_lex (C := D) (md := .any) hsel (l.drop (n + (m + 1))) (n + (m + 1)) listed a (fun j => by simp [List.getElem?_drop]) (by rw [hlen]; exact h1) hq
      rwa [hlen] at this) _ _ _ _ hC H
  rw [htl, show n + (l.toArray.size - n) = l.toArray.size by simp; omega] at this
  exact this
/-- in an activation -/
theorem wp_region_qmq {id : Nat} {Q : Exit → Act → World → Prop} {a : Act} {w : World} {l : List Oper} (C : World → Prop) (n m : Nat) (hm : P.follows .mixedOrders = true) (hB : qmqB .any l.toArray n m = true) (hC : C w.drew)
    (h : wpQuiet P l.toArray C (fun a' => ∀ w', C w' → wpList P l.toArray (tailQ (TailP P l.toArray Q (l.drop (n + (m + 1)))) Q) ((l.drop n).take (m + 1)) a' w') (l.take n) a) : (Code.region id l.toArray true).wp P Q a w :=
  wp_region_any hm (wpAny_qmq n m hB hC h)
theorem wpIn_region_qmq {id r k : Nat} {Q : Exit → Act → World → Prop} {a : Act} {w : World} {l : List Oper} (C : World → Prop) (n m : Nat) (hm : P.follows .mixedOrders = true) (hB : qmqB .any l.toArray n m = true) (hd : noDefer l.toArray = true) (hno : ∀ a w, ¬ Q .outgrown a w) (hC : C w.drew)
    (h : wpQuiet P l.toArray C (fun a' => ∀ w', C w' → wpList P l.toArray (tailQ (TailP P l.toArray Q (l.drop (n + (m + 1)))) Q) ((l.drop n).take (m + 1)) a' w') (l.take n) a) : (Code.region id l.toArray true).wpIn (Fence.wide.inRound r) k P Q a w :=
  wpIn_region_any hm (wpAnyIn_of_wpAny hd hno _ _ _ _ (wpAny_qmq n m hB hC h))
theorem tail_at {Q : Exit → Act → World → Prop} {a : Act} {w : World} {T : Act → World → Prop} (h : T a w) : tailQ T Q .normal a w := h
/-- the rest is quiet in the one world -/
theorem tailP_one {Q : Exit → Act → World → Prop} {l : List Oper} {a : Act} {w : World} (h : wpQuiet P ops (fun W => w = W) (fun a' => ∀ w', w = w' → Q .normal a' w') l a) : TailP P ops Q l a w := ⟨fun W => w = W, rfl, h⟩
end
end Go.Proofs.YtlgjjoglajgbeaaDoor
