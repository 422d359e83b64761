/- A region that draws its order: quiet operations first, in the text's order, under a condition on the world; then a tail, one operation at a time. In an activation and in a round. By an AI agent. How many blocks a part has: frame.up, sided, factor, most; burnishref23.up, Factors. By an AI agent. The greatest sampling factors: frame.most, burnishref23.Factors. By an AI agent. -/
import Derived.StillTail
import Derived.Deep.Quiet
import Derived.OrdersIn
import Derived.RangeFuncCalls
import Derived.Test.YtnhalnjdlkdnkaaZ01
import Derived.BigFrame
import Derived.RegionTactic
import Derived.Handy
namespace Go.Proofs.Ytnhalnjdlkdnkaa
set_option linter.unusedVariables false
set_option linter.unusedSimpArgs false

section
variable {P : Program} {ops : Array Oper} {md : Region.Mode} {C : World → Prop}

/-- The head's operations come up in some order, each quiet; then T. -/
def HeadQ (P : Program) (md : Region.Mode) (ops : Array Oper) (C : World → Prop) (n : Nat) (T : Array Bool → Act → Prop) : Nat → Array Bool → Act → Prop
  | 0, listed, a => T listed a
  | f + 1, listed, a => Region.ready md ops listed ≠ [] ∧ ∀ i ∈ Region.ready md ops listed, i < n ∧ qOp P ops C i (HeadQ P md ops C n T f (listed.setIfInBounds i true)) a

theorem wpAny_of_headQ {n g : Nat} {T : Array Bool → Act → Prop} {Q' : Exit → Act → World → Prop} (hT : ∀ listed a w, C w → T listed a → wpAny P md ops Q' g listed a w) :
    ∀ (f : Nat) (listed : Array Bool) (a : Act) (w : World), C w → HeadQ P md ops C n T f listed a → wpAny P md ops Q' (f + g) listed a w := by
  intro f
  induction f with
  | zero => intro listed a w hC h; rw [Nat.zero_add]; exact hT _ _ _ hC h
  | succ f ih =>
    intro listed a w hC h
    rw [show f + 1 + g = (f + g) + 1 by omega]
    exact ⟨fun h0 => absurd h0 h.1, fun i hi => wpOp_of_qOp hC (fun a' w' hC' h' => ih _ a' w' hC' h') (h.2 i hi).2⟩

theorem headQ_first {n i : Nat} {oi : Oper} {v : Value} {T : Array Bool → Act → Prop} (hi : ops[i]? = some oi) (hsel : ∀ (j : Nat) (o : Oper) cs b, ops[j]? = some o → o.op ≠ .select cs b)
    (hs : Region.sinkB md ops n = true) (hc : Region.chainB md ops n = true) (hn : n < ops.size) (hin : i < n) (hdone : ∀ listed a, T listed a → ∀ j ∈ Region.ready md ops listed, n ≤ j) :
    ∀ (f : Nat) (listed : Array Bool) (a : Act), HeadInv md ops n listed →
      (∀ j oj, ops[j]? = some oj → j ≠ i → listed.getD j true = false → (∀ e ∈ oj.after, Region.binds md e = true → e.on ≠ i) → oi.apart ops oj = true) →
      i ∈ Region.ready md ops listed → YieldsIn P ops C oi v a → HeadQ P md ops C n T f (listed.setIfInBounds i true) (a.put oi.dst v) → HeadQ P md ops C n T (f + 1) listed a := by
  have low : ∀ (listed : Array Bool), HeadInv md ops n listed → i ∈ Region.ready md ops listed → ∀ j ∈ Region.ready md ops listed, j < n := by
    intro listed inv hr j hj
    refine Nat.lt_of_not_le fun hnj => ?_
    exact tail_waits hs hc hn inv (n - i) i rfl hin (mem_ready.1 hr).1 j hnj hj
  intro f
  induction f with
  | zero =>
    intro listed a inv _ hr hy H
    refine ⟨fun h => (by rw [h] at hr; cases hr), fun j hj => ⟨low listed inv hr j hj, ?_⟩⟩
    by_cases hji : j = i
    · subst hji; exact hy.qOp hi H
    · have h1 := hdone _ _ H j (ready_mono hj hji)
      have h2 := low listed inv hr j hj
      omega
  | succ f ih =>
    intro listed a inv hfree hr hy H
    refine ⟨fun h => (by rw [h] at hr; cases hr), fun j hj => ⟨low listed inv hr j hj, ?_⟩⟩
    have hjn := low listed inv hr j hj
    by_cases hji : j = i
    · subst hji; exact hy.qOp hi H
    · have h1 := (H.2 j (ready_mono hj hji)).2
      obtain ⟨hjun, oj, hoj, hall⟩ := mem_ready.1 hj
      have hnot : ∀ e ∈ oj.after, Region.binds md e = true → e.on ≠ i := fun e he hb heq => by
        have h1 := hall e he hb
        have h0 := (mem_ready.1 hr).1
        rw [heq] at h1
        rcases Nat.lt_or_ge i listed.size with h' | h'
        · simp [h'] at h0 h1; rw [h0] at h1; cases h1
        · simp [Array.getElem?_eq_none h'] at h1
      have h2 := qOp_put hoj (hfree j oj hoj hji hjun hnot) (fun cs b => hsel i oi cs b hi) (fun cs b => hsel j oj cs b hoj) hy h1
      have hfree' : ∀ k ok, ops[k]? = some ok → k ≠ i → (listed.setIfInBounds j true).getD k true = false →
          (∀ e ∈ ok.after, Region.binds md e = true → e.on ≠ i) → oi.apart ops ok = true := fun k ok hk hki hun hno => by
        refine hfree k ok hk hki ?_ hno
        by_cases hjk : j = k
        · subst hjk; exact hjun
        · rw [getD_set_ne true hjk] at hun; exact hun
      refine qOp_mono (fun a' h3 => ih (listed.setIfInBounds j true) a' (inv.set hj hjn) hfree' (ready_mono hr (Ne.symm hji)) h3.1 ?_) h2
      rw [Array.setIfInBounds_comm _ _ hji]
      exact h3.2

theorem headQ_lex {n g : Nat} {Tq : Act → Prop} (hsel : Region.noSelect ops = true) (hs : Region.sinkB md ops n = true) (hc : Region.chainB md ops n = true) (hn : n < ops.size) :
    ∀ (l : List Oper) (k : Nat) (listed : Array Bool) (a : Act), (∀ j, j < l.length → l[j]? = ops[k + j]?) → k + l.length = n → HeadInv md ops n listed →
    Region.lexHead md ops g l.length k listed = true → wpQuiet P ops C Tq l a → HeadQ P md ops C n (fun listed' a' => Region.seqB md ops g n listed' = true ∧ Tq a') l.length listed a := by
  intro l
  induction l with
  | nil =>
    intro k listed a _ hk _ hB h
    obtain rfl : k = n := by simpa using hk
    exact ⟨by simpa [Region.lexHead] using hB, h⟩
  | cons o l ih =>
    intro k listed a hl hk inv hB h
    have h0 : ops[k]? = some o := by simpa using (hl 0 (by simp)).symm
    simp only [List.length_cons, Region.lexHead, Bool.and_eq_true] at hB
    obtain ⟨⟨hr, hf⟩, hB'⟩ := hB
    have hkn : k < n := by simp only [List.length_cons] at hk; omega
    have hr' : k ∈ Region.ready md ops listed := by simpa using hr
    have hst : qOp P ops C k (wpQuiet P ops C Tq l) a := by unfold qOp; simp only [h0]; exact h
    obtain ⟨v, hy, hK⟩ := yieldsIn_of_qOp h0 hst
    exact headQ_first h0 (Region.noSelect_spec hsel) hs hc hn hkn (fun listed' a' hL => seqB_ready hL.1) l.length listed a inv (Region.free_spec h0 hf) hr' hy
      (ih (k + 1) _ _ (fun j hj => by have := hl (j + 1) (by simp; omega); simpa [Nat.add_assoc, Nat.add_comm 1 j] using this) (by simp only [List.length_cons] at hk; omega) (inv.set hr' hkn) hB' hK)

/-- whatever order is drawn -/
theorem wpAny_qt {Q : Exit → Act → World → Prop} {a : Act} {w : World} {l : List Oper} (n : Nat) (hB : Region.lexTailB .any l.toArray n = true) (hC : C w)
    (h : wpQuiet P l.toArray C (fun a' => ∀ w', C w' → wpList P l.toArray Q (l.drop n) a' w') (l.take n) a) : wpAny P .any l.toArray Q l.toArray.size (Array.replicate l.toArray.size false) a w := by
  simp only [Region.lexTailB, Bool.and_eq_true, decide_eq_true_eq] at hB
  obtain ⟨⟨⟨⟨hsel, hn⟩, hs⟩, hc⟩, hlex⟩ := hB
  have hn' : n < l.length := by simpa using hn
  have htl : (l.take n).length = n := by simp; omega
  have hdl : (l.drop n).length = l.toArray.size - n := by simp
  have inv0 : HeadInv .any l.toArray n (Array.replicate l.toArray.size false) :=
    ⟨by simp, fun j oj _ hl => (by rw [getD_replicate_false] at hl; cases hl), fun t _ ht => getD_in (by simpa using ht) (getD_replicate_false _ _)⟩
  have H := headQ_lex (md := .any) (g := l.toArray.size - n) hsel hs hc hn (l.take n) 0 _ a (fun j hj => by
    have hj' : j < n := by rw [htl] at hj; exact hj
    simp [hj']) (by simpa using htl) inv0 (by rw [htl]; exact hlex) h
  have := wpAny_of_headQ (Q' := Q) (g := l.toArray.size - n) (fun listed a' w' hC' hL => by
    have := wpAny_of_seq (md := .any) (Q' := Q) (l.drop n) n listed a' w' (fun j => by simp [List.getElem?_drop]) (by rw [hdl]; exact hL.1) (hL.2 w' hC')
    rwa [hdl] at this) _ _ _ _ hC H
  rw [htl, show n + (l.toArray.size - n) = l.toArray.size by omega] at this
  exact this
theorem wpAny_q {Q : Exit → Act → World → Prop} {a : Act} {w : World} {l : List Oper} (hB : Region.lexB .any l.toArray = true) (hC : C w)
    (h : wpQuiet P l.toArray C (fun a' => ∀ w', C w' → Q .normal a' w') l a) : wpAny P .any l.toArray Q l.toArray.size (Array.replicate l.toArray.size false) a w := by
  simp only [Region.lexB, Bool.and_eq_true] at hB
  refine wpAny_of_quiet (Q := fun a' => ∀ w', C w' → Q .normal a' w') (fun _ w' hw' h => h w' hw') _ _ _ _ hC ?_
  have := wpAnyQ_lex (C := C) (md := .any) hB.1 l 0 (Array.replicate l.toArray.size false) a (by simp) (by simpa using hB.2) h
  simpa using this

/-- in an activation: quiet operations, then a tail -/
theorem wp_region_qt {id : Nat} {Q : Exit → Act → World → Prop} {a : Act} {w : World} {l : List Oper} (C : World → Prop) (n : Nat) (hm : P.follows .mixedOrders = true) (hB : Region.lexTailB .any l.toArray n = true) (hC : C w.drew)
    (h : wpQuiet P l.toArray C (fun a' => ∀ w', C w' → wpList P l.toArray Q (l.drop n) a' w') (l.take n) a) : (Code.region id l.toArray true).wp P Q a w :=
  wp_region_any hm (wpAny_qt n hB hC h)
/-- in an activation: quiet operations alone -/
theorem wp_region_q {id : Nat} {Q : Exit → Act → World → Prop} {a : Act} {w : World} {l : List Oper} (C : World → Prop) (hm : P.follows .mixedOrders = true) (hB : Region.lexB .any l.toArray = true) (hC : C w.drew)
    (h : wpQuiet P l.toArray C (fun a' => ∀ w', C w' → Q .normal a' w') l a) : (Code.region id l.toArray true).wp P Q a w :=
  wp_region_any hm (wpAny_q hB hC h)

/-! ## in a round, no fence but the wide one -/
def noDefer (ops : Array Oper) : Bool := ops.all fun o => match o.op with | .defer _ => false | _ => true
theorem wpIn_of_wp {o : Oper} {a : Act} {w : World} {K : Act → World → Prop} {Q : Exit → Act → World → Prop} {r m : Nat} (hd : ∀ c, o.op ≠ .defer c) (h : o.wp P a w K Q) : o.wpIn (Fence.wide.inRound r) m P a w K Q := by
  refine ⟨fun _ _ => trivial, ?_⟩
  rw [Oper.semAt_eq _ _ _ hd]
  unfold Oper.wp at h
  generalize (execOp a.eval o).run P w = x at h ⊢
  cases x with
  | ok y w' =>
    cases y with
    | value v => exact h
    | skip => exact h
    | defer d => exact h
    | enter f args => exact ⟨fun e => (by simp [Fence.wide] at e), CallsIn.inRound r (callsIn_wide.2 h)⟩
    | row row args =>
      refine ⟨fun e => (by simp [Fence.wide] at e), fun c cs _ => ?_⟩
      obtain ⟨v, w'', h1, h2⟩ := h c cs
      exact ⟨v, w'', h1, stepsIn_wide.2 h2⟩
    | _ => exact h.elim
  | halt y w' => cases y <;> exact h
theorem wpAnyIn_of_wpAny {Q : Exit → Act → World → Prop} {r m : Nat} (hd : noDefer ops = true) (hno : ∀ a w, ¬ Q .outgrown a w) :
    ∀ (f : Nat) (listed : Array Bool) (a : Act) (w : World), wpAny P md ops Q f listed a w → wpAnyIn (Fence.wide.inRound r) m P md ops Q f listed a w := by
  have hdd : ∀ (i : Nat) (o : Oper), ops[i]? = some o → ∀ c, o.op ≠ .defer c := by
    intro i o ho c hc
    unfold noDefer at hd
    have hm : o ∈ ops := Array.mem_of_getElem? ho
    have := Array.all_eq_true'.1 hd o hm
    rw [hc] at this
    cases this
  intro f
  induction f with
  | zero => intro listed a w h; exact h
  | succ f ih =>
    intro listed a w h
    refine ⟨h.1, fun i hi => ?_⟩
    have h1 := h.2 i hi
    unfold wpOp at h1
    unfold wpOpIn
    cases ho : ops[i]? with
    | none => simp only [ho] at h1; exact ih _ _ _ h1
    | some o =>
      simp only [ho] at h1
      by_cases hw : Region.wanted o (yielded ops a.tmps) = true
      · simp only [hw, if_true] at h1 ⊢
        rcases h1 with h1 | ⟨_, a', w', h1⟩
        · exact Oper.wpIn_mono (fun a' w' h' => ih _ a' w' h') (wpIn_of_wp (hdd i o ho) h1)
        · exact absurd h1 (hno _ _)
      · simp only [hw] at h1 ⊢
        exact ⟨fun _ _ => trivial, ih _ _ _ h1⟩
theorem wpIn_region_qt {id r m : Nat} {Q : Exit → Act → World → Prop} {a : Act} {w : World} {l : List Oper} (C : World → Prop) (n : Nat) (hm : P.follows .mixedOrders = true) (hB : Region.lexTailB .any l.toArray n = true) (hd : noDefer l.toArray = true) (hno : ∀ a w, ¬ Q .outgrown a w) (hC : C w.drew)
    (h : wpQuiet P l.toArray C (fun a' => ∀ w', C w' → wpList P l.toArray Q (l.drop n) a' w') (l.take n) a) : (Code.region id l.toArray true).wpIn (Fence.wide.inRound r) m P Q a w :=
  wpIn_region_any hm (wpAnyIn_of_wpAny hd hno _ _ _ _ (wpAny_qt n hB hC h))
theorem wpIn_region_q {id r m : Nat} {Q : Exit → Act → World → Prop} {a : Act} {w : World} {l : List Oper} (C : World → Prop) (hm : P.follows .mixedOrders = true) (hB : Region.lexB .any l.toArray = true) (hd : noDefer l.toArray = true) (hno : ∀ a w, ¬ Q .outgrown a w) (hC : C w.drew)
    (h : wpQuiet P l.toArray C (fun a' => ∀ w', C w' → Q .normal a' w') l a) : (Code.region id l.toArray true).wpIn (Fence.wide.inRound r) m P Q a w :=
  wpIn_region_any hm (wpAnyIn_of_wpAny hd hno _ _ _ _ (wpAny_q hB hC h))
end
end Go.Proofs.Ytnhalnjdlkdnkaa

namespace Go.Proofs.Ytnhalnjdlkdnkaa
open Go.RowKit Go.BigFrame
set_option linter.unusedVariables false
set_option linter.unusedSimpArgs false
set_option maxRecDepth 20000

def upI (a b : Int) : Int := (a + b - 1) / b
theorem upI_eq (a b : Int) (ha : 0 ≤ a) (hb : 0 < b) : upI a b = a / b + (if 0 < a % b then 1 else 0) := by
  unfold upI
  have h1 := Int.mul_ediv_add_emod a b
  have h2 := Int.emod_nonneg a (show b ≠ 0 by omega)
  have h3 := Int.emod_lt_of_pos a hb
  generalize a / b = q at h1
  generalize a % b = r at h1 h2 h3
  split
  · have e : a + b - 1 = (r - 1) + b * (q + 1) := by rw [Int.mul_add]; omega
    rw [e, Int.add_mul_ediv_left _ _ (by omega), Int.ediv_eq_zero_of_lt (by omega) (by omega)]; omega
  · have e : a + b - 1 = (b - 1) + b * q := by omega
    rw [e, Int.add_mul_ediv_left _ _ (by omega), Int.ediv_eq_zero_of_lt (by omega) (by omega)]; omega
theorem upI_in (a b : Int) (ha : 0 ≤ a) (hb : 0 < b) : 0 ≤ upI a b ∧ upI a b ≤ a := by
  unfold upI
  refine ⟨Int.ediv_nonneg (by omega) (by omega), ?_⟩
  by_cases h : a = 0
  · subst h
    rw [Int.ediv_eq_zero_of_lt (by omega) (by omega)]
    exact Int.le_refl _
  · refine Int.le_of_lt_add_one (Int.ediv_lt_of_lt_mul hb ?_)
    have : (a + 1) * b = a * b + b := by rw [Int.add_mul, Int.one_mul]
    have h2 : a * 1 ≤ a * b := Int.mul_le_mul_of_nonneg_left (by omega) ha
    omega
set_option maxHeartbeats 800000 in
theorem up_any (a b : Int) (w : World) (ha : 0 ≤ a ∧ a ≤ 1000000) (hb : 1 ≤ b ∧ b ≤ 1000) :
    Calls Try.prog 80 #[.int .i64 a, .int .i64 b] w fun e w' => e = .returned (.int .i64 (upI a b)) ∧ w = w' := by
  have hin := upI_in a b ha.1 (by omega)
  have e1 : IntKind.i64.wrap (a + b) = a + b := IntWalk.i64_in _ (by omega)
  have e2 : IntKind.i64.wrap (a + b - 1) = a + b - 1 := IntWalk.i64_in _ (by omega)
  have e1' : wrap64 (a + b) = a + b := IntWalk.wrap64_in _ (by omega)
  have e2' : wrap64 (a + b - 1) = a + b - 1 := IntWalk.wrap64_in _ (by omega)
  have e3 : (a + b - 1).tdiv b = upI a b := by unfold upI; exact Int.tdiv_eq_ediv_of_nonneg (by omega)
  have e4 : (b == 0) = false := by rw [beq_eq_false_iff_ne]; omega
  have e5 : ¬ b = 0 := by omega
  have e6 : IntKind.i64.wrap (upI a b) = upI a b := IntWalk.i64_in _ (by omega)
  have e6' : wrap64 (upI a b) = upI a b := IntWalk.wrap64_in _ (by omega)
  clear hin ha hb
  go_enter Try.func80, Try.ntmps80
  go_wp2_with fail
  go_ret
  exact ⟨rfl, rfl⟩
def sidedB (n : Int) : Bool := decide (1 ≤ n) && decide (n ≤ 65535)
def factorB (n : Int) : Bool := decide (1 ≤ n) && decide (n ≤ 4)
set_option maxHeartbeats 800000 in
theorem sided_any (n : Int) (w : World) : Calls Try.prog 50 #[.int .i64 n] w fun e w' => e = .returned (.bool (sidedB n)) ∧ w = w' := by
  rcases h1 : decide ((1 : Int) ≤ n) with _ | _ <;> rcases h2 : decide (n ≤ (65535 : Int)) with _ | _
  all_goals
    go_enter Try.func50, Try.ntmps50
    go_wp2
    go_ret
    exact ⟨rb (by simp only [sidedB, h1, h2]; rfl), rfl⟩
set_option maxHeartbeats 800000 in
theorem factor_any (n : Int) (w : World) : Calls Try.prog 89 #[.int .i64 n] w fun e w' => e = .returned (.bool (factorB n)) ∧ w = w' := by
  rcases h1 : decide ((1 : Int) ≤ n) with _ | _ <;> rcases h2 : decide (n ≤ (4 : Int)) with _ | _
  all_goals
    go_enter Try.func89, Try.ntmps89
    go_wp2
    go_ret
    exact ⟨rb (by simp only [factorB, h1, h2]; rfl), rfl⟩
set_option maxHeartbeats 800000 in
theorem refUp_any (a b : Int) (w : World) (ha : 0 ≤ a ∧ a ≤ 1000000) (hb : 1 ≤ b ∧ b ≤ 1000) :
    Calls Try.prog 63 #[.int .i64 a, .int .i64 b] w fun e w' => e = .returned (.int .i64 (upI a b)) ∧ w = w' := by
  have h0 := upI_eq a b ha.1 (by omega)
  have hq : a.tdiv b = a / b := Int.tdiv_eq_ediv_of_nonneg (by omega)
  have hr : a.tmod b = a % b := Int.tmod_eq_emod_of_nonneg (by omega)
  have q0 : 0 ≤ a / b := Int.ediv_nonneg (by omega) (by omega)
  have q1 : a / b ≤ a := Int.ediv_le_self _ ha.1
  have e4 : (b == 0) = false := by rw [beq_eq_false_iff_ne]; omega
  have e5 : ¬ b = 0 := by omega
  have r0 := Int.emod_nonneg a (show b ≠ 0 by omega)
  have r1 := Int.emod_lt_of_pos a (show 0 < b by omega)
  obtain ⟨q, hqq⟩ : ∃ q, a / b = q := ⟨_, rfl⟩
  obtain ⟨r, hrr⟩ : ∃ r, a % b = r := ⟨_, rfl⟩
  rw [hqq] at h0 hq q0 q1
  rw [hrr] at h0 hr r0 r1
  have e6 : IntKind.i64.wrap q = q := IntWalk.i64_in _ (by omega)
  have e6' : wrap64 q = q := IntWalk.wrap64_in _ (by omega)
  have e8 : wrap64 r = r := IntWalk.wrap64_in _ (by omega)
  have e7 : IntKind.i64.wrap (q + 1) = q + 1 := IntWalk.i64_in _ (by omega)
  have e7' : wrap64 (q + 1) = q + 1 := IntWalk.wrap64_in _ (by omega)
  have H0 := Lib.hid h0
  clear h0 hqq hrr ha hb q0 q1 r0 r1
  by_cases hp : 0 < r
  · have g1 : decide (0 < r) = true := by rw [decide_eq_true_eq]; exact hp
    rw [if_pos hp] at H0
    go_enter Try.func63, Try.ntmps63
    go_wp2_with fail
    go_ret
    exact ⟨ri H0.out.symm, rfl⟩
  · have g1 : decide (0 < r) = false := by rw [decide_eq_false_iff_not]; exact hp
    rw [if_neg hp, Int.add_zero] at H0
    go_enter Try.func63, Try.ntmps63
    go_wp2_with fail
    go_ret
    exact ⟨ri H0.out.symm, rfl⟩
end Go.Proofs.Ytnhalnjdlkdnkaa

namespace Go.Proofs.Ytnhalnjdlkdnkaa
open Go.RowKit Go.BigFrame
set_option linter.unusedVariables false
set_option linter.unusedSimpArgs false

def facOk (p : PartL) : Bool := factorB p.h && factorB p.v
def maxH (ps : List PartL) : Int := ps.foldl (fun m p => if m < p.h then p.h else m) 0
def maxV (ps : List PartL) : Int := ps.foldl (fun m p => if m < p.v then p.v else m) 0
theorem maxH_app (ps : List PartL) (p : PartL) : maxH (ps ++ [p]) = if maxH ps < p.h then p.h else maxH ps := by unfold maxH; rw [List.foldl_append]; rfl
theorem maxV_app (ps : List PartL) (p : PartL) : maxV (ps ++ [p]) = if maxV ps < p.v then p.v else maxV ps := by unfold maxV; rw [List.foldl_append]; rfl
/-- may a part of this number have sizes, but for the factors? -/
def headOk (P : PicL) (k : Int) : Bool := !decide (k < 0) && !decide ((P.parts.length : Int) ≤ k) && sidedB P.w && sidedB P.h
def mostL (P : PicL) (k : Int) : Option (Int × Int) := if headOk P k && P.parts.all facOk then some (maxH P.parts, maxV P.parts) else none
theorem fac_in {p : PartL} (h : facOk p = true) : 1 ≤ p.h ∧ p.h ≤ 4 ∧ 1 ≤ p.v ∧ p.v ≤ 4 := by
  simp only [facOk, factorB, Bool.and_eq_true, decide_eq_true_eq] at h
  omega
theorem max_in : ∀ (n : Nat) (ps : List PartL), ps.length = n → ps.all facOk = true → 0 ≤ maxH ps ∧ maxH ps ≤ 4 ∧ 0 ≤ maxV ps ∧ maxV ps ≤ 4 ∧ (ps ≠ [] → 1 ≤ maxH ps ∧ 1 ≤ maxV ps) ∧ ∀ p ∈ ps, p.h ≤ maxH ps ∧ p.v ≤ maxV ps := by
  intro n
  induction n with
  | zero =>
    intro ps h _
    obtain rfl := List.eq_nil_of_length_eq_zero h
    simp [maxH, maxV]
  | succ n ih =>
    intro ps h hf
    have hne : ps ≠ [] := by rintro rfl; simp at h
    obtain ⟨qs, p, rfl⟩ : ∃ qs p, ps = qs ++ [p] := ⟨ps.dropLast, ps.getLast hne, (List.dropLast_concat_getLast hne).symm⟩
    rw [List.all_append, Bool.and_eq_true] at hf
    have hp := fac_in (p := p) (by simpa using hf.2)
    obtain ⟨h1, h2, h3, h4, _, h6⟩ := ih qs (by simpa using h) hf.1
    rw [maxH_app, maxV_app]
    refine ⟨by split <;> omega, by split <;> omega, by split <;> omega, by split <;> omega, fun _ => ⟨by split <;> omega, by split <;> omega⟩, fun x hx => ?_⟩
    rcases List.mem_append.1 hx with hx | hx
    · have := h6 x hx
      constructor
      · split <;> omega
      · split <;> omega
    · obtain rfl : x = p := by simpa using hx
      constructor
      · split <;> omega
      · split <;> omega
theorem mostL_some {P : PicL} {k h v : Int} (e : mostL P k = some (h, v)) : (0 ≤ k ∧ k < P.parts.length) ∧ (1 ≤ P.w ∧ P.w ≤ 65535) ∧ (1 ≤ P.h ∧ P.h ≤ 65535) ∧ (∀ p ∈ P.parts, (1 ≤ p.h ∧ p.h ≤ h) ∧ 1 ≤ p.v ∧ p.v ≤ v) ∧ (1 ≤ h ∧ h ≤ 4) ∧ 1 ≤ v ∧ v ≤ 4 := by
  unfold mostL at e
  split at e
  · rename_i hc
    simp only [Option.some.injEq, Prod.mk.injEq] at e
    obtain ⟨rfl, rfl⟩ := e
    simp only [headOk, sidedB, Bool.and_eq_true, Bool.not_eq_true', decide_eq_false_iff_not, decide_eq_true_eq] at hc
    obtain ⟨⟨⟨⟨h1, h2⟩, h3⟩, h4⟩, h5⟩ := hc
    have hne : P.parts ≠ [] := by intro e0; rw [e0] at h2; simp at h2; omega
    obtain ⟨m1, m2, m3, m4, m5, m6⟩ := max_in _ P.parts rfl h5
    have := m5 hne
    exact ⟨by omega, by omega, by omega, fun p hp => by
      have := fac_in (List.all_eq_true.1 h5 p hp)
      have := m6 p hp
      omega, by omega, by omega, by omega⟩
  · cases e

/-- what a picture's box and a part's cells say -/
theorem pts_at {w : World} {v : Value} {ps : List PartL} (h : Pts w v ps) : ∃ a cap, v = .slice a ps.length cap ∧ ps.length ≤ cap ∧ ∀ i (hi : i < ps.length), ∃ b off x, a = some ⟨b, off, none⟩ ∧ PartB ps[i] ∧ Bks w x ps[i].bs ∧
    w.cell? ⟨b, off + i * 7, none⟩ = some (.int .i64 ps[i].id) ∧ w.cell? ⟨b, off + i * 7 + 1, none⟩ = some (.int .i64 ps[i].h) ∧ w.cell? ⟨b, off + i * 7 + 2, none⟩ = some (.int .i64 ps[i].v) ∧ w.cell? ⟨b, off + i * 7 + 3, none⟩ = some (.int .i64 ps[i].tq) ∧
    w.cell? ⟨b, off + i * 7 + 4, none⟩ = some (.int .i64 ps[i].wide) ∧ w.cell? ⟨b, off + i * 7 + 5, none⟩ = some (.int .i64 ps[i].high) ∧ w.cell? ⟨b, off + i * 7 + 6, none⟩ = some x := by
  obtain ⟨a, cap, hv, hc, hx⟩ := h
  refine ⟨a, cap, hv, hc, fun i hi => ?_⟩
  obtain ⟨b, off, cs, ha, hl, hcell, x, rfl, hB, hK⟩ := hx i hi
  exact ⟨b, off, x, ha, hB, hK, hcell 0 _ rfl, hcell 1 _ rfl, hcell 2 _ rfl, hcell 3 _ rfl, hcell 4 _ rfl, hcell 5 _ rfl, hcell 6 _ rfl⟩
/-- a picture's box -/
def PBox (w : World) (B : Nat) (P : PicL) (q0 q1 q2 q3 pv kv : Value) : Prop := w.heap[B]? = some (.cells (vPic P q0 q1 q2 q3 pv kv) 36 (0, 0))
theorem PBox.old {w w' : World} {B : Nat} {P : PicL} {q0 q1 q2 q3 pv kv : Value} (h : PBox w B P q0 q1 q2 q3 pv kv) (hb : Below w.heap.size w w') : PBox w' B P q0 q1 q2 q3 pv kv := by
  unfold PBox; rw [hb.block B (Array.getElem?_eq_some_iff.1 h).1]; exact h
theorem PBox.cells {w : World} {B : Nat} {P : PicL} {q0 q1 q2 q3 pv kv : Value} (h : PBox w B P q0 q1 q2 q3 pv kv) :
    w.cell? ⟨B, 0, none⟩ = some (.int .i64 P.w) ∧ w.cell? ⟨B, 1, none⟩ = some (.int .i64 P.h) ∧ w.cell? ⟨B, 2, none⟩ = some q0 ∧ w.cell? ⟨B, 3, none⟩ = some q1 ∧ w.cell? ⟨B, 4, none⟩ = some q2 ∧ w.cell? ⟨B, 5, none⟩ = some q3 ∧ w.cell? ⟨B, 6, none⟩ = some pv ∧ w.cell? ⟨B, 7, none⟩ = some (.int .i64 P.restart) ∧ w.cell? ⟨B, 8, none⟩ = some kv :=
  ⟨by rw [cell_of_row _ _ 0 _ _ _ h]; rfl, by rw [cell_of_row _ _ 1 _ _ _ h]; rfl, by rw [cell_of_row _ _ 2 _ _ _ h]; rfl, by rw [cell_of_row _ _ 3 _ _ _ h]; rfl, by rw [cell_of_row _ _ 4 _ _ _ h]; rfl, by rw [cell_of_row _ _ 5 _ _ _ h]; rfl, by rw [cell_of_row _ _ 6 _ _ _ h]; rfl, by rw [cell_of_row _ _ 7 _ _ _ h]; rfl, by rw [cell_of_row _ _ 8 _ _ _ h]; rfl⟩
/-- what most answers -/
def mostV : Option (Int × Int) → Value
  | none => .tuple #[.int .i64 0, .int .i64 0, .bool false]
  | some (h, v) => .tuple #[.int .i64 h, .int .i64 v, .bool true]
set_option maxHeartbeats 4000000 in
theorem most_any (P : PicL) (q0 q1 q2 q3 pv kv : Value) (k : Int) (w : World) (hc : Pts w pv P.parts) (hl : P.parts.length ≤ 140737488351232) :
    Calls Try.prog 79 #[.agg (vPic P q0 q1 q2 q3 pv kv), .int .i64 k] w fun e w' => e = .returned (mostV (mostL P k)) ∧ Below w.heap.size w w' := by
  obtain ⟨pa, pc, rfl, _, hx⟩ := pts_at hc
  have HX := Lib.hid hx
  clear hx hc
  unfold vPic
  obtain ⟨B, hB⟩ : ∃ B, w.heap.size = B := ⟨_, rfl⟩
  have HB := Lib.hid hB
  have BA : Hid (Below B w (w.alloc (.cells #[.int .i64 P.w, .int .i64 P.h, q0, q1, q2, q3, .slice pa P.parts.length pc, .int .i64 P.restart, kv] 36))) := Lib.hid (by rw [← hB]; exact (Below.refl _ _).alloc (Nat.le_refl _) _)
  clear hB
  cases h1 : decide (k < (0 : Int)) with
  | true =>
    have MN : Hid (mostL P k = none) := Lib.hid (by unfold mostL headOk; rw [h1]; rfl)
    go_enter Try.func79, Try.ntmps79
    go_wp2_with fail
    go_returns
    exact ⟨by rw [MN.out]; rfl, by rw [HB.out]; exact BA.out⟩
  | false =>
  cases h2 : decide ((P.parts.length : Int) ≤ k) with
  | true =>
    have MN : Hid (mostL P k = none) := Lib.hid (by unfold mostL headOk; rw [h1, h2]; rfl)
    go_enter Try.func79, Try.ntmps79
    go_wp2_with fail
    go_returns
    exact ⟨by rw [MN.out]; rfl, by rw [HB.out]; exact BA.out⟩
  | false =>
  cases h3 : sidedB P.w with
  | false =>
    have MN : Hid (mostL P k = none) := Lib.hid (by unfold mostL headOk; rw [h1, h2, h3]; rfl)
    go_enter Try.func79, Try.ntmps79
    go_wp2_with fail
    refine (sided_any P.w _).mono ?_
    rintro e w1 ⟨rfl, rfl⟩
    rw [h3]
    go_wp2_with fail
    go_returns
    exact ⟨by rw [MN.out]; rfl, by rw [HB.out]; exact BA.out⟩
  | true =>
  cases h4 : sidedB P.h with
  | false =>
    have MN : Hid (mostL P k = none) := Lib.hid (by unfold mostL headOk; rw [h1, h2, h3, h4]; rfl)
    go_enter Try.func79, Try.ntmps79
    go_wp2_with fail
    refine (sided_any P.w _).mono ?_
    rintro e w1 ⟨rfl, rfl⟩
    rw [h3]
    go_wp2_with fail
    refine (sided_any P.h _).mono ?_
    rintro e w1 ⟨rfl, rfl⟩
    rw [h4]
    go_wp2_with fail
    go_returns
    exact ⟨by rw [MN.out]; rfl, by rw [HB.out]; exact BA.out⟩
  | true =>
    have MM : Hid (mostL P k = if P.parts.all facOk then some (maxH P.parts, maxV P.parts) else none) := Lib.hid (by unfold mostL headOk; rw [h1, h2, h3, h4]; rfl)
    go_enter Try.func79, Try.ntmps79
    go_wp2_with fail
    refine (sided_any P.w _).mono ?_
    rintro e w1 ⟨rfl, rfl⟩
    rw [h3]
    go_wp2_with fail
    refine (sided_any P.h _).mono ?_
    rintro e w1 ⟨rfl, rfl⟩
    rw [h4]
    go_wp2_with fail
    go_loopw [7, 8, 10, 35] (fun h v _ j w' => ∃ n : Nat, n ≤ P.parts.length ∧ j = .int .i64 (n : Int) ∧ h = .int .i64 (maxH (P.parts.take n)) ∧ v = .int .i64 (maxV (P.parts.take n)) ∧ (P.parts.take n).all facOk = true ∧ Below B w w') (fun _ _ _ j _ => P.parts.length - (intOf j).toNat)
    case atStart => exact ⟨0, Nat.zero_le _, rfl, rfl, rfl, rfl, BA.out⟩
    case round =>
      obtain ⟨n, hn, rfl, rfl, rfl, hall, hbl⟩ := hrel
      have HA := Lib.hid hall
      have HBL := Lib.hid hbl
      clear hall hbl
      by_cases hnl : n < P.parts.length
      · have f1 : decide ((n : Int) < (P.parts.length : Int)) = true := by rw [decide_eq_true_eq]; omega
        have f2 : decide (n < P.parts.length) = true := by rw [decide_eq_true_eq]; omega
        obtain ⟨b, off, x, rfl, hPB, hBK, c0, c1, c2, c3, c4, c5, c6⟩ := HX.out n hnl
        obtain ⟨xa, xc, rfl, _⟩ := Els.len hBK
        obtain ⟨xn, hxn⟩ : ∃ xn, P.parts[n].bs.length = xn := ⟨_, rfl⟩
        rw [hxn] at c6
        clear hBK hxn
        have hbw : Below w.heap.size w wr := by rw [HB.out]; exact HBL.out
        have d0 := cell_old hbw c0
        have d1 := cell_old hbw c1
        have d2 := cell_old hbw c2
        have d3 := cell_old hbw c3
        have d4 := cell_old hbw c4
        have d5 := cell_old hbw c5
        have d6 := cell_old hbw c6
        have TK := Lib.hid (show P.parts.take (n + 1) = P.parts.take n ++ [P.parts[n]] from List.take_succ_eq_append_getElem hnl)
        have ALL : Hid (facOk P.parts[n] = false → P.parts.all facOk = false) := Lib.hid (fun h => by
          rw [List.all_eq_false]; exact ⟨_, List.getElem_mem hnl, by simp [h]⟩)
        obtain ⟨p, hp⟩ : ∃ p, P.parts[n] = p := ⟨_, rfl⟩
        rw [hp] at d0 d1 d2 d3 d4 d5 TK ALL
        have hBw : B ≤ wr.heap.size := by have := HBL.out.size; have := HB.out; omega
        have HBW := Lib.hid hBw
        clear c0 c1 c2 c3 c4 c5 c6 hbw hp hPB hBw
        cases g1 : factorB p.h with
        | false =>
          have MN : Hid (mostL P k = none) := Lib.hid (by rw [MM.out, ALL.out (by unfold facOk; rw [g1]; rfl)]; rfl)
          go_wp2_with fail
          refine (factor_any p.h _).mono ?_
          rintro e w1 ⟨rfl, rfl⟩
          rw [g1]
          go_wp2_with fail
          go_returns
          exact ⟨by rw [MN.out]; rfl, by rw [HB.out]; exact HBL.out.alloc HBW.out _⟩
        | true =>
        cases g2 : factorB p.v with
        | false =>
          have MN : Hid (mostL P k = none) := Lib.hid (by rw [MM.out, ALL.out (by unfold facOk; rw [g1, g2]; rfl)]; rfl)
          go_wp2_with fail
          refine (factor_any p.h _).mono ?_
          rintro e w1 ⟨rfl, rfl⟩
          rw [g1]
          go_wp2_with fail
          refine (factor_any p.v _).mono ?_
          rintro e w1 ⟨rfl, rfl⟩
          rw [g2]
          go_wp2_with fail
          go_returns
          exact ⟨by rw [MN.out]; rfl, by rw [HB.out]; exact HBL.out.alloc HBW.out _⟩
        | true =>
          go_wp2_with fail
          refine (factor_any p.h _).mono ?_
          rintro e w1 ⟨rfl, rfl⟩
          rw [g1]
          go_wp2_with fail
          refine (factor_any p.v _).mono ?_
          rintro e w1 ⟨rfl, rfl⟩
          rw [g2]
          have AL2 : Hid ((P.parts.take (n + 1)).all facOk = true) := Lib.hid (by rw [TK.out, List.all_append, HA.out]; simp [facOk, g1, g2])
          have MH : Hid (maxH (P.parts.take (n + 1)) = if maxH (P.parts.take n) < p.h then p.h else maxH (P.parts.take n)) := Lib.hid (by rw [TK.out, maxH_app])
          have MV : Hid (maxV (P.parts.take (n + 1)) = if maxV (P.parts.take n) < p.v then p.v else maxV (P.parts.take n)) := Lib.hid (by rw [TK.out, maxV_app])
          obtain ⟨mh, hmh⟩ : ∃ m, maxH (P.parts.take n) = m := ⟨_, rfl⟩
          obtain ⟨mv, hmv⟩ : ∃ m, maxV (P.parts.take n) = m := ⟨_, rfl⟩
          rw [hmh] at MH ⊢
          rw [hmv] at MV ⊢
          clear hmh hmv
          go_wp2_with fail
          obtain ⟨nh, hnh⟩ : ∃ nh, (if mh < p.h then p.h else mh) = nh := ⟨_, rfl⟩
          obtain ⟨nv, hnv⟩ : ∃ nv, (if mv < p.v then p.v else mv) = nv := ⟨_, rfl⟩
          rw [hnh] at MH
          rw [hnv] at MV
          go_region
          clear hnh hnv
          go_wp2_with fail
          go_roundw
          case rel => exact ⟨n + 1, by omega, by go_num, by rw [MH.out], by rw [MV.out], AL2.out, (HBL.out.alloc HBW.out _).drew⟩
          case measure => simp [intOf]; omega
      · obtain rfl : n = P.parts.length := by omega
        have f1 : decide ((P.parts.length : Int) < (P.parts.length : Int)) = false := by rw [decide_eq_false_iff_not]; omega
        have ME : Hid (mostL P k = some (maxH P.parts, maxV P.parts)) := Lib.hid (by
          have := HA.out
          rw [List.take_length] at this
          rw [MM.out, this]; rfl)
        rw [List.take_length]
        go_wp2_with fail
        go_returns
        exact ⟨by rw [ME.out]; rfl, by rw [HB.out]; exact HBL.out⟩
end Go.Proofs.Ytnhalnjdlkdnkaa
