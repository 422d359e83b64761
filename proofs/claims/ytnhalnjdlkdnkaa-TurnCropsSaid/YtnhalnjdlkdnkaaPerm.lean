/- A region that draws its order, walked in an order of one's own: an operation that yields its value in every world that meets C may be taken first; any other must be the only one that may come up. By an AI agent; over the kit's theory of orders. -/
import Derived.Test.YtnhalnjdlkdnkaaMix
namespace Go.Proofs.Ytnhalnjdlkdnkaa
open Go.RowKit
set_option linter.unusedVariables false
set_option linter.unusedSimpArgs false

section
variable {P : Program} {ops : Array Oper} {md : Region.Mode} {C : World → Prop} {Q : Exit → Act → World → Prop}

def permB (md : Region.Mode) (ops : Array Oper) : List (Nat × Bool) → Array Bool → Bool
  | [], listed => (Region.ready md ops listed).isEmpty
  | (k, true) :: ms, listed => (Region.ready md ops listed).contains k && Region.free md ops listed k && permB md ops ms (listed.setIfInBounds k true)
  | (k, false) :: ms, listed => (Region.ready md ops listed == [k]) && permB md ops ms (listed.setIfInBounds k true)
def wpPerm (P : Program) (ops : Array Oper) (C : World → Prop) (Q : Exit → Act → World → Prop) : List (Nat × Bool) → Act → World → Prop
  | [], a, w => Q .normal a w
  | (k, true) :: ms, a, w => ∃ o, ops[k]? = some o ∧ ∃ v, YieldsIf P ops C o v a ∧ wpPerm P ops C Q ms (a.put o.dst v) w
  | (k, false) :: ms, a, w => ∃ o, ops[k]? = some o ∧ ∀ K : Act → World → Prop, Shut (∀ a' w', C w' → (C w' → wpPerm P ops C Q ms a' w') → K a' w') →
      if Region.wanted o (yielded ops a.tmps) = true then Oper.wp P o a w K (strictQ Q) else K (a.put o.dst undef) w
theorem perm_take {l : List Oper} {k : Nat} {o : Oper} {ms : List (Nat × Bool)} {a : Act} {w : World} (ho : l[k]? = some o) (h : ∃ v, YieldsIf P l.toArray C o v a ∧ wpPerm P l.toArray C Q ms (a.put o.dst v) w) : wpPerm P l.toArray C Q ((k, true) :: ms) a w := ⟨o, by simpa using ho, h⟩
theorem perm_step {l : List Oper} {k : Nat} {o : Oper} {ms : List (Nat × Bool)} {a : Act} {w : World} (ho : l[k]? = some o) (h : ∀ K : Act → World → Prop, Shut (∀ a' w', C w' → (C w' → wpPerm P l.toArray C Q ms a' w') → K a' w') →
    if Region.wanted o (yielded l.toArray a.tmps) = true then Oper.wp P o a w K (strictQ Q) else K (a.put o.dst undef) w) : wpPerm P l.toArray C Q ((k, false) :: ms) a w := ⟨o, by simpa using ho, h⟩
theorem perm_done {a : Act} {w : World} (h : Q .normal a w) : wpPerm P ops C Q [] a w := h
theorem wpAnyH_perm (hsel : Region.noSelect ops = true) : ∀ (ms : List (Nat × Bool)) (listed : Array Bool) (a : Act) (w : World), permB md ops ms listed = true → C w → wpPerm P ops C Q ms a w → wpAnyH P md ops (strictQ Q) C ms.length listed a w := by
  intro ms
  induction ms with
  | nil =>
    intro listed a w hB hC h
    simp only [permB, List.isEmpty_iff] at hB
    exact ⟨hB, h⟩
  | cons m ms ih =>
    intro listed a w hB hC h
    obtain ⟨k, b⟩ := m
    cases b with
    | true =>
      simp only [permB, Bool.and_eq_true] at hB
      obtain ⟨o, h0, v, hy, hr⟩ := h
      exact wpAnyH_take h0 hsel hB.1.2 hB.1.1 (fun _ _ _ h => h) hy hC (ih _ _ _ hB.2 hC hr)
    | false =>
      simp only [permB, Bool.and_eq_true, beq_iff_eq] at hB
      obtain ⟨o, h0, hh⟩ := h
      exact wpAnyH_ready (rs := [k]) hB.1 (by simp) (AllReadyH.cons h0 (fun K hK => hh K (fun a' w' hC' hW => hK a' w' hC' (fun hC2 => ih _ _ _ hB.2 hC2 (hW hC2)))) AllReadyH.nil)
theorem wp_region_perm {id : Nat} {a : Act} {w : World} {l : List Oper} (C : World → Prop) (ms : List (Nat × Bool)) (hm : P.follows .mixedOrders = true)
    (hB : (Region.noSelect l.toArray && decide (l.length = ms.length) && permB .any l.toArray ms (Array.replicate l.toArray.size false)) = true) (hC : C w.drew)
    (h : C w.drew → wpPerm P l.toArray C Q ms a w.drew) : (Code.region id l.toArray true).wp P Q a w := by
  simp only [Bool.and_eq_true, decide_eq_true_eq] at hB
  have H := wpAnyH_perm (md := .any) hB.1.1 ms _ a w.drew hB.2 hC (h hC)
  rw [← hB.1.2] at H
  exact wp_region_any hm (wpAny_strict _ _ _ _ (wpAny_of_held _ _ _ _ (by simpa using H)))
end
end Go.Proofs.Ytnhalnjdlkdnkaa
