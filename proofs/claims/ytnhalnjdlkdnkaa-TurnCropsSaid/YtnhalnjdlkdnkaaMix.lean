/- A region that draws its order, walked in the text's order: an operation that yields its value in every world that meets C may be taken first, though others write or make memory; any other must be the only one that may come up. By an AI agent; over the kit's theory of orders. -/
import Derived.Test.YtnhalnjdlkdnkaaQH
import Derived.Deep.RegionHeld
namespace Go.Proofs.Ytnhalnjdlkdnkaa
open Go.RowKit
set_option linter.unusedVariables false
set_option linter.unusedSimpArgs false

section
variable {P : Program} {ops : Array Oper} {md : Region.Mode} {C : World → Prop} {Q : Exit → Act → World → Prop}

def mixB (md : Region.Mode) (ops : Array Oper) : List Bool → Nat → Array Bool → Bool
  | [], _, listed => (Region.ready md ops listed).isEmpty
  | true :: ms, k, listed => (Region.ready md ops listed).contains k && Region.free md ops listed k && mixB md ops ms (k + 1) (listed.setIfInBounds k true)
  | false :: ms, k, listed => (Region.ready md ops listed == [k]) && mixB md ops ms (k + 1) (listed.setIfInBounds k true)
def wpMix (P : Program) (ops : Array Oper) (C : World → Prop) (Q : Exit → Act → World → Prop) : List Oper → List Bool → Act → World → Prop
  | o :: r, true :: ms, a, w => ∃ v, YieldsIf P ops C o v a ∧ wpMix P ops C Q r ms (a.put o.dst v) w
  | o :: r, false :: ms, a, w => ∀ K : Act → World → Prop, Shut (∀ a' w', C w' → (C w' → wpMix P ops C Q r ms a' w') → K a' w') →
      if Region.wanted o (yielded ops a.tmps) = true then Oper.wp P o a w K (strictQ Q) else K (a.put o.dst undef) w
  | _, _, a, w => Q .normal a w
theorem mix_take {o : Oper} {r : List Oper} {ms : List Bool} {a : Act} {w : World} (h : ∃ v, YieldsIf P ops C o v a ∧ wpMix P ops C Q r ms (a.put o.dst v) w) : wpMix P ops C Q (o :: r) (true :: ms) a w := h
theorem mix_step {o : Oper} {r : List Oper} {ms : List Bool} {a : Act} {w : World} (h : ∀ K : Act → World → Prop, Shut (∀ a' w', C w' → (C w' → wpMix P ops C Q r ms a' w') → K a' w') →
    if Region.wanted o (yielded ops a.tmps) = true then Oper.wp P o a w K (strictQ Q) else K (a.put o.dst undef) w) : wpMix P ops C Q (o :: r) (false :: ms) a w := h
theorem mix_done {a : Act} {w : World} (h : Q .normal a w) : wpMix P ops C Q [] [] a w := h
theorem wpAnyH_mix (hsel : Region.noSelect ops = true) : ∀ (l : List Oper) (ms : List Bool) (k : Nat) (listed : Array Bool) (a : Act) (w : World), l.length = ms.length → (∀ j, j < l.length → l[j]? = ops[k + j]?) →
    mixB md ops ms k listed = true → C w → wpMix P ops C Q l ms a w → wpAnyH P md ops (strictQ Q) C l.length listed a w := by
  intro l
  induction l with
  | nil =>
    intro ms k listed a w hlen hl hB hC h
    obtain rfl : ms = [] := List.eq_nil_of_length_eq_zero (by simpa using hlen.symm)
    simp only [mixB, List.isEmpty_iff] at hB
    exact ⟨hB, h⟩
  | cons o l ih =>
    intro ms k listed a w hlen hl hB hC h
    cases ms with
    | nil => simp at hlen
    | cons m ms =>
      have h0 : ops[k]? = some o := by simpa using (hl 0 (by simp)).symm
      have hl' : ∀ j, j < l.length → l[j]? = ops[k + 1 + j]? := fun j hj => by
        have := hl (j + 1) (by simp; omega)
        simpa [Nat.add_assoc, Nat.add_comm 1 j] using this
      have hlen' : l.length = ms.length := by simpa using hlen
      cases m with
      | true =>
        simp only [mixB, Bool.and_eq_true] at hB
        obtain ⟨v, hy, hr⟩ := h
        exact wpAnyH_take h0 hsel hB.1.2 hB.1.1 (fun _ _ _ h => h) hy hC (ih ms (k + 1) _ _ _ hlen' hl' hB.2 hC hr)
      | false =>
        simp only [mixB, Bool.and_eq_true, beq_iff_eq] at hB
        exact wpAnyH_ready (rs := [k]) hB.1 (by simp) (AllReadyH.cons h0 (fun K hK => h K (fun a' w' hC' hW => hK a' w' hC' (fun hC2 => ih ms (k + 1) _ _ _ hlen' hl' hB.2 hC2 (hW hC2)))) AllReadyH.nil)
theorem wp_region_mix {id : Nat} {a : Act} {w : World} {l : List Oper} (C : World → Prop) (ms : List Bool) (hm : P.follows .mixedOrders = true)
    (hB : (Region.noSelect l.toArray && decide (l.length = ms.length) && mixB .any l.toArray ms 0 (Array.replicate l.toArray.size false)) = true) (hC : C w.drew)
    (h : C w.drew → wpMix P l.toArray C Q l ms a w.drew) : (Code.region id l.toArray true).wp P Q a w := by
  simp only [Bool.and_eq_true, decide_eq_true_eq] at hB
  have H := wpAnyH_mix (md := .any) hB.1.1 l ms 0 _ a w.drew hB.1.2 (fun j _ => by simp) hB.2 hC (h hC)
  exact wp_region_any hm (wpAny_strict _ _ _ _ (wpAny_of_held _ _ _ _ H))
end
end Go.Proofs.Ytnhalnjdlkdnkaa
