/- Sets of ints, kept as maps from ints to ones that the call has made. By an AI agent. -/
import Derived.Test.YtbcbfnkpnfbfjaaProg
import Derived.Test.YtbcbfnkpnfbfjaaUnitP
import Derived.Maps.OwnSet
import Derived.Maps.OwnOps
import Derived.Maps.Views
import Derived.MapViews
namespace Go.Proofs.Ytbcbfnkpnfbfjaa
open Go.RowKit Go.Maps
set_option linter.unusedVariables false
set_option linter.unusedSimpArgs false
set_option maxRecDepth 100000

theorem lawI : Keyed Try.prog 3 := int_keyed Try.underlying3
theorem wfI {k : Int} (h : R64 k) : (Lit.int .i64 k).wf = true := by
  have := h
  unfold R64 at this
  simp [Lit.wf, IntKind.min, IntKind.max, IntKind.signed, IntKind.bits]
  omega
theorem zeroI (w : World) : (zeroValue 3).run Try.prog w = .ok (.int .i64 0) w := by kernel_rfl
theorem litI_inj {a b : Int} (h : (Lit.int .i64 a) = .int .i64 b) : a = b := by cases h; rfl
theorem litI_key (k : Int) : WideAt.IsKeyLit (.int .i64 k) := trivial
/-- block b is a map that has these keys, each with a one -/
def KeyI (w : World) (b : Nat) (ks : List Int) : Prop :=
  ∃ D : DataW Unit, w.ownsMap Try.prog 3 (plainElem Try.prog 3) b ks.length D ∧ IsMap D ∧ Maps.size D = ks.length ∧
    ∀ k, (k ∈ ks ∧ Maps.has D (.int .i64 k) = true ∧ ∀ d, D.atKey (.int .i64 k) d = .lit (.int .i64 1)) ∨ (k ∉ ks ∧ Maps.has D (.int .i64 k) = false)
theorem KeyI.made (w : World) : KeyI (w.alloc (.map #[] 0)) w.heap.size [] :=
  ⟨.map [], World.ownsMap_made _ _ _ _, isMap_empty, rfl, fun k => .inr ⟨by simp, has_false_of_atKey fun z => rfl⟩⟩
theorem KeyI.kept {w w' : World} {b : Nat} {ks : List Int} {row : Option Nat} (h : KeyI w b ks) (hg : w.grownBy w' row) (hne : some b ≠ row) : KeyI w' b ks := by
  obtain ⟨D, h1, h2, h3⟩ := h
  exact ⟨D, h1.kept hg hne, h2, h3⟩
theorem KeyI.look {w : World} {b : Nat} {ks : List Int} (hown : KeyI w b ks) {k : Int} (hk : R64 k) :
    (Instr.lookup 43 (.map (some b)) (.int .i64 k) false).run Try.prog w = .ok (.int .i64 (if k ∈ ks then 1 else 0)) w := by
  obtain ⟨D, h1, h2, h3, h4⟩ := hown
  obtain ⟨c, hr, hat, _⟩ := h1.lookup_int lawI Try.underlying43 Try.underlying3 (zeroI w) (keyOf_int_mk Try.underlying3 (wfI hk))
  rw [hr]
  rcases h4 k with ⟨e1, e2, e3⟩ | ⟨e1, e2⟩
  · rw [e3] at hat
    cases hat
    rw [if_pos e1]
  · rw [atKey_of_not_has e2] at hat
    cases hat
    rw [if_neg e1]
theorem KeyI.len {w : World} {b : Nat} {ks : List Int} (hown : KeyI w b ks) (ty : TypeId) : (Builtin.len_ #[43] ty #[.map (some b)]).run Try.prog w = .ok (.int .i64 (ks.length : Nat)) w := by
  obtain ⟨D, h1, h2, h3, h4⟩ := hown
  rw [h1.len Try.underlying43 ty, h3]
theorem KeyI.add {w : World} {b : Nat} {ks : List Int} (hown : KeyI w b ks) (hn : ks.length < maxLen) {k : Int} (hk : R64 k) (hnew : k ∉ ks) :
    ∃ w', (Instr.mapUpdate 43 (.map (some b)) (.int .i64 k) (.int .i64 1)).run Try.prog w = .ok () w' ∧ KeyI w' b (k :: ks) ∧ w.grownBy w' (some b) := by
  obtain ⟨D, h1, h2, h3, h4⟩ := hown
  obtain ⟨w', hr, h1', hg'⟩ := h1.update lawI Try.underlying43 hn (keyOf_int_mk Try.underlying3 (wfI hk)) (plainElem_int Try.underlying3 (show (Lit.int .i64 1).wf = true by decide))
  have hno : Maps.has D (.int .i64 k) = false := by
    rcases h4 k with ⟨e1, _⟩ | ⟨_, e2⟩
    · exact absurd e1 hnew
    · exact e2
  refine ⟨w', hr, ⟨D.put (.int .i64 k) (.lit (.int .i64 1)), h1', h2.put _ _, ?_, fun z => ?_⟩, hg'⟩
  · rw [size_put (h1.tidy lawI), hno, h3]; rfl
  · by_cases e : z = k
    · subst e
      refine .inl ⟨by simp, ?_, fun d => atKey_put_same h2 (litI_key _) _ _⟩
      exact has_true_of_atKey (fun d => atKey_put_same h2 (litI_key _) _ d)
    · have hne : (Lit.int .i64 z) ≠ .int .i64 k := fun h => e (litI_inj h)
      rcases h4 z with ⟨e1, e2, e3⟩ | ⟨e1, e2⟩
      · refine .inl ⟨by simp [e1], ?_, fun d => by rw [atKey_put_other hne]; exact e3 d⟩
        rw [has_put_other hne]; exact e2
      · refine .inr ⟨by simp [e, e1], ?_⟩
        rw [has_put_other hne]; exact e2
end Go.Proofs.Ytbcbfnkpnfbfjaa
