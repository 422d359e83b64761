/- What an iterator over units reads, where the parts' numbers stand in an own row. By an AI agent. -/
import Derived.Test.YtbcbfnkpnfbfjaaUnitM
namespace Go.Proofs.Ytbcbfnkpnfbfjaa
open Go.RowKit Go.BigFrame
set_option linter.unusedVariables false
set_option linter.unusedSimpArgs false

theorem owns_same {W W' : World} {base : Nat} {e : TypeId} {size n : Nat} {v : Value} {xs : List Value} (h : W.ownsRow base e size v n xs) (hk : ∀ g, v.ownBlock = some g → W'.heap[g]? = W.heap[g]?) : W'.ownsRow base e size v n xs := by
  rcases h with ⟨h1, h2 | ⟨g, cap, cur, rfl, hb, hg, hr⟩⟩
  · exact ⟨h1, .inl h2⟩
  · exact ⟨h1, .inr ⟨g, cap, cur, rfl, hb, (hk g rfl).trans hg, hr⟩⟩
theorem dataU_own {P : PicL} {pv psv : Value} {ps : List Int} {bs : List Nat} {U base : Nat} {w0 : World} (hc : Pts w0 pv P.parts) (hbs : ∀ b, b < w0.heap.size → b ∈ bs) (hg : ∀ g, psv.ownBlock = some g → g ∈ bs) :
    DataU (fun W => (Low w0.heap.size w0 W ∧ w0.heap.size ≤ W.heap.size) ∧ W.ownsRow base 3 1 psv ps.length (vIs ps)) P pv psv ps bs U :=
  ⟨fun W h => h.1.1.pts hc, fun W h => sl_of_owns h.2, fun W W' h hb => ⟨⟨h.1.1.trans (Low.below hb h.1.2), Nat.le_trans h.1.2 hb.size⟩, owns_below h.2 hb⟩,
   fun W W' h hk => ⟨⟨h.1.1.trans (Low.keep hk h.1.2 hbs), Nat.le_trans h.1.2 hk.1⟩, owns_same h.2 fun g hv => hk.2 g (.inl (hg g hv)) (h.2.lt g hv).2⟩⟩
end Go.Proofs.Ytbcbfnkpnfbfjaa
