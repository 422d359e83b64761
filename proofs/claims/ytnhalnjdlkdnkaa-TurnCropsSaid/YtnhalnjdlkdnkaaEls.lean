/- Slices whose elements take several cells: read as lists; a slice that came in, opened. By an AI agent. -/
import Derived.Test.YtnhalnjdlkdnkaaBytesO
import Derived.Test.YtnhalnjdlkdnkaaInts
import Derived.Deep.Slices
namespace Go.Proofs.Ytnhalnjdlkdnkaa
open Go.ChangeShapes Go.WideShapes Go.RowKit
set_option linter.unusedVariables false
set_option linter.unusedSimpArgs false

/-- A slice reads as a list: each element's cells stand for its item. -/
def Els {α : Type} (size : Nat) (Φ : World → List Value → α → Prop) (w : World) (v : Value) (qs : List α) : Prop :=
  ∃ a cap, v = .slice a qs.length cap ∧ qs.length ≤ cap ∧ ∀ i (h : i < qs.length), ∃ b off cs, a = some ⟨b, off, none⟩ ∧ cs.length = size ∧ (∀ j u, cs[j]? = some u → w.cell? ⟨b, off + i * size + j, none⟩ = some u) ∧ Φ w cs qs[i]
theorem Els.old {α : Type} {size : Nat} {Φ : World → List Value → α → Prop} {w w' : World} {v : Value} {qs : List α} (h : Els size Φ w v qs) (hb : Below w.heap.size w w') (hΦ : ∀ cs q, Φ w cs q → Φ w' cs q) : Els size Φ w' v qs := by
  obtain ⟨a, cap, hv, hc, hx⟩ := h
  exact ⟨a, cap, hv, hc, fun i hi => let ⟨b, off, cs, ha, h1, h2, h3⟩ := hx i hi; ⟨b, off, cs, ha, h1, fun j u hj => cell_old hb (h2 j u hj), hΦ _ _ h3⟩⟩
theorem Els.nil {α : Type} (size : Nat) (Φ : World → List Value → α → Prop) (w : World) (a : Option Addr) (cap : Nat) : Els size Φ w (.slice a 0 cap) [] :=
  ⟨a, cap, rfl, Nat.zero_le _, fun i h => absurd h (Nat.not_lt_zero i)⟩
theorem Els.len {α : Type} {size : Nat} {Φ : World → List Value → α → Prop} {w : World} {v : Value} {qs : List α} (h : Els size Φ w v qs) : ∃ a cap, v = .slice a qs.length cap ∧ qs.length ≤ cap := by
  obtain ⟨a, cap, hv, hc, _⟩ := h
  exact ⟨a, cap, hv, hc⟩

variable {H : Type} {enc : TypeId × Value → H} {P : Program} {w : World} {base : Nat} {spare : Nat → Bool} {held : Bool}
theorem open_els {α : Type} [Inhabited α] {t e : TypeId} {fuel : Nat} {v : Value} {x : DataW H × List MemPlace} {size : Nat} {Φ : World → List Value → α → Prop} (ht : P.underlying t = some (.slice e)) (ce : P.cellsOf e = size) (pos : 0 < size) (by1 : 1 ≤ P.bytesOf e)
    (h : DataW.trod enc P w base spare held fuel t [v] = some x) (hb : ∀ k ∈ DataW.weights P t x.1, k ≤ reachBytes)
    (hel : ∀ cs n y, cs.length = size → DataW.trod enc P w base spare held n e cs = some y → (∀ k ∈ DataW.weights P e y.1, k ≤ reachBytes) → ∃ q : α, Φ w cs q) :
    ∃ qs : List α, Els size Φ w v qs ∧ qs.length ≤ 140737488351232 := by
  rcases Go.Deep.open_slice ht h with ⟨hcs, _⟩ | ⟨a, len, cap, m, n, D, Pl, hcs, _, hl, hm, hmm, hx, hi⟩
  · simp only [List.cons.injEq, and_true] at hcs
    subst hcs
    exact ⟨[], Els.nil _ _ _ _ _, by simp⟩
  · simp only [List.cons.injEq, and_true] at hcs
    subst hcs
    have hlm : len ≤ m := by rw [hmm]; split <;> omega
    have hd : x.1 = .slice ((List.range len).map D) ((List.range (m - len)).map fun j => D (len + j)) := by rw [hx]
    have h1 := hb (((List.range len).map D).length + ((List.range (m - len)).map fun j => D (len + j)).length |> (· * P.bytesOf e)) (by
      rw [hd]; simp [DataW.weights, ht])
    simp only [List.length_map, List.length_range, reachBytes] at h1
    have h2 : len * 1 ≤ (len + (m - len)) * P.bytesOf e := Nat.mul_le_mul (by omega) by1
    have key : ∀ i, i < len → ∃ q : List Value × α, q.1.length = size ∧ (∀ j, j < size → w.cell? ((a.add (i * size)).add j) = q.1[j]?) ∧ Φ w q.1 q.2 := by
      intro i hil
      obtain ⟨cs, g1, g2⟩ := hi i (by omega)
      rw [ce] at g1
      obtain ⟨_, g3, g4⟩ := World.cells?_some g1
      obtain ⟨q, hq⟩ := hel cs n _ g3 g2 (fun k hk => hb k (by
        rw [hd]
        simp only [DataW.weights, ht]
        exact List.mem_cons_of_mem _ (List.mem_append_left _ (weightsAll_mem (List.mem_map.2 ⟨i, List.mem_range.2 hil, rfl⟩) _ hk))))
      exact ⟨(cs, q), g3, g4, hq⟩
    obtain ⟨q, hq⟩ := Go.Deep.choose_lt key
    refine ⟨(List.range len).map fun i => (q i).2, ⟨some a, cap, by simp, by simpa using hl, fun i hi => ?_⟩, by simp; omega⟩
    have hil : i < len := by simpa using hi
    obtain ⟨g1, g2, g3⟩ := hq i hil
    obtain ⟨b, off, sp⟩ := a
    have hsp : sp = none := by
      obtain ⟨g1', g2', _⟩ := hq 0 (by omega)
      obtain ⟨u, hu⟩ : ∃ u, (q 0).1[0]? = some u := ⟨_, List.getElem?_eq_getElem (by omega)⟩
      have := World.cell?_spot ((g2' 0 (by omega)).trans hu)
      simpa [Addr.add] using this
    subst hsp
    refine ⟨b, off, (q i).1, rfl, g1, fun j u hj => ?_, by simpa using g3⟩
    have hjs : j < size := by have := (List.getElem?_eq_some_iff.1 hj).1; omega
    have := g2 j hjs
    rw [add_at, add_at] at this
    rw [this, hj]
end Go.Proofs.Ytnhalnjdlkdnkaa
