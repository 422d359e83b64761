/- A slice of chunks that came in, opened. By an AI agent. -/
import Derived.Test.YtlgjjoglajgbeaaDoorChVD
import Derived.Test.YtlgjjoglajgbeaaDoorBytesO
namespace Go.Proofs.YtlgjjoglajgbeaaDoor
open Go.ChangeShapes Go.WideShapes Go.RowKit
set_option linter.unusedVariables false
set_option linter.unusedSimpArgs false

variable {H : Type} {enc : TypeId × Value → H} {w : World} {base : Nat} {spare : Nat → Bool} {held : Bool}
theorem strOf_list (s : ByteArray) : strOf s.data.toList = s := by
  cases s; simp [strOf]
theorem cks_of_trod {n : Nat} {v : Value} {y : DataW H × List MemPlace} (h : DataW.trod enc Tryd.prog w base spare held n 22 [v] = some y) (hb : ∀ k ∈ DataW.weights Tryd.prog 22 y.1, k ≤ reachBytes) :
    ∃ cs : List Chk, Cks w v cs ∧ cs.length ≤ 140737488351232 ∧ (∀ c ∈ cs, c.1.length ≤ 140737488351232) ∧ (∀ c ∈ cs, c.2.length ≤ 140737488351232) := by
  have ht : Tryd.prog.underlying 22 = some (.slice 26) := Tryd.underlying22
  rcases Go.Deep.open_slice_pairs ht Tryd.underlying26 (by kernel_rfl) rfl rfl (by kernel_rfl) (by kernel_rfl) h with ⟨hcs, _⟩ | ⟨x, len, cap, m, k, V0, V1, D0, D1, P0, P1, hcs, _, hl, hm, hmm, hx, hi⟩
  · simp only [List.cons.injEq, and_true] at hcs
    subst hcs
    exact ⟨[], ⟨none, 0, rfl, fun i hi => absurd hi (Nat.not_lt_zero i)⟩, by simp, by simp, by simp⟩
  · simp only [List.cons.injEq, and_true] at hcs
    subst hcs
    have hlm : len ≤ m := by rw [hmm]; split <;> omega
    have hd := (Prod.mk.inj hx).1
    have hb40 : Tryd.prog.bytesOf 26 = 40 := by kernel_rfl
    have h40 := hb ((((List.range len).map fun i => (DataW.agg [D0 i, D1 i] : DataW H)).length + ((List.range (m - len)).map fun j => (DataW.agg [D0 (len + j), D1 (len + j)] : DataW H)).length) * 40) (by rw [hd]; simp [DataW.weights, ht, hb40])
    simp only [List.length_map, List.length_range, reachBytes] at h40
    have key : ∀ i, i < len → ∃ q : Chk × Value, w.cell? (x.add (i * 2)) = some (.string (strOf q.1.1)) ∧ w.cell? (x.add (i * 2 + 1)) = some q.2 ∧ Bs w q.2 q.1.2 ∧ q.1.1.length ≤ 140737488351232 ∧ q.1.2.length ≤ 140737488351232 := by
      intro i hil
      obtain ⟨h0, h1, t0, t1⟩ := hi i (by omega)
      obtain ⟨s, e0, e0', _⟩ := DataW.trod_string Tryd.underlying9 t0
      simp only [List.cons.injEq, and_true] at e0
      rw [e0] at h0
      have mem : ∀ z ∈ DataW.weights Tryd.prog 26 (DataW.agg [D0 i, D1 i]), z ≤ reachBytes := fun z hz => hb z (by
        rw [hd]
        simp only [DataW.weights, ht]
        exact List.mem_cons_of_mem _ (List.mem_append_left _ (weightsAll_mem (List.mem_map.2 ⟨i, List.mem_range.2 hil, rfl⟩) _ hz)))
      have eq : DataW.weights Tryd.prog 26 (DataW.agg [D0 i, D1 i]) = DataW.weights Tryd.prog 9 (D0 i) ++ DataW.weights Tryd.prog 24 (D1 i) := by
        simp [DataW.weights, DataW.weightsEach, Tryd.underlying26]
      rw [eq] at mem
      obtain ⟨l, hbs, hll⟩ := bs_of_trod t1 (fun z hz => mem z (List.mem_append_right _ hz))
      have hs : s.data.toList.length ≤ reachBytes := mem _ (List.mem_append_left _ (by
        rw [(Prod.mk.inj e0').1]; simp [DataW.weights]))
      refine ⟨((s.data.toList, l), V1 i), by rw [strOf_list]; exact h0, h1, hbs, by unfold reachBytes at hs; simpa using hs, hll⟩
    obtain ⟨q, hq⟩ := Go.Deep.choose_lt key
    refine ⟨(List.range len).map fun i => (q i).1, ⟨some x, cap, by simp, fun i hi => ?_⟩, by simp; omega, fun c hc => ?_, fun c hc => ?_⟩
    · have hil : i < len := by simpa using hi
      obtain ⟨h0, h1, h2, _⟩ := hq i hil
      obtain ⟨b, off, sp⟩ := x
      have hsp : sp = none := by
        have := World.cell?_spot (hq 0 (by omega)).1
        simpa [Addr.add] using this
      subst hsp
      rw [add_at] at h0 h1
      refine ⟨b, off, (q i).2, rfl, by simpa using h0, by rw [← Nat.add_assoc] at h1; exact h1, by simpa using h2⟩
    · obtain ⟨i, hi, rfl⟩ := List.mem_map.1 hc
      exact (hq i (List.mem_range.1 hi)).2.2.2.1
    · obtain ⟨i, hi, rfl⟩ := List.mem_map.1 hc
      exact (hq i (List.mem_range.1 hi)).2.2.2.2
theorem open_chunks {a : Option Addr} {len cap : Nat} {d : DataW H} {p : List MemPlace} {ts : List TypeId} {ds : List (DataW H)} {j : Nat} (h : DataW.Trod enc Tryd.prog w base spare held 22 (.slice a len cap) d p)
    (hsz : (DataW.weightsEach Tryd.prog ts ds).all (· ≤ reachBytes) = true) (htj : ts[j]? = some 22) (hdj : ds[j]? = some d) :
    ∃ cs : List Chk, Cks w (.slice a len cap) cs ∧ cs.length ≤ 140737488351232 ∧ (∀ c ∈ cs, c.1.length ≤ 140737488351232) ∧ (∀ c ∈ cs, c.2.length ≤ 140737488351232) := by
  obtain ⟨fuel, hf⟩ := h
  simp only [Value.cells] at hf
  exact cks_of_trod hf (fun k hk => by
    have := List.all_eq_true.1 hsz _ (DataW.weights_mem_each htj hdj k hk)
    simpa using this)
end Go.Proofs.YtlgjjoglajgbeaaDoor
