/- Slices of tokens that read as lists of pairs; a parameter of them opened. By an AI agent. -/
import Derived.Test.YtheomjoadgfkeaaProg
import Derived.Test.YtheomjoadgfkeaaInts
import Derived.WideShapes
import Derived.ChangeArms
import Derived.OpenShut
import Derived.SizedLaws
import Derived.Deep.SlicePairs
namespace Go.Proofs.Ytheomjoadgfkeaa
open Go.ChangeShapes Go.WideShapes Go.RowKit
set_option linter.unusedVariables false
set_option linter.unusedSimpArgs false

/-- A slice of pairs of ints reads as the list. -/
def Tk (w : World) (v : Value) (l : List (Int × Int)) : Prop :=
  ∃ a cap, v = .slice a l.length cap ∧ ∀ i (h : i < l.length), ∃ b off, a = some ⟨b, off, none⟩ ∧ w.cell? ⟨b, off + i * 2, none⟩ = some (.int .i64 l[i].1) ∧ w.cell? ⟨b, off + i * 2 + 1, none⟩ = some (.int .i64 l[i].2)
theorem Tk.old {w w' : World} {v : Value} {l : List (Int × Int)} (h : Tk w v l) (hb : Below w.heap.size w w') : Tk w' v l := by
  obtain ⟨a, cap, hv, hx⟩ := h
  exact ⟨a, cap, hv, fun i hi => let ⟨b, off, ha, h1, h2⟩ := hx i hi; ⟨b, off, ha, cell_old hb h1, cell_old hb h2⟩⟩
def In1 (z : Int) : Prop := -9223372036854775808 ≤ z ∧ z ≤ 9223372036854775807

variable {H : Type} {enc : TypeId × Value → H} {w : World} {base : Nat} {spare : Nat → Bool} {held : Bool}
theorem open_tokens {a : Option Addr} {len cap : Nat} {d : DataW H} {p : List MemPlace} {ts : List TypeId} {ds : List (DataW H)} {j : Nat} (h : DataW.Trod enc Try.prog w base spare held 22 (.slice a len cap) d p)
    (hsz : (DataW.weightsEach Try.prog ts ds).all (· ≤ reachBytes) = true) (htj : ts[j]? = some 22) (hdj : ds[j]? = some d) :
    ∃ l : List (Int × Int), Tk w (.slice a len cap) l ∧ l.length ≤ 140737488351232 ∧ ∀ t ∈ l, In1 t.1 ∧ In1 t.2 := by
  obtain ⟨fuel, hf⟩ := h
  have hti : Try.prog.underlying 3 = some (.int .i64) := Try.underlying3
  rcases Go.Deep.open_slice_pairs Try.underlying22 Try.underlying27 (by kernel_rfl) rfl rfl (by kernel_rfl) (by kernel_rfl) hf with ⟨hcs, _⟩ | ⟨x, n, c, m, k, V0, V1, D0, D1, P0, P1, hcs, _, hl, hm, hmm, hx, hi⟩
  · simp [Value.cells] at hcs
    obtain ⟨rfl, rfl, rfl⟩ := hcs
    exact ⟨[], ⟨none, 0, rfl, fun i hi => absurd hi (Nat.not_lt_zero i)⟩, by simp, by simp⟩
  · simp [Value.cells] at hcs
    obtain ⟨rfl, rfl, rfl⟩ := hcs
    have hlm : len ≤ m := by rw [hmm]; split <;> omega
    have hd := (Prod.mk.inj hx).1
    have hs := sized_slice hsz (e := 27) htj (by rw [hdj, hd]) Try.underlying22
    have hb16 : Try.prog.bytesOf 27 = 16 := by kernel_rfl
    rw [hb16] at hs
    simp only [List.length_map, List.length_range, reachBytes] at hs
    have key : ∀ i, i < len → ∃ q : Int × Int, w.cell? (x.add (i * 2)) = some (.int .i64 q.1) ∧ w.cell? (x.add (i * 2 + 1)) = some (.int .i64 q.2) ∧ In1 q.1 ∧ In1 q.2 := by
      intro i hil
      obtain ⟨h0, h1, t0, t1⟩ := hi i (by omega)
      obtain ⟨z0, e0, _, w0⟩ := DataW.trod_int hti t0
      obtain ⟨z1, e1, _, w1⟩ := DataW.trod_int hti t1
      simp only [List.cons.injEq, and_true] at e0 e1
      rw [e0] at h0
      rw [e1] at h1
      exact ⟨(z0, z1), h0, h1, by unfold In1; simpa [Lit.wf, IntKind.min, IntKind.max, IntKind.signed, IntKind.bits] using w0, by unfold In1; simpa [Lit.wf, IntKind.min, IntKind.max, IntKind.signed, IntKind.bits] using w1⟩
    obtain ⟨q, hq⟩ := Go.Deep.choose_lt key
    refine ⟨(List.range len).map q, ⟨some x, cap, by simp, fun i hi => ?_⟩, by simp; omega, fun t ht => ?_⟩
    · have hil : i < len := by simpa using hi
      obtain ⟨h0, h1, _, _⟩ := hq i hil
      obtain ⟨b, off, sp⟩ := x
      have hsp : sp = none := by
        have := World.cell?_spot (hq 0 (by omega)).1
        simpa [Addr.add] using this
      subst hsp
      rw [add_at] at h0 h1
      exact ⟨b, off, rfl, by simpa using h0, by rw [← Nat.add_assoc] at h1; simpa using h1⟩
    · obtain ⟨i, hi, rfl⟩ := List.mem_map.1 ht
      exact (hq i (List.mem_range.1 hi)).2.2
end Go.Proofs.Ytheomjoadgfkeaa
