/- Small words for loops over iterators. By an AI agent. -/
import Derived.RangeFuncNested
import Derived.RangeFuncBound
import Derived.RangeFuncCalls
import Derived.RangeFuncLeaves
import Derived.RangeFuncBox
import Derived.Test.YtnhalnjdlkdnkaaLib
namespace Go.Proofs.Ytnhalnjdlkdnkaa
open Go.RowKit
set_option linter.unusedVariables false
set_option linter.unusedSimpArgs false

theorem keepsFrom_below {B : Nat} {V X : World} (h : Below V.heap.size V X) : KeepsFrom B V X := ⟨h.size, fun k o _ hk _ => (h.block k (Array.getElem?_eq_some_iff.1 hk).1).trans hk⟩
theorem keepsFrom_set {B : Nat} (V : World) (a : Addr) (v : Value) : KeepsFrom B V (V.setCell a v) := (KeepsOthers.setCell _ _ _).from _
/-- a block of cells abides -/
theorem heap_own {β : Type} (b : Nat) (o : Obj) (ho : o.isCells = true) : Own (fun (_ : β) V => V.heap[b]? = some o) := fun s X Y row hs hg hr => by
  show Y.heap[b]? = some o
  rw [hg.block b (Array.getElem?_eq_some_iff.1 hs).1 (fun e => by obtain ⟨o', ho', hc⟩ := hr b e.symm; rw [hs] at ho'; cases ho'; rw [ho] at hc; cases hc)]
  exact hs
theorem ownFrom_size {β : Type} (B n : Nat) : OwnFrom B (fun (_ : β) V => n ≤ V.heap.size) := fun _ _ _ _ hs hg _ => Nat.le_trans hs hg.size
/-- a block below B abides, whatever it is -/
theorem ownFrom_low {β : Type} {B b : Nat} (hb : b < B) (o : Obj) : OwnFrom B (fun (_ : β) V => V.heap[b]? = some o) := fun s X Y row hs hg hr => by
  show Y.heap[b]? = some o
  rw [hg.block b (Array.getElem?_eq_some_iff.1 hs).1 (fun e => by have := (hr b e.symm).1; omega)]
  exact hs
theorem ownFrom_boxed {β : Type} (B b : Nat) (t : TypeId) (f : β → Value) : OwnFrom B (fun s V => Boxed V b t (f s)) := Own.from (boxed_own b t f) B
theorem slN_own {β : Type} (size : Nat) (v : Value) (n : Nat) (xs : List Value) : Own (fun (_ : β) V => SlN size V v n xs) := fun s X Y row hs hg hr => by
  refine ⟨hs.1, ?_⟩
  rcases hs.2 with h | ⟨b, off, cap, hv, hc, hn, hx⟩
  · exact .inl h
  · exact .inr ⟨b, off, cap, hv, hc, hn, fun i u hu => cell_kept (hx i u hu) hg hr⟩
/-- a store into a block that the slice does not lie in -/
theorem SlN.setOther {size : Nat} {w : World} {v : Value} {n : Nat} {xs : List Value} (h : SlN size w v n xs) {a : Addr} (u : Value) (hne : ∀ b off cap, v = .slice (some ⟨b, off, none⟩) n cap → b ≠ a.block) : SlN size (w.setCell a u) v n xs := by
  refine ⟨h.1, ?_⟩
  rcases h.2 with h | ⟨b, off, cap, hv, hc, hn, hx⟩
  · exact .inl h
  · exact .inr ⟨b, off, cap, hv, hc, hn, fun i q hq => by rw [World.cell?_of_block (Go.Deep.blk_setCell_other _ _ _ _ (hne b off cap hv))]; exact hx i q hq⟩
theorem SlN.low {size : Nat} {w : World} {v : Value} {n : Nat} {xs : List Value} (h : SlN size w v n xs) {b off cap : Nat} (hv : v = .slice (some ⟨b, off, none⟩) n cap) (hn : 0 < n) (hs : 0 < size) : b < w.heap.size := by
  rcases h.2 with ⟨a, c, hv', h0⟩ | ⟨b', off', c, hv', hc, hn', hx⟩
  · omega
  · rw [hv] at hv'
    simp only [Value.slice.injEq, Option.some.injEq, Addr.mk.injEq, and_true, true_and] at hv'
    obtain ⟨⟨rfl, rfl⟩, rfl⟩ := hv'
    have hl : 0 < xs.length := by rw [h.1]; exact Nat.mul_pos hn hs
    exact World.block_lt_of_cell? _ _ (hx 0 xs[0] (List.getElem?_eq_getElem hl))
theorem owns_below {w w' : World} {base : Nat} {e : TypeId} {size : Nat} {v : Value} {n : Nat} {xs : List Value} (h : w.ownsRow base e size v n xs) (hb : Below w.heap.size w w') : w'.ownsRow base e size v n xs := by
  refine ⟨h.1, ?_⟩
  rcases h.2 with h | ⟨g, cap, cur, hv, hg, hc, hr⟩
  · exact .inl h
  · refine .inr ⟨g, cap, cur, hv, hg, ?_, hr⟩
    rw [hb.block g (Array.getElem?_eq_some_iff.1 hc).1]
    exact hc
theorem boxed_below {V X : World} {b : Nat} {t : TypeId} {v : Value} (h : Boxed V b t v) (hb : Below V.heap.size V X) : Boxed X b t v := (hb.block b h.lt).trans h
theorem boxed_low {n : Nat} {V X : World} {b : Nat} {t : TypeId} {v : Value} (h : Boxed V b t v) (hb : Below n V X) (hn : b < n) : Boxed X b t v := (hb.block b hn).trans h
end Go.Proofs.Ytnhalnjdlkdnkaa
