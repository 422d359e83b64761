/- Own rows: what stays. By an AI agent. -/
import Derived.Test.YtlljooncoingnaaTakeO
import Derived.Test.YtlljooncoingnaaPre
import Derived.Test.YtlljooncoingnaaQO
import Derived.BigFrame
import Derived.RegionTactic
import Derived.ChangeAlike
import Derived.Handy
import Derived.Deep.Onto
namespace Go.Proofs.Ytlljooncoingnaa
open Go.RowKit Go.BigFrame
set_option linter.unusedVariables false
set_option linter.unusedSimpArgs false

theorem Bs.drop {w : World} {b off n cap : Nat} {l : List UInt8} (h : Bs w (.slice (some ⟨b, off, none⟩) n cap) l) (k : Nat) (hk : k ≤ l.length) : Bs w (.slice (some ⟨b, off + k, none⟩) (n - k) (cap - k)) (l.drop k) := by
  rcases h.2 with ⟨a', cap', hv, hn⟩ | ⟨b', off', cap', hv, hc, hn, hx⟩
  · simp only [Value.slice.injEq] at hv
    obtain ⟨_, rfl, _⟩ := hv
    have : l = [] := List.eq_nil_of_length_eq_zero hn
    subst this
    exact ⟨by simp [vBs], .inl ⟨some ⟨b, off + k, none⟩, cap - k, by simp, by simp⟩⟩
  · simp only [Value.slice.injEq, Option.some.injEq, Addr.mk.injEq, and_true] at hv
    obtain ⟨⟨rfl, rfl⟩, rfl, rfl⟩ := hv
    refine ⟨by simp [vBs], ?_⟩
    rw [List.length_drop]
    by_cases h0 : l.length - k = 0
    · exact .inl ⟨_, _, by rw [h0], h0⟩
    · refine .inr ⟨b, off + k, _, rfl, by omega, by omega, fun i u hu => ?_⟩
      rw [Nat.add_assoc]
      refine hx (k + i) u ?_
      simpa [vBs, List.getElem?_drop] using hu

theorem Bs.dropO {w : World} {a : Option Addr} {cap : Nat} {l : List UInt8} (h : Bs w (.slice a l.length cap) l) (n : Nat) (hn : n ≤ l.length) : Bs w (.slice (a.map (·.add n)) (l.length - n) (cap - n)) (l.drop n) := by
  rcases h.shape with ⟨a', c', hv, h0⟩ | ⟨b, off, c', hv, _⟩
  · subst h0
    simp only [List.length_nil, Nat.zero_sub, List.drop_nil]
    exact Bs.nil _ _ _
  · simp only [Value.slice.injEq] at hv
    obtain ⟨rfl, _, rfl⟩ := hv
    have := h.drop n hn
    simp only [Option.map_some, add_at]
    exact this
theorem grown_set {w w1 : World} (hb : Below w.heap.size w w1) (R i : Nat) (v : Value) : w.grownBy (w1.setCell ⟨R, i, none⟩ v) (some R) :=
  ⟨hb.os, hb.tape, hb.output, by simpa using hb.size, fun k hk hne => by
    rw [Go.Deep.blk_setCell_other _ _ _ _ (fun e => hne (by simp only at e; rw [e]))]; exact hb.block k hk⟩
theorem owns_low {w w' : World} {base : Nat} {e : TypeId} {size : Nat} {v : Value} {n : Nat} {xs : List Value} (h : w.ownsRow base e size v n xs) {R : Nat} (hg : w.grownBy w' (some R)) (hR : R < base) : w'.ownsRow base e size v n xs :=
  h.kept hg (by
    cases hv : v.ownBlock with
    | none => exact .inl rfl
    | some k => right; have := (h.lt k hv).1; intro e; simp only [Option.some.injEq] at e; omega)
theorem named_str (v : Value) (nm : List UInt8) (w : World) (hb : Bs w v nm) : (convert 22 9 v).run Try.prog w = .ok (.string (strOf nm)) w :=
  run_str (P := Try.prog) w 22 5 9 Try.underlying22 Try.underlying5 Try.underlying9 hb
theorem owns_below {w w' : World} {base : Nat} {e : TypeId} {size : Nat} {v : Value} {n : Nat} {xs : List Value} (h : w.ownsRow base e size v n xs) (hb : Below w.heap.size w w') : w'.ownsRow base e size v n xs := by
  refine h.kept (row := none) ⟨hb.os, hb.tape, hb.output, hb.size, fun b hl _ => hb.block b hl⟩ ?_
  cases hv : v.ownBlock with
  | none => exact .inl rfl
  | some k => exact .inr (by simp)
theorem owns_len {w : World} {base : Nat} {e : TypeId} {size : Nat} {v : Value} {n : Nat} {xs : List Value} (h : w.ownsRow base e size v n xs) : ∃ a c, v = .slice a n c := by
  rcases h.2 with ⟨rfl, rfl⟩ | ⟨g, cap, cur, rfl, _⟩
  · exact ⟨_, _, rfl⟩
  · exact ⟨_, _, rfl⟩
theorem heap_low {w w' : World} {B : Nat} {o : Obj} (h : w.heap[B]? = some o) (hb : Below w.heap.size w w') : w'.heap[B]? = some o := by
  rw [hb.block B (Array.getElem?_eq_some_iff.1 h).1]; exact h
theorem grown_heap {w w' : World} {R B : Nat} {o : Obj} (hg : w.grownBy w' (some R)) (h : w.heap[B]? = some o) (hne : B ≠ R) : w'.heap[B]? = some o := by
  rw [hg.block B (Array.getElem?_eq_some_iff.1 h).1 (fun e => hne (Option.some.inj e))]; exact h
theorem rd_below {w0 w w' : World} {R : Nat} (h : Below w0.heap.size w0 w) (hg : w.grownBy w' (some R)) (hR : w0.heap.size ≤ R) : Below w0.heap.size w0 w' :=
  h.grown hg h.size fun k hk => by simp only [Option.some.injEq] at hk; omega
theorem grown_trans {w w' w'' : World} {R : Nat} (h : w.grownBy w' (some R)) (k : w'.grownBy w'' (some R)) : w.grownBy w'' (some R) :=
  ⟨k.os.trans h.os, k.tape.trans h.tape, k.output.trans h.output, Nat.le_trans h.size k.size, fun b hb hne => (k.block b (Nat.lt_of_lt_of_le hb h.size) hne).trans (h.block b hb hne)⟩
theorem grown_below {w w' w'' : World} {R : Nat} (h : w.grownBy w' (some R)) (k : Below w'.heap.size w' w'') : w.grownBy w'' (some R) :=
  ⟨k.os.trans h.os, k.tape.trans h.tape, k.output.trans h.output, Nat.le_trans h.size k.size, fun b hb hne => (k.block b (Nat.lt_of_lt_of_le hb h.size)).trans (h.block b hb hne)⟩
theorem bss_two {w : World} {g : Nat} {v u : Value} {t : TypeId} {fr : Nat × Nat} {l m : List UInt8} (h : w.heap[g]? = some (.cells #[v, u] t fr)) (hb : Bs w v l) (hc : Bs w u m) : Bss w (.slice (some ⟨g, 0, none⟩) 2 2) [l, m] :=
  bss_heap [l, m] h rfl (Nat.le_refl _) rfl fun i hi => by
    match i, hi with
    | 0, _ => exact ⟨v, rfl, hb⟩
    | 1, _ => exact ⟨u, rfl, hc⟩
theorem alloc_grown (w : World) (o : Obj) (R : Nat) : w.grownBy (w.alloc o) (some R) :=
  ⟨rfl, rfl, rfl, by simp, fun b hb _ => ((Below.refl _ w).alloc (Nat.le_refl _) o).block b hb⟩
theorem grown_new {w w' : World} {R B i : Nat} {v : Value} (h : w.grownBy w' (some R)) (hB : w.heap.size ≤ B) : w.grownBy (w'.setCell ⟨B, i, none⟩ v) (some R) :=
  ⟨h.os, h.tape, h.output, by simpa using h.size, fun k hk hne => by
    rw [Go.Deep.blk_setCell_other _ _ _ _ (by simp only; omega)]; exact h.block k hk hne⟩
theorem own_lt_old {w w' : World} {base : Nat} {e : TypeId} {size : Nat} {v : Value} {n : Nat} {xs : List Value} {R : Nat} (h : w.ownsRow base e size v n xs) (hg : w.grownBy w' (some R)) : ∀ k, v.ownBlock = some k → k < w'.heap.size := fun k hk => Nat.lt_of_lt_of_le (h.lt k hk).2 hg.size
theorem own_ne {w : World} {b1 b2 : Nat} {e1 e2 : TypeId} {s1 s2 : Nat} {v1 v2 : Value} {n1 n2 : Nat} {xs1 xs2 : List Value} (h1 : w.ownsRow b1 e1 s1 v1 n1 xs1) (h2 : w.ownsRow b2 e2 s2 v2 n2 xs2) (he : e1 ≠ e2) : v1.ownBlock = none ∨ v1.ownBlock ≠ v2.ownBlock := by
  rcases h1.2 with ⟨rfl, _⟩ | ⟨g, cap, cur, rfl, _, hg, _⟩
  · exact .inl rfl
  rcases h2.2 with ⟨rfl, _⟩ | ⟨g', cap', cur', rfl, _, hg', _⟩
  · right; simp [Value.ownBlock]
  right
  intro e
  simp only [Value.ownBlock, Option.some.injEq] at e
  subst e
  rw [hg] at hg'
  simp only [Option.some.injEq, Obj.cells.injEq] at hg'
  exact he hg'.2.1
end Go.Proofs.Ytlljooncoingnaa
