/- Slices of ints that read as lists. By an AI agent. -/
import Derived.Test.YtnhalnjdlkdnkaaLib
namespace Go.Proofs.Ytnhalnjdlkdnkaa
open Go.RowKit

def vI (n : Int) : Value := .int .i64 n
def vIs (l : List Int) : List Value := l.map vI
theorem vIs_length (l : List Int) : (vIs l).length = l.length := by simp [vIs]
theorem vIs_append (a b : List Int) : vIs (a ++ b) = vIs a ++ vIs b := by simp [vIs]
theorem vIs_one (l : List Int) : ∀ u ∈ vIs l, u.oneCell' = true := by
  intro u hu
  simp only [vIs, List.mem_map] at hu
  obtain ⟨c, _, rfl⟩ := hu
  rfl
/-- A slice of ints reads as the list. -/
def Ns (w : World) (v : Value) (l : List Int) : Prop := SlN 1 w v l.length (vIs l)
theorem Ns.old {w w' : World} {v : Value} {l : List Int} (h : Ns w v l) (hb : Below w.heap.size w w') : Ns w' v l := SlN.old h hb
theorem Ns.drewN {w : World} {v : Value} {l : List Int} (h : Ns w v l) (q : Nat) : Ns (w.drewN q) v l := h.old (below_drewN (Below.refl _ _) q)
theorem Ns.nil (w : World) (a : Option Addr) (cap : Nat) : Ns w (.slice a 0 cap) [] := ⟨rfl, .inl ⟨a, cap, rfl, rfl⟩⟩
theorem Ns.read {w : World} {v : Value} {l : List Int} (h : Ns w v l) :
    ∃ a cap, v = .slice a l.length cap ∧ ∀ i (h : i < l.length), ∃ b off, a = some ⟨b, off, none⟩ ∧ w.cell? ⟨b, off + i, none⟩ = some (.int .i64 l[i]) := by
  rcases h.2 with ⟨a, cap, hv, hn⟩ | ⟨b, off, cap, hv, hc, hn, hx⟩
  · have hl : l = [] := List.eq_nil_of_length_eq_zero hn
    subst hl
    exact ⟨a, cap, hv, fun i hi => absurd hi (Nat.not_lt_zero i)⟩
  · exact ⟨_, cap, hv, fun i hi => ⟨b, off, rfl, hx i _ (by simp [vIs, vI, hi])⟩⟩
theorem Ns.len {w : World} {v : Value} {l : List Int} (h : Ns w v l) : ∃ a cap, v = .slice a l.length cap := by
  obtain ⟨a, cap, hv, _⟩ := h.read
  exact ⟨a, cap, hv⟩
theorem ns_heap {w : World} {g cap n : Nat} {C : Array Value} {t : TypeId} {fr : Nat × Nat} (l : List Int) (h : w.heap[g]? = some (.cells C t fr)) (hl : C.toList = vIs l) (hn : n = l.length) (hc : n ≤ cap) : Ns w (.slice (some ⟨g, 0, none⟩) n cap) l := by
  have := sl_heap h (n := n) (cap := cap) (by rw [hn, ← vIs_length, ← hl]; simp) hc
  rw [hl, hn] at this
  rw [hn]
  exact this
end Go.Proofs.Ytnhalnjdlkdnkaa
