/- Counts of names, kept in a map from strings to ints that the call has made. By an AI agent. -/
import Derived.Test.YtlgjjoglajgbeaaDoorProg
import Derived.Test.YtlgjjoglajgbeaaDoorLib
import Derived.Maps.OwnSet
import Derived.Maps.OwnOps
import Derived.Maps.Views
import Derived.MapViews
import Derived.StringKeys
namespace Go.Proofs.YtlgjjoglajgbeaaDoor
open Go.RowKit Go.Maps
set_option linter.unusedVariables false
set_option linter.unusedSimpArgs false
set_option maxRecDepth 100000

theorem lawS : Keyed Tryd.prog 9 := string_keyed Tryd.underlying9
theorem zeroS (w : World) : (zeroValue 3).run Tryd.prog w = .ok (.int .i64 0) w := by kernel_rfl
theorem litS_inj {a b : List UInt8} (h : (Lit.string a) = .string b) : a = b := by cases h; rfl
theorem keyS {nm : List UInt8} (h : nm.length ≤ 140737488351232) : keyOf Tryd.prog 9 (.string (strOf nm)) = some (.string nm) := by
  have := WideMaps.keyOf_string_mk (P := Tryd.prog) Tryd.underlying9 (s := strOf nm) (by rw [strOf_size]; unfold maxLen; omega)
  rw [this]
  simp [strOf]
/-- block b is a map that counts names -/
def CntM (w : World) (b : Nat) (f : List UInt8 → Nat) (n : Nat) : Prop :=
  ∃ D : DataW Unit, w.ownsMap Tryd.prog 9 (plainElem Tryd.prog 3) b n D ∧ IsMap D ∧ ∀ nm, D.atKey (.string nm) (.lit (.int .i64 0)) = .lit (.int .i64 (f nm : Nat))
theorem CntM.made (w : World) : CntM (w.alloc (.map #[] 0)) w.heap.size (fun _ => 0) 0 :=
  ⟨.map [], World.ownsMap_made _ _ _ _, isMap_empty, fun nm => rfl⟩
theorem CntM.same {w w' : World} {b : Nat} {f : List UInt8 → Nat} {n : Nat} (h : CntM w b f n) (e : w'.heap[b]? = w.heap[b]?) : CntM w' b f n :=
  let ⟨D, ⟨es, clock, h1, h2⟩, h3⟩ := h
  ⟨D, ⟨es, clock, e.trans h1, h2⟩, h3⟩
theorem CntM.lt {w : World} {b : Nat} {f : List UInt8 → Nat} {n : Nat} (h : CntM w b f n) : b < w.heap.size :=
  let ⟨D, ⟨es, clock, h1, h2⟩, h3⟩ := h
  (Array.getElem?_eq_some_iff.1 h1).1
theorem CntM.old {w w' : World} {b : Nat} {f : List UInt8 → Nat} {n : Nat} (h : CntM w b f n) (hb : Below w.heap.size w w') : CntM w' b f n := h.same (hb.block b h.lt)
theorem CntM.look {w : World} {b : Nat} {f : List UInt8 → Nat} {n : Nat} (h : CntM w b f n) (nm : List UInt8) (hl : nm.length ≤ 140737488351232) :
    (Instr.lookup 45 (.map (some b)) (.string (strOf nm)) false).run Tryd.prog w = .ok (.int .i64 (f nm : Nat)) w := by
  obtain ⟨D, h1, h2, h3⟩ := h
  obtain ⟨c, hr, hat, _⟩ := h1.lookup_int lawS Tryd.underlying45 Tryd.underlying3 (zeroS w) (keyS hl)
  rw [h3 nm] at hat
  cases hat
  exact hr
theorem CntM.add {w : World} {b : Nat} {f : List UInt8 → Nat} {n : Nat} (h : CntM w b f n) (hn : n < 1000000) (nm : List UInt8) (hl : nm.length ≤ 140737488351232) (hf : f nm < 1000000) :
    ∃ w', (Instr.mapUpdate 45 (.map (some b)) (.string (strOf nm)) (.int .i64 ((f nm : Int) + 1))).run Tryd.prog w = .ok () w' ∧ CntM w' b (fun z => if z = nm then f z + 1 else f z) (n + 1) ∧ w.grownBy w' (some b) := by
  obtain ⟨D, h1, h2, h3⟩ := h
  obtain ⟨w', hr, h1', hg'⟩ := h1.update lawS Tryd.underlying45 (by unfold maxLen; omega) (keyS hl) (plainElem_int Tryd.underlying3 (a := (f nm : Int) + 1) (by simp [Lit.wf, IntKind.min, IntKind.max, IntKind.signed, IntKind.bits]; omega))
  refine ⟨w', hr, ⟨D.put (.string nm) (.lit (.int .i64 ((f nm : Int) + 1))), h1', h2.put _ _, fun z => ?_⟩, hg'⟩
  by_cases e : z = nm
  · subst e
    rw [atKey_put_same h2 (show WideAt.IsKeyLit (.string z) from trivial)]
    simp
  · rw [atKey_put_other (fun h => e (litS_inj h)), h3 z]
    simp [e]
end Go.Proofs.YtlgjjoglajgbeaaDoor
