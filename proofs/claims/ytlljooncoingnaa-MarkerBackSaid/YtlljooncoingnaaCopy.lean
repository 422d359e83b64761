/- The walks of burnishnum's Copy, Kept, Same. By an AI agent. -/
import Derived.Test.YtlljooncoingnaaProg
import Derived.Test.YtlljooncoingnaaLib
namespace Go.Proofs.Ytlljooncoingnaa
open Go.RowKit
set_option linter.unusedVariables false
set_option linter.unusedSimpArgs false

theorem tyB : ElemTy Try.prog 22 5 (.int .u8 0) 1 1 := elemTy Try.underlying22 (by kernel_rfl) rfl (by decide)

/-- A copy of bytes in a row of its own, with the two marks behind. -/
def Cp (w : World) (v : Value) (g : Nat) (l : List UInt8) : Prop :=
  v = .slice (some ⟨g, 0, none⟩) l.length (l.length + 2) ∧ w.heap[g]? = some (.cells (vBs l ++ [Value.int .u8 165, Value.int .u8 90]).toArray 5 (0, 0))

set_option maxHeartbeats 800000 in
theorem copy_any (v : Value) (l : List UInt8) (w : World) (hb : Bs w v l) (hlen : l.length ≤ 140737488351232) :
    Calls Try.prog 14 #[v] w fun e w' => ∃ v', e = .returned v' ∧ Cp w' v' w.heap.size l ∧ Below w.heap.size w w' ∧ w.heap.size < w'.heap.size := by
  obtain ⟨a0, c0, rfl⟩ := hb.len
  have HB := Lib.hid hb
  have HL := Lib.hid hlen
  have hl47 : (l.length : Int) ≤ 140737488351232 := by omega
  clear hb hlen
  go_enter Try.func14, Try.ntmps14
  go_wp2_with (at_make; refine stop ?_)
  refine unstop (wpList_mk0 tyB rfl _ _ rfl _ _ _ (l.length + 2) rfl rfl (by omega) (by omega) (by omega) ?_)
  intro w1 hown1 hb1 hz1
  have HO1 := Lib.hid hown1
  have HB1 := Lib.hid hb1
  have HZ1 := Lib.hid hz1
  clear hown1 hb1 hz1
  go_wp2_with (at_builtin; refine stop ?_)
  refine unstop (wpList_fit tyB rfl _ _ rfl w.heap.size w.heap.size 0 (l.length + 2) [] rfl HO1.out _ l.length (vBs l) rfl (SlN.old HB.out HB1.out) (vBs_one l) (by omega) ?_)
  intro w2 hown2 hg2
  have HB2 := Lib.hid (run_app_below (w0 := w) HO1.out hg2 HB1.out (Nat.le_refl _))
  have HO2 := Lib.hid hown2
  have HZ2 : Hid (w.heap.size < w2.heap.size) := Lib.hid (by have := hg2.size; have := HZ1.out; omega)
  clear hown2 hg2
  go_wp2_with (at_builtin; refine stop ?_)
  have h3 := HO2.out
  have e0 : (w2.alloc (.cells #[Value.int .u8 165, Value.int .u8 90] 5)).ownsRow w.heap.size 5 1 (.slice (some ⟨w.heap.size, 0, none⟩) l.length (l.length + 2)) l.length (vBs l) := by
    have := h3.alloc (.cells #[Value.int .u8 165, Value.int .u8 90] 5)
    simpa using this
  have B3 : Below w.heap.size w (w2.alloc (.cells #[Value.int .u8 165, Value.int .u8 90] 5)) := HB2.out.alloc (by have := HZ2.out; omega) _
  clear h3
  refine unstop (wpList_fit tyB rfl _ _ rfl w.heap.size w.heap.size l.length (l.length + 2) (vBs l) rfl e0 _ 2 [.int .u8 165, .int .u8 90] rfl (sl_lit w2 [.int .u8 165, .int .u8 90] _ 2 rfl (by omega)) (by intro u hu; simp at hu; rcases hu with rfl | rfl <;> rfl) (Nat.le_refl _) ?_)
  intro w3 hown3 hg3
  have HB4 := Lib.hid (run_app_below (w0 := w) e0 hg3 B3 (Nat.le_refl _))
  have HZ4 : Hid (w.heap.size < w3.heap.size) := Lib.hid (by have h5 := hg3.size; have h6 := HZ2.out; simp at h5; omega)
  have HO4 := Lib.hid (owns_full hown3)
  clear hown3 hg3 e0 B3
  go_wp2
  go_ret
  exact ⟨_, rfl, ⟨rfl, HO4.out⟩, HB4.out, HZ4.out⟩

theorem Cp.bs {w : World} {v : Value} {g : Nat} {l : List UInt8} (h : Cp w v g l) : Bs w v l := by
  obtain ⟨rfl, hg⟩ := h
  refine ⟨by simp [vBs], ?_⟩
  by_cases hn : l.length = 0
  · exact .inl ⟨_, _, by rw [hn], hn⟩
  · refine .inr ⟨g, 0, _, rfl, by omega, by omega, fun i u hu => ?_⟩
    rw [Nat.zero_add, cell_of_row w g i _ _ (0, 0) hg]
    have hi : i < (vBs l).length := (List.getElem?_eq_some_iff.1 hu).1
    simp only [List.getElem?_toArray]
    rw [List.getElem?_append_left hi]
    exact hu
theorem Cp.old {w w' : World} {v : Value} {g : Nat} {l : List UInt8} (h : Cp w v g l) (hb : Below w.heap.size w w') : Cp w' v g l :=
  ⟨h.1, by rw [hb.block g (Array.getElem?_eq_some_iff.1 h.2).1]; exact h.2⟩

set_option maxHeartbeats 800000 in
theorem kept_any (v v2 : Value) (g : Nat) (l : List UInt8) (w : World) (hc : Cp w v g l) (hb : Bs w v2 l) (hlen : l.length ≤ 140737488351232) :
    Calls Try.prog 17 #[v, v2] w fun e w' => e = .returned (.bool true) ∧ w = w' := by
  have s1 := run_str (P := Try.prog) w 22 5 9 Try.underlying22 Try.underlying5 Try.underlying9 hc.bs
  have s2 := run_str (P := Try.prog) w 22 5 9 Try.underlying22 Try.underlying5 Try.underlying9 hb
  obtain ⟨a0, c0, rfl⟩ := hb.len
  obtain ⟨rfl, hg⟩ := hc
  have c1 : w.cell? ⟨g, l.length, none⟩ = some (.int .u8 165) := by
    rw [cell_of_row w g l.length _ _ (0, 0) hg]; simp [vBs]
  have c2 : w.cell? ⟨g, l.length + 1, none⟩ = some (.int .u8 90) := by
    rw [cell_of_row w g (l.length + 1) _ _ (0, 0) hg]; simp [vBs]
  have hl47 : (l.length : Int) ≤ 140737488351232 := by omega
  clear hg hb hlen
  go_enter Try.func17, Try.ntmps17
  go_wp2
  go_ret
  exact ⟨rfl, rfl⟩

end Go.Proofs.Ytlljooncoingnaa
