/- The walk of burnishnum.CopyInts; a copy is kept. By an AI agent. -/
import Derived.Test.YtheomjoadgfkeaaWithin
namespace Go.Proofs.Ytheomjoadgfkeaa
open Go.RowKit
set_option linter.unusedVariables false
set_option linter.unusedSimpArgs false

theorem tyIC : ElemTy Try.prog 23 3 (.int .i64 0) 1 8 := elemTy Try.underlying23 (by kernel_rfl) rfl (by decide)

/-- A copy of numbers in a row of its own, with the mark behind. -/
def CpI (w : World) (v : Value) (g : Nat) (l : List Int) : Prop :=
  v = .slice (some ⟨g, 0, none⟩) l.length (l.length + 1) ∧ w.heap[g]? = some (.cells (vIs l ++ [Value.int .i64 (-77)]).toArray 3 (0, 0))

set_option maxHeartbeats 800000 in
theorem copyInts_any (v : Value) (l : List Int) (w : World) (hb : Ns w v l) (hlen : l.length ≤ 1000) :
    Calls Try.prog 37 #[v] w fun e w' => ∃ v', e = .returned v' ∧ CpI w' v' w.heap.size l ∧ Below w.heap.size w w' ∧ w.heap.size < w'.heap.size := by
  obtain ⟨a0, c0, rfl⟩ := hb.len
  have HB := Lib.hid hb
  have HL := Lib.hid hlen
  have hl47 : (l.length : Int) ≤ 1000 := by omega
  clear hb hlen
  go_enter Try.func37, Try.ntmps37
  go_wp2_with (at_make; refine stop ?_)
  refine unstop (wpList_mk0 tyIC rfl _ _ rfl _ _ _ (l.length + 1) rfl rfl (by omega) (by omega) (by omega) ?_)
  intro w1 hown1 hb1 hz1
  have HO1 := Lib.hid hown1
  have HB1 := Lib.hid hb1
  have HZ1 := Lib.hid hz1
  clear hown1 hb1 hz1
  go_wp2_with (at_builtin; refine stop ?_)
  refine unstop (wpList_fit tyIC rfl _ _ rfl w.heap.size w.heap.size 0 (l.length + 1) [] rfl HO1.out _ l.length (vIs l) rfl (SlN.old HB.out HB1.out) (vIs_one l) (by omega) ?_)
  intro w2 hown2 hg2
  have HB2 := Lib.hid (run_app_below (w0 := w) HO1.out hg2 HB1.out (Nat.le_refl _))
  have HO2 := Lib.hid hown2
  have HZ2 : Hid (w.heap.size < w2.heap.size) := Lib.hid (by have := hg2.size; have := HZ1.out; omega)
  clear hown2 hg2
  go_wp2_with (at_builtin; refine stop ?_)
  have h3 := HO2.out
  have e0 : (w2.alloc (.cells #[Value.int .i64 (-77)] 3)).ownsRow w.heap.size 3 1 (.slice (some ⟨w.heap.size, 0, none⟩) l.length (l.length + 1)) l.length (vIs l) := by
    have := h3.alloc (.cells #[Value.int .i64 (-77)] 3)
    simpa using this
  have B3 : Below w.heap.size w (w2.alloc (.cells #[Value.int .i64 (-77)] 3)) := HB2.out.alloc (by have := HZ2.out; omega) _
  clear h3
  refine unstop (wpList_fit tyIC rfl _ _ rfl w.heap.size w.heap.size l.length (l.length + 1) (vIs l) rfl e0 _ 1 [.int .i64 (-77)] rfl (sl_lit w2 [.int .i64 (-77)] _ 1 rfl (by omega)) (by intro u hu; simp at hu; subst hu; rfl) (Nat.le_refl _) ?_)
  intro w3 hown3 hg3
  have HB4 := Lib.hid (run_app_below (w0 := w) e0 hg3 B3 (Nat.le_refl _))
  have HZ4 : Hid (w.heap.size < w3.heap.size) := Lib.hid (by have h5 := hg3.size; have h6 := HZ2.out; simp at h5; omega)
  have HO4 := Lib.hid (owns_full hown3)
  clear hown3 hg3 e0 B3
  go_wp2
  go_ret
  exact ⟨_, rfl, ⟨rfl, HO4.out⟩, HB4.out, HZ4.out⟩

theorem CpI.ns {w : World} {v : Value} {g : Nat} {l : List Int} (h : CpI w v g l) : Ns w v l := by
  obtain ⟨rfl, hg⟩ := h
  refine ⟨by simp [vIs], ?_⟩
  by_cases hn : l.length = 0
  · exact .inl ⟨_, _, by rw [hn], hn⟩
  · refine .inr ⟨g, 0, _, rfl, by omega, by omega, fun i u hu => ?_⟩
    rw [Nat.zero_add, cell_of_row w g i _ _ (0, 0) hg]
    have hi : i < (vIs l).length := (List.getElem?_eq_some_iff.1 hu).1
    simp only [List.getElem?_toArray]
    rw [List.getElem?_append_left hi]
    exact hu
theorem CpI.old {w w' : World} {v : Value} {g : Nat} {l : List Int} (h : CpI w v g l) (hb : Below w.heap.size w w') : CpI w' v g l :=
  ⟨h.1, by rw [hb.block g (Array.getElem?_eq_some_iff.1 h.2).1]; exact h.2⟩

theorem keptInts_copy (v v2 : Value) (g : Nat) (l : List Int) (w : World) (hc : CpI w v g l) (hb2 : Ns w v2 l) (hl : l.length ≤ 1000) :
    Calls Try.prog 39 #[v, v2] w fun e w' => e = .returned (.bool true) ∧ ∃ q, w' = w.drewN q := by
  have h := keptInts_any v v2 l l w _ _ _ hc.1 hc.ns hb2 (by omega) (by omega) (fun _ => ⟨by omega, by omega, g, 0, rfl, by
    rw [Nat.zero_add, cell_of_row w g l.length _ _ (0, 0) hc.2]; simp [vIs]⟩)
  rw [decide_eq_true rfl] at h
  exact h
end Go.Proofs.Ytheomjoadgfkeaa
