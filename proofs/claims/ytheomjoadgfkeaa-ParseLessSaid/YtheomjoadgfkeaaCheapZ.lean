/- parse.Cheapest of an empty text, and at prices that aren't good. By an AI agent. -/
import Derived.Test.YtheomjoadgfkeaaCheapW
import Derived.Test.YtheomjoadgfkeaaErr
namespace Go.Proofs.Ytheomjoadgfkeaa
open Go.RowKit Go.Shelf
set_option linter.unusedVariables false
set_option linter.unusedSimpArgs false
attribute [local go_sem] Oper.semAt_some

set_option maxRecDepth 100000 in
set_option maxHeartbeats 8000000 in
theorem cheap_nil (tv u v x : Value) (a b c : List Int) (w : World) (hb : Bs w tv []) (hu : Ns w u a) (hv : Ns w v b) (hx : Ns w x c) (hg : goodP a b c = true) :
    Calls Try.prog 27 #[tv, .agg #[u, v, x]] w fun e w' => e = .returned (.tuple #[.slice none 0 0, .nilIface]) ∧ Below w.heap.size w w' := by
  obtain ⟨la, lb, lc, _⟩ := goodP_lens hg
  obtain ⟨w1, hw1⟩ : ∃ w1, w1 = w.alloc (.cells #[u, v, x] 38) := ⟨_, rfl⟩
  have hw : Below w.heap.size w w1 := by rw [hw1]; exact (Below.refl _ _).alloc (Nat.le_refl _) _
  have hp1 : w1.heap[w.heap.size]? = some (.cells #[u, v, x] 38 (0, 0)) := by rw [hw1]; exact heap_alloc_new _ _
  have k0 : w1.cell? ⟨w.heap.size, 0, none⟩ = some u := by rw [cell_of_row _ w.heap.size 0 _ _ (0, 0) hp1]; rfl
  have k1 : w1.cell? ⟨w.heap.size, 1, none⟩ = some v := by rw [cell_of_row _ w.heap.size 1 _ _ (0, 0) hp1]; rfl
  have k2 : w1.cell? ⟨w.heap.size, 2, none⟩ = some x := by rw [cell_of_row _ w.heap.size 2 _ _ (0, 0) hp1]; rfl
  have S := Lib.hid (sound_any u v x a b c w1 (hu.old hw) (hv.old hw) (hx.old hw) (by omega) (by omega) (by omega))
  have HW := Lib.hid hw
  have HB1 := Lib.hid (hb.old hw)
  have HG := Lib.hid hg
  obtain ⟨av, cap, rfl⟩ := hb.len
  clear hw hb hu hv hx hg hp1
  refine (callsIn_wide (n := 8)).1 ?_
  refine callsIn_of_wp_marks Try.func27 rfl trivial ?_ rfl
  simp only [Try.ntmps27, List.size_toArray, List.length_cons, List.length_nil, Nat.reduceAdd, Nat.reduceSub, Array.replicate_succ, Array.replicate_zero, List.push_toArray, List.append_toArray, List.nil_append, List.cons_append]
  refine wpIn_wide.2 ?_
  subst hw1
  go_wp2_with fail
  refine S.out.mono ?_
  rintro e w2 ⟨rfl, hb2⟩
  rw [HG.out]
  have HB2 := Lib.hid (HB1.out.old hb2)
  have HW2 := Lib.hid (HW.out.trans (hb2.mono (by simp)))
  clear hb2 k0 k1 k2
  go_wp2_with fail
  refine (newFinder_any _ [] w2 HB2.out (by simp)).mono ?_
  rintro e w3 ⟨f, rfl, hF, hb3⟩
  have HW3 := Lib.hid (HW2.out.trans (hb3.mono HW2.out.size))
  obtain ⟨O, M1, hr⟩ := mkWays 1 (by omega)
  have M1' : ∀ w, (Instr.makeSlice 77 (.int .i64 1) (.int .i64 1)).run Try.prog w = .ok (.slice (some ⟨w.heap.size, 0, none⟩) 1 1) (w.alloc O) := M1
  clear hF hb3 hr M1
  go_wp2_with fail
  refine wp_loop_once ?_
  have HI1 : Hid ((Try.prog.info? 80).map (·.size) = some 1) := Lib.hid (by kernel_rfl)
  obtain ⟨w5, hw5⟩ : ∃ w5, w5 = (w3.alloc O).alloc (.cells #[.slice (some ⟨w3.heap.size, 0, none⟩) 1 1] 77) := ⟨_, rfl⟩
  rw [← hw5]
  have b5 : Below w3.heap.size w3 w5 := by rw [hw5]; exact ((Below.refl _ _).alloc (Nat.le_refl _) _).alloc (by simp) _
  have HW5 := Lib.hid (HW3.out.trans (b5.mono HW3.out.size))
  clear hw5 b5 M1'
  go_wp2_with (refine wpList_store_one rfl _ _ _ rfl w5.heap.size rfl (by rfl) _ _ (by exact heap_alloc_new _ _) HI1.out ?_; refine stop ?_)
  refine unstop ?_
  obtain ⟨w6, hw6⟩ : ∃ w6, w6 = (w5.alloc (.cells #[.nilFunc] 80)).setRow w5.heap.size #[.func (.func 44) #[] #[.pointer (some ⟨w.heap.size, 0, none⟩), .pointer (some ⟨w3.heap.size + 1, 0, none⟩)]] := ⟨_, rfl⟩
  rw [← hw6]
  have b6 : Below w5.heap.size w5 w6 := by rw [hw6]; exact below_setRow ((Below.refl _ _).alloc (Nat.le_refl _) _) (Nat.le_refl _) _
  have HW6 := Lib.hid (HW5.out.trans (b6.mono HW5.out.size))
  clear hw6 b6
  go_wp2_with fail
  refine wp_loop_once ?_
  go_wp2_with fail
  refine wp_loop_once ?_
  go_wp2_with fail
  refine (rev_nil w6).mono ?_
  rintro e w7 ⟨⟨rv, rfl⟩, hb7⟩
  have HW7 := Lib.hid (HW6.out.trans (hb7.mono HW6.out.size))
  clear hb7
  go_wp2_with fail
  exact ⟨.tuple #[.slice none 0 0, .nilIface], by simp [results, Try.f27, go_sem], rfl, HW7.out⟩
set_option maxRecDepth 100000 in
set_option maxHeartbeats 8000000 in
theorem cheap_bad (tv u v x : Value) (a b c : List Int) (w : World) (hu : Ns w u a) (hv : Ns w v b) (hx : Ns w x c) (ha : a.length ≤ 1000) (hbl : b.length ≤ 1000) (hcl : c.length ≤ 1000) (hg : goodP a b c = false) :
    Calls Try.prog 27 #[tv, .agg #[u, v, x]] w fun e w' => e = .returned (.tuple #[.slice none 0 0, errV 6]) ∧ Below w.heap.size w w' := by
  obtain ⟨w1, hw1⟩ : ∃ w1, w1 = w.alloc (.cells #[u, v, x] 38) := ⟨_, rfl⟩
  have hw : Below w.heap.size w w1 := by rw [hw1]; exact (Below.refl _ _).alloc (Nat.le_refl _) _
  have hp1 : w1.heap[w.heap.size]? = some (.cells #[u, v, x] 38 (0, 0)) := by rw [hw1]; exact heap_alloc_new _ _
  have k0 : w1.cell? ⟨w.heap.size, 0, none⟩ = some u := by rw [cell_of_row _ w.heap.size 0 _ _ (0, 0) hp1]; rfl
  have k1 : w1.cell? ⟨w.heap.size, 1, none⟩ = some v := by rw [cell_of_row _ w.heap.size 1 _ _ (0, 0) hp1]; rfl
  have k2 : w1.cell? ⟨w.heap.size, 2, none⟩ = some x := by rw [cell_of_row _ w.heap.size 2 _ _ (0, 0) hp1]; rfl
  have S := Lib.hid (sound_any u v x a b c w1 (hu.old hw) (hv.old hw) (hx.old hw) ha hbl hcl)
  have HW := Lib.hid hw
  have HG := Lib.hid hg
  clear hw hu hv hx hg hp1
  refine (callsIn_wide (n := 8)).1 ?_
  refine callsIn_of_wp_marks Try.func27 rfl trivial ?_ rfl
  simp only [Try.ntmps27, List.size_toArray, List.length_cons, List.length_nil, Nat.reduceAdd, Nat.reduceSub, Array.replicate_succ, Array.replicate_zero, List.push_toArray, List.append_toArray, List.nil_append, List.cons_append]
  refine wpIn_wide.2 ?_
  subst hw1
  go_wp2_with fail
  refine S.out.mono ?_
  rintro e w2 ⟨rfl, hb2⟩
  rw [HG.out]
  have HW2 := Lib.hid (HW.out.trans (hb2.mono (by simp)))
  clear hb2 k0 k1 k2
  go_wp2_with fail
  exact ⟨.tuple #[.slice none 0 0, errV 6], by simp [results, Try.f27, go_sem, errV], rfl, HW2.out⟩
/-- parse.Cheapest -/
theorem cheapest_any (tv u v x : Value) (l : List UInt8) (a b c : List Int) (w : World) (hb : Bs w tv l) (hl : l.length ≤ 1000000) (hu : Ns w u a) (hv : Ns w v b) (hx : Ns w x c) (ha : a.length ≤ 1000) (hbl : b.length ≤ 1000) (hcl : c.length ≤ 1000) :
    Calls Try.prog 27 #[tv, .agg #[u, v, x]] w fun e w' => Below w.heap.size w w' ∧ ((goodP a b c = true ∧ ∃ rv, e = .returned (.tuple #[rv, .nilIface]) ∧ Tk w' rv ((cheapL (costN a b c) l).map (fun t => ((t.1 : Int), (t.2 : Int))))) ∨ (goodP a b c = false ∧ e = .returned (.tuple #[.slice none 0 0, errV 6]))) := by
  cases hg : goodP a b c with
  | false => exact (cheap_bad tv u v x a b c w hu hv hx ha hbl hcl hg).mono fun e w' h => ⟨h.2, .inr ⟨rfl, h.1⟩⟩
  | true =>
    by_cases hne : l = []
    · subst hne
      exact (cheap_nil tv u v x a b c w hb hu hv hx hg).mono fun e w' h => ⟨h.2, .inl ⟨rfl, _, h.1, none, 0, rfl, fun i hi => absurd hi (Nat.not_lt_zero i)⟩⟩
    · exact (cheap_good tv u v x l a b c w hne hb hl hu hv hx hg).mono fun e w' ⟨rv, h1, h2, h3⟩ => ⟨h3, .inl ⟨rfl, rv, h1, h2⟩⟩
end Go.Proofs.Ytheomjoadgfkeaa
