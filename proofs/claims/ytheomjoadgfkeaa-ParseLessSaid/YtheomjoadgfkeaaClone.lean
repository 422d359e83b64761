/- The walk of slices.Clone. By an AI agent. -/
import Derived.Test.YtheomjoadgfkeaaCopy
namespace Go.Proofs.Ytheomjoadgfkeaa
open Go.RowKit
set_option linter.unusedVariables false
set_option linter.unusedSimpArgs false

theorem nil_yes (cap : Nat) (w : World) : (binOp .eql 48 (.slice none 0 cap) (.slice none 0 0)).run Try.prog w = .ok (.bool true) w := by kernel_rfl
theorem nil_no (a : Addr) (n cap : Nat) (w : World) : (binOp .eql 48 (.slice (some a) n cap) (.slice none 0 0)).run Try.prog w = .ok (.bool false) w := by kernel_rfl

set_option maxHeartbeats 800000 in
theorem clone_any (v : Value) (l : List UInt8) (w : World) (hb : Bs w v l) (hl : l.length ≤ 140737488351232) :
    Calls Try.prog 54 #[v] w fun e w' => ∃ v', e = .returned v' ∧ Bs w' v' l ∧ Below w.heap.size w w' := by
  obtain ⟨a, cap, rfl⟩ := hb.len
  have HB := Lib.hid hb
  have HL := Lib.hid hl
  clear hb hl
  cases a with
  | none =>
    have hn : l = [] := by
      rcases HB.out.shape with ⟨a, cap', h, h2⟩ | ⟨b, off, cap', h, _⟩
      · exact h2
      · simp at h
    subst hn
    go_enter Try.func54, Try.ntmps54
    have ne := nil_yes cap
    go_wp2_with fail
    go_ret
    exact ⟨_, rfl, Bs.nil _ _ _, Below.refl _ _⟩
  | some a =>
    have ne := nil_no a l.length cap
    go_enter Try.func54, Try.ntmps54
    go_wp2_with (at_builtin; refine stop ?_)
    have hb0 : Below w.heap.size w (w.alloc (.cells #[] 5)) := (Below.refl _ _).alloc (Nat.le_refl _) _
    refine unstop (wpList_app tyB rfl _ _ rfl w.heap.size _ 0 [] rfl (own0 w _) _ l.length (vBs l) rfl (SlN.old HB.out hb0) (vBs_one l) (by have := HL.out; omega) (by have := HL.out; omega) (by simp) ?_)
    intro v1 w1 hown1 hg1 _
    have HB1 := Lib.hid (run_app_below (own0 w _) hg1 hb0 (Nat.le_refl _))
    have HO1 : Hid (Bs w1 v1 l) := Lib.hid (by have := sl_of_owns hown1; rw [List.nil_append] at this; simpa [Bs] using this)
    clear hb0 hown1 hg1
    go_wp2_with fail
    go_ret
    exact ⟨_, rfl, HO1.out, HB1.out⟩

set_option maxHeartbeats 800000 in
theorem clone_own (v : Value) (l : List UInt8) (w : World) (hb : Bs w v l) (hl : l.length ≤ 140737488351232) :
    Calls Try.prog 54 #[v] w fun e w' => ∃ v', e = .returned v' ∧ w'.ownsRow w.heap.size 5 1 v' l.length (vBs l) ∧ Below w.heap.size w w' := by
  obtain ⟨a, cap, rfl⟩ := hb.len
  have HB := Lib.hid hb
  have HL := Lib.hid hl
  clear hb hl
  cases a with
  | none =>
    have hn : l = [] := by
      rcases HB.out.shape with ⟨a, cap', h, h2⟩ | ⟨b, off, cap', h, _⟩
      · exact h2
      · simp at h
    subst hn
    go_enter Try.func54, Try.ntmps54
    have ne := nil_yes cap
    go_wp2_with fail
    go_ret
    exact ⟨_, rfl, ⟨rfl, .inl ⟨rfl, rfl⟩⟩, Below.refl _ _⟩
  | some a =>
    have ne := nil_no a l.length cap
    go_enter Try.func54, Try.ntmps54
    go_wp2_with (at_builtin; refine stop ?_)
    have hb0 : Below w.heap.size w (w.alloc (.cells #[] 5)) := (Below.refl _ _).alloc (Nat.le_refl _) _
    refine unstop (wpList_app tyB rfl _ _ rfl w.heap.size _ 0 [] rfl (own0 w _) _ l.length (vBs l) rfl (SlN.old HB.out hb0) (vBs_one l) (by have := HL.out; omega) (by have := HL.out; omega) (by simp) ?_)
    intro v1 w1 hown1 hg1 _
    have HB1 := Lib.hid (run_app_below (own0 w _) hg1 hb0 (Nat.le_refl _))
    have HO1 : Hid (w1.ownsRow w.heap.size 5 1 v1 l.length (vBs l)) := Lib.hid (by have := hown1; rw [List.nil_append, Nat.zero_add] at this; exact this)
    clear hb0 hown1 hg1
    go_wp2_with fail
    go_ret
    exact ⟨_, rfl, HO1.out, HB1.out⟩

end Go.Proofs.Ytheomjoadgfkeaa
