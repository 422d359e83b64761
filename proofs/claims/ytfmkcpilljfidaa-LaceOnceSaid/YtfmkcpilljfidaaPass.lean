/- The walks of chapter 15. By an AI agent. -/
import Derived.Test.YtfmkcpilljfidaaProg
import Derived.Test.YtfmkcpilljfidaaLib
import Derived.Deep.QuietTactic
import Derived.BigQuiet
import Derived.Laws.Tables
namespace Go.Proofs.Ytfmkcpilljfidaa
open Go.RowKit
set_option linter.unusedVariables false
set_option linter.unusedSimpArgs false

def tab : List (List Nat) := [[0,5,3,5,1,5,3,5],[6,6,6,6,6,6,6,6],[4,5,4,5,4,5,4,5],[6,6,6,6,6,6,6,6],[2,5,3,5,2,5,3,5],[6,6,6,6,6,6,6,6],[4,5,4,5,4,5,4,5],[6,6,6,6,6,6,6,6]]
def passOf (x y : Nat) : Nat := (tab.getD (y % 8) []).getD (x % 8) 0

set_option maxHeartbeats 800000 in
theorem pass_any (x y : Nat) (w : World) :
    Calls Try.prog 10 #[.int .i64 (x : Int), .int .i64 (y : Int)] w fun e w' => e = .returned (.int .i64 (passOf x y : Nat)) ∧ Below w.heap.size w w' := by
  have hx : x % 8 = 0 ∨ x % 8 = 1 ∨ x % 8 = 2 ∨ x % 8 = 3 ∨ x % 8 = 4 ∨ x % 8 = 5 ∨ x % 8 = 6 ∨ x % 8 = 7 := by omega
  have HX := Lib.hid hx
  have hx8 : (x : Int) % 8 < 8 := by omega
  clear hx
  rcases (by omega : y % 8 = 0 ∨ y % 8 = 1 ∨ y % 8 = 2 ∨ y % 8 = 3 ∨ y % 8 = 4 ∨ y % 8 = 5 ∨ y % 8 = 6 ∨ y % 8 = 7) with hn | hn | hn | hn | hn | hn | hn | hn
  · have hy : (y : Int) % 8 = 0 := by omega
    have HN := Lib.hid hn
    clear hn
    go_enter Try.func10, Try.ntmps10
    go_wp2
    go_ret
    refine ⟨ri ?_, (Below.refl _ _).alloc (Nat.le_refl _) _⟩
    unfold passOf
    rw [HN.out]
    have key : ∀ k (h : k < 8), wrap64 (wrap64 (((⟨#[48, 53, 51, 53, 49, 53, 51, 53]⟩ : ByteArray)[k]'h).toNat : Int) - 48) = (((tab.getD 0 []).getD k 0 : Nat) : Int) := by decide +kernel
    exact key (x % 8) (by omega)
  · have hy : (y : Int) % 8 = 1 := by omega
    have HN := Lib.hid hn
    clear hn
    go_enter Try.func10, Try.ntmps10
    go_wp2
    go_ret
    refine ⟨ri ?_, (Below.refl _ _).alloc (Nat.le_refl _) _⟩
    unfold passOf
    rw [HN.out]
    have key : ∀ k (h : k < 8), wrap64 (wrap64 (((⟨#[54, 54, 54, 54, 54, 54, 54, 54]⟩ : ByteArray)[k]'h).toNat : Int) - 48) = (((tab.getD 1 []).getD k 0 : Nat) : Int) := by decide +kernel
    exact key (x % 8) (by omega)
  · have hy : (y : Int) % 8 = 2 := by omega
    have HN := Lib.hid hn
    clear hn
    go_enter Try.func10, Try.ntmps10
    go_wp2
    go_ret
    refine ⟨ri ?_, (Below.refl _ _).alloc (Nat.le_refl _) _⟩
    unfold passOf
    rw [HN.out]
    have key : ∀ k (h : k < 8), wrap64 (wrap64 (((⟨#[52, 53, 52, 53, 52, 53, 52, 53]⟩ : ByteArray)[k]'h).toNat : Int) - 48) = (((tab.getD 2 []).getD k 0 : Nat) : Int) := by decide +kernel
    exact key (x % 8) (by omega)
  · have hy : (y : Int) % 8 = 3 := by omega
    have HN := Lib.hid hn
    clear hn
    go_enter Try.func10, Try.ntmps10
    go_wp2
    go_ret
    refine ⟨ri ?_, (Below.refl _ _).alloc (Nat.le_refl _) _⟩
    unfold passOf
    rw [HN.out]
    have key : ∀ k (h : k < 8), wrap64 (wrap64 (((⟨#[54, 54, 54, 54, 54, 54, 54, 54]⟩ : ByteArray)[k]'h).toNat : Int) - 48) = (((tab.getD 3 []).getD k 0 : Nat) : Int) := by decide +kernel
    exact key (x % 8) (by omega)
  · have hy : (y : Int) % 8 = 4 := by omega
    have HN := Lib.hid hn
    clear hn
    go_enter Try.func10, Try.ntmps10
    go_wp2
    go_ret
    refine ⟨ri ?_, (Below.refl _ _).alloc (Nat.le_refl _) _⟩
    unfold passOf
    rw [HN.out]
    have key : ∀ k (h : k < 8), wrap64 (wrap64 (((⟨#[50, 53, 51, 53, 50, 53, 51, 53]⟩ : ByteArray)[k]'h).toNat : Int) - 48) = (((tab.getD 4 []).getD k 0 : Nat) : Int) := by decide +kernel
    exact key (x % 8) (by omega)
  · have hy : (y : Int) % 8 = 5 := by omega
    have HN := Lib.hid hn
    clear hn
    go_enter Try.func10, Try.ntmps10
    go_wp2
    go_ret
    refine ⟨ri ?_, (Below.refl _ _).alloc (Nat.le_refl _) _⟩
    unfold passOf
    rw [HN.out]
    have key : ∀ k (h : k < 8), wrap64 (wrap64 (((⟨#[54, 54, 54, 54, 54, 54, 54, 54]⟩ : ByteArray)[k]'h).toNat : Int) - 48) = (((tab.getD 5 []).getD k 0 : Nat) : Int) := by decide +kernel
    exact key (x % 8) (by omega)
  · have hy : (y : Int) % 8 = 6 := by omega
    have HN := Lib.hid hn
    clear hn
    go_enter Try.func10, Try.ntmps10
    go_wp2
    go_ret
    refine ⟨ri ?_, (Below.refl _ _).alloc (Nat.le_refl _) _⟩
    unfold passOf
    rw [HN.out]
    have key : ∀ k (h : k < 8), wrap64 (wrap64 (((⟨#[52, 53, 52, 53, 52, 53, 52, 53]⟩ : ByteArray)[k]'h).toNat : Int) - 48) = (((tab.getD 6 []).getD k 0 : Nat) : Int) := by decide +kernel
    exact key (x % 8) (by omega)
  · have hy : (y : Int) % 8 = 7 := by omega
    have HN := Lib.hid hn
    clear hn
    go_enter Try.func10, Try.ntmps10
    go_wp2
    go_ret
    refine ⟨ri ?_, (Below.refl _ _).alloc (Nat.le_refl _) _⟩
    unfold passOf
    rw [HN.out]
    have key : ∀ k (h : k < 8), wrap64 (wrap64 (((⟨#[54, 54, 54, 54, 54, 54, 54, 54]⟩ : ByteArray)[k]'h).toNat : Int) - 48) = (((tab.getD 7 []).getD k 0 : Nat) : Int) := by decide +kernel
    exact key (x % 8) (by omega)
end Go.Proofs.Ytfmkcpilljfidaa
