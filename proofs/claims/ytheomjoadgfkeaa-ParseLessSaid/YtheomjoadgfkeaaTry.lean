/- parse.Cheapest's inner function. By an AI agent. -/
import Derived.Test.YtheomjoadgfkeaaCheap
import Derived.Test.YtheomjoadgfkeaaPrice
import Derived.Deep.MidRow
import Derived.Lib.LazyBuf
namespace Go.Proofs.Ytheomjoadgfkeaa
open Go.RowKit
set_option linter.unusedVariables false
set_option linter.unusedSimpArgs false

def wayN (x : Way) (i : Nat) : Int := if i = 0 then x.1 else if i = 1 then (x.2.1 : Int) else (x.2.2 : Int)
def wayV (W : Nat → Way) (i : Nat) : Value := .int .i64 (wayN (W (i / 3)) (i % 3))
abbrev WayR (V : World) (B m : Nat) (W : Nat → Way) : Prop := V.rowIs B 79 (3 * m) (wayV W)
theorem wayR0 {V : World} {B m : Nat} {W : Nat → Way} (h : WayR V B m W) {p : Nat} (hp : p < m) : V.cell? ⟨B, p * 3, none⟩ = some (.int .i64 (W p).1) := by
  rw [World.rowIs.cell h (by omega)]; unfold wayV; rw [show p * 3 / 3 = p by omega, show p * 3 % 3 = 0 by omega]; rfl
theorem wayR1 {V : World} {B m : Nat} {W : Nat → Way} (h : WayR V B m W) {p : Nat} (hp : p < m) : V.cell? ⟨B, p * 3 + 1, none⟩ = some (.int .i64 ((W p).2.1 : Int)) := by
  rw [World.rowIs.cell h (by omega)]; unfold wayV; rw [show (p * 3 + 1) / 3 = p by omega, show (p * 3 + 1) % 3 = 1 by omega]; rfl
theorem wayR2 {V : World} {B m : Nat} {W : Nat → Way} (h : WayR V B m W) {p : Nat} (hp : p < m) : V.cell? ⟨B, p * 3 + 2, none⟩ = some (.int .i64 ((W p).2.2 : Int)) := by
  rw [World.rowIs.cell h (by omega)]; unfold wayV; rw [show (p * 3 + 2) / 3 = p by omega, show (p * 3 + 2) % 3 = 2 by omega]; rfl
theorem wayR_set {V : World} {B m : Nat} {W : Nat → Way} (h : WayR V B m W) (p : Nat) (x : Way) : WayR (V.setCells B (p * 3) [.int .i64 x.1, .int .i64 (x.2.1 : Int), .int .i64 (x.2.2 : Int)]) B m (fun j => if j = p then x else W j) := by
  refine World.rowIs.congr (rowIs_setCells _ _ _ _ h) (fun i hi => ?_)
  simp only [List.length_cons, List.length_nil]
  unfold wayV
  by_cases e : i / 3 = p
  · rw [if_pos (by omega)]
    simp only [if_pos e]
    have h3 : i - p * 3 = i % 3 := by omega
    rw [h3]
    have : i % 3 = 0 ∨ i % 3 = 1 ∨ i % 3 = 2 := by omega
    rcases this with h | h | h <;> rw [h] <;> rfl
  · rw [if_neg (by omega)]
    simp only [if_neg e]

theorem grown_of_below {w w' : World} (h : Below w.heap.size w w') (row : Option Nat) : w.grownBy w' row := ⟨h.os, h.tape, h.output, h.size, fun k hk _ => h.block k hk⟩
theorem grownB_set {w w' : World} {B : Nat} (h : w.grownBy w' (some B)) (o : Nat) (v : Value) : w.grownBy (w'.setCell ⟨B, o, none⟩ v) (some B) :=
  ⟨h.os, h.tape, h.output, by simpa using h.size, fun k hk hne => by rw [Go.Deep.blk_setCell_other _ _ _ _ (by simp only; rintro rfl; exact hne rfl)]; exact h.block k hk hne⟩
theorem grown_setCells {w : World} {B : Nat} : ∀ (vs : List Value) (o : Nat) (w' : World), w.grownBy w' (some B) → w.grownBy (w'.setCells B o vs) (some B)
  | [], o, w', h => h
  | v :: vs, o, w', h => grown_setCells vs (o + 1) _ (grownB_set h o v)

def costN (a b c : List Int) (t : Nat × Nat) : Int := prT a b c ((t.1 : Int), (t.2 : Int))

set_option maxRecDepth 20000 in
set_option maxHeartbeats 3200000 in
theorem try_any (bp bw B m : Nat) (u v x : Value) (a b c : List Int) (W : Nat → Way) (p : Nat) (t : Nat × Nat) (w : World)
    (hpr : w.heap[bp]? = some (.cells #[u, v, x] 38 (0, 0))) (hbw : w.cell? ⟨bw, 0, none⟩ = some (.slice (some ⟨B, 0, none⟩) m m)) (hr : WayR w B m W)
    (hu : Ns w u a) (hv : Ns w v b) (hx : Ns w x c) (hg : goodP a b c = true) (hgt : goodT (t.1 : Int) (t.2 : Int) = true) (hst : p + stepOf t < m) (hm : m ≤ 2000000) (hb : ∀ j, 0 ≤ (W j).1 ∧ (W j).1 ≤ endless) :
    Calls Try.prog 44 #[.int .i64 (p : Int), .int .i64 (stepOf t : Int), .agg #[.int .i64 (t.1 : Int), .int .i64 (t.2 : Int)], .pointer (some ⟨bp, 0, none⟩), .pointer (some ⟨bw, 0, none⟩)] w fun e w' =>
      (∃ r, e = .returned r) ∧ WayR w' B m (relax (costN a b c) W p t) ∧ w.grownBy w' (some B) := by
  have hc := prT_in hg (t := ((t.1 : Int), (t.2 : Int))) hgt
  have HO := Lib.hid (fun V (h : Below w.heap.size w V) => of_yes u v x a b c (t.1 : Int) (t.2 : Int) V (hu.old h) (hv.old h) (hx.old h) hg hgt)
  obtain ⟨q, hq⟩ : ∃ q, prT a b c ((t.1 : Int), (t.2 : Int)) = q := ⟨_, rfl⟩
  rw [hq] at hc HO
  have HR : Hid (relax (costN a b c) W p t = if q + (W p).1 < (W (p + stepOf t)).1 then fun j => if j = p + stepOf t then (q + (W p).1, t) else W j else W) := Lib.hid (by unfold relax costN; rw [hq])
  have b1 := hb p
  have b2 := hb (p + stepOf t)
  have hs := stepOf_pos t
  have HW := Lib.hid hr
  have c0 := wayR0 hr (p := p) (by omega)
  have c1 := wayR0 hr hst
  obtain ⟨w1, hw1⟩ : ∃ w1, w1 = w.alloc (.cells #[.int .i64 (t.1 : Int), .int .i64 (t.2 : Int)] 27) := ⟨_, rfl⟩
  have hB : Below w.heap.size w w1 := by rw [hw1]; exact (Below.refl _ _).alloc (Nat.le_refl _) _
  have hpr1 := (hB.block bp (Array.getElem?_eq_some_iff.1 hpr).1).trans hpr
  have e0 : w1.cell? ⟨bp, 0, none⟩ = some u := by rw [cell_of_row _ _ 0 _ _ _ hpr1]; rfl
  have e1 : w1.cell? ⟨bp, 1, none⟩ = some v := by rw [cell_of_row _ _ 1 _ _ _ hpr1]; rfl
  have e2 : w1.cell? ⟨bp, 2, none⟩ = some x := by rw [cell_of_row _ _ 2 _ _ _ hpr1]; rfl
  have e3 := cell_old hB hbw
  have e4 := cell_old hB c0
  have e5 := cell_old hB c1
  have z0 : w1.cell? ⟨w.heap.size, 0, none⟩ = some (.int .i64 (t.1 : Int)) := by rw [hw1, cell_of_row _ w.heap.size 0 _ _ (0, 0) (heap_alloc_new _ _)]; rfl
  have z1 : w1.cell? ⟨w.heap.size, 1, none⟩ = some (.int .i64 (t.2 : Int)) := by rw [hw1, cell_of_row _ w.heap.size 1 _ _ (0, 0) (heap_alloc_new _ _)]; rfl
  have HR1 : Hid (WayR w1 B m W) := Lib.hid (hr.of_block (hB.block B hr.lt))
  have HB := Lib.hid hB
  unfold endless at b1 b2
  generalize (W p).1 = wp at *
  generalize hwq : (W (p + stepOf t)).1 = wq at *
  generalize stepOf t = st at *
  have d1 : decide ((p : Int) < (m : Int)) = true := by rw [decide_eq_true_eq]; omega
  have d2 : decide ((p : Int) + (st : Int) < (m : Int)) = true := by rw [decide_eq_true_eq]; omega
  clear hb hu hv hx hg hgt hq hpr hwq hB hpr1 hbw c0 c1 hr HW
  subst hw1
  go_enter Try.func44, Try.ntmps44
  go_wp2_with fail
  refine (HO.out _ HB.out).mono ?_
  rintro e w2 ⟨rfl, hb2⟩
  have g1 := cell_old hb2 e3
  have g2 := cell_old hb2 e4
  have g3 := cell_old hb2 e5
  have g4 := cell_old hb2 z0
  have g5 := cell_old hb2 z1
  have HR2 : Hid (WayR w2 B m W) := Lib.hid (HR1.out.of_block (hb2.block B HR1.out.lt))
  have HB2 := Lib.hid (HB.out.trans (hb2.mono HB.out.size))
  clear hb2 e0 e1 e2 e3 e4 e5 z0 z1 HR1 HB HO
  have i1 : IntKind.i64.wrap (q + wp) = q + wp := by rw [IntKind.wrap_i64] <;> omega
  by_cases hlt : q + wp < wq
  · have d3 : decide (q + wp < wq) = true := by rw [decide_eq_true_eq]; exact hlt
    have TH : Hid (w2.there B ((p + st) * 3) 3) := Lib.hid (fun j hj => ⟨by rw [World.rowIs.cell HR2.out (by omega)]; rfl, World.rowIs.frozen HR2.out _⟩)
    have H4 : Hid (∀ a b c : Int, (#[Value.int .i64 a, .int .i64 b, .int .i64 c] : Array Value).all (·.oneCell') = true) := Lib.hid (fun _ _ _ => by kernel_rfl)
    have HI4 : Hid (∀ a b c : Int, (Try.prog.info? 79).map (·.size) = some ((#[Value.int .i64 a, .int .i64 b, .int .i64 c] : Array Value).size)) := Lib.hid (fun _ _ _ => by kernel_rfl)
    go_wp2_with (refine wpList_store_mid rfl _ _ _ rfl B ((p + st) * 3) #[.int .i64 (q + wp), .int .i64 (t.1 : Int), .int .i64 (t.2 : Int)] rfl rfl TH.out (HI4.out _ _ _) (H4.out _ _ _) ?_; refine stop ?_)
    refine unstop ?_
    go_wp2_with fail
    go_end0
    refine ⟨⟨_, rfl⟩, ?_, ?_⟩
    · rw [HR.out, if_pos hlt]
      exact wayR_set HR2.out (p + st) (q + wp, t)
    · exact grown_setCells _ _ _ (grown_of_below HB2.out _)
  · have d3 : decide (q + wp < wq) = false := by rw [decide_eq_false_iff_not]; exact hlt
    go_wp2_with fail
    go_end0
    exact ⟨⟨_, rfl⟩, by rw [HR.out, if_neg (by omega)]; exact HR2.out, grown_of_below HB2.out _⟩
end Go.Proofs.Ytheomjoadgfkeaa
