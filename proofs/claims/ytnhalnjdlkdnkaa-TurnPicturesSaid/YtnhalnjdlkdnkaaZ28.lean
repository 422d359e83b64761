/- Two pictures that are the same: plain; what both walks of Same use. By an AI agent. -/
import Derived.Test.YtnhalnjdlkdnkaaZ09
import Derived.Test.YtnhalnjdlkdnkaaZ05
namespace Go.Proofs.Ytnhalnjdlkdnkaa
open Go.RowKit Go.BigFrame
set_option linter.unusedVariables false
set_option linter.unusedSimpArgs false
set_option maxRecDepth 20000

/-! ## plain -/
def headS (P Q : PicL) : Bool := decide (P.w = Q.w) && decide (P.h = Q.h) && decide (P.restart = Q.restart) && decide (P.parts.length = Q.parts.length) && decide (P.kept.length = Q.kept.length)
def quantS (P Q : PicL) (k : Nat) : Bool := decide (qL P k = qL Q k)
def ptS (x y : PartL) : Bool := decide (x.id = y.id) && decide (x.h = y.h) && decide (x.v = y.v) && decide (x.tq = y.tq) && decide (x.wide = y.wide) && decide (x.high = y.high) && decide (x.bs = y.bs)
def sgS (x y : Int × List UInt8) : Bool := decide (x.1 = y.1) && decide (x.2 = y.2)
def qsS (P Q : PicL) (n : Nat) : Bool := (List.range n).all (quantS P Q)
def psS (P Q : PicL) (n : Nat) : Bool := (List.range n).all fun k => ptS (P.parts.getD k default) (Q.parts.getD k default)
def ksS (P Q : PicL) (n : Nat) : Bool := (List.range n).all fun k => sgS (P.kept.getD k (0, [])) (Q.kept.getD k (0, []))
def sameB (P Q : PicL) : Bool := headS P Q && qsS P Q 4 && psS P Q P.parts.length && ksS P Q P.kept.length
theorem sameB_self (P : PicL) : sameB P P = true := by
  unfold sameB headS qsS psS ksS quantS ptS sgS
  simp
theorem hs_cases (w1 w2 h1 h2 r1 r2 : Int) (n1 n2 m1 m2 : Nat) (hs : Bool) (he : hs = (decide (w1 = w2) && decide (h1 = h2) && decide (r1 = r2) && decide (n1 = n2) && decide (m1 = m2))) :
    ((w1 != w2) = true ∧ hs = false) ∨ ((w1 != w2) = false ∧ (h1 != h2) = true ∧ hs = false) ∨ ((w1 != w2) = false ∧ (h1 != h2) = false ∧ (r1 != r2) = true ∧ hs = false) ∨
    ((w1 != w2) = false ∧ (h1 != h2) = false ∧ (r1 != r2) = false ∧ (((n1 : Int) != (n2 : Int)) = true ∧ (n1 != n2) = true) ∧ hs = false) ∨
    ((w1 != w2) = false ∧ (h1 != h2) = false ∧ (r1 != r2) = false ∧ (((n1 : Int) != (n2 : Int)) = false ∧ (n1 != n2) = false) ∧ (((m1 : Int) != (m2 : Int)) = true ∧ (m1 != m2) = true) ∧ hs = false) ∨
    ((w1 != w2) = false ∧ (h1 != h2) = false ∧ (r1 != r2) = false ∧ (((n1 : Int) != (n2 : Int)) = false ∧ (n1 != n2) = false) ∧ (((m1 : Int) != (m2 : Int)) = false ∧ (m1 != m2) = false) ∧ hs = true) := by
  subst he
  by_cases a : w1 = w2
  · by_cases b : h1 = h2
    · by_cases c : r1 = r2
      · by_cases d : n1 = n2
        · by_cases e : m1 = m2
          · simp [a, b, c, d, e]
          · simp [a, b, c, d, e]; omega
        · simp [a, b, c, d]; omega
      · simp [a, b, c]
    · simp [a, b]
  · simp [a]
theorem pt_cases (i1 i2 h1 h2 v1 v2 t1 t2 x1 x2 y1 y2 : Int) (eb ps : Bool) (he : ps = (decide (i1 = i2) && decide (h1 = h2) && decide (v1 = v2) && decide (t1 = t2) && decide (x1 = x2) && decide (y1 = y2) && eb)) :
    ((i1 != i2) = true ∧ ps = false) ∨ ((i1 != i2) = false ∧ (h1 != h2) = true ∧ ps = false) ∨ ((i1 != i2) = false ∧ (h1 != h2) = false ∧ (v1 != v2) = true ∧ ps = false) ∨
    ((i1 != i2) = false ∧ (h1 != h2) = false ∧ (v1 != v2) = false ∧ (t1 != t2) = true ∧ ps = false) ∨
    ((i1 != i2) = false ∧ (h1 != h2) = false ∧ (v1 != v2) = false ∧ (t1 != t2) = false ∧ (x1 != x2) = true ∧ ps = false) ∨
    ((i1 != i2) = false ∧ (h1 != h2) = false ∧ (v1 != v2) = false ∧ (t1 != t2) = false ∧ (x1 != x2) = false ∧ (y1 != y2) = true ∧ ps = false) ∨
    ((i1 != i2) = false ∧ (h1 != h2) = false ∧ (v1 != v2) = false ∧ (t1 != t2) = false ∧ (x1 != x2) = false ∧ (y1 != y2) = false ∧ ps = eb) := by
  subst he
  by_cases a : i1 = i2
  · by_cases b : h1 = h2
    · by_cases c : v1 = v2
      · by_cases d : t1 = t2
        · by_cases e : x1 = x2
          · by_cases f : y1 = y2
            · simp [a, b, c, d, e, f]
            · simp [a, b, c, d, e, f]
          · simp [a, b, c, d, e]
        · simp [a, b, c, d]
      · simp [a, b, c]
    · simp [a, b]
  · simp [a]
theorem pbox_q2 {w : World} {B : Nat} {P : PicL} {q0 q1 q2 q3 pv kv : Value} (h : PBox w B P q0 q1 q2 q3 pv kv) (j : Nat) (hj : j < 4) : w.cell? ⟨B, 2 + j, none⟩ = some (qV q0 q1 q2 q3 j) := by
  obtain ⟨a0, a1, a2, a3, a4, a5, a6, a7, a8⟩ := h.cells
  rcases (show j = 0 ∨ j = 1 ∨ j = 2 ∨ j = 3 by omega) with rfl | rfl | rfl | rfl
  · exact a2
  · exact a3
  · exact a4
  · exact a5
theorem part_info : (Try.prog.info? 70).map (·.size) = some 7 := by kernel_rfl
theorem part_one (a b c d e f : Int) (x : Option Addr) (y z : Nat) : (#[.int .i64 a, .int .i64 b, .int .i64 c, .int .i64 d, .int .i64 e, .int .i64 f, .slice x y z] : Array Value).all (·.oneCell') = true := by kernel_rfl
theorem seg_info : (Try.prog.info? 73).map (·.size) = some 2 := by kernel_rfl
theorem seg_one (a : Int) (x : Option Addr) (y z : Nat) : (#[.int .i64 a, .slice x y z] : Array Value).all (·.oneCell') = true := by kernel_rfl
/-- what the two boxes say, as one property of the world -/
theorem two_boxes (B B' : Nat) (P Q : PicL) (q0 q1 q2 q3 pv kv r0 r1 r2 r3 rv sv : Value) : ∃ TB : World → Prop,
    (∀ W, PBox W B P q0 q1 q2 q3 pv kv → PBox W B' Q r0 r1 r2 r3 rv sv → TB W) ∧ (∀ W W', TB W → Below W.heap.size W W' → TB W') ∧
    (∀ W, TB W → PBox W B P q0 q1 q2 q3 pv kv ∧ PBox W B' Q r0 r1 r2 r3 rv sv) :=
  ⟨fun W => PBox W B P q0 q1 q2 q3 pv kv ∧ PBox W B' Q r0 r1 r2 r3 rv sv, fun _ h1 h2 => ⟨h1, h2⟩, fun _ _ h hb => ⟨h.1.old hb, h.2.old hb⟩, fun _ h => h⟩
end Go.Proofs.Ytnhalnjdlkdnkaa
