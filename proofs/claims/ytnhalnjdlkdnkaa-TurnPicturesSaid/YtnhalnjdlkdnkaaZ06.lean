/- Is a picture too large? frame.check, burnishref23.tooLarge. By an AI agent. A region that draws its order whose first operation is a move that only the last ones look at (l = append(l, T{.. loads ..})): it may be taken first; then quiet operations in any order, then a tail. By an AI agent; over the kit's theory of orders. A region that draws its order, walked in the text's order: an operation that yields its value in every world that meets C may be taken first, though others write or make memory; any other must be the only one that may come up. By an AI agent; over the kit's theory of orders. -/
import Derived.Test.YtnhalnjdlkdnkaaZ05
import Derived.Test.YtnhalnjdlkdnkaaZ02
import Derived.BigQuiet
import Derived.Deep.RegionHeld
namespace Go.Proofs.Ytnhalnjdlkdnkaa
open Go.RowKit Go.BigFrame
set_option linter.unusedVariables false
set_option linter.unusedSimpArgs false
set_option maxRecDepth 20000

def sumTo (P : PicL) : Nat → Int
  | 0 => 0
  | n + 1 => sumTo P n + (sizeL P (n : Int)).1 * (sizeL P (n : Int)).2
theorem sumTo_in (P : PicL) (n : Nat) : 0 ≤ sumTo P n ∧ sumTo P n ≤ n * 68717379600 := by
  induction n with
  | zero => simp [sumTo]
  | succ n ih =>
    have SI := szL_in P (n : Int)
    have mm := mul_in (a := (sizeL P (n : Int)).1) (b := (sizeL P (n : Int)).2) (m := 262140) (n := 262140) SI.1 SI.2
    unfold sumTo
    omega
def tooB (P : PicL) : Bool := decide (262144 < P.w * P.h) || decide (65536 < sumTo P P.parts.length)
def chk4 (q : Bool) : Int := if q then 4 else 0
set_option maxHeartbeats 4000000 in
theorem fcheck_any (P : PicL) (q0 q1 q2 q3 pv kv : Value) (w : World) (hc : Pts w pv P.parts) (hl : P.parts.length ≤ 1000) (hw : 1 ≤ P.w ∧ P.w ≤ 65535) (hh : 1 ≤ P.h ∧ P.h ≤ 65535) :
    Calls Try.prog 51 #[.agg (vPic P q0 q1 q2 q3 pv kv)] w fun e w' => e = .returned (errV (chk4 (tooB P))) ∧ Below w.heap.size w w' := by
  obtain ⟨pa, pc, rfl, _⟩ := Els.len hc
  have HC := Lib.hid hc
  have HL := Lib.hid hl
  clear hc
  obtain ⟨w1, hw1⟩ : ∃ w1, w.alloc (.cells (vPic P q0 q1 q2 q3 (.slice pa P.parts.length pc) kv) 36) = w1 := ⟨_, rfl⟩
  have hb1 : Below w.heap.size w w1 := by rw [← hw1]; exact (Below.refl _ _).alloc (Nat.le_refl _) _
  obtain ⟨B, hB⟩ : ∃ B, w.heap.size = B := ⟨_, rfl⟩
  have hbox : PBox w1 B P q0 q1 q2 q3 (.slice pa P.parts.length pc) kv := by rw [← hw1, ← hB]; exact heap_alloc_new _ _
  have B1 := Lib.hid hb1
  have BX1 := Lib.hid hbox
  have HB := Lib.hid hB
  obtain ⟨a0, a1, a2, a3, a4, a5, a6, a7, a8⟩ := hbox.cells
  unfold vPic at hw1
  have mm := mul_in (a := P.w) (b := P.h) (m := 65535) (n := 65535) (by omega) (by omega)
  have g1 : wrap64 (P.w * P.h) = P.w * P.h := IntWalk.wrap64_in _ (by omega)
  have d1 : decide (65535 < P.w) = false := by rw [decide_eq_false_iff_not]; omega
  have d2 : decide (65535 < P.h) = false := by rw [decide_eq_false_iff_not]; omega
  obtain ⟨n, hn⟩ : ∃ n, P.parts.length = n := ⟨_, rfl⟩
  have TB : Hid (tooB P = (decide (262144 < P.w * P.h) || decide (65536 < sumTo P n))) := Lib.hid (by unfold tooB; rw [hn])
  have HN := Lib.hid hn
  rw [hn] at hw1 a6 BX1 HC HL ⊢
  obtain ⟨ar, har⟩ : ∃ ar, P.w * P.h = ar := ⟨_, rfl⟩
  rw [har] at mm TB
  have g2 : wrap64 (P.w * P.h) = ar := by rw [g1, har]
  clear hb1 hbox mm g1 hw hh har hn hl
  unfold vPic
  by_cases hbig : 262144 < ar
  · have d3 : decide (262144 < ar) = true := decide_eq_true hbig
    rw [d3] at TB
    clear hbig
    go_enter Try.func51, Try.ntmps51
    go_wp2_with fail
    go_ret
    exact ⟨by rw [TB.out]; rfl, B1.out⟩
  have d3 : decide (262144 < ar) = false := decide_eq_false hbig
  rw [d3, Bool.false_or] at TB
  clear hbig
  go_enter Try.func51, Try.ntmps51
  go_wp2_with fail
  clear hw1 a0 a1 a2 a3 a4 a5 a6 a7 a8 g2 d1 d2 d3 hB
  go_loopw [3, 27] (fun s i W => ∃ k : Nat, k ≤ n ∧ i = .int .i64 (k : Nat) ∧ s = .int .i64 (sumTo P k) ∧ Below w.heap.size w W ∧ PBox W B P q0 q1 q2 q3 (.slice pa n pc) kv) (fun _ i _ => n - (intOf i).toNat)
  case atStart => exact ⟨0, Nat.zero_le _, rfl, rfl, B1.out, BX1.out⟩
  case round =>
    clear B1 BX1
    obtain ⟨k, hk, rfl, rfl, hb, hbox⟩ := hrel
    have BB := Lib.hid hb
    have BX := Lib.hid hbox
    clear hb hbox
    obtain ⟨s, hs⟩ : ∃ s, sumTo P k = s := ⟨_, rfl⟩
    have HS := Lib.hid hs
    have sin := sumTo_in P k
    rw [hs] at sin ⊢
    by_cases hkn : k < n
    · have f1 : decide ((k : Int) < (n : Int)) = true := by rw [decide_eq_true_eq]; omega
      have f1' : decide (k < n) = true := by rw [decide_eq_true_eq]; omega
      obtain ⟨a0, a1, a2, a3, a4, a5, a6, a7, a8⟩ := BX.out.cells
      have SC : Hid (sumTo P (k + 1) = s + (sizeL P (k : Int)).1 * (sizeL P (k : Int)).2) := Lib.hid (by rw [← hs]; rfl)
      have SI := szL_in P (k : Int)
      obtain ⟨sw, hsw⟩ : ∃ z, (sizeL P (k : Int)).1 = z := ⟨_, rfl⟩
      obtain ⟨sh, hsh⟩ : ∃ z, (sizeL P (k : Int)).2 = z := ⟨_, rfl⟩
      have HSW := Lib.hid hsw
      have HSH := Lib.hid hsh
      rw [hsw, hsh] at SI SC
      have mm := mul_in (a := sw) (b := sh) (m := 262140) (n := 262140) SI.1 SI.2
      obtain ⟨pr, hpr⟩ : ∃ pr, sw * sh = pr := ⟨_, rfl⟩
      rw [hpr] at mm SC
      have g3 : wrap64 (sw * sh) = pr := by rw [hpr]; exact IntWalk.wrap64_in _ (by omega)
      have hk1 : k ≤ 1000 := by have := HL.out; omega
      have g4 : wrap64 (s + pr) = s + pr := IntWalk.wrap64_in _ (by omega)
      have gk : IntKind.i64.wrap ((k : Int) + 1) = (k : Int) + 1 := IntWalk.i64_in _ (by omega)
      have HKN := Lib.hid hkn
      clear hs hsw hsh hpr SI mm sin hk1
      go_wp2_with fail
      refine (size_any P q0 q1 q2 q3 _ kv (k : Int) wr (HC.out.old BB.out) (by have := HL.out; have := HN.out; omega)).mono ?_
      rintro e w3 ⟨rfl, hb3⟩
      rw [HSW.out, HSH.out]
      have B3 := Lib.hid (BB.out.trans (hb3.mono BB.out.size))
      have BX3 := Lib.hid (BX.out.old hb3)
      clear hb3 a0 a1 a2 a3 a4 a5 a6 a7 a8
      go_wp2_with fail
      go_roundw
      case rel => exact ⟨k + 1, HKN.out, by go_num, by rw [SC.out, g4], B3.out, BX3.out⟩
      case measure => simp [intOf]; have := HKN.out; omega
    · obtain rfl : k = n := by omega
      have f1 : decide ((k : Int) < (k : Int)) = false := by rw [decide_eq_false_iff_not]; omega
      rw [hs] at TB
      clear hs sin
      by_cases hbig : 65536 < s
      · have d3 : decide (65536 < s) = true := decide_eq_true hbig
        rw [d3] at TB
        clear hbig
        go_wp2_with fail
        go_ret
        exact ⟨by rw [TB.out]; rfl, BB.out⟩
      · have d3 : decide (65536 < s) = false := decide_eq_false hbig
        rw [d3] at TB
        clear hbig
        go_wp2_with fail
        go_ret
        exact ⟨by rw [TB.out]; rfl, BB.out⟩
set_option maxHeartbeats 4000000 in
theorem tooLarge_any (P : PicL) (q0 q1 q2 q3 pv kv : Value) (w : World) (hc : Pts w pv P.parts) (hl : P.parts.length ≤ 1000) (hw : 1 ≤ P.w) (hh : 1 ≤ P.h) :
    Calls Try.prog 37 #[.agg (vPic P q0 q1 q2 q3 pv kv)] w fun e w' => e = .returned (.bool (decide (65535 < P.w) || decide (65535 < P.h) || tooB P)) ∧ Below w.heap.size w w' := by
  obtain ⟨pa, pc, rfl, _⟩ := Els.len hc
  have HC := Lib.hid hc
  have HL := Lib.hid hl
  clear hc
  obtain ⟨w1, hw1⟩ : ∃ w1, w.alloc (.cells (vPic P q0 q1 q2 q3 (.slice pa P.parts.length pc) kv) 36) = w1 := ⟨_, rfl⟩
  have hb1 : Below w.heap.size w w1 := by rw [← hw1]; exact (Below.refl _ _).alloc (Nat.le_refl _) _
  obtain ⟨B, hB⟩ : ∃ B, w.heap.size = B := ⟨_, rfl⟩
  have hbox : PBox w1 B P q0 q1 q2 q3 (.slice pa P.parts.length pc) kv := by rw [← hw1, ← hB]; exact heap_alloc_new _ _
  have B1 := Lib.hid hb1
  have BX1 := Lib.hid hbox
  have HB := Lib.hid hB
  obtain ⟨a0, a1, a2, a3, a4, a5, a6, a7, a8⟩ := hbox.cells
  unfold vPic at hw1
  obtain ⟨n, hn⟩ : ∃ n, P.parts.length = n := ⟨_, rfl⟩
  have TB : Hid ((decide (65535 < P.w) || decide (65535 < P.h) || tooB P) = (decide (65535 < P.w) || decide (65535 < P.h) || (decide (262144 < P.w * P.h) || decide (65536 < sumTo P n)))) := Lib.hid (by unfold tooB; rw [hn])
  have HN := Lib.hid hn
  rw [hn] at hw1 a6 BX1 HC HL ⊢
  obtain ⟨tg, htg⟩ : ∃ tg, (decide (65535 < P.w) || decide (65535 < P.h) || tooB P) = tg := ⟨_, rfl⟩
  rw [htg] at TB ⊢
  clear hb1 hbox hn hl htg
  unfold vPic
  by_cases hw2 : 65535 < P.w
  · have d1 : decide (65535 < P.w) = true := decide_eq_true hw2
    rw [d1, Bool.true_or, Bool.true_or] at TB
    clear hw2 hh hw
    go_enter Try.func37, Try.ntmps37
    go_wp2_with fail
    go_ret
    exact ⟨by rw [TB.out]; rfl, B1.out⟩
  have d1 : decide (65535 < P.w) = false := decide_eq_false hw2
  by_cases hh2 : 65535 < P.h
  · have d2 : decide (65535 < P.h) = true := decide_eq_true hh2
    rw [d1, d2, Bool.false_or, Bool.true_or] at TB
    clear hw2 hh hw hh2
    go_enter Try.func37, Try.ntmps37
    go_wp2_with fail
    go_ret
    exact ⟨by rw [TB.out]; rfl, B1.out⟩
  have d2 : decide (65535 < P.h) = false := decide_eq_false hh2
  rw [d1, d2, Bool.false_or, Bool.false_or] at TB
  have mm := mul_in (a := P.w) (b := P.h) (m := 65535) (n := 65535) (by omega) (by omega)
  have g1 : wrap64 (P.w * P.h) = P.w * P.h := IntWalk.wrap64_in _ (by omega)
  obtain ⟨ar, har⟩ : ∃ ar, P.w * P.h = ar := ⟨_, rfl⟩
  rw [har] at mm TB
  have g2 : wrap64 (P.w * P.h) = ar := by rw [g1, har]
  clear mm g1 hw hh har hw2 hh2
  by_cases hbig : 262144 < ar
  · have d3 : decide (262144 < ar) = true := decide_eq_true hbig
    rw [d3, Bool.true_or] at TB
    clear hbig
    go_enter Try.func37, Try.ntmps37
    go_wp2_with fail
    go_ret
    exact ⟨by rw [TB.out]; rfl, B1.out⟩
  have d3 : decide (262144 < ar) = false := decide_eq_false hbig
  rw [d3, Bool.false_or] at TB
  clear hbig
  go_enter Try.func37, Try.ntmps37
  go_wp2_with fail
  clear hw1 a0 a1 a2 a3 a4 a5 a6 a7 a8 g2 d1 d2 d3 hB
  go_loopw [3, 4] (fun s i W => ∃ k : Nat, k ≤ n ∧ i = .int .i64 (k : Nat) ∧ s = .int .i64 (sumTo P k) ∧ Below w.heap.size w W ∧ PBox W B P q0 q1 q2 q3 (.slice pa n pc) kv) (fun _ i _ => n - (intOf i).toNat)
  case atStart => exact ⟨0, Nat.zero_le _, rfl, rfl, B1.out, BX1.out⟩
  case round =>
    clear B1 BX1
    obtain ⟨k, hk, rfl, rfl, hb, hbox⟩ := hrel
    have BB := Lib.hid hb
    have BX := Lib.hid hbox
    clear hb hbox
    obtain ⟨s, hs⟩ : ∃ s, sumTo P k = s := ⟨_, rfl⟩
    have HS := Lib.hid hs
    have sin := sumTo_in P k
    rw [hs] at sin ⊢
    obtain ⟨a0, a1, a2, a3, a4, a5, a6, a7, a8⟩ := BX.out.cells
    by_cases hkn : k < n
    · have f1 : decide ((k : Int) < (n : Int)) = true := by rw [decide_eq_true_eq]; omega
      have f1' : decide (k < n) = true := by rw [decide_eq_true_eq]; omega
      have SC : Hid (sumTo P (k + 1) = s + (sizeL P (k : Int)).1 * (sizeL P (k : Int)).2) := Lib.hid (by rw [← hs]; rfl)
      have SI := szL_in P (k : Int)
      obtain ⟨sw, hsw⟩ : ∃ z, (sizeL P (k : Int)).1 = z := ⟨_, rfl⟩
      obtain ⟨sh, hsh⟩ : ∃ z, (sizeL P (k : Int)).2 = z := ⟨_, rfl⟩
      have HSW := Lib.hid hsw
      have HSH := Lib.hid hsh
      rw [hsw, hsh] at SI SC
      have mm := mul_in (a := sw) (b := sh) (m := 262140) (n := 262140) SI.1 SI.2
      obtain ⟨pr, hpr⟩ : ∃ pr, sw * sh = pr := ⟨_, rfl⟩
      rw [hpr] at mm SC
      have g3 : wrap64 (sw * sh) = pr := by rw [hpr]; exact IntWalk.wrap64_in _ (by omega)
      have hk1 : k ≤ 1000 := by have := HL.out; omega
      have g4 : wrap64 (s + pr) = s + pr := IntWalk.wrap64_in _ (by omega)
      have gk : IntKind.i64.wrap ((k : Int) + 1) = (k : Int) + 1 := IntWalk.i64_in _ (by omega)
      have HKN := Lib.hid hkn
      clear hs hsw hsh hpr SI mm sin hk1
      go_wp2_with fail
      refine (refSize_any P q0 q1 q2 q3 _ kv (k : Int) wr (HC.out.old BB.out) (by have := HL.out; have := HN.out; omega)).mono ?_
      rintro e w3 ⟨rfl, hb3⟩
      rw [HSW.out, HSH.out]
      have B3 := Lib.hid (BB.out.trans (hb3.mono BB.out.size))
      have BX3 := Lib.hid (BX.out.old hb3)
      clear hb3 a0 a1 a2 a3 a4 a5 a6 a7 a8
      go_wp2_with fail
      go_roundw
      case rel => exact ⟨k + 1, HKN.out, by go_num, by rw [SC.out, g4], B3.out, BX3.out⟩
      case measure => simp [intOf]; have := HKN.out; omega
    · obtain rfl : k = n := by omega
      have f1 : decide ((k : Int) < (k : Int)) = false := by rw [decide_eq_false_iff_not]; omega
      rw [hs] at TB
      clear hs sin
      obtain ⟨q, hq⟩ : ∃ q, decide (65536 < s) = q := ⟨_, rfl⟩
      rw [hq] at TB
      go_wp2_with fail
      go_ret
      exact ⟨by rw [TB.out]; rfl, BB.out⟩
end Go.Proofs.Ytnhalnjdlkdnkaa

namespace Go.Proofs.Ytnhalnjdlkdnkaa
set_option linter.unusedVariables false
set_option linter.unusedSimpArgs false

section
variable {P : Program} {ops : Array Oper} {md : Region.Mode} {C : World → Prop}

/-- an operation that yields its value in every world -/
def YieldsC (P : Program) (ops : Array Oper) (o : Oper) (v : Value) (a : Act) : Prop :=
  Region.wanted o (yielded ops a.tmps) = true ∧ ∀ w, (execOp a.eval o).run P w = .ok (.value v) w
theorem YieldsC.of_same {o : Oper} {v : Value} {a a' : Act} (hy : YieldsC P ops o v a) (he : execOp a'.eval o = execOp a.eval o)
    (hw : Region.wanted o (yielded ops a'.tmps) = Region.wanted o (yielded ops a.tmps)) : YieldsC P ops o v a' := by
  unfold YieldsC at *
  rw [he, hw]
  exact hy
theorem YieldsC.wpOp {Q : Exit → Act → World → Prop} {i : Nat} {o : Oper} {v : Value} {a : Act} {w : World} (hi : ops[i]? = some o) (hy : YieldsC P ops o v a) {K : Act → World → Prop} (h : K (a.put o.dst v) w) : wpOp P ops Q i K a w := by
  unfold Go.wpOp
  simp only [hi]
  rw [if_pos hy.1]
  left
  unfold Oper.wp
  rw [hy.2 w]
  exact h
/-- no panic -/
def strictQ (Q : Exit → Act → World → Prop) : Exit → Act → World → Prop
  | .normal, a, w => Q .normal a w
  | .outgrown, a, w => Q .outgrown a w
  | _, _, _ => False
theorem upon_strict {Q : Exit → Act → World → Prop} {o : Oper} {a : Act} {K : Act → World → Prop} : ∀ (r : Result Next), o.upon P a K (strictQ Q) r → o.upon P a K Q r := by
  intro r h
  cases r with
  | ok x w' =>
    cases x with
    | enter f args =>
      refine Calls.mono h ?_
      intro e w'' he
      cases e with
      | panicked => exact he.elim
      | _ => exact he
    | _ => exact h
  | halt x w' => cases x <;> first | exact h | exact h.elim
theorem wpOp_strict {Q : Exit → Act → World → Prop} {i : Nat} {K : Act → World → Prop} {a : Act} {w : World} (h : wpOp P ops (strictQ Q) i K a w) : wpOp P ops Q i K a w := by
  unfold wpOp at *
  split
  · rename_i h0; simpa [h0] using h
  · rename_i o ho
    simp only [ho] at h
    split
    · rename_i hw
      rw [if_pos hw] at h
      rcases h with h | ⟨h, h2⟩
      · exact .inl (upon_strict _ h)
      · exact .inr ⟨h, h2⟩
    · rename_i hw
      rw [if_neg hw] at h
      exact h
theorem wpAny_strict {Q : Exit → Act → World → Prop} : ∀ (g : Nat) (listed : Array Bool) (a : Act) (w : World), wpAny P md ops (strictQ Q) g listed a w → wpAny P md ops Q g listed a w
  | 0, _, _, _, h => h
  | g + 1, listed, a, w, h => ⟨h.1, fun i hi => wpOp_mono (fun a' w' h' => wpAny_strict g _ a' w' h') (wpOp_strict (h.2 i hi))⟩

theorem put_defers (a : Act) (ds : List Deferred) (x : Option Tmp) (v : Value) : ({ a with defers := ds } : Act).put x v = { a.put x v with defers := ds } := by
  cases x <;> rfl
theorem act_defers (a : Act) (x : Option Tmp) (v : Value) : (a.put x v).defers = a.defers := by cases x <;> rfl
/-- whatever comes may come behind it -/
theorem wpOp_putC {Q : Exit → Act → World → Prop} {j : Nat} {oi oj : Oper} {v : Value} (hj : ops[j]? = some oj) (hap : oi.apart ops oj = true) (hsi : ∀ cs b, oi.op ≠ .select cs b) (hsj : ∀ cs b, oj.op ≠ .select cs b)
    {K : Act → World → Prop} {a : Act} {w : World} (hy : YieldsC P ops oi v a) (h : wpOp P ops (strictQ Q) j K (a.put oi.dst v) w) :
    wpOp P ops (strictQ Q) j (fun a' w' => YieldsC P ops oi v a' ∧ K (a'.put oi.dst v) w') a w := by
  obtain ⟨h1, h2, h3⟩ := Oper.apart_spec hap
  have keep : ∀ u, YieldsC P ops oi v (a.put oj.dst u) := fun u =>
    hy.of_same (execOp_put oi hsi a oj.dst u h3) (wanted_put oi a oj.dst u h3)
  have comm : ∀ u, ((a.put oi.dst v).put oj.dst u) = ((a.put oj.dst u).put oi.dst v) := fun u => Act.put_comm a v u h2
  have key : ∀ (r : Result Next), oj.upon P (a.put oi.dst v) K (strictQ Q) r → oj.upon P a (fun a' w' => YieldsC P ops oi v a' ∧ K (a'.put oi.dst v) w') (strictQ Q) r := by
    intro r h
    cases r with
    | ok x w' =>
      cases x with
      | value u => exact ⟨keep u, by rw [← comm u]; exact h⟩
      | skip => exact ⟨keep undef, by rw [← comm undef]; exact h⟩
      | defer d =>
        refine ⟨?_, ?_⟩
        · rw [put_defers]; exact keep undef
        · have h' : K (({ a.put oi.dst v with defers := d :: (a.put oi.dst v).defers } : Act).put oj.dst undef) w' := h
          rw [put_defers, act_defers, comm undef] at h'
          have e : ((({ a with defers := d :: a.defers } : Act).put oj.dst undef).put oi.dst v) = { (a.put oj.dst undef).put oi.dst v with defers := d :: a.defers } := by
            cases oj.dst <;> cases oi.dst <;> rfl
          rw [e]
          exact h'
      | enter f args =>
        refine Calls.mono h ?_
        intro e w'' he
        cases e with
        | returned u => exact ⟨keep u, by rw [← comm u]; exact he⟩
        | panicked => exact he.elim
        | outgrown => exact he
      | row row args => exact Rows.mono h (fun u w'' he => ⟨keep u, by rw [← comm u]; exact he⟩)
      | _ => exact h
    | halt x w' => cases x <;> first | exact h | exact h.elim
  unfold wpOp at *
  simp only [hj] at *
  rw [wanted_put oj a oi.dst v h1] at h
  split
  · rename_i hw
    rw [if_pos hw] at h
    rcases h with h | ⟨h, hl⟩
    · left
      unfold Oper.wp at *
      rw [execOp_put oj hsj a oi.dst v h1] at h
      exact key _ h
    · right
      refine ⟨?_, hl⟩
      unfold Oper.asks at *
      rwa [execOp_put oj hsj a oi.dst v h1] at h
  · rename_i hw
    rw [if_neg hw] at h
    exact ⟨keep undef, by rw [← comm undef]; exact h⟩
/-- an operation that yields its value in every world may be taken first -/
theorem any_first {Q : Exit → Act → World → Prop} {i : Nat} {oi : Oper} {v : Value} (hi : ops[i]? = some oi) (hsel : ∀ (j : Nat) (o : Oper) cs b, ops[j]? = some o → o.op ≠ .select cs b) :
    ∀ (g : Nat) (listed : Array Bool) (a : Act) (w : World),
      (∀ j oj, ops[j]? = some oj → j ≠ i → listed.getD j true = false → (∀ e ∈ oj.after, Region.binds md e = true → e.on ≠ i) → oi.apart ops oj = true) →
      i ∈ Region.ready md ops listed → YieldsC P ops oi v a →
      wpAny P md ops (strictQ Q) g (listed.setIfInBounds i true) (a.put oi.dst v) w → wpAny P md ops (strictQ Q) (g + 1) listed a w := by
  intro g
  induction g with
  | zero =>
    intro listed a w _ hr hy H
    refine ⟨fun h => (by rw [h] at hr; cases hr), fun j hj => ?_⟩
    by_cases hji : j = i
    · subst hji; exact hy.wpOp hi H
    · have := ready_mono hj hji
      rw [H.1] at this
      cases this
  | succ g ih =>
    intro listed a w hfree hr hy H
    refine ⟨fun h => (by rw [h] at hr; cases hr), fun j hj => ?_⟩
    by_cases hji : j = i
    · subst hji; exact hy.wpOp hi H
    · have h1 := H.2 j (ready_mono hj hji)
      obtain ⟨hjun, oj, hoj, hall⟩ := mem_ready.1 hj
      have hnot : ∀ e ∈ oj.after, Region.binds md e = true → e.on ≠ i := fun e he hb heq => by
        have h1 := hall e he hb
        have h0 := (mem_ready.1 hr).1
        rw [heq] at h1
        rcases Nat.lt_or_ge i listed.size with h' | h'
        · simp [h'] at h0 h1; rw [h0] at h1; cases h1
        · simp [Array.getElem?_eq_none h'] at h1
      have h2 := wpOp_putC hoj (hfree j oj hoj hji hjun hnot) (fun cs b => hsel i oi cs b hi) (fun cs b => hsel j oj cs b hoj) hy h1
      have hfree' : ∀ k ok, ops[k]? = some ok → k ≠ i → (listed.setIfInBounds j true).getD k true = false →
          (∀ e ∈ ok.after, Region.binds md e = true → e.on ≠ i) → oi.apart ops ok = true := fun k ok hk hki hun hno => by
        refine hfree k ok hk hki ?_ hno
        by_cases hjk : j = k
        · subst hjk; exact hjun
        · rw [getD_set_ne true hjk] at hun; exact hun
      refine wpOp_mono (fun a' w' h3 => ih (listed.setIfInBounds j true) a' w' hfree' (ready_mono hr (Ne.symm hji)) h3.1 ?_) h2
      rw [Array.setIfInBounds_comm _ _ hji]
      exact h3.2

/-! ## the rest: quiet ones from 1 to n, then a tail -/
/-- n waits, by others, for each from 1 on -/
def sink1B (md : Region.Mode) (ops : Array Oper) (n : Nat) : Bool :=
  (List.range n).all fun i => decide (i = 0) || (List.range (n + 1)).any fun j => decide (i < j) && Region.waitsFor md ops j i
theorem tail_waits1 {n : Nat} {listed : Array Bool} (hs : sink1B md ops n = true) (hc : Region.chainB md ops n = true) (hn : n < ops.size) (inv : HeadInv md ops n listed) :
    ∀ (d i : Nat), n - i = d → i < n → i ≠ 0 → listed.getD i true = false → ∀ t, n ≤ t → t ∉ Region.ready md ops listed := by
  intro d
  induction d using Nat.strongRecOn with
  | _ d ih =>
    intro i hd hi hi0 hun t ht hr
    obtain ⟨_, ot, hot, hall⟩ := mem_ready.1 hr
    have htlt : t < ops.size := (Array.getElem?_eq_some_iff.1 hot).1
    by_cases htn : t = n
    · subst htn
      have h1 := List.all_eq_true.1 hs i (List.mem_range.2 hi)
      simp only [Bool.or_eq_true, decide_eq_true_eq] at h1
      rcases h1 with h1 | h1
      · exact hi0 h1
      obtain ⟨j, hj, hj2⟩ := List.any_eq_true.1 h1
      simp only [Bool.and_eq_true, decide_eq_true_eq] at hj2
      obtain ⟨oj, hoj, e, he, hb, hon⟩ := Region.waitsFor_spec hj2.2
      have hjle : j ≤ t := by have := List.mem_range.1 hj; omega
      by_cases hjt : j = t
      · subst hjt
        have : oj = ot := Option.some.inj (hoj.symm.trans hot)
        subst this
        have h2 := hall e he hb
        rw [hon, getD_both hun] at h2
        cases h2
      · cases hl : listed.getD j false with
        | true =>
          have h2 := inv.closed j oj hoj hl e he hb
          rw [hon, getD_both hun] at h2
          cases h2
        | false =>
          have hjs : j < listed.size := by rw [inv.size]; omega
          exact ih (t - j) (by omega) j rfl (by omega) (by omega) (getD_in hjs hl) t (Nat.le_refl _) hr
    · have h1 := List.all_eq_true.1 hc t (List.mem_range.2 htlt)
      simp only [Bool.or_eq_true, decide_eq_true_eq] at h1
      rcases h1 with h1 | h1
      · omega
      · obtain ⟨o', ho', e, he, hb, hon⟩ := Region.waitsFor_spec h1
        have : o' = ot := Option.some.inj (ho'.symm.trans hot)
        subst this
        have h2 := hall e he hb
        rw [hon, getD_both (inv.tail (t - 1) (by omega) (by omega))] at h2
        cases h2
theorem headH_first {n i : Nat} {oi : Oper} {v : Value} {T : Array Bool → Act → Prop} (hi : ops[i]? = some oi) (hsel : ∀ (j : Nat) (o : Oper) cs b, ops[j]? = some o → o.op ≠ .select cs b)
    (hs : sink1B md ops n = true) (hc : Region.chainB md ops n = true) (hn : n < ops.size) (hin : i < n) (hi0 : i ≠ 0) (hdone : ∀ listed a, T listed a → ∀ j ∈ Region.ready md ops listed, n ≤ j) :
    ∀ (f : Nat) (listed : Array Bool) (a : Act), HeadInv md ops n listed →
      (∀ j oj, ops[j]? = some oj → j ≠ i → listed.getD j true = false → (∀ e ∈ oj.after, Region.binds md e = true → e.on ≠ i) → oi.apart ops oj = true) →
      i ∈ Region.ready md ops listed → YieldsIn P ops C oi v a → HeadQ P md ops C n T f (listed.setIfInBounds i true) (a.put oi.dst v) → HeadQ P md ops C n T (f + 1) listed a := by
  have low : ∀ (listed : Array Bool), HeadInv md ops n listed → i ∈ Region.ready md ops listed → ∀ j ∈ Region.ready md ops listed, j < n := by
    intro listed inv hr j hj
    refine Nat.lt_of_not_le fun hnj => ?_
    exact tail_waits1 hs hc hn inv (n - i) i rfl hin hi0 (mem_ready.1 hr).1 j hnj hj
  intro f
  induction f with
  | zero =>
    intro listed a inv _ hr hy H
    refine ⟨fun h => (by rw [h] at hr; cases hr), fun j hj => ⟨low listed inv hr j hj, ?_⟩⟩
    by_cases hji : j = i
    · subst hji; exact hy.qOp hi H
    · have h1 := hdone _ _ H j (ready_mono hj hji)
      have h2 := low listed inv hr j hj
      omega
  | succ f ih =>
    intro listed a inv hfree hr hy H
    refine ⟨fun h => (by rw [h] at hr; cases hr), fun j hj => ⟨low listed inv hr j hj, ?_⟩⟩
    have hjn := low listed inv hr j hj
    by_cases hji : j = i
    · subst hji; exact hy.qOp hi H
    · have h1 := (H.2 j (ready_mono hj hji)).2
      obtain ⟨hjun, oj, hoj, hall⟩ := mem_ready.1 hj
      have hnot : ∀ e ∈ oj.after, Region.binds md e = true → e.on ≠ i := fun e he hb heq => by
        have h1 := hall e he hb
        have h0 := (mem_ready.1 hr).1
        rw [heq] at h1
        rcases Nat.lt_or_ge i listed.size with h' | h'
        · simp [h'] at h0 h1; rw [h0] at h1; cases h1
        · simp [Array.getElem?_eq_none h'] at h1
      have h2 := qOp_put hoj (hfree j oj hoj hji hjun hnot) (fun cs b => hsel i oi cs b hi) (fun cs b => hsel j oj cs b hoj) hy h1
      have hfree' : ∀ k ok, ops[k]? = some ok → k ≠ i → (listed.setIfInBounds j true).getD k true = false →
          (∀ e ∈ ok.after, Region.binds md e = true → e.on ≠ i) → oi.apart ops ok = true := fun k ok hk hki hun hno => by
        refine hfree k ok hk hki ?_ hno
        by_cases hjk : j = k
        · subst hjk; exact hjun
        · rw [getD_set_ne true hjk] at hun; exact hun
      refine qOp_mono (fun a' h3 => ih (listed.setIfInBounds j true) a' (inv.set hj hjn) hfree' (ready_mono hr (Ne.symm hji)) h3.1 ?_) h2
      rw [Array.setIfInBounds_comm _ _ hji]
      exact h3.2
theorem headH_lex {n g : Nat} {Tq : Act → Prop} (hsel : Region.noSelect ops = true) (hs : sink1B md ops n = true) (hc : Region.chainB md ops n = true) (hn : n < ops.size) :
    ∀ (l : List Oper) (k : Nat) (listed : Array Bool) (a : Act), k ≠ 0 → (∀ j, j < l.length → l[j]? = ops[k + j]?) → k + l.length = n → HeadInv md ops n listed →
    Region.lexHead md ops g l.length k listed = true → wpQuiet P ops C Tq l a → HeadQ P md ops C n (fun listed' a' => Region.seqB md ops g n listed' = true ∧ Tq a') l.length listed a := by
  intro l
  induction l with
  | nil =>
    intro k listed a _ _ hk _ hB h
    obtain rfl : k = n := by simpa using hk
    exact ⟨by simpa [Region.lexHead] using hB, h⟩
  | cons o l ih =>
    intro k listed a hk0 hl hk inv hB h
    have h0 : ops[k]? = some o := by simpa using (hl 0 (by simp)).symm
    simp only [List.length_cons, Region.lexHead, Bool.and_eq_true] at hB
    obtain ⟨⟨hr, hf⟩, hB'⟩ := hB
    have hkn : k < n := by simp only [List.length_cons] at hk; omega
    have hr' : k ∈ Region.ready md ops listed := by simpa using hr
    have hst : qOp P ops C k (wpQuiet P ops C Tq l) a := by unfold qOp; simp only [h0]; exact h
    obtain ⟨v, hy, hK⟩ := yieldsIn_of_qOp h0 hst
    exact headH_first h0 (Region.noSelect_spec hsel) hs hc hn hkn hk0 (fun listed' a' hL => seqB_ready hL.1) l.length listed a inv (Region.free_spec h0 hf) hr' hy
      (ih (k + 1) _ _ (by omega) (fun j hj => by have := hl (j + 1) (by simp; omega); simpa [Nat.add_assoc, Nat.add_comm 1 j] using this) (by simp only [List.length_cons] at hk; omega) (inv.set hr' hkn) hB' hK)
/-- one first, quiet ones up to n, a tail -/
def oqtB (md : Region.Mode) (ops : Array Oper) (n : Nat) : Bool :=
  Region.noSelect ops && decide (0 < n) && decide (n < ops.size) && sink1B md ops n && Region.chainB md ops n && (Region.ready md ops (Array.replicate ops.size false)).contains 0 && Region.free md ops (Array.replicate ops.size false) 0 &&
    Region.lexHead md ops (ops.size - n) (n - 1) 1 ((Array.replicate ops.size false).setIfInBounds 0 true)
theorem wpAny_oqt {Q : Exit → Act → World → Prop} {a : Act} {w : World} {o : Oper} {v : Value} {l : List Oper} (n : Nat) (hB : oqtB .any (o :: l).toArray n = true) (hC : C w) (hy : YieldsC P (o :: l).toArray o v a)
    (h : wpQuiet P (o :: l).toArray C (fun a' => ∀ w', C w' → wpList P (o :: l).toArray (strictQ Q) ((o :: l).drop n) a' w') (((o :: l).take n).drop 1) (a.put o.dst v)) : wpAny P .any (o :: l).toArray Q (o :: l).toArray.size (Array.replicate (o :: l).toArray.size false) a w := by
  simp only [oqtB, Bool.and_eq_true, decide_eq_true_eq] at hB
  obtain ⟨⟨⟨⟨⟨⟨⟨hsel, hn0⟩, hn⟩, hs⟩, hc⟩, hr⟩, hf⟩, hlex⟩ := hB
  have hn' : n < (o :: l).length := by simpa using hn
  have hr' : 0 ∈ Region.ready .any (o :: l).toArray (Array.replicate (o :: l).toArray.size false) := by simpa using hr
  have htl : (((o :: l).take n).drop 1).length = n - 1 := by rw [List.length_drop, List.length_take]; omega
  have hdl : ((o :: l).drop n).length = (o :: l).toArray.size - n := by simp
  have inv0 : HeadInv .any (o :: l).toArray n (Array.replicate (o :: l).toArray.size false) :=
    ⟨by simp, fun j oj _ hl => (by rw [getD_replicate_false] at hl; cases hl), fun t _ ht => getD_in (by simpa using ht) (getD_replicate_false _ _)⟩
  have H := headH_lex (md := .any) (P := P) (C := C) (g := (o :: l).toArray.size - n) hsel hs hc hn (((o :: l).take n).drop 1) 1 _ (a.put o.dst v) (by omega) (fun j hj => by
    have hj' : 1 + j < n := by rw [htl] at hj; omega
    rw [List.getElem?_drop, List.getElem?_take, if_pos hj']; simp) (by rw [htl]; omega) (inv0.set hr' hn0) (by rw [htl]; exact hlex) h
  have H2 := wpAny_of_headQ (Q' := strictQ Q) (g := (o :: l).toArray.size - n) (fun listed a' w' hC' hL => by
    have := wpAny_of_seq (md := .any) (Q' := strictQ Q) ((o :: l).drop n) n listed a' w' (fun j => by rw [List.getElem?_drop]; simp) (by rw [hdl]; exact hL.1) (hL.2 w' hC')
    rwa [hdl] at this) _ _ _ _ hC H
  rw [htl, show n - 1 + ((o :: l).toArray.size - n) = (o :: l).toArray.size - 1 by omega] at H2
  have h0 : (o :: l).toArray[0]? = some o := by simp
  have H3 := any_first h0 (Region.noSelect_spec hsel) ((o :: l).toArray.size - 1) _ a w (Region.free_spec h0 hf) hr' hy H2
  rw [show (o :: l).toArray.size - 1 + 1 = (o :: l).toArray.size by omega] at H3
  exact wpAny_strict _ _ _ _ H3
/-- in an activation: a move first, then quiet ones up to n, then a tail -/
theorem wp_region_oqt {id : Nat} {Q : Exit → Act → World → Prop} {a : Act} {w : World} {o : Oper} {v : Value} {l : List Oper} (C : World → Prop) (n : Nat) (hm : P.follows .mixedOrders = true) (hB : oqtB .any (o :: l).toArray n = true) (hC : C w.drew)
    (hy : YieldsC P (o :: l).toArray o v a)
    (h : wpQuiet P (o :: l).toArray C (fun a' => ∀ w', C w' → wpList P (o :: l).toArray (strictQ Q) ((o :: l).drop n) a' w') (((o :: l).take n).drop 1) (a.put o.dst v)) : (Code.region id (o :: l).toArray true).wp P Q a w :=
  wp_region_any hm (wpAny_oqt n hB hC hy h)
theorem strict_at {Q : Exit → Act → World → Prop} {a : Act} {w : World} (h : Q .normal a w) : strictQ Q .normal a w := h
end
end Go.Proofs.Ytnhalnjdlkdnkaa

namespace Go.Proofs.Ytnhalnjdlkdnkaa
open Go.RowKit
set_option linter.unusedVariables false
set_option linter.unusedSimpArgs false

section
variable {P : Program} {ops : Array Oper} {md : Region.Mode} {C : World → Prop} {Q : Exit → Act → World → Prop}

def mixB (md : Region.Mode) (ops : Array Oper) : List Bool → Nat → Array Bool → Bool
  | [], _, listed => (Region.ready md ops listed).isEmpty
  | true :: ms, k, listed => (Region.ready md ops listed).contains k && Region.free md ops listed k && mixB md ops ms (k + 1) (listed.setIfInBounds k true)
  | false :: ms, k, listed => (Region.ready md ops listed == [k]) && mixB md ops ms (k + 1) (listed.setIfInBounds k true)
def wpMix (P : Program) (ops : Array Oper) (C : World → Prop) (Q : Exit → Act → World → Prop) : List Oper → List Bool → Act → World → Prop
  | o :: r, true :: ms, a, w => ∃ v, YieldsIf P ops C o v a ∧ wpMix P ops C Q r ms (a.put o.dst v) w
  | o :: r, false :: ms, a, w => ∀ K : Act → World → Prop, Shut (∀ a' w', C w' → (C w' → wpMix P ops C Q r ms a' w') → K a' w') →
      if Region.wanted o (yielded ops a.tmps) = true then Oper.wp P o a w K (strictQ Q) else K (a.put o.dst undef) w
  | _, _, a, w => Q .normal a w
theorem mix_take {o : Oper} {r : List Oper} {ms : List Bool} {a : Act} {w : World} (h : ∃ v, YieldsIf P ops C o v a ∧ wpMix P ops C Q r ms (a.put o.dst v) w) : wpMix P ops C Q (o :: r) (true :: ms) a w := h
theorem mix_step {o : Oper} {r : List Oper} {ms : List Bool} {a : Act} {w : World} (h : ∀ K : Act → World → Prop, Shut (∀ a' w', C w' → (C w' → wpMix P ops C Q r ms a' w') → K a' w') →
    if Region.wanted o (yielded ops a.tmps) = true then Oper.wp P o a w K (strictQ Q) else K (a.put o.dst undef) w) : wpMix P ops C Q (o :: r) (false :: ms) a w := h
theorem mix_done {a : Act} {w : World} (h : Q .normal a w) : wpMix P ops C Q [] [] a w := h
theorem wpAnyH_mix (hsel : Region.noSelect ops = true) : ∀ (l : List Oper) (ms : List Bool) (k : Nat) (listed : Array Bool) (a : Act) (w : World), l.length = ms.length → (∀ j, j < l.length → l[j]? = ops[k + j]?) →
    mixB md ops ms k listed = true → C w → wpMix P ops C Q l ms a w → wpAnyH P md ops (strictQ Q) C l.length listed a w := by
  intro l
  induction l with
  | nil =>
    intro ms k listed a w hlen hl hB hC h
    obtain rfl : ms = [] := List.eq_nil_of_length_eq_zero (by simpa using hlen.symm)
    simp only [mixB, List.isEmpty_iff] at hB
    exact ⟨hB, h⟩
  | cons o l ih =>
    intro ms k listed a w hlen hl hB hC h
    cases ms with
    | nil => simp at hlen
    | cons m ms =>
      have h0 : ops[k]? = some o := by simpa using (hl 0 (by simp)).symm
      have hl' : ∀ j, j < l.length → l[j]? = ops[k + 1 + j]? := fun j hj => by
        have := hl (j + 1) (by simp; omega)
        simpa [Nat.add_assoc, Nat.add_comm 1 j] using this
      have hlen' : l.length = ms.length := by simpa using hlen
      cases m with
      | true =>
        simp only [mixB, Bool.and_eq_true] at hB
        obtain ⟨v, hy, hr⟩ := h
        exact wpAnyH_take h0 hsel hB.1.2 hB.1.1 (fun _ _ _ h => h) hy hC (ih ms (k + 1) _ _ _ hlen' hl' hB.2 hC hr)
      | false =>
        simp only [mixB, Bool.and_eq_true, beq_iff_eq] at hB
        exact wpAnyH_ready (rs := [k]) hB.1 (by simp) (AllReadyH.cons h0 (fun K hK => h K (fun a' w' hC' hW => hK a' w' hC' (fun hC2 => ih ms (k + 1) _ _ _ hlen' hl' hB.2 hC2 (hW hC2)))) AllReadyH.nil)
theorem wp_region_mix {id : Nat} {a : Act} {w : World} {l : List Oper} (C : World → Prop) (ms : List Bool) (hm : P.follows .mixedOrders = true)
    (hB : (Region.noSelect l.toArray && decide (l.length = ms.length) && mixB .any l.toArray ms 0 (Array.replicate l.toArray.size false)) = true) (hC : C w.drew)
    (h : C w.drew → wpMix P l.toArray C Q l ms a w.drew) : (Code.region id l.toArray true).wp P Q a w := by
  simp only [Bool.and_eq_true, decide_eq_true_eq] at hB
  have H := wpAnyH_mix (md := .any) hB.1.1 l ms 0 _ a w.drew hB.1.2 (fun j _ => by simp) hB.2 hC (h hC)
  exact wp_region_any hm (wpAny_strict _ _ _ _ (wpAny_of_held _ _ _ _ H))
end
end Go.Proofs.Ytnhalnjdlkdnkaa
