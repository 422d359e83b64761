/- match.Finder.Longest walked. By an AI agent. -/
import Derived.Test.YtheomjoadgfkeaaBetter
import Derived.Test.YtheomjoadgfkeaaRF
import Derived.RegionTactic
import Derived.Deep.CutRange
namespace Go.Proofs.Ytheomjoadgfkeaa
open Go.RowKit Go.Shelf
set_option linter.unusedVariables false
set_option linter.unusedSimpArgs false
attribute [local go_sem] Oper.semAt_some

theorem better_any (p : Int) (fa : Option Addr) (w : World) : Calls Try.prog 55 #[.pointer fa, .int .i64 p] w fun e w' =>
    e = .returned (.func (.func 60) #[] #[.pointer (some ⟨w.heap.size + 1, 0, none⟩), .pointer (some ⟨w.heap.size, 0, none⟩)]) ∧
    w' = (w.alloc (.cells #[.pointer fa] 71)).alloc (.cells #[.int .i64 p] 3) := by
  go_enter Try.func55, Try.ntmps55
  go_wp2
  go_ret
  exact ⟨rfl, rfl⟩
theorem FV.more {bs bs' : List Nat} {w : World} {v : Value} {lo : Option (List UInt8)} (h : FV bs w v lo) (hs : ∀ b ∈ bs, b ∈ bs') : FV bs' w v lo := by
  cases lo with
  | none => exact h
  | some l =>
    obtain ⟨g, tv, pv, hv, hg, ht, hp, h1, h2, h3⟩ := h
    exact ⟨g, tv, pv, hv, hs _ hg, fun b hb hn => hs _ (ht b hb hn), fun b hb hn => hs _ (hp b hb hn), h1, h2, h3⟩
theorem ownFrom_keep {β : Type} {B : Nat} {I : β → World → Prop} (hB : ∀ s X, I s X → B ≤ X.heap.size) (h : ∀ s X Y, I s X → Below B X Y → I s Y) : OwnFrom B I := fun s X Y row hs hg hr =>
  h s X Y hs ⟨hg.os, hg.tape, hg.output, hg.size, fun k hk => hg.block k (Nat.lt_of_lt_of_le hk (hB s X hs)) (fun e => by have := (hr k e.symm).1; omega)⟩
/-- the last match, or none -/
def lastT (pre : List (Nat × Nat)) : Nat × Nat := pre.getLast?.getD (0, 0)
theorem lastT_snoc (pre : List (Nat × Nat)) (x : Nat × Nat) : lastT (pre ++ [x]) = x := by simp [lastT]
theorem frozenB {w : World} {g i : Nat} {C : Array Value} {t : TypeId} (h : w.heap[g]? = some (.cells C t (0, 0))) : w.frozen? ⟨g, i, none⟩ = false := by
  simp [World.frozen?, h]
theorem heap_set2 {w : World} {g : Nat} {a b : Value} {t : TypeId} (h : w.heap[g]? = some (.cells #[a, b] t (0, 0))) (x y : Value) : ((w.setCell ⟨g, 0, none⟩ x).setCell ⟨g, 1, none⟩ y).heap[g]? = some (.cells #[x, y] t (0, 0)) := by
  have h1 : (w.setCell ⟨g, 0, none⟩ x).heap[g]? = some (.cells #[x, b] t (0, 0)) := by rw [heap_setCell_same _ _ _ _ _ _ h]; rfl
  rw [heap_setCell_same _ _ _ _ _ _ h1]; rfl
def tokC (t : Nat × Nat) : Array Value := #[.int .i64 (t.1 : Int), .int .i64 (t.2 : Int)]
structure LongI (w0 : World) (R S n : Nat) (t : Nat × Nat) (V : World) : Prop where
  res : V.heap[R]? = some (.cells (tokC (0, 0)) 27 (0, 0))
  best : V.heap[S]? = some (.cells (tokC t) 27 (0, 0))
  below : Below w0.heap.size w0 V
  size : n ≤ V.heap.size
theorem LongI.low {w0 : World} {R S n : Nat} {t : Nat × Nat} {V W : World} (h : LongI w0 R S n t V) (hR : R < n) (hS : S < n) (hn : w0.heap.size ≤ n) (hb : Below n V W) : LongI w0 R S n t W :=
  ⟨by rw [hb.block R hR]; exact h.res, by rw [hb.block S hS]; exact h.best, h.below.trans (hb.mono hn), Nat.le_trans h.size hb.size⟩

set_option maxRecDepth 100000 in
set_option maxHeartbeats 4000000 in
theorem longest_any (bs : List Nat) (p : Int) (fa : Option Addr) (lo : Option (List UInt8)) (w : World) (hp : -9223372036854775808 ≤ p ∧ p ≤ 9223372036854775807) (hl : lenO lo ≤ 1048576) (hf : FV bs w (.pointer fa) lo) (hbs : ∀ b ∈ bs, b < w.heap.size) :
    Calls Try.prog 42 #[.pointer fa, .int .i64 p] w fun e w' => e = .returned (.tuple #[.agg (tokC (lastT (betterL lo p))), .bool (decide (0 < (lastT (betterL lo p)).1))]) ∧ Below w.heap.size w w' := by
  have HF := Lib.hid hf
  have HBS := Lib.hid hbs
  clear hf hbs
  refine (callsIn_wide (n := 6)).1 ?_
  refine callsIn_of_wp_marks Try.func42 rfl trivial ?_ rfl
  simp only [Try.ntmps42, List.size_toArray, List.length_cons, List.length_nil, Nat.reduceAdd, Nat.reduceSub, Array.replicate_succ, Array.replicate_zero, List.push_toArray, List.append_toArray, List.nil_append, List.cons_append]
  refine wpIn_wide.2 ?_
  go_wp2_with fail
  refine (better_any p fa _).mono ?_; rintro e w1 ⟨rfl, hw1⟩
  go_wp2_with fail
  rw [← hw1]
  obtain ⟨R, hR⟩ : ∃ R, w.heap.size = R := ⟨_, rfl⟩
  have sz1 : w1.heap.size = R + 4 := by rw [hw1]; simp [hR]
  have bb : Below w.heap.size w w1 := by rw [hw1]; exact ((((Below.refl _ _).alloc (Nat.le_refl _) _).alloc (by simp) _).alloc (by simp; omega) _).alloc (by simp; omega) _
  have r0 : w1.heap[R]? = some (.cells (tokC (0, 0)) 27 (0, 0)) := by rw [hw1, ← hR]; exact heap_old (heap_old (heap_new0 _ _ _))
  have r1 : w1.heap[R + 1]? = some (.cells (tokC (0, 0)) 27 (0, 0)) := by rw [hw1, ← hR]; exact heap_old (heap_old (heap_new1 _ _ _))
  have r2 : w1.heap[R + 1 + 1]? = some (.cells #[.pointer fa] 71 (0, 0)) := by rw [hw1, ← hR]; exact heap_old (heap_new2 _ _ _ _)
  have r3 : w1.heap[R + 1 + 1 + 1]? = some (.cells #[.int .i64 p] 3 (0, 0)) := by
    rw [hw1, ← hR]
    have h := heap_alloc_new (((w.alloc (.cells (tokC (0, 0)) 27)).alloc (.cells (tokC (0, 0)) 27)).alloc (.cells #[.pointer fa] 71)) (.cells #[.int .i64 p] 3)
    simp only [World.size_alloc] at h
    exact h
  have c1 : w1.cell? ⟨R + 1 + 1 + 1, 0, none⟩ = some (.int .i64 p) := by rw [cell_of_row _ _ 0 _ _ _ r3]; rfl
  have c2 : w1.cell? ⟨R + 1 + 1, 0, none⟩ = some (.pointer fa) := by rw [cell_of_row _ _ 0 _ _ _ r2]; rfl
  have hbs1 : ∀ b ∈ (R + 1 + 1) :: (R + 1 + 1 + 1) :: bs, b < w1.heap.size := by
    intro b hb
    rw [List.mem_cons, List.mem_cons] at hb
    rcases hb with rfl | rfl | hb
    · omega
    · omega
    · have := HBS.out b hb; omega
  have hf1 : FV ((R + 1 + 1) :: (R + 1 + 1 + 1) :: bs) w1 (.pointer fa) lo := (HF.out.keep (KeepB.below bb bb.size HBS.out)).more (fun b hb => List.mem_cons_of_mem _ (List.mem_cons_of_mem _ hb))
  rw [hR]
  refine wpIn_wide.1 (wpIn_rangeFunc_ownH (F := Fence.wide) (n := 6) rfl (by omega) (gf := 60) (lb := #[.pointer (some ⟨R + 1 + 1 + 1, 0, none⟩), .pointer (some ⟨R + 1 + 1, 0, none⟩)]) rfl trivial (enters_of Try.func60 (by kernel_rfl) rfl)
    (better_stops (6 - 1) (by omega) (R + 1 + 1 + 1) (R + 1 + 1) _ p (.pointer fa) lo w1 hp hl c1 c2 (by simp) (by simp) hf1 hbs1) KeepB.trans (KeepB.put hbs1) (Below.refl _ _) (fun _ => rfl)
    (fun pre V => LongI w R (R + 1) (R + 4) (lastT pre) V)
    (fun _ _ _ => False)
    (by rw [sz1]; exact ownFrom_keep (fun s X h => h.size) (fun s X Y h hb => h.low (by omega) (by omega) (by omega) hb))
    (fun _ _ _ _ _ hs _ _ => hs)
    ⟨r0, r1, bb, by omega⟩
    (fun x a' V => ∃ Bx, R + 4 ≤ Bx ∧ V.heap[Bx]? = some (.cells (tokC x) 27 (0, 0)) ∧ a' = { tmps := #[.pointer fa, .int .i64 p, undef, undef, .pointer (some ⟨R, 0, none⟩), .bool false, .pointer (some ⟨R + 1, 0, none⟩), .pointer (some ⟨Bx, 0, none⟩), .pointer fa, .int .i64 p, .func (.func 60) #[] #[.pointer (some ⟨R + 1 + 1 + 1, 0, none⟩), .pointer (some ⟨R + 1 + 1, 0, none⟩)], .agg (tokC x), undef, undef, undef, undef, undef], defers := [] })
    (fun x a' _ X Y row hs hg hr => by
      obtain ⟨Bx, h1, h2, h3⟩ := hs
      exact ⟨Bx, h1, by rw [hg.block Bx (Array.getElem?_eq_some_iff.1 h2).1 (fun e => by obtain ⟨_, o, ho, hc⟩ := hr Bx e.symm; rw [h2] at ho; cases ho; cases hc)]; exact h2, h3⟩)
    ?assign ?body ?done ?stop)
  case assign =>
    rintro l pre x V K hI hK
    have HI := Lib.hid hI
    clear hI
    gi_wp2
    refine hK _ _ ((KeepsOthers.alloc _ _).from _) ⟨by simp, fun b hb => Below.heap_alloc _ _ _ ?_⟩ (HI.out.low (by omega) (by omega) (by omega) ((Below.refl _ _).alloc HI.out.size _)) ⟨V.heap.size, HI.out.size, heap_alloc_new V _, rfl⟩
    have := hbs1 b hb
    have := HI.out.size
    omega
  case body =>
    rintro l pre x a' V hl ⟨r, hr⟩ hI ⟨Bx, hBx, bX, rfl⟩ hlt
    have x0 : V.cell? ⟨Bx, 0, none⟩ = some (.int .i64 (x.1 : Int)) := by rw [cell_of_row _ _ 0 _ _ (0, 0) bX]; rfl
    have x1 : V.cell? ⟨Bx, 1, none⟩ = some (.int .i64 (x.2 : Int)) := by rw [cell_of_row _ _ 1 _ _ (0, 0) bX]; rfl
    have y0 : V.cell? ⟨R + 1, 0, none⟩ = some (.int .i64 ((lastT pre).1 : Int)) := by rw [cell_of_row _ _ 0 _ _ (0, 0) hI.best]; rfl
    have y1 : V.cell? ⟨R + 1, 1, none⟩ = some (.int .i64 ((lastT pre).2 : Int)) := by rw [cell_of_row _ _ 1 _ _ (0, 0) hI.best]; rfl
    have z0 : V.frozen? ⟨R + 1, 0, none⟩ = false := frozenB hI.best
    have z1 : V.frozen? ⟨R + 1, 1, none⟩ = false := frozenB hI.best
    have HI := Lib.hid hI
    clear hI
    gi_wp2
    refine ⟨(keepsFrom_set _ _ _).trans (keepsFrom_set _ _ _), ⟨by simp, fun b hb => ?_⟩, ?_⟩
    · have hne : b ≠ R + 1 := by
        rw [List.mem_cons, List.mem_cons] at hb
        rcases hb with rfl | rfl | hb
        · omega
        · omega
        · have := HBS.out b hb; omega
      rw [Go.Deep.blk_setCell_other _ _ _ _ (by exact hne), Go.Deep.blk_setCell_other _ _ _ _ (by exact hne)]
    · have h := HI.out
      refine ⟨?_, ?_, (h.below.setCell (p := ⟨R + 1, 0, none⟩) (by simp only; omega) _).setCell (p := ⟨R + 1, 1, none⟩) (by simp only; omega) _, by simp; exact h.size⟩
      · rw [Go.Deep.blk_setCell_other _ _ _ _ (by simp only; omega), Go.Deep.blk_setCell_other _ _ _ _ (by simp only; omega)]
        exact h.res
      · rw [lastT_snoc]
        exact heap_set2 h.best _ _
  case stop =>
    rintro Dd c pre V _ _ h _
    exact h.elim
  case done =>
    rintro D1 zs V hD rfl hI hK
    obtain ⟨a, b, hab⟩ : ∃ a b, lastT (betterL lo p) = (a, b) := ⟨_, _, rfl⟩
    rw [hab] at hI
    have x0 : V.cell? ⟨R, 0, none⟩ = some (.int .i64 0) := by rw [cell_of_row _ _ 0 _ _ (0, 0) hI.res]; rfl
    have x1 : V.cell? ⟨R, 1, none⟩ = some (.int .i64 0) := by rw [cell_of_row _ _ 1 _ _ (0, 0) hI.res]; rfl
    have w0 : V.frozen? ⟨R, 0, none⟩ = false := frozenB hI.res
    have w1' : V.frozen? ⟨R, 1, none⟩ = false := frozenB hI.res
    have y0 : V.cell? ⟨R + 1, 0, none⟩ = some (.int .i64 (a : Int)) := by rw [cell_of_row _ _ 0 _ _ (0, 0) hI.best]; rfl
    have y1 : V.cell? ⟨R + 1, 1, none⟩ = some (.int .i64 (b : Int)) := by rw [cell_of_row _ _ 1 _ _ (0, 0) hI.best]; rfl
    have HI := Lib.hid hI
    have HK := Lib.hid hK
    have HD := Lib.hid hD
    have HAB := Lib.hid hab
    clear hI hK hD hab
    go_wp2_with fail
    go_region
    all_goals
      go_wp2_with fail
      obtain ⟨Y, hY⟩ : ∃ Y, ((V.setCell ⟨R, 0, none⟩ (.int .i64 (a : Int))).setCell ⟨R, 1, none⟩ (.int .i64 (b : Int))).drew = Y := ⟨_, rfl⟩
      rw [hY]
      have hn := HI.out.size
      have hd := HD.out
      have e1 : Y.heap[R]? = some (.cells #[.int .i64 (a : Int), .int .i64 (b : Int)] 27 (0, 0)) := by rw [← hY]; exact heap_set2 HI.out.res _ _
      have e2 : Y.heap[D1]? = some (.deferred (some [])) := by
        rw [← hY]
        show ((V.setCell ⟨R, 0, none⟩ (.int .i64 (a : Int))).setCell ⟨R, 1, none⟩ (.int .i64 (b : Int))).heap[D1]? = _
        rw [Go.Deep.blk_setCell_other _ _ _ _ (by simp only; omega), Go.Deep.blk_setCell_other _ _ _ _ (by simp only; omega)]
        exact HK.out
      have e3 : Below w.heap.size w Y := by
        rw [← hY]
        exact ((HI.out.below.setCell (p := ⟨R, 0, none⟩) (by simp only; omega) _).setCell (p := ⟨R, 1, none⟩) (by simp only; omega) _).drew
      have e4 : (Y.putObj D1 (.deferred none)).heap[R]? = some (.cells #[.int .i64 (a : Int), .int .i64 (b : Int)] 27 (0, 0)) := (World.putObj_heap_other (by omega)).trans e1
      have q0 : (Y.putObj D1 (.deferred none)).cell? ⟨R, 0, none⟩ = some (.int .i64 (a : Int)) := by rw [cell_of_row _ _ 0 _ _ (0, 0) e4]; rfl
      have q1 : (Y.putObj D1 (.deferred none)).cell? ⟨R, 1, none⟩ = some (.int .i64 (b : Int)) := by rw [cell_of_row _ _ 1 _ _ (0, 0) e4]; rfl
      refine ⟨by simp, .inl ⟨_, _, rfl, run_takeDeferred e2, ?_⟩⟩
      refine ⟨.tuple #[.agg #[.int .i64 (a : Int), .int .i64 (b : Int)], .bool (decide (0 < a))], ?_, by rw [HAB.out]; rfl, ?_⟩
      · simp [results, Try.f42, go_sem, q0, q1]
      · exact e3.trans (belowK_b (w := w) (Nat.le_refl _) Y D1 _ _ (by omega) e2 rfl rfl)
end Go.Proofs.Ytheomjoadgfkeaa
