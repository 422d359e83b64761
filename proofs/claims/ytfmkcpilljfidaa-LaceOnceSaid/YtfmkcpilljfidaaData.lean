/- The walk of lace.Data. By an AI agent. -/
import Derived.Test.YtfmkcpilljfidaaPassI
import Derived.Test.YtfmkcpilljfidaaHeadS
import Derived.Test.YtfmkcpilljfidaaQT
namespace Go.Proofs.Ytfmkcpilljfidaa
open Go.RowKit Go.Shelf
set_option linter.unusedVariables false
set_option linter.unusedSimpArgs false
attribute [local go_sem] Oper.semAt_some

theorem passes_any (W H L : Int) (w : World) : Calls Try.prog 19 #[.int .i64 W, .int .i64 H, .int .i64 L] w fun e w' =>
    e = .returned (.func (.func 28) #[] #[.pointer (some ⟨w.heap.size, 0, none⟩), .pointer (some ⟨w.heap.size + 1, 0, none⟩), .pointer (some ⟨w.heap.size + 1 + 1, 0, none⟩)]) ∧
    w' = ((w.alloc (.cells #[.int .i64 W] 3)).alloc (.cells #[.int .i64 H] 3)).alloc (.cells #[.int .i64 L] 3) := by
  go_enter Try.func19, Try.ntmps19
  go_wp2
  go_ret
  exact ⟨rfl, rfl⟩

/-- the bytes of some passes, as they are added up -/
def dataW (f : Int → Int) (pre : List (Int × Int × Int)) : Int := pre.foldl (fun s x => wrap64 (s + wrap64 (x.2.2 * wrap64 (1 + f x.2.1)))) 0
theorem dataW_snoc (f : Int → Int) (pre : List (Int × Int × Int)) (x : Int × Int × Int) : dataW f (pre ++ [x]) = wrap64 (dataW f pre + wrap64 (x.2.2 * wrap64 (1 + f x.2.1))) := by simp [dataW]

set_option maxRecDepth 100000 in
set_option maxHeartbeats 4000000 in
theorem data_good (W H D C L : Int) (w : World) (hg : headC W H D C L = 0) :
    Calls Try.prog 20 #[headV W H D C L] w fun e w' => e = .returned (.int .i64 (dataW (rowN W H D C L) (passesL W H L))) ∧ Below w.heap.size w w' := by
  have ck := check_any W H D C L
  rw [hg, errV_zero] at ck
  unfold headV at *
  have CK := Lib.hid ck
  clear ck hg
  refine (callsIn_wide (n := 6)).1 ?_
  refine callsIn_of_wp_marks Try.func20 rfl trivial ?_ rfl
  simp only [Try.ntmps20, List.size_toArray, List.length_cons, List.length_nil, Nat.reduceAdd, Nat.reduceSub, Array.replicate_succ, Array.replicate_zero, List.push_toArray, List.append_toArray, List.nil_append, List.cons_append]
  gi_wp2_with fail
  refine ⟨trivial, (callsIn_wide.2 (CK.out _)).mono ?_⟩; rintro e w1 ⟨rfl, hb1⟩
  have hbox : Box w.heap.size W H D C L w1 := (box_of (heap_alloc_new _ _)).old hb1
  have b0 : Below w.heap.size w w1 := ((Below.refl _ _).alloc (Nat.le_refl _) _).trans (hb1.mono (by simp))
  have B0 := Lib.hid b0
  have BX := Lib.hid hbox
  have SZ : Hid (w.heap.size < w1.heap.size) := Lib.hid (by have := hb1.size; simp at this; omega)
  have hbox2 := hbox.old ((Below.refl _ w1).alloc (Nat.le_refl _) (.cells #[.int .i64 0] 3))
  obtain ⟨k0, k1, k2, k3, k4⟩ := hbox
  obtain ⟨j0, j1, j2, j3, j4⟩ := hbox2
  clear hb1 b0
  gi_wp2_with fail
  refine ⟨trivial, (callsIn_wide.2 (passes_any W H L _)).mono ?_⟩; rintro e w2 ⟨rfl, hw2⟩
  gi_wp2_with fail
  rw [← hw2]
  obtain ⟨S, hS⟩ : ∃ S, w1.heap.size = S := ⟨_, rfl⟩
  have bS : Boxed w2 S 3 (.int .i64 0) := by rw [hw2, ← hS]; exact (((Boxed.new w1 _ _).alloc _).alloc _).alloc _
  have p1 : Boxed w2 (S + 1) 3 (.int .i64 W) := by rw [hw2, ← hS]; have h := Boxed.new (w1.alloc (.cells #[.int .i64 0] 3)) 3 (.int .i64 W); rw [World.size_alloc] at h; exact (h.alloc _).alloc _
  have p2 : Boxed w2 (S + 1 + 1) 3 (.int .i64 H) := by rw [hw2, ← hS]; have h := Boxed.new ((w1.alloc (.cells #[.int .i64 0] 3)).alloc (.cells #[.int .i64 W] 3)) 3 (.int .i64 H); simp only [World.size_alloc] at h; exact h.alloc _
  have p3 : Boxed w2 (S + 1 + 1 + 1) 3 (.int .i64 L) := by rw [hw2, ← hS]; have h := Boxed.new (((w1.alloc (.cells #[.int .i64 0] 3)).alloc (.cells #[.int .i64 W] 3)).alloc (.cells #[.int .i64 H] 3)) 3 (.int .i64 L); simp only [World.size_alloc] at h; exact h
  have b12 : Below w1.heap.size w1 w2 := by rw [hw2]; exact ((((Below.refl _ _).alloc (Nat.le_refl _) _).alloc (by simp) _).alloc (by simp; omega) _).alloc (by simp; omega) _
  have b2 : Below w.heap.size w w2 := B0.out.trans (b12.mono (Nat.le_of_lt SZ.out))
  have bx2 := BX.out.old b12
  have sz2 : w2.heap.size = S + 4 := by rw [hw2, ← hS]; simp
  have SLT : w.heap.size < S := by rw [← hS]; exact SZ.out
  rw [hS]
  clear hw2 b12 k0 k1 k2 k3 k4 j0 j1 j2 j3 j4 BX B0 SZ hS
  refine wpIn_rangeFunc_ownH rfl (by omega) (gf := 28) (lb := #[.pointer (some ⟨S + 1, 0, none⟩), .pointer (some ⟨S + 1 + 1, 0, none⟩), .pointer (some ⟨S + 1 + 1 + 1, 0, none⟩)]) rfl trivial (enters_of Try.func28 (by kernel_rfl) rfl)
    (passes_stops (6 - 1) (by omega) (S + 1) (S + 1 + 1) (S + 1 + 1 + 1) W H L w2 p1.cell p2.cell p3.cell) KeepB.trans (KeepB.put (by intro b hb; simp only [List.mem_cons, List.not_mem_nil, or_false] at hb; omega)) (Below.refl _ _) (fun _ => rfl)
    (fun pre V => (Boxed V S 3 (.int .i64 (dataW (rowN W H D C L) pre)) ∧ Box w.heap.size W H D C L V) ∧ (Below w.heap.size w V ∧ w2.heap.size ≤ V.heap.size))
    (fun _ _ _ => False)
    (OwnFrom.and (OwnFrom.and (Own.from (boxed_own _ _ _) _) (Own.from (fun s A B row hs hg hr => ⟨cell_kept hs.1 hg hr, cell_kept hs.2.1 hg hr, cell_kept hs.2.2.1 hg hr, cell_kept hs.2.2.2.1 hg hr, cell_kept hs.2.2.2.2 hg hr⟩) _)) (OwnFrom.and (ownFrom_below (Nat.le_refl _) b2.size) (fun _ _ _ _ hs hg _ => Nat.le_trans hs hg.size)))
    (fun _ _ _ _ _ hs _ _ => hs)
    ⟨⟨bS, bx2⟩, b2, Nat.le_refl _⟩
    (fun x a' V => ∃ Bx, w2.heap.size ≤ Bx ∧ V.heap[Bx]? = some (.cells #[.int .i64 x.2.1, .int .i64 x.2.2] 45 (0, 0)) ∧ a' = { tmps := #[.agg #[.int .i64 W, .int .i64 H, .int .i64 D, .int .i64 C, .int .i64 L], .pointer (some ⟨w.heap.size, 0, none⟩), .int .i64 0, .pointer (some ⟨S, 0, none⟩), undef, .pointer (some ⟨Bx, 0, none⟩), .agg #[.int .i64 W, .int .i64 H, .int .i64 D, .int .i64 C, .int .i64 L], .nilIface, .bool false, .pointer (some ⟨w.heap.size, 0, none⟩), .int .i64 W, .pointer (some ⟨w.heap.size, 1, none⟩), .int .i64 H, .pointer (some ⟨w.heap.size, 4, none⟩), .int .i64 L, .func (.func 28) #[] #[.pointer (some ⟨S + 1, 0, none⟩), .pointer (some ⟨S + 1 + 1, 0, none⟩), .pointer (some ⟨S + 1 + 1 + 1, 0, none⟩)], .int .i64 x.1, .agg #[.int .i64 x.2.1, .int .i64 x.2.2], undef, undef, undef, undef, undef, undef, undef, undef, undef, undef, undef], defers := [] })
    (fun x a' _ X Y row hs hg hr => by
      obtain ⟨Bx, h1, h2, h3⟩ := hs
      exact ⟨Bx, h1, by rw [hg.block Bx (Array.getElem?_eq_some_iff.1 h2).1 (fun e => by obtain ⟨_, o, ho, hc⟩ := hr Bx e.symm; rw [h2] at ho; cases ho; cases hc)]; exact h2, h3⟩)
    ?assign ?body ?done ?stop
  case assign =>
    rintro l pre x V K ⟨⟨bS1, bx1⟩, hB1, hs1⟩ hK
    gi_wp2
    refine hK _ _ ((KeepsOthers.alloc _ _).from _) ⟨by simp, fun b hb => Below.heap_alloc _ _ _ ?_⟩ ⟨⟨bS1.alloc _, bx1.old ((Below.refl _ V).alloc (Nat.le_refl _) _)⟩, hB1.alloc hB1.size _, Nat.le_trans hs1 (by simp)⟩ ⟨V.heap.size, hs1, heap_alloc_new V _, rfl⟩
    simp only [List.mem_cons, List.not_mem_nil, or_false] at hb
    omega
  case body =>
    rintro l pre x a' V hl ⟨r, hr⟩ ⟨⟨bS1, bx1⟩, hB1, hs1⟩ ⟨Bx, hBx, bX, rfl⟩ hlt
    have cS := bS1.cell
    have x0 : V.cell? ⟨Bx, 0, none⟩ = some (.int .i64 x.2.1) := by rw [cell_of_row _ _ 0 _ _ (0, 0) bX]; rfl
    have x1 : V.cell? ⟨Bx, 1, none⟩ = some (.int .i64 x.2.2) := by rw [cell_of_row _ _ 1 _ _ (0, 0) bX]; rfl
    have SN := Lib.hid (dataW_snoc (rowN W H D C L) pre x)
    have RS := Lib.hid (fun X => rowSize_any W H D C L x.2.1 X)
    obtain ⟨d, hd⟩ : ∃ d, dataW (rowN W H D C L) pre = d := ⟨_, rfl⟩
    obtain ⟨rr, hrr⟩ : ∃ d, rowN W H D C L x.2.1 = d := ⟨_, rfl⟩
    rw [hd] at cS SN
    rw [hrr] at RS SN
    obtain ⟨xa, xb, xc⟩ := x
    dsimp only at x0 x1 SN RS
    unfold headV at RS
    have keepC : ∀ {X Y : World}, (X.cell? ⟨S, 0, none⟩ = some (.int .i64 d) ∧ X.cell? ⟨Bx, 0, none⟩ = some (.int .i64 xb) ∧ X.cell? ⟨Bx, 1, none⟩ = some (.int .i64 xc) ∧ Box w.heap.size W H D C L X ∧ Below V.heap.size V X) → Below X.heap.size X Y →
        (Y.cell? ⟨S, 0, none⟩ = some (.int .i64 d) ∧ Y.cell? ⟨Bx, 0, none⟩ = some (.int .i64 xb) ∧ Y.cell? ⟨Bx, 1, none⟩ = some (.int .i64 xc) ∧ Box w.heap.size W H D C L Y ∧ Below V.heap.size V Y) := fun h hb => ⟨cell_old hb h.1, cell_old hb h.2.1, cell_old hb h.2.2.1, h.2.2.2.1.old hb, h.2.2.2.2.trans (hb.mono h.2.2.2.2.size)⟩
    gi_wp2_with fail
    refine wpIn_region_qt (fun X => X.cell? ⟨S, 0, none⟩ = some (.int .i64 d) ∧ X.cell? ⟨Bx, 0, none⟩ = some (.int .i64 xb) ∧ X.cell? ⟨Bx, 1, none⟩ = some (.int .i64 xc) ∧ Box w.heap.size W H D C L X ∧ Below V.heap.size V X) 10 (by kernel_rfl) (by kernel_rfl) (by kernel_rfl) (fun _ _ h => h) ⟨cS, x0, x1, bx1, (Below.refl _ V).drew⟩ ?_
    simp only [List.take_succ_cons, List.take_zero, List.drop_succ_cons, List.drop_zero]
    clear cS x0 x1
    repeat
      refine wpQuiet_step (fun K hK => ?_)
      rw [if_pos (by rfl)]
      apply Exists.intro
      refine ⟨fun X hX => ?_, hK _ ?_⟩
      · have hXX := Lib.hid hX
        obtain ⟨e1, e2, e3, ⟨e4, e5, e6, e7, e8⟩, e9⟩ := hX
        unfold Oper.quietAt
        go_simp
        first
        | exact ⟨rfl, rfl⟩
        | exact rfl
        | exact (RS.out _).mono (fun e W' ⟨h1, h2⟩ => ⟨h1, keepC hXX.out h2⟩)
      clear hK K
      try simp only [Act.put, List.setIfInBounds_toArray, List.set_cons_zero, List.set_cons_succ]
    refine wpQuiet_nil ?_
    rintro X ⟨e1, e2, e3, e4, e5⟩
    have fS : X.frozen? ⟨S, 0, none⟩ = false := by rw [World.frozen?_of_block (e5.block S bS1.lt)]; exact bS1.frozen
    go_wp2_with fail
    refine ⟨(⟨e5.size, fun k o _ hk _ => (e5.block k (Array.getElem?_eq_some_iff.1 hk).1).trans hk⟩ : KeepsFrom _ V X).trans ((KeepsOthers.setCell _ _ _).from _), ?_, ⟨?_, ?_⟩, ?_, ?_⟩
    · exact (KeepB.below e5 e5.size (by intro b hb; simp only [List.mem_cons, List.not_mem_nil, or_false] at hb; omega)).trans ⟨by simp, fun b hb => Go.Deep.blk_setCell_other _ _ _ _ (by simp only [List.mem_cons, List.not_mem_nil, or_false] at hb; simp only; omega)⟩
    · rw [SN.out]
      exact Boxed.set (v := .int .i64 d) _ (show X.heap[S]? = _ by rw [e5.block S bS1.lt, ← hd]; exact bS1)
    · obtain ⟨q0, q1, q2, q3, q4⟩ := e4
      have oth : ∀ i, (X.setCell ⟨S, 0, none⟩ (.int .i64 (wrap64 (d + wrap64 (xc * wrap64 (1 + rr)))))).cell? ⟨w.heap.size, i, none⟩ = X.cell? ⟨w.heap.size, i, none⟩ := fun i => World.cell?_of_block (Go.Deep.blk_setCell_other _ _ _ _ (by simp only; omega))
      exact ⟨(oth 0).trans q0, (oth 1).trans q1, (oth 2).trans q2, (oth 3).trans q3, (oth 4).trans q4⟩
    · exact (hB1.trans (e5.mono hB1.size)).setCell (p := ⟨S, 0, none⟩) (by simp only; omega) _
    · have := e5.size
      simp
      omega
  case done =>
    rintro Dd zs V hD rfl ⟨⟨bS1, bx1⟩, hB1, hs1⟩ hK
    have cS := bS1.cell
    gi_wp2
    refine ⟨by simp, .inl ⟨_, _, rfl, run_takeDeferred hK, ?_⟩⟩
    exact ⟨_, results_tmp rfl _ _ _, rfl, hB1.trans (belowK_b (w := w) (Nat.le_refl _) V Dd _ _ (by have := b2.size; omega) hK rfl rfl)⟩
  case stop =>
    rintro Dd c pre V _ _ h _
    exact h.elim
end Go.Proofs.Ytfmkcpilljfidaa
