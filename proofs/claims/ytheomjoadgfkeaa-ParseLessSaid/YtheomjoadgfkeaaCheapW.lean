/- parse.Cheapest walked. By an AI agent. -/
import Derived.Test.YtheomjoadgfkeaaRev
import Derived.Test.YtheomjoadgfkeaaNearI
import Derived.Test.YtheomjoadgfkeaaSound
import Derived.Great.BuildSlice
namespace Go.Proofs.Ytheomjoadgfkeaa
open Go.RowKit Go.Shelf
set_option linter.unusedVariables false
set_option linter.unusedSimpArgs false
attribute [local go_sem] Oper.semAt_some

theorem Fin.fvC {B : Nat} {w : World} {v : Value} {l : List UInt8} (h : Fin B w v l) : ∃ g bs, v = .pointer (some ⟨g, 0, none⟩) ∧ FV bs w v (some l) ∧ ∀ b ∈ bs, B ≤ b ∧ b < w.heap.size := by
  obtain ⟨g, tv, pv, rfl, h1, h2, h3, b1, b2, b3⟩ := h
  by_cases h0 : l.length = 0
  · refine ⟨g, [g], rfl, ⟨g, tv, pv, rfl, by simp, fun b hb hn => by omega, fun b hb hn => by omega, h1, h2, h3⟩, ?_⟩
    intro b hb
    rw [List.mem_singleton] at hb
    subst hb
    exact ⟨b1, (Array.getElem?_eq_some_iff.1 h1).1⟩
  · refine ⟨g, g :: (tv.ownBlock.toList ++ pv.ownBlock.toList), rfl, ⟨g, tv, pv, rfl, by simp, fun b hb _ => by simp [hb], fun b hb _ => by simp [hb], h1, h2, h3⟩, ?_⟩
    intro b hb
    rw [List.mem_cons, List.mem_append] at hb
    rcases hb with rfl | hb | hb
    · exact ⟨b1, (Array.getElem?_eq_some_iff.1 h1).1⟩
    · exact ⟨b2 b (by simpa using hb), slN_lt h2 (by decide) (by omega) b (by simpa using hb)⟩
    · exact ⟨b3 b (by simpa using hb), slN_lt h3 (by decide) (by simp [prevL]; omega) b (by simpa using hb)⟩

theorem tyTok : ElemTy Try.prog 22 27 (.agg #[.int .i64 0, .int .i64 0]) 2 16 := elemTy Try.underlying22 (by kernel_rfl) rfl (by decide)
theorem sl_lit2 (w : World) (a b : Value) (e : TypeId) : SlN 2 (w.alloc (.cells #[a, b] e)) (.slice (some ⟨w.heap.size, 0, none⟩) 1 1) 1 [a, b] :=
  ⟨rfl, .inr ⟨w.heap.size, 0, 1, rfl, Nat.le_refl _, by decide, fun i u hu => by
    rw [Nat.zero_add, cell_of_row _ w.heap.size i _ _ (0, 0) (heap_alloc_new _ _)]
    simpa using hu⟩⟩
/-- the marks of the loops that are over -/
def Marks (lo : Nat) (w : World) : List Deferred → Nat → Prop
  | [], _ => True
  | d :: ds, hi => ∃ D, d = { target := .collected D, args := #[] } ∧ lo ≤ D ∧ D < hi ∧ w.heap[D]? = some (.deferred (some [])) ∧ Marks lo w ds D
theorem Marks.mono {lo : Nat} {w : World} {ds : List Deferred} {hi hi' : Nat} (h : Marks lo w ds hi) (hle : hi ≤ hi') : Marks lo w ds hi' := by
  cases ds with
  | nil => trivial
  | cons d ds => obtain ⟨D, h1, h2, h3, h4, h5⟩ := h; exact ⟨D, h1, h2, by omega, h4, h5⟩
theorem Marks.same {lo : Nat} {w w' : World} : ∀ {ds : List Deferred} {hi : Nat}, Marks lo w ds hi → (∀ k, lo ≤ k → k < hi → w'.heap[k]? = w.heap[k]?) → Marks lo w' ds hi
  | [], _, _, _ => trivial
  | d :: ds, hi, ⟨D, h1, h2, h3, h4, h5⟩, hs => ⟨D, h1, h2, h3, (hs D h2 h3).trans h4, h5.same (fun k a b => hs k a (by omega))⟩
theorem marks_leave {F : Fence} {n : Nat} {P : Program} {fn : Func} {tmps : Array Value} {R : Ending → World → Prop} {lo : Nat} : ∀ (ds : List Deferred) (hi : Nat) (w : World), Marks lo w ds hi → (∀ w', Below lo w w' → (∀ k, hi ≤ k → w'.heap[k]? = w.heap[k]?) → LeavesIn F n P fn tmps R [] .returning w') → LeavesInM F n P fn tmps R ds .returning w
  | [], hi, w, _, h => h w (Below.refl _ _) (fun _ _ => rfl)
  | d :: ds, hi, w, ⟨D, h1, h2, h3, h4, h5⟩, h => by
    refine ⟨by simp, .inl ⟨D, _, by rw [h1], run_takeDeferred h4, ?_⟩⟩
    have hb : Below lo w (w.putObj D (.deferred none)) := (sameBut_put _ _ _).below h2
    exact marks_leave ds D _ (h5.same (fun k _ hk => World.putObj_heap_other (by omega))) (fun w' hw hs => h w' (hb.trans hw) (fun k hk => (hs k (by omega)).trans (World.putObj_heap_other (by omega))))
theorem Tow.up {b : Nat} {w w' : World} {v : Value} {T : List (Nat × Nat)} (h : Tow b w v T) (hs : ∀ k, b ≤ k → w'.heap[k]? = w.heap[k]?) : Tow b w' v T := by
  refine ⟨h.1, ?_⟩
  rcases h.2 with h | ⟨g, cap, cur, hv, hg, hc, hr⟩
  · exact .inl h
  · exact .inr ⟨g, cap, cur, hv, hg, (hs g hg).trans hc, hr⟩

theorem mkWays (n : Nat) (h : n ≤ 2000000) : ∃ O : Obj, (∀ w, (Instr.makeSlice 77 (.int .i64 (n : Int)) (.int .i64 (n : Int))).run Try.prog w = .ok (.slice (some ⟨w.heap.size, 0, none⟩) n n) (w.alloc O)) ∧ ∀ w : World, WayR (w.alloc O) w.heap.size n (fun _ => (0, 0, 0)) := by
  have hinfo : (Try.prog.info? 79).map (fun i => (i.zero, i.size, i.bytes)) = some (some (.agg #[.int .i64 0, .int .i64 0, .int .i64 0]), 3, 24) := by kernel_rfl
  obtain ⟨i, hi, hzz⟩ := Option.map_eq_some_iff.1 hinfo
  simp only [Prod.mk.injEq] at hzz
  obtain ⟨hz, hs, hb⟩ := hzz
  refine ⟨.cells (madeCells #[.int .i64 0, .int .i64 0, .int .i64 0] (n * 3)) 79, fun w => ?_, fun w => ?_⟩
  · have hr := run_make (P := Try.prog) (w := w) 77 79 i _ Try.underlying77 hi hz .i64 .i64 n n (by omega) (Int.le_refl _) (by rw [hb]; omega) (by omega)
    simp only [Int.toNat_natCast, hs] at hr
    exact hr
  · have h1 := World.rowIs_alloc w (madeCells #[.int .i64 0, .int .i64 0, .int .i64 0] (n * 3)) 79 (wayV (fun _ => (0, 0, 0))) (fun i hi => by
      rw [size_madeCells] at hi
      have : i % 3 = 0 ∨ i % 3 = 1 ∨ i % 3 = 2 := by omega
      rcases this with e | e | e <;> simp [madeCells, hi, wayV, wayN, e])
    rw [size_madeCells] at h1
    show World.rowIs _ _ _ (3 * n) _
    rw [Nat.mul_comm 3 n]
    exact h1
/-- the first loop: k places are endless -/
def initF (k : Nat) (j : Nat) : Way := if j = 0 ∨ k < j then (0, 0, 0) else (endless, 0, 0)
theorem init_put {V : World} {B m k : Nat} (h : WayR V B m (initF k)) (hk : k + 1 < m) : WayR (V.setCell ⟨B, (k + 1) * 3, none⟩ (.int .i64 endless)) B m (initF (k + 1)) := by
  refine World.rowIs.congr (World.rowIs.set h _ _) (fun i hi => ?_)
  unfold wayV
  by_cases e : i = (k + 1) * 3
  · rw [if_pos e, show i / 3 = k + 1 by omega, show i % 3 = 0 by omega]
    unfold initF
    rw [if_neg (by omega)]
    rfl
  · rw [if_neg e]
    by_cases e2 : i / 3 = k + 1
    · have : i % 3 = 1 ∨ i % 3 = 2 := by omega
      unfold initF
      rw [e2, if_pos (by omega), if_neg (by omega)]
      rcases this with h | h <;> rw [h] <;> rfl
    · have : initF (k + 1) (i / 3) = initF k (i / 3) := by
        unfold initF
        by_cases c : i / 3 = 0 ∨ k < i / 3
        · rw [if_pos (by omega), if_pos c]
        · rw [if_neg (by omega), if_neg c]
      rw [this]

/-- where the outer loop stands -/
theorem step_good {l : List UInt8} {p : Nat} {t : Nat × Nat} (h : Step l p t) : goodT (t.1 : Int) (t.2 : Int) = true := by
  unfold goodT
  rcases h with rfl | h
  · have := (l.getD p 0).toNat_lt
    rw [if_pos (by rfl), decide_eq_true_eq]
    exact ⟨by show (0 : Int) ≤ ((l.getD p 0).toNat : Int); omega, by show ((l.getD p 0).toNat : Int) < 256; omega⟩
  · have := edge_len h
    rw [if_neg (by omega), decide_eq_true_eq]
    omega
theorem step_fits {l : List UInt8} {p : Nat} {t : Nat × Nat} (hp : p < l.length) (h : Step l p t) : p + stepOf t ≤ l.length := by
  rcases h with rfl | h
  · show p + 1 ≤ _; omega
  · rw [edge_step h]; exact (edge_len h).2.2.2.2.2.2.1
theorem cost_pos {a b c : List Int} (hg : goodP a b c = true) {l : List UInt8} (p : Nat) (t : Nat × Nat) (h : Step l p t) : 0 ≤ costN a b c t := (prT_in hg (t := ((t.1 : Int), (t.2 : Int))) (step_good h)).1
theorem cost_lit {a b c : List Int} (hg : goodP a b c = true) {l : List UInt8} (p : Nat) (h : p < l.length) : costN a b c (litT l p) ≤ 1048576 := by
  obtain ⟨h1, h2, h3, h4, h5, h6⟩ := goodP_lens hg
  have hb := (l.getD p 0).toNat_lt
  exact (getD_in (k := ((l.getD p 0).toNat : Int).toNat) h4 (by omega)).2
theorem mid_inv {a b c : List Int} (hg : goodP a b c = true) {l : List UInt8} {q : Nat} (hq : q < l.length) {pre : List (Nat × Nat)} (hp : pre <+: edgesL l q) :
    ∀ j, 0 ≤ (stepTo (costN a b c) q (relax (costN a b c) (ways (costN a b c) l q) q (litT l q)) pre j).1 ∧ (stepTo (costN a b c) q (relax (costN a b c) (ways (costN a b c) l q) q (litT l q)) pre j).1 ≤ endless := by
  have ih := ways_inv (cost := costN a b c) (l := l) (fun p t h => cost_pos hg p t h) (fun p h => cost_lit hg p h) q (by omega)
  have h1 := ih.relax (fun p t h => cost_pos hg p t h) (t := litT l q) (.inl rfl) hq
  exact (WInv.steps (fun p t h => cost_pos hg p t h) hq pre _ _ h1 (fun t ht => .inr (hp.subset ht))).nonneg

structure CheapS (R B F m g : Nat) (bs : List Nat) (u v x : Value) (l : List UInt8) (w : World) (W : Nat → Way) (V : World) : Prop where
  below : Below R w V
  pr : V.heap[R]? = some (.cells #[u, v, x] 38 (0, 0))
  wb : Boxed V (B + 1) 77 (.slice (some ⟨B, 0, none⟩) m m)
  fb : Boxed V F 80 (.func (.func 44) #[] #[.pointer (some ⟨R, 0, none⟩), .pointer (some ⟨B + 1, 0, none⟩)])
  row : WayR V B m W
  fv : FV bs V (.pointer (some ⟨g, 0, none⟩)) (some l)
  size : F + 1 ≤ V.heap.size
theorem CheapS.low {R B F m g : Nat} {bs : List Nat} {u v x : Value} {l : List UInt8} {w : World} {W : Nat → Way} {V X : World} (h : CheapS R B F m g bs u v x l w W V) {N : Nat} (hb : Below N V X) (hN : F + 1 ≤ N) (h1 : R < F) (h2 : B + 2 ≤ F) (h3 : ∀ b ∈ bs, b < B) : CheapS R B F m g bs u v x l w W X :=
  ⟨h.below.trans (hb.mono (by omega)), (hb.block _ (by omega)).trans h.pr, (hb.block _ (by omega)).trans h.wb, (hb.block _ (by omega)).trans h.fb, h.row.of_block (hb.block _ (by omega)),
    h.fv.keep ⟨hb.size, fun b hbb => hb.block b (by have := h3 b hbb; omega)⟩, Nat.le_trans h.size hb.size⟩
theorem CheapS.grown {R B F m g : Nat} {bs : List Nat} {u v x : Value} {l : List UInt8} {w : World} {W W' : Nat → Way} {V X : World} (h : CheapS R B F m g bs u v x l w W V) (hg : V.grownBy X (some B)) (hr : WayR X B m W') (h0 : R < B) (h2 : B + 2 ≤ F) (h3 : ∀ b ∈ bs, b < B) : CheapS R B F m g bs u v x l w W' X := by
  have hs := h.size
  have key : ∀ k, k ≤ F → k ≠ B → X.heap[k]? = V.heap[k]? := fun k hk hne => hg.block k (by omega) (fun e => hne (Option.some.inj e))
  exact ⟨⟨hg.os.trans h.below.os, hg.tape.trans h.below.tape, hg.output.trans h.below.output, Nat.le_trans h.below.size hg.size, fun b hb => by rw [key b (by omega) (by omega), h.below.block b hb]⟩,
    (key _ (by omega) (by omega)).trans h.pr, (key _ (by omega) (by omega)).trans h.wb, (key _ (by omega) (by omega)).trans h.fb, hr, h.fv.keep ⟨hg.size, fun b hb => key b (by have := h3 b hb; omega) (by have := h3 b hb; omega)⟩, Nat.le_trans h.size hg.size⟩

set_option maxRecDepth 100000 in
set_option maxHeartbeats 8000000 in
theorem cheap_good (tv u v x : Value) (l : List UInt8) (a b c : List Int) (w : World) (hne : ¬ l = []) (hb : Bs w tv l) (hl : l.length ≤ 1000000) (hu : Ns w u a) (hv : Ns w v b) (hx : Ns w x c) (hg : goodP a b c = true) :
    Calls Try.prog 27 #[tv, .agg #[u, v, x]] w fun e w' => ∃ rv, e = .returned (.tuple #[rv, .nilIface]) ∧ Tk w' rv ((cheapL (costN a b c) l).map (fun t => ((t.1 : Int), (t.2 : Int)))) ∧ Below w.heap.size w w' := by
  obtain ⟨la, lb, lc, _⟩ := goodP_lens hg
  obtain ⟨R, hR⟩ : ∃ R, w.heap.size = R := ⟨_, rfl⟩
  obtain ⟨w1, hw1⟩ : ∃ w1, w1 = w.alloc (.cells #[u, v, x] 38) := ⟨_, rfl⟩
  have hw : Below w.heap.size w w1 := by rw [hw1]; exact (Below.refl _ _).alloc (Nat.le_refl _) _
  have hp1 : w1.heap[R]? = some (.cells #[u, v, x] 38 (0, 0)) := by rw [hw1, ← hR]; exact heap_alloc_new _ _
  have s1 : w1.heap.size = R + 1 := by rw [hw1, ← hR]; simp
  have k0 : w1.cell? ⟨R, 0, none⟩ = some u := by rw [cell_of_row _ R 0 _ _ (0, 0) hp1]; rfl
  have k1 : w1.cell? ⟨R, 1, none⟩ = some v := by rw [cell_of_row _ R 1 _ _ (0, 0) hp1]; rfl
  have k2 : w1.cell? ⟨R, 2, none⟩ = some x := by rw [cell_of_row _ R 2 _ _ (0, 0) hp1]; rfl
  have S := Lib.hid (sound_any u v x a b c w1 (hu.old hw) (hv.old hw) (hx.old hw) (by omega) (by omega) (by omega))
  have HW := Lib.hid hw
  have HB1 := Lib.hid (hb.old hw)
  have HU := Lib.hid hu
  have HV := Lib.hid hv
  have HX := Lib.hid hx
  have HG := Lib.hid hg
  have HRR := Lib.hid hR
  have HOLD : Hid (∀ V, Below R w V → Bs V tv l ∧ Ns V u a ∧ Ns V v b ∧ Ns V x c) := Lib.hid (fun V h => by rw [← hR] at h; exact ⟨hb.old h, hu.old h, hv.old h, hx.old h⟩)
  have HP1 := Lib.hid hp1
  have S1 := Lib.hid s1
  obtain ⟨av, cap, rfl⟩ := hb.len
  clear hw hb hu hv hx hg hp1 s1
  refine (callsIn_wide (n := 8)).1 ?_
  refine callsIn_of_wp_marks Try.func27 rfl trivial ?_ rfl
  simp only [Try.ntmps27, List.size_toArray, List.length_cons, List.length_nil, Nat.reduceAdd, Nat.reduceSub, Array.replicate_succ, Array.replicate_zero, List.push_toArray, List.append_toArray, List.nil_append, List.cons_append]
  refine wpIn_wide.2 ?_
  rw [← hR] at k0 k1 k2
  subst hw1
  go_wp2_with fail
  rw [hR] at HW
  clear hR
  refine S.out.mono ?_
  rintro e w2 ⟨rfl, hb2⟩
  rw [HG.out]
  have HB2 := Lib.hid (HB1.out.old hb2)
  have HP2 := Lib.hid ((hb2.block R (by rw [S1.out]; omega)).trans HP1.out)
  have S2 : Hid (R + 1 ≤ w2.heap.size) := Lib.hid (by rw [← S1.out]; exact hb2.size)
  have HW2 := Lib.hid (HW.out.trans (hb2.mono (by rw [S1.out]; omega)))
  clear hb2 k0 k1 k2
  go_wp2_with fail
  refine (newFinder_any _ l w2 HB2.out (by omega)).mono ?_
  rintro e w3 ⟨f, rfl, hF, hb3⟩
  obtain ⟨g, bs, rfl, hFV, hbs⟩ := hF.fvC
  have HF3 := Lib.hid hFV
  have BS3 := Lib.hid hbs
  have HP3 := Lib.hid ((hb3.block R (by have := S2.out; omega)).trans HP2.out)
  have S3 : Hid (R + 1 ≤ w3.heap.size) := Lib.hid (Nat.le_trans S2.out hb3.size)
  have HW3 := Lib.hid (HW2.out.trans (hb3.mono (by have := S2.out; omega)))
  obtain ⟨O, M1, hr⟩ := mkWays (l.length + 1) (by omega)
  have RO := Lib.hid hr
  have ew : ((l.length + 1 : Nat) : Int) = (l.length : Int) + 1 := by omega
  rw [ew] at M1
  clear hF hFV hbs hb3 hr ew
  go_wp2_with fail
  obtain ⟨B, hB⟩ : ∃ B, w3.heap.size = B := ⟨_, rfl⟩
  obtain ⟨w5, hw5⟩ : ∃ w5, w5 = (w3.alloc O).alloc (.cells #[.slice (some ⟨w3.heap.size, 0, none⟩) (l.length + 1) (l.length + 1)] 77) := ⟨_, rfl⟩
  rw [← hw5]
  have b5 : Below w3.heap.size w3 w5 := by rw [hw5]; exact ((Below.refl _ _).alloc (Nat.le_refl _) _).alloc (by simp) _
  have r5 : WayR w5 B (l.length + 1) (initF 0) := by
    rw [hw5, ← hB]
    refine World.rowIs.congr ((RO.out w3).alloc _) (fun i hi => ?_)
    unfold wayV initF
    rw [if_pos (by omega)]
  have q5 : Boxed w5 (B + 1) 77 (.slice (some ⟨B, 0, none⟩) (l.length + 1) (l.length + 1)) := by
    rw [hw5, ← hB]
    have h := Boxed.new (w3.alloc O) 77 (.slice (some ⟨w3.heap.size, 0, none⟩) (l.length + 1) (l.length + 1))
    rw [World.size_alloc] at h
    exact h
  have s5 : w5.heap.size = B + 2 := by rw [hw5, ← hB]; simp
  have HP5 := Lib.hid ((b5.block R (by have := S3.out; omega)).trans HP3.out)
  have HW5 := Lib.hid (HW3.out.trans (b5.mono (by have := S3.out; omega)))
  have HF5 := Lib.hid (HF3.out.keep (KeepB.below b5 b5.size (fun b hb => (BS3.out b hb).2)))
  have BSB : Hid (∀ b ∈ bs, R + 1 ≤ b ∧ b < B) := Lib.hid (fun b hb => ⟨Nat.le_trans S2.out (BS3.out b hb).1, by rw [← hB]; exact (BS3.out b hb).2⟩)
  have RB : Hid (R + 1 ≤ B) := Lib.hid (by rw [← hB]; exact S3.out)
  have R5 := Lib.hid r5
  have Q5 := Lib.hid q5
  have S5 := Lib.hid s5
  have HL := Lib.hid hl
  rw [hB]
  clear hw5 b5 r5 q5 s5 HF3 BS3 HP3 S3 HW3 M1 RO HP2 S2 HW2 HB2 HB1 S HP1 S1 HW
  go_loopw [36] (fun i w' => ∃ k : Nat, k ≤ l.length ∧ i = .int .i64 (k : Int) ∧ WayR w' B (l.length + 1) (initF k) ∧ w5.grownBy w' (some B)) (fun i _ => l.length - (intOf i).toNat)
  case atStart => exact ⟨0, Nat.zero_le _, rfl, R5.out, grown_of_below (Below.refl _ _) _⟩
  case round =>
    obtain ⟨k, hk, rfl, hR', hG⟩ := hrel
    have HR' := Lib.hid hR'
    have HG' := Lib.hid hG
    by_cases hkl : k < l.length
    · have f1 : decide ((k : Int) < (l.length : Int)) = true := by rw [decide_eq_true_eq]; omega
      have f1' : decide (k < l.length) = true := by rw [decide_eq_true_eq]; omega
      have c0 : wr.cell? ⟨B + 1, 0, none⟩ = some (.slice (some ⟨B, 0, none⟩) (l.length + 1) (l.length + 1)) := by rw [World.cell?_of_block (hG.block (B + 1) (by rw [S5.out]; omega) (by intro h; have := Option.some.inj h; omega))]; exact Q5.out.cell
      have c1 := wayR0 hR' (p := k + 1) (by omega)
      have c2 := World.rowIs.frozen hR' ((k + 1) * 3)
      have f2 : decide ((k : Int) + 1 < (l.length : Int) + 1) = true := by rw [decide_eq_true_eq]; omega
      clear hR' hG
      go_wp2_with fail
      go_roundw
      case rel =>
        refine ⟨k + 1, by omega, by go_num, init_put HR'.out (by omega), grownB_set HG'.out _ _⟩
      case measure => simp [intOf]; omega
    · have f1 : decide ((k : Int) < (l.length : Int)) = false := by rw [decide_eq_false_iff_not]; omega
      have f1' : decide (k < l.length) = false := by rw [decide_eq_false_iff_not]; omega
      have EK : Hid (k = l.length) := Lib.hid (by omega)
      clear hR' hG
      have HI1 : Hid ((Try.prog.info? 80).map (·.size) = some 1) := Lib.hid (by kernel_rfl)
      go_wp2_with (refine wpList_store_one rfl _ _ _ rfl wr.heap.size rfl (by rfl) _ _ (by exact heap_alloc_new _ _) HI1.out ?_; refine stop ?_)
      refine unstop ?_
      obtain ⟨F, hF⟩ : ∃ F, wr.heap.size = F := ⟨_, rfl⟩
      rw [hF]
      obtain ⟨w6, hw6⟩ : ∃ w6, w6 = (wr.alloc (.cells #[.nilFunc] 80)).setRow F #[.func (.func 44) #[] #[.pointer (some ⟨R, 0, none⟩), .pointer (some ⟨B + 1, 0, none⟩)]] := ⟨_, rfl⟩
      rw [← hw6]
      have FB : Hid (B + 2 ≤ F) := Lib.hid (by rw [← hF, ← S5.out]; exact HG'.out.size)
      have b6 : Below F wr w6 := by rw [hw6]; exact below_setRow ((Below.refl _ _).alloc (by omega) _) (by omega) _
      have hfin : ∀ b, b < w5.heap.size → b ≠ B → w6.heap[b]? = w5.heap[b]? := fun b hb hne => by
        rw [S5.out] at hb
        rw [b6.block b (by have := FB.out; omega), HG'.out.block b (by rw [S5.out]; exact hb) (by intro h; exact hne (Option.some.inj h))]
      have C6 : Hid (CheapS R B F (l.length + 1) g bs u v x l w (ways (costN a b c) l 0) w6) := Lib.hid (by
        have hRB := RB.out
        have hFB := FB.out
        refine ⟨?_, ?_, ?_, ?_, ?_, ?_, ?_⟩
        · have h1 : Below R w wr := ⟨HG'.out.os.trans HW5.out.os, HG'.out.tape.trans HW5.out.tape, HG'.out.output.trans HW5.out.output, Nat.le_trans HW5.out.size HG'.out.size, fun b hb => by
            rw [HG'.out.block b (by rw [S5.out]; omega) (by intro h; have := Option.some.inj h; omega), HW5.out.block b hb]⟩
          exact h1.trans (b6.mono (by omega))
        · rw [hfin R (by rw [S5.out]; omega) (by omega)]; exact HP5.out
        · exact (hfin (B + 1) (by rw [S5.out]; omega) (by omega)).trans Q5.out
        · show w6.heap[F]? = _
          rw [hw6]
          exact setRow_heap _ _ #[.nilFunc] _ _ _ (by rw [← hF]; exact heap_alloc_new _ _)
        · refine World.rowIs.congr (HR'.out.of_block (b6.block B (by omega))) (fun i hi => ?_)
          unfold wayV
          congr 2
          show initF k (i / 3) = if i / 3 = 0 then _ else _
          unfold initF
          by_cases c0 : i / 3 = 0
          · rw [if_pos (.inl c0), if_pos c0]
          · rw [if_neg (by have := EK.out; omega), if_neg c0]
        · refine HF5.out.keep ⟨by rw [S5.out]; have := b6.size; omega, fun b hb => ?_⟩
          have := BSB.out b hb
          exact hfin b (by rw [S5.out]; omega) (by omega)
        · rw [hw6]; simp [hF])
      clear hfin b6 hw6 hF HF5 HP5 HR' HG' HW5 R5 Q5 S5 EK hne
      go_wp2_with fail
      refine wp_loop (fun a' w' => ∃ (s11 s12 s49 s50 s51 s52 s53 s54 s55 s56 s57 s58 s59 s60 s61 s71 : Value) (q : Nat) (ds : List Deferred), a' = { tmps := #[.slice av l.length cap, .agg #[u, v, x], undef, .pointer (some ⟨R, 0, none⟩), .slice none 0 0, .nilIface, .pointer (some ⟨g, 0, none⟩), .nilIface, .pointer (some ⟨B + 1, 0, none⟩), u9, .pointer (some ⟨F, 0, none⟩), s11, s12, undef, undef, undef, undef, .agg #[u, v, x], .bool true, .bool false, undef, .tuple #[.pointer (some ⟨g, 0, none⟩), .nilIface], .slice av l.length cap, .tuple #[.pointer (some ⟨g, 0, none⟩), .nilIface], .pointer (some ⟨g, 0, none⟩), .nilIface, .nilIface, .bool false, undef, .slice av l.length cap, .int .i64 (l.length : Int), .int .i64 ((l.length : Int) + 1), .slice (some ⟨B, 0, none⟩) (l.length + 1) (l.length + 1), .slice (some ⟨B, 0, none⟩) (l.length + 1) (l.length + 1), .slice (some ⟨B, 3, none⟩) l.length l.length, .int .i64 (l.length : Int), .int .i64 (k : Int), .bool false, u38, u39, u40, u41, u42, u43, u44, .func (.func 44) #[] #[.pointer (some ⟨R, 0, none⟩), .pointer (some ⟨B + 1, 0, none⟩)], .slice av l.length cap, .int .i64 (l.length : Int), .int .i64 (q : Int), s49, s50, s51, s52, s53, s54, s55, s56, s57, s58, s59, s60, s61, undef, undef, undef, undef, undef, undef, undef, undef, undef, s71, undef, undef, undef, undef, undef, undef, undef, undef, undef, undef, undef, undef, undef, undef, undef, undef, undef, undef, undef, undef, undef, undef, undef, undef], defers := ds } ∧
          q ≤ l.length ∧ CheapS R B F (l.length + 1) g bs u v x l w (ways (costN a b c) l q) w' ∧ Marks (F + 1) w' ds w'.heap.size) (fun a' _ => l.length - (intOf (a'.tmps.getD 48 undef)).toNat) ?start ?round
      case start => exact ⟨_, _, _, _, _, _, _, _, _, _, _, _, _, _, _, _, 0, [], rfl, Nat.zero_le _, C6.out, trivial⟩
      case round =>
        clear C6
        rintro a' W0 ⟨s11, s12, s49, s50, s51, s52, s53, s54, s55, s56, s57, s58, s59, s60, s61, s71, q, ds, rfl, hq, hC, hM⟩
        have HC := Lib.hid hC
        have HM := Lib.hid hM
        by_cases hql : q < l.length
        · have f1 : decide ((q : Int) < (l.length : Int)) = true := by rw [decide_eq_true_eq]; omega
          have f1' : decide (q < l.length) = true := by rw [decide_eq_true_eq]; omega
          obtain ⟨_, _, hcap, hrd⟩ := (HOLD.out W0 hC.below).1.read
          simp only [Value.slice.injEq] at hcap
          obtain ⟨rfl, -, rfl⟩ := hcap
          obtain ⟨tb, toff, rfl, htx⟩ := hrd q hql
          have ex : l.getD q 0 = l[q] := by rw [List.getD_eq_getElem?_getD, List.getElem?_eq_getElem hql]; rfl
          have EX := Lib.hid ex
          have hby := l[q].toNat_lt
          generalize l[q] = y at *
          have z0 := (cell_old ((Below.refl W0.heap.size W0).alloc (Nat.le_refl _) (.cells #[.int .i64 (q : Int)] 3)) hC.fb.cell)
          clear hC hM hrd ex
          go_wp2_with fail
          obtain ⟨A, hA⟩ : ∃ A, W0.heap.size = A := ⟨_, rfl⟩
          obtain ⟨V1, hV1⟩ : ∃ V1, V1 = W0.alloc (.cells #[.int .i64 (q : Int)] 3) := ⟨_, rfl⟩
          rw [← hV1, hA]
          have hRB := RB.out
          have hFB := FB.out
          have hbsB : ∀ b ∈ bs, b < B := fun b hb => (BSB.out b hb).2
          have b1 : Below A W0 V1 := by rw [hV1, ← hA]; exact (Below.refl _ _).alloc (Nat.le_refl _) _
          have hFA : F + 1 ≤ A := by rw [← hA]; exact HC.out.size
          have C1 := HC.out.low b1 hFA (by omega) hFB hbsB
          have qa : Boxed V1 A 3 (.int .i64 (q : Int)) := by rw [hV1, ← hA]; exact Boxed.new _ _ _
          have sA : V1.heap.size = A + 1 := by rw [hV1, ← hA]; simp
          have M1 : Marks (F + 1) V1 ds A := by
            have h := HM.out
            rw [hA] at h
            exact h.same (fun k _ hk => b1.block k hk)
          have hlast : q + stepOf (litT l q) < l.length + 1 := by show q + 1 < _; omega
          have TR := try_any R (B + 1) B (l.length + 1) u v x a b c (ways (costN a b c) l q) q (litT l q) V1 C1.pr C1.wb.cell C1.row (HOLD.out V1 C1.below).2.1 (HOLD.out V1 C1.below).2.2.1 (HOLD.out V1 C1.below).2.2.2 HG.out (step_good (.inl rfl)) hlast (by omega)
            (ways_inv (fun p t h => cost_pos HG.out p t h) (fun p h => cost_lit HG.out p h) q (by omega)).nonneg
          rw [show litT l q = (0, y.toNat) by unfold litT; rw [EX.out], show ((stepOf (0, y.toNat) : Nat) : Int) = 1 by simp [stepOf], show ((((0 : Nat), y.toNat) : Nat × Nat).1 : Int) = 0 from rfl] at TR
          have LT : Hid (litT l q = (0, y.toNat)) := Lib.hid (by unfold litT; rw [EX.out])
          refine TR.mono ?_
          rintro e V2 ⟨⟨rv, rfl⟩, hr2, hg2⟩
          rw [← LT.out] at hr2
          have hs2 := hg2.size
          have C2 := C1.grown hg2 hr2 (by omega) hFB hbsB
          have hk2 : ∀ k, F < k → k < A + 1 → V2.heap[k]? = V1.heap[k]? := fun k h1 h2 => hg2.block k (by omega) (fun e => by have := Option.some.inj e; omega)
          have qa2 : Boxed V2 A 3 (.int .i64 (q : Int)) := (hk2 A (by omega) (by omega)).trans qa
          have M2 : Marks (F + 1) V2 ds A := M1.same (fun k h1 h2 => hk2 k (by omega) (by omega))
          have sA2 : A + 1 ≤ V2.heap.size := by omega
          have z1 := qa2.cell
          have C2' := Lib.hid C2
          have QA2 := Lib.hid qa2
          have M2' := Lib.hid M2
          clear hV1 b1 C1 qa sA M1 TR hr2 hg2 hs2 C2 hk2 qa2 M2 z0 f1 f1' htx hby HC HM hA
          go_wp2_with fail
          refine (nearest_any (q : Int) (some ⟨g, 0, none⟩) V2).mono ?_
          rintro e V3 ⟨rfl, hV3⟩
          go_wp2_with fail
          rw [← hV3]
          obtain ⟨D, hD⟩ : ∃ D, V2.heap.size = D := ⟨_, rfl⟩
          rw [hD]
          have hAD : A + 1 ≤ D := by rw [← hD]; exact sA2
          have b3 : Below D V2 V3 := by rw [hV3, ← hD]; exact ((Below.refl _ _).alloc (Nat.le_refl _) _).alloc (by simp) _
          have s3 : V3.heap.size = D + 2 := by rw [hV3, ← hD]; simp
          have n1 : Boxed V3 D 71 (.pointer (some ⟨g, 0, none⟩)) := by rw [hV3, ← hD]; exact (Boxed.new V2 _ _).alloc _
          have n2 : Boxed V3 (D + 1) 3 (.int .i64 (q : Int)) := by
            rw [hV3, ← hD]
            have h := Boxed.new (V2.alloc (.cells #[.pointer (some ⟨g, 0, none⟩)] 71)) 3 (.int .i64 (q : Int))
            rw [World.size_alloc] at h
            exact h
          have C3 := C2'.out.low b3 (by omega) (by omega) hFB hbsB
          have qa3 : Boxed V3 A 3 (.int .i64 (q : Int)) := (b3.block A (by omega)).trans QA2.out
          have M3 : Marks (F + 1) V3 ds A := M2'.out.same (fun k _ hk => b3.block k (by omega))
          have hb3 : ∀ b ∈ bs, b < V3.heap.size := fun b hb => by have := hbsB b hb; omega
          have hLL : Hid (pairsL (some l) (q : Int) = edgesL l q) := Lib.hid rfl
          have SQ := Lib.hid (near_seq 7 (by omega) D (D + 1) bs (q : Int) (some ⟨g, 0, none⟩) (some l) V3 (by omega) (by show l.length ≤ _; omega) n1.cell n2.cell C3.fv hb3)
          have C3' := Lib.hid C3
          have QA3 := Lib.hid qa3
          have M3' := Lib.hid M3
          clear C3 qa3 M3 b3 n1 n2 hV3 C2' QA2 M2' sA2 hD z1
          refine wpIn_wide.1 (rangeB (n := 8) (by omega) (gf := 57) (lb := #[.pointer (some ⟨D, 0, none⟩), .pointer (some ⟨D + 1, 0, none⟩)]) rfl (enters_of Try.func57 (by kernel_rfl) rfl)
            SQ.out (Below.refl _ _) (fun _ => rfl) hb3
            (fun pre X => CheapS R B F (l.length + 1) g bs u v x l w (stepTo (costN a b c) q (relax (costN a b c) (ways (costN a b c) l q) q (litT l q)) pre) X ∧ Boxed X A 3 (.int .i64 (q : Int)) ∧ Marks (F + 1) X ds A ∧ D + 2 ≤ X.heap.size) (fun c pre X => False)
            (fun s X Y h hb => ⟨h.1.low hb (by omega) (by omega) hFB hbsB, (hb.block A (by omega)).trans h.2.1, h.2.2.1.same (fun k _ hk => hb.block k (by omega)), Nat.le_trans h.2.2.2 hb.size⟩) (fun c s X Y h hb => h) ⟨C3'.out, QA3.out, M3'.out, by omega⟩ ?round ?done ?stop)
          case round =>
            rintro ll pre x0 X hl hlX ⟨hC, hQ, hMk, hsz⟩ hx
            rw [s3] at hl ⊢
            have HXP : Hid (pre ++ [x0] <+: edgesL l q) := Lib.hid hx
            have hmem : x0 ∈ edgesL l q := HXP.out.subset (by simp)
            have hst : q + stepOf x0 < l.length + 1 := by have := step_fits hql (.inr hmem); omega
            have hgd := step_good (.inr hmem)
            have es : stepOf x0 = x0.1 := edge_step hmem
            have INV := Lib.hid (mid_inv HG.out hql (List.IsPrefix.trans (List.prefix_append pre [x0]) HXP.out))
            have HGD := Lib.hid hgd
            have HST := Lib.hid hst
            have HES := Lib.hid es
            have HC4 := Lib.hid hC
            have HQ4 := Lib.hid hQ
            have HM4 := Lib.hid hMk
            clear hC hQ hMk hx hmem hgd hst es HXP
            gi_wp2_with fail
            refine ⟨KeepsFrom.refl _ _, fun Z hZ => ?_⟩
            have bz : Below ll X Z := hZ.below (Nat.le_refl _)
            have CZ := HC4.out.low bz (by omega) (by omega) hFB hbsB
            have QZ : Boxed Z A 3 (.int .i64 (q : Int)) := (bz.block A (by omega)).trans HQ4.out
            have MZ : Marks (F + 1) Z ds A := HM4.out.same (fun k _ hk => bz.block k (by omega))
            have y1 := CZ.fb.cell
            have y2 := QZ.cell
            have HCZ := Lib.hid CZ
            have HQZ := Lib.hid QZ
            have HMZ := Lib.hid MZ
            have HZ := Lib.hid hZ
            have TR := try_any R (B + 1) B (l.length + 1) u v x a b c _ q x0 Z CZ.pr CZ.wb.cell CZ.row (HOLD.out Z CZ.below).2.1 (HOLD.out Z CZ.below).2.2.1 (HOLD.out Z CZ.below).2.2.2 HG.out HGD.out HST.out (by omega) INV.out
            rw [HES.out] at TR
            have HTR := Lib.hid TR
            clear CZ QZ MZ TR bz hZ HC4 HQ4 HM4 INV
            gi_wp2_with fail
            refine ⟨trivial, (callsIn_wide.2 HTR.out).mono ?_⟩
            rintro e Y ⟨⟨rv, rfl⟩, hr, hg⟩
            have HRY := Lib.hid hr
            have HGY := Lib.hid hg
            clear hr hg y1 y2
            gi_wp2_with fail
            have hsz2 := HGY.out.size
            have hzz := HCZ.out.size
            have hsX := HZ.out.size
            have hAZ : A < Z.heap.size := by omega
            refine ⟨⟨hsz2, fun k o hk ho _ => ?_⟩, ⟨by omega, fun k hk hlt => ?_⟩, ?_, ?_, ?_, by omega⟩
            · rw [HGY.out.block k (Array.getElem?_eq_some_iff.1 ho).1 (fun e => by have := Option.some.inj e; omega)]; exact ho
            · have hkB : k ≠ B := by
                rcases hk with hk | hk
                · have := hbsB k hk; omega
                · omega
              have hkl : k ≠ ll := by
                rcases hk with hk | hk
                · have := hbsB k hk; omega
                · omega
              rw [HGY.out.block k (by omega) (fun e => hkB (Option.some.inj e)), HZ.out.block k hkl]
            · rw [stepTo_snoc]
              exact HCZ.out.grown HGY.out HRY.out (by omega) hFB hbsB
            · exact (HGY.out.block A hAZ (fun e => by have := Option.some.inj e; omega)).trans HQZ.out
            · exact HMZ.out.same (fun k h1 h2 => HGY.out.block k (by omega) (fun e => by have := Option.some.inj e; omega))
          case done =>
            rintro E X hE hEX ⟨hC, hQ, hMk, hsz⟩ hK
            have e1 : CheapS R B F (l.length + 1) g bs u v x l w (ways (costN a b c) l (q + 1)) X := hC
            have m1 : Marks (F + 1) X ({ target := .collected E, args := #[] } :: ds) X.heap.size := ⟨E, rfl, by omega, hEX, hK, hMk.mono (by omega)⟩
            have HE1 := Lib.hid e1
            have HM1 := Lib.hid m1
            have FF1 : Hid (q < l.length) := Lib.hid hql
            clear hC hQ hMk hK e1 m1
            go_wp2_with fail
            refine ⟨⟨_, _, _, _, _, _, _, _, _, _, _, _, _, _, _, _, q + 1, _, rfl, FF1.out, HE1.out, HM1.out⟩, ?_⟩
            have h := FF1.out
            simp [intOf]
            omega
          case stop =>
            rintro _ _ _ _ _ _ _ h _
            exact h.elim
        · have f1 : decide ((q : Int) < (l.length : Int)) = false := by rw [decide_eq_false_iff_not]; omega
          have f1' : decide (q < l.length) = false := by rw [decide_eq_false_iff_not]; omega
          have EQ : Hid (q = l.length) := Lib.hid (by omega)
          clear hC hM hql hq
          go_wp2_with fail
          have hRB := RB.out
          have hFB := FB.out
          have hbsB : ∀ b ∈ bs, b < B := fun b hb => (BSB.out b hb).2
          obtain ⟨W, hW⟩ : ∃ W, ways (costN a b c) l l.length = W := ⟨_, rfl⟩
          have WI : Hid (WInv (costN a b c) l l.length (fun _ => False) W) := Lib.hid (by rw [← hW]; exact ways_inv (fun p t h => cost_pos HG.out p t h) (fun p h => cost_lit HG.out p h) l.length (Nat.le_refl _))
          have HC2 := Lib.hid HC.out
          rw [EQ.out, hW] at HC2
          have CH : Hid (cheapL (costN a b c) l = backL W l.length l.length) := Lib.hid (by unfold cheapL; rw [hW])
          clear hW HC
          obtain ⟨N0, hN⟩ : ∃ N0, W0.heap.size = N0 := ⟨_, rfl⟩
          have HN := Lib.hid hN
          clear hN f1 f1'
          go_loopw [15, 16] (fun o j w' => ∃ (n f : Nat) (T : List (Nat × Nat)), n ≤ l.length ∧ n ≤ f ∧ j = .int .i64 (n : Int) ∧ Tow N0 w' o T ∧ T ++ (backL W f n).reverse = (backL W l.length l.length).reverse ∧ T.length + n ≤ l.length ∧ Below N0 W0 w') (fun _ j _ => (intOf j).toNat)
          case atStart => exact ⟨l.length, l.length, [], Nat.le_refl _, Nat.le_refl _, rfl, Tow.nil _ _, rfl, by simp, by rw [← HN.out]; exact Below.refl _ _⟩
          case round =>
            obtain ⟨o0, rfl⟩ : ∃ x, x = u15 := ⟨u15, rfl⟩
            obtain ⟨n, f, T, hn, hf, rfl, hT, hTf, hTl, hb0⟩ := hrel
            have HT := Lib.hid hT
            have HTF := Lib.hid hTf
            have HTL := Lib.hid hTl
            have HBB := Lib.hid hb0
            have CR := HC2.out.low hb0 (by rw [← HN.out]; exact HC2.out.size) (by omega) hFB hbsB
            clear hT hTf hTl hb0
            by_cases hn0 : n = 0
            · subst hn0
              have TE : T.reverse = cheapL (costN a b c) l := by
                have h := HTF.out
                have e0 : backL W f 0 = [] := by cases f <;> simp [backL]
                rw [e0, List.reverse_nil, List.append_nil] at h
                rw [h, List.reverse_reverse, CH.out]
              have HTE := Lib.hid TE
              have HNW : Hid (N0 ≤ wr.heap.size) := Lib.hid (by rw [← HN.out]; have h := HBB.out.size; rw [HN.out] at h ⊢; exact h)
              have HCR := Lib.hid CR
              clear TE CR
              go_wp2_with fail
              refine (rev_any N0 o0 T wr HT.out (by have := HTL.out; omega) HNW.out).mono ?_
              rintro e V ⟨⟨rv, rfl⟩, hT2, hg2⟩
              have hbV : Below N0 W0 V := by
                have h1 : Below W0.heap.size W0 wr := by rw [HN.out]; exact HBB.out
                have h2 := h1.grown hg2 h1.size (fun k hk => by rw [HN.out]; exact (World.ownsRow.lt HT.out k hk).1)
                rw [HN.out] at h2
                exact h2
              have HT2 := Lib.hid hT2
              have HBV := Lib.hid hbV
              clear hT2 hg2 hbV
              go_wp2_with fail
              have hMV : Marks (F + 1) V ds N0 := by
                have h := HM.out
                rw [HN.out] at h
                exact h.same (fun k _ hk => HBV.out.block k hk)
              refine marks_leave ds N0 V hMV (fun w' hb' hs' => ?_)
              refine ⟨.tuple #[o0, .nilIface], by simp [results, Try.f27, go_sem], o0, rfl, ?_, ?_⟩
              · have h := (HT2.out.up hs').tk
                rw [HTE.out] at h
                exact h
              · rw [HRR.out]
                have h1 := HC2.out.below
                exact (h1.trans (HBV.out.mono (by have := HC2.out.size; rw [HN.out] at this; omega))).trans (hb'.mono (by omega))
            · have d1 : decide ((0 : Int) < (n : Int)) = true := by rw [decide_eq_true_eq]; omega
              have d2 : decide (0 < n) = true := by rw [decide_eq_true_eq]; omega
              have d3 : decide ((n : Int) < (l.length : Int) + 1) = true := by rw [decide_eq_true_eq]; omega
              have d4 : n < l.length + 1 := by omega
              have c0 := CR.wb.cell
              have c1 := wayR1 CR.row (p := n) (by omega)
              have c2 := wayR2 CR.row (p := n) (by omega)
              obtain ⟨t, ht⟩ : ∃ t, (W n).2 = t := ⟨_, rfl⟩
              rw [ht] at c1 c2
              have HTT := Lib.hid ht
              have HCR := Lib.hid CR
              clear CR ht
              obtain ⟨ta, tb2⟩ := t
              simp only at c1 c2
              have hback : stepOf (ta, tb2) ≤ n ∧ backL W f n = backL W (f - 1) (n - stepOf (ta, tb2)) ++ [(ta, tb2)] := by
                refine ⟨?_, ?_⟩
                · rcases WI.out.from_ n hn0 with h | ⟨q0, h1, h2, _⟩
                  · have := WI.out.low n hn
                    rw [h] at this
                    unfold endless at this
                    omega
                  · rw [HTT.out] at h2; omega
                · obtain ⟨f0, rfl⟩ : ∃ f0, f = f0 + 1 := ⟨f - 1, by omega⟩
                  rw [backL, if_neg hn0, HTT.out]
                  rfl
              have HBK := Lib.hid hback
              have hsp := stepOf_pos (ta, tb2)
              clear hback
              have HNW : Hid (N0 ≤ wr.heap.size) := Lib.hid (by rw [← HN.out]; have h := HBB.out.size; rw [HN.out] at h ⊢; exact h)
              go_wp2_with (at_builtin; refine stop ?_)
              refine unstop (wpList_app tyTok rfl _ _ rfl N0 _ T.length (tokVals T) rfl (World.ownsRow.alloc HT.out _) _ 1 [.int .i64 (ta : Int), .int .i64 (tb2 : Int)] rfl (sl_lit2 _ _ _ _) (by intro u hu; simp at hu; rcases hu with rfl | rfl <;> rfl) (by have := HTL.out; omega) (by have := HTL.out; omega) (Nat.le_trans HNW.out (by simp)) ?_)
              intro v7 w7 hown7 hg7 _
              have hb7 : Below N0 W0 w7 := by
                have h1 : Below W0.heap.size W0 (wr.alloc (.cells #[.int .i64 (ta : Int), .int .i64 (tb2 : Int)] 27)) := by rw [HN.out]; exact HBB.out.alloc HNW.out _
                have h2 := run_app_below (World.ownsRow.alloc HT.out _) hg7 h1 (by rw [HN.out]; exact Nat.le_refl _)
                rw [HN.out] at h2
                exact h2
              have HT7 : Hid (Tow N0 w7 v7 (T ++ [(ta, tb2)])) := Lib.hid (by
                unfold Tow
                rw [List.length_append, tokVals_app]
                exact hown7)
              have C7 := HC2.out.low hb7 (by rw [← HN.out]; exact HC2.out.size) (by omega) hFB hbsB
              have g0 := C7.wb.cell
              have g1 := wayR1 C7.row (p := n) (by omega)
              rw [HTT.out] at g1
              simp only at g1
              have HB7 := Lib.hid hb7
              clear hown7 hg7 hb7 C7 c0 c1 c2
              go_wp2_with fail
              obtain ⟨st, hst⟩ : ∃ st, stepOf (ta, tb2) = st := ⟨_, rfl⟩
              have em : (if ((ta : Nat) : Int) < 1 then (1 : Int) else (ta : Int)) = (st : Int) := by
                rw [← hst]
                unfold stepOf
                simp only
                split <;> omega
              have hk1 := HBK.out.1
              rw [hst] at hk1 hsp
              have ew : wrap64 ((n : Int) - (st : Int)) = ((n - st : Nat) : Int) := by rw [IntWalk.wrap64_in _ (by omega)]; omega
              rw [em, ew]
              refine ⟨⟨n - st, f - 1, T ++ [(ta, tb2)], by omega, by omega, rfl, HT7.out, ?_, ?_, HB7.out⟩, by simp [intOf]; omega⟩
              · have h := HTF.out
                rw [HBK.out.2, List.reverse_append] at h
                rw [← h, hst]
                simp
              · rw [List.length_append]
                have := HTL.out
                simp only [List.length_cons, List.length_nil]
                omega
end Go.Proofs.Ytheomjoadgfkeaa
