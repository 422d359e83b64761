/- The walk of burnishref24.Block. By an AI agent. -/
import Derived.Test.YtnhalnjdlkdnkaaZ17
namespace Go.Proofs.Ytnhalnjdlkdnkaa
open Go.RowKit
set_option linter.unusedVariables false
set_option linter.unusedSimpArgs false

theorem block_any (l : List Int) (t : Int) (w : World) (hl : l.length = 64) : Calls Try.prog 10 #[arr l, .int .i64 t] w fun e w' => e = .returned (arr (blockL t l)) ∧ Below w.heap.size w w' := by
  unfold blockL
  cases hc : crossB t with
  | false => simpa using block_c0 l t _ _ w hl hc rfl rfl
  | true => simpa using block_c1 l t _ _ w hl hc rfl rfl
theorem crosses_any (t : Int) (w : World) : Calls Try.prog 29 #[.int .i64 t] w fun e w' => e = .returned (.bool (crossB t)) ∧ w = w' := by
  have c : (decide (4 ≤ t) = false ∧ crossB t = false) ∨ (decide (4 ≤ t) = true ∧ decide (t ≤ 7) = false ∧ crossB t = false) ∨ (decide (4 ≤ t) = true ∧ decide (t ≤ 7) = true ∧ crossB t = true) := by
    unfold crossB
    simp only [decide_eq_true_eq, decide_eq_false_iff_not]
    omega
  rcases c with ⟨h1, h⟩ | ⟨h1, h2, h⟩ | ⟨h1, h2, h⟩
  all_goals
    rw [h]
    clear h
    go_enter Try.func29, Try.ntmps29
    go_wp2
    go_ret
    exact ⟨rfl, rfl⟩
theorem flips_any (t : Int) (w : World) : Calls Try.prog 30 #[.int .i64 t] w fun e w' => e = .returned (.bool (flipB t)) ∧ w = w' := by
  by_cases h : t = 1 ∨ t = 3 ∨ t = 5 ∨ t = 7
  · rcases h with rfl | rfl | rfl | rfl
    all_goals
      go_enter Try.func30, Try.ntmps30
      go_wp2
      go_ret
      exact ⟨rfl, rfl⟩
  · have e1 : (t == 1) = false := by rw [beq_eq_false_iff_ne]; omega
    have e3 : (t == 3) = false := by rw [beq_eq_false_iff_ne]; omega
    have e5 : (t == 5) = false := by rw [beq_eq_false_iff_ne]; omega
    have e7 : (t == 7) = false := by rw [beq_eq_false_iff_ne]; omega
    have F : Hid (flipB t = false) := Lib.hid (by unfold flipB; rw [decide_eq_false_iff_not]; omega)
    clear h
    go_enter Try.func30, Try.ntmps30
    go_wp2
    go_ret
    exact ⟨by rw [F.out]; rfl, rfl⟩
theorem flops_any (t : Int) (w : World) : Calls Try.prog 31 #[.int .i64 t] w fun e w' => e = .returned (.bool (flopB t)) ∧ w = w' := by
  by_cases h : t = 2 ∨ t = 3 ∨ t = 6 ∨ t = 7
  · rcases h with rfl | rfl | rfl | rfl
    all_goals
      go_enter Try.func31, Try.ntmps31
      go_wp2
      go_ret
      exact ⟨rfl, rfl⟩
  · have e1 : (t == 2) = false := by rw [beq_eq_false_iff_ne]; omega
    have e3 : (t == 3) = false := by rw [beq_eq_false_iff_ne]; omega
    have e5 : (t == 6) = false := by rw [beq_eq_false_iff_ne]; omega
    have e7 : (t == 7) = false := by rw [beq_eq_false_iff_ne]; omega
    have F : Hid (flopB t = false) := Lib.hid (by unfold flopB; rw [decide_eq_false_iff_not]; omega)
    clear h
    go_enter Try.func31, Try.ntmps31
    go_wp2
    go_ret
    exact ⟨by rw [F.out]; rfl, rfl⟩

def rfF (M : List Int) (i k : Nat) : Value := if k < i then .int .i64 (M.getD k 0) else .int .i64 0
theorem rfF_step (M : List Int) (k : Nat) {w : World} {g : Nat} {T : TypeId} (h : w.rowIs g T 64 (rfF M k)) (v : Int) (hv : v = M.getD k 0) : (w.setCell ⟨g, k, none⟩ (.int .i64 v)).rowIs g T 64 (rfF M (k + 1)) :=
  (h.set k _).congr (fun j _ => by
    unfold rfF
    by_cases hj : j = k
    · subst hj; rw [if_pos rfl, if_pos (Nat.lt_succ_self _), hv]
    · rw [if_neg hj]
      by_cases h2 : j < k
      · rw [if_pos h2, if_pos (by omega)]
      · rw [if_neg h2, if_neg (by omega)])
/-- what stands besides, in a round of the reference's Block -/
structure RefSt (w : World) (l : List Int) (w' : World) : Prop where
  zero : ∃ old : Array Value, w'.heap[w.heap.size + 1]? = some (.cells old 23 (0, 0)) ∧ old.size = 64
  row : w'.rowIs w.heap.size 23 64 (fun k => .int .i64 (l.getD k 0))
  bel : Below w.heap.size w w'
theorem RefSt.set {w : World} {l : List Int} {w' : World} (h : RefSt w l w') (k : Nat) (v : Value) : RefSt w l (w'.setCell ⟨w.heap.size + 1 + 1, k, none⟩ v) :=
  ⟨by rw [heap_setCell_other _ _ _ _ (by show w.heap.size + 1 ≠ w.heap.size + 1 + 1; omega)]; exact h.zero, h.row.setOther (by show w.heap.size ≠ w.heap.size + 1 + 1; omega) _, h.bel.setCell (by show w.heap.size ≤ w.heap.size + 1 + 1; omega) _⟩
theorem blockL_at (t : Int) (l : List Int) (x y : Nat) (hx : x < 8) (hy : y < 8) : (blockL t l).getD (8 * y + x) 0 = sg2 (flipB t) (flopB t) (x % 2) (y % 2) (if crossB t = true then l.getD (8 * x + y) 0 else l.getD (8 * y + x) 0) := by
  have hk : 8 * y + x < 64 := by omega
  have e1 : (8 * y + x) % 2 = x % 2 := by omega
  have e2 : (8 * y + x) / 8 = y := by omega
  have e3 : (8 * y + x) % 8 = x := by omega
  have hs : ∀ L : List Int, (signL (flipB t) (flopB t) L).getD (8 * y + x) 0 = sg2 (flipB t) (flopB t) (x % 2) (y % 2) (L.getD (8 * y + x) 0) := by
    intro L
    simp [signL, hk, sgn, e1, e2]
  unfold blockL
  rw [hs]
  by_cases hc : crossB t = true
  · rw [if_pos hc, if_pos hc]
    have : (crossL l).getD (8 * y + x) 0 = l.getD (8 * x + y) 0 := by
      unfold crossL
      rw [List.getD_eq_getElem?_getD, List.getElem?_map, List.getElem?_range hk, Option.map_some, Option.getD_some, e2, e3, Nat.mul_comm x 8]
    rw [this]
  · rw [if_neg hc, if_neg hc]

set_option maxRecDepth 20000 in
set_option maxHeartbeats 3200000 in
theorem refBlock_out (l : List Int) (t : Int) (w : World) (hl : l.length = 64) (ht : t < 0 ∨ 7 < t) :
    Calls Try.prog 11 #[arr l, .int .i64 t] w fun e w' => e = .returned (arr l) ∧ Below w.heap.size w w' := by
  have c : decide (t < 0) = true ∨ (decide (t < 0) = false ∧ decide (7 < t) = true) := by simp only [decide_eq_true_eq, decide_eq_false_iff_not]; omega
  have HL := Lib.hid hl
  have HI64 := Lib.hid info64
  have HI64' : Hid (∀ m : List Int, m.length = 64 → (Try.prog.info? 23).map (·.size) = some (vIs m).length) := Lib.hid (fun m hm => by have h := HI64.out m hm; simpa using h)
  have H164 : Hid (∀ m : List Int, (vIs m).toArray.all (·.oneCell') = true) := Lib.hid (fun m => all_oneCell_toArray (fun v hv => vIs_one m v hv))
  have ROWS : Hid (∀ w2, (w.alloc (.cells (vIs l).toArray 23)).alloc (.cells #[.int .i64 0, .int .i64 0, .int .i64 0, .int .i64 0, .int .i64 0, .int .i64 0, .int .i64 0, .int .i64 0, .int .i64 0, .int .i64 0, .int .i64 0, .int .i64 0, .int .i64 0, .int .i64 0, .int .i64 0, .int .i64 0, .int .i64 0, .int .i64 0, .int .i64 0, .int .i64 0, .int .i64 0, .int .i64 0, .int .i64 0, .int .i64 0, .int .i64 0, .int .i64 0, .int .i64 0, .int .i64 0, .int .i64 0, .int .i64 0, .int .i64 0, .int .i64 0, .int .i64 0, .int .i64 0, .int .i64 0, .int .i64 0, .int .i64 0, .int .i64 0, .int .i64 0, .int .i64 0, .int .i64 0, .int .i64 0, .int .i64 0, .int .i64 0, .int .i64 0, .int .i64 0, .int .i64 0, .int .i64 0, .int .i64 0, .int .i64 0, .int .i64 0, .int .i64 0, .int .i64 0, .int .i64 0, .int .i64 0, .int .i64 0, .int .i64 0, .int .i64 0, .int .i64 0, .int .i64 0, .int .i64 0, .int .i64 0, .int .i64 0, .int .i64 0] 23) = w2 → w2.rangeAt w.heap.size 0 (vIs l) ∧ (∃ old : Array Value, w2.heap[w.heap.size + 1]? = some (.cells old 23 (0, 0)) ∧ old.size = 64) ∧ Below w.heap.size w w2) := Lib.hid (by
    rintro w2 rfl
    exact ⟨row_range (row_of_heap (heap_new0 _ _ _) HL.out) HL.out, ⟨_, heap_new1 _ _ _, rfl⟩, ((Below.refl _ _).alloc (Nat.le_refl _) _).alloc (by simp) _⟩)
  clear hl ht
  unfold arr
  rcases c with c1 | ⟨c1, c2⟩
  all_goals
    go_enter Try.func11, Try.ntmps11
    go_wp2_with (refine wpList_load_mid rfl _ _ rfl w.heap.size 0 rfl (vIs l) _ (ROWS.out _ rfl).1 Try.underlying23 rfl (HI64'.out l HL.out) ?_; refine stop ?_)
    refine unstop ?_
    obtain ⟨w2, hw2⟩ : ∃ w2, (w.alloc (.cells (vIs l).toArray 23)).alloc (.cells #[.int .i64 0, .int .i64 0, .int .i64 0, .int .i64 0, .int .i64 0, .int .i64 0, .int .i64 0, .int .i64 0, .int .i64 0, .int .i64 0, .int .i64 0, .int .i64 0, .int .i64 0, .int .i64 0, .int .i64 0, .int .i64 0, .int .i64 0, .int .i64 0, .int .i64 0, .int .i64 0, .int .i64 0, .int .i64 0, .int .i64 0, .int .i64 0, .int .i64 0, .int .i64 0, .int .i64 0, .int .i64 0, .int .i64 0, .int .i64 0, .int .i64 0, .int .i64 0, .int .i64 0, .int .i64 0, .int .i64 0, .int .i64 0, .int .i64 0, .int .i64 0, .int .i64 0, .int .i64 0, .int .i64 0, .int .i64 0, .int .i64 0, .int .i64 0, .int .i64 0, .int .i64 0, .int .i64 0, .int .i64 0, .int .i64 0, .int .i64 0, .int .i64 0, .int .i64 0, .int .i64 0, .int .i64 0, .int .i64 0, .int .i64 0, .int .i64 0, .int .i64 0, .int .i64 0, .int .i64 0, .int .i64 0, .int .i64 0, .int .i64 0, .int .i64 0] 23) = w2 := ⟨_, rfl⟩
    obtain ⟨_, ⟨old, hold, hosz⟩, hb2⟩ := ROWS.out w2 hw2
    rw [hw2]
    have HO := Lib.hid hold
    have HOS := Lib.hid hosz
    have B2 := Lib.hid hb2
    clear hw2 hold hosz hb2
    go_wp2_with (refine wpList_store_row rfl _ _ _ rfl (w.heap.size + 1) (vIs l).toArray rfl rfl 23 _ HO.out (HI64.out l HL.out) (by rw [HOS.out]; simp [vIs, HL.out]) (H164.out l) ?_)
    refine bodyPost_ret (v := arr l) (results_cell_row rfl _ _ (w.heap.size + 1) 23 (vIs l).toArray (0, 0) _ rfl ?_ Try.underlying23 rfl (HI64.out l HL.out)) rfl ⟨rfl, ?_⟩
    · exact setRow_heap _ _ _ _ _ _ HO.out
    · exact below_setRow B2.out (Nat.le_succ _) _

set_option maxRecDepth 20000 in
set_option maxHeartbeats 6400000 in
theorem refBlock_in (l : List Int) (t : Int) (w : World) (hl : l.length = 64) (ht : 0 ≤ t ∧ t ≤ 7) :
    Calls Try.prog 11 #[arr l, .int .i64 t] w fun e w' => e = .returned (arr (blockL t l)) ∧ Below w.heap.size w w' := by
  have d1 : decide (t < 0) = false := by rw [decide_eq_false_iff_not]; omega
  have d2 : decide (7 < t) = false := by rw [decide_eq_false_iff_not]; omega
  have AT := Lib.hid (blockL_at t l)
  have C1 := Lib.hid (crosses_any t)
  have C2 := Lib.hid (flips_any t)
  have C3 := Lib.hid (flops_any t)
  obtain ⟨M, hM⟩ : ∃ M, blockL t l = M := ⟨_, rfl⟩
  rw [hM] at AT
  rw [hM]
  have HML : Hid (M.length = 64) := Lib.hid (by rw [← hM]; unfold blockL; exact signL_len _ _ _)
  obtain ⟨c, hc⟩ : ∃ c, crossB t = c := ⟨_, rfl⟩
  obtain ⟨f, hf⟩ : ∃ f, flipB t = f := ⟨_, rfl⟩
  obtain ⟨o, ho⟩ : ∃ o, flopB t = o := ⟨_, rfl⟩
  rw [hc, hf, ho] at AT
  rw [hc] at C1
  rw [hf] at C2
  rw [ho] at C3
  have HL := Lib.hid hl
  have HI64 := Lib.hid info64
  have HI64' : Hid (∀ m : List Int, m.length = 64 → (Try.prog.info? 23).map (·.size) = some (vIs m).length) := Lib.hid (fun m hm => by have h := HI64.out m hm; simpa using h)
  have H164 : Hid (∀ m : List Int, (vIs m).toArray.all (·.oneCell') = true) := Lib.hid (fun m => all_oneCell_toArray (fun v hv => vIs_one m v hv))
  have BZ : Hid (Try.prog.built 23 [] = some #[.int .i64 0, .int .i64 0, .int .i64 0, .int .i64 0, .int .i64 0, .int .i64 0, .int .i64 0, .int .i64 0, .int .i64 0, .int .i64 0, .int .i64 0, .int .i64 0, .int .i64 0, .int .i64 0, .int .i64 0, .int .i64 0, .int .i64 0, .int .i64 0, .int .i64 0, .int .i64 0, .int .i64 0, .int .i64 0, .int .i64 0, .int .i64 0, .int .i64 0, .int .i64 0, .int .i64 0, .int .i64 0, .int .i64 0, .int .i64 0, .int .i64 0, .int .i64 0, .int .i64 0, .int .i64 0, .int .i64 0, .int .i64 0, .int .i64 0, .int .i64 0, .int .i64 0, .int .i64 0, .int .i64 0, .int .i64 0, .int .i64 0, .int .i64 0, .int .i64 0, .int .i64 0, .int .i64 0, .int .i64 0, .int .i64 0, .int .i64 0, .int .i64 0, .int .i64 0, .int .i64 0, .int .i64 0, .int .i64 0, .int .i64 0, .int .i64 0, .int .i64 0, .int .i64 0, .int .i64 0, .int .i64 0, .int .i64 0, .int .i64 0, .int .i64 0]) := Lib.hid (by kernel_rfl)
  have ZZ : Hid ((Try.prog.info? 23).map (·.size) = some (#[.int .i64 0, .int .i64 0, .int .i64 0, .int .i64 0, .int .i64 0, .int .i64 0, .int .i64 0, .int .i64 0, .int .i64 0, .int .i64 0, .int .i64 0, .int .i64 0, .int .i64 0, .int .i64 0, .int .i64 0, .int .i64 0, .int .i64 0, .int .i64 0, .int .i64 0, .int .i64 0, .int .i64 0, .int .i64 0, .int .i64 0, .int .i64 0, .int .i64 0, .int .i64 0, .int .i64 0, .int .i64 0, .int .i64 0, .int .i64 0, .int .i64 0, .int .i64 0, .int .i64 0, .int .i64 0, .int .i64 0, .int .i64 0, .int .i64 0, .int .i64 0, .int .i64 0, .int .i64 0, .int .i64 0, .int .i64 0, .int .i64 0, .int .i64 0, .int .i64 0, .int .i64 0, .int .i64 0, .int .i64 0, .int .i64 0, .int .i64 0, .int .i64 0, .int .i64 0, .int .i64 0, .int .i64 0, .int .i64 0, .int .i64 0, .int .i64 0, .int .i64 0, .int .i64 0, .int .i64 0, .int .i64 0, .int .i64 0, .int .i64 0, .int .i64 0] : Array Value).size) := Lib.hid (by kernel_rfl)
  have Z1 : Hid ((#[.int .i64 0, .int .i64 0, .int .i64 0, .int .i64 0, .int .i64 0, .int .i64 0, .int .i64 0, .int .i64 0, .int .i64 0, .int .i64 0, .int .i64 0, .int .i64 0, .int .i64 0, .int .i64 0, .int .i64 0, .int .i64 0, .int .i64 0, .int .i64 0, .int .i64 0, .int .i64 0, .int .i64 0, .int .i64 0, .int .i64 0, .int .i64 0, .int .i64 0, .int .i64 0, .int .i64 0, .int .i64 0, .int .i64 0, .int .i64 0, .int .i64 0, .int .i64 0, .int .i64 0, .int .i64 0, .int .i64 0, .int .i64 0, .int .i64 0, .int .i64 0, .int .i64 0, .int .i64 0, .int .i64 0, .int .i64 0, .int .i64 0, .int .i64 0, .int .i64 0, .int .i64 0, .int .i64 0, .int .i64 0, .int .i64 0, .int .i64 0, .int .i64 0, .int .i64 0, .int .i64 0, .int .i64 0, .int .i64 0, .int .i64 0, .int .i64 0, .int .i64 0, .int .i64 0, .int .i64 0, .int .i64 0, .int .i64 0, .int .i64 0, .int .i64 0] : Array Value).all (·.oneCell') = true) := Lib.hid (by kernel_rfl)
  clear hl ht hM hc hf ho
  unfold arr
  go_enter Try.func11, Try.ntmps11
  go_wp2_with (first | refine wpList_agg rfl _ _ rfl _ _ rfl BZ.out ?_ | (refine wpList_store_row rfl _ _ _ rfl (w.heap.size + 1 + 1) #[.int .i64 0, .int .i64 0, .int .i64 0, .int .i64 0, .int .i64 0, .int .i64 0, .int .i64 0, .int .i64 0, .int .i64 0, .int .i64 0, .int .i64 0, .int .i64 0, .int .i64 0, .int .i64 0, .int .i64 0, .int .i64 0, .int .i64 0, .int .i64 0, .int .i64 0, .int .i64 0, .int .i64 0, .int .i64 0, .int .i64 0, .int .i64 0, .int .i64 0, .int .i64 0, .int .i64 0, .int .i64 0, .int .i64 0, .int .i64 0, .int .i64 0, .int .i64 0, .int .i64 0, .int .i64 0, .int .i64 0, .int .i64 0, .int .i64 0, .int .i64 0, .int .i64 0, .int .i64 0, .int .i64 0, .int .i64 0, .int .i64 0, .int .i64 0, .int .i64 0, .int .i64 0, .int .i64 0, .int .i64 0, .int .i64 0, .int .i64 0, .int .i64 0, .int .i64 0, .int .i64 0, .int .i64 0, .int .i64 0, .int .i64 0, .int .i64 0, .int .i64 0, .int .i64 0, .int .i64 0, .int .i64 0, .int .i64 0, .int .i64 0, .int .i64 0] (by first | rfl | simp [Act.eval]) rfl 23 _ (by first | exact heap_alloc_new _ _ | exact heap_new2 _ _ _ _) ZZ.out rfl Z1.out ?_; refine stop ?_))
  refine unstop ?_
  obtain ⟨w2, hw2⟩ : ∃ w2, (((w.alloc (.cells (vIs l).toArray 23)).alloc (.cells #[.int .i64 0, .int .i64 0, .int .i64 0, .int .i64 0, .int .i64 0, .int .i64 0, .int .i64 0, .int .i64 0, .int .i64 0, .int .i64 0, .int .i64 0, .int .i64 0, .int .i64 0, .int .i64 0, .int .i64 0, .int .i64 0, .int .i64 0, .int .i64 0, .int .i64 0, .int .i64 0, .int .i64 0, .int .i64 0, .int .i64 0, .int .i64 0, .int .i64 0, .int .i64 0, .int .i64 0, .int .i64 0, .int .i64 0, .int .i64 0, .int .i64 0, .int .i64 0, .int .i64 0, .int .i64 0, .int .i64 0, .int .i64 0, .int .i64 0, .int .i64 0, .int .i64 0, .int .i64 0, .int .i64 0, .int .i64 0, .int .i64 0, .int .i64 0, .int .i64 0, .int .i64 0, .int .i64 0, .int .i64 0, .int .i64 0, .int .i64 0, .int .i64 0, .int .i64 0, .int .i64 0, .int .i64 0, .int .i64 0, .int .i64 0, .int .i64 0, .int .i64 0, .int .i64 0, .int .i64 0, .int .i64 0, .int .i64 0, .int .i64 0, .int .i64 0] 23)).alloc (.cells #[.int .i64 0, .int .i64 0, .int .i64 0, .int .i64 0, .int .i64 0, .int .i64 0, .int .i64 0, .int .i64 0, .int .i64 0, .int .i64 0, .int .i64 0, .int .i64 0, .int .i64 0, .int .i64 0, .int .i64 0, .int .i64 0, .int .i64 0, .int .i64 0, .int .i64 0, .int .i64 0, .int .i64 0, .int .i64 0, .int .i64 0, .int .i64 0, .int .i64 0, .int .i64 0, .int .i64 0, .int .i64 0, .int .i64 0, .int .i64 0, .int .i64 0, .int .i64 0, .int .i64 0, .int .i64 0, .int .i64 0, .int .i64 0, .int .i64 0, .int .i64 0, .int .i64 0, .int .i64 0, .int .i64 0, .int .i64 0, .int .i64 0, .int .i64 0, .int .i64 0, .int .i64 0, .int .i64 0, .int .i64 0, .int .i64 0, .int .i64 0, .int .i64 0, .int .i64 0, .int .i64 0, .int .i64 0, .int .i64 0, .int .i64 0, .int .i64 0, .int .i64 0, .int .i64 0, .int .i64 0, .int .i64 0, .int .i64 0, .int .i64 0, .int .i64 0] 23)).setRow (w.heap.size + 1 + 1) #[.int .i64 0, .int .i64 0, .int .i64 0, .int .i64 0, .int .i64 0, .int .i64 0, .int .i64 0, .int .i64 0, .int .i64 0, .int .i64 0, .int .i64 0, .int .i64 0, .int .i64 0, .int .i64 0, .int .i64 0, .int .i64 0, .int .i64 0, .int .i64 0, .int .i64 0, .int .i64 0, .int .i64 0, .int .i64 0, .int .i64 0, .int .i64 0, .int .i64 0, .int .i64 0, .int .i64 0, .int .i64 0, .int .i64 0, .int .i64 0, .int .i64 0, .int .i64 0, .int .i64 0, .int .i64 0, .int .i64 0, .int .i64 0, .int .i64 0, .int .i64 0, .int .i64 0, .int .i64 0, .int .i64 0, .int .i64 0, .int .i64 0, .int .i64 0, .int .i64 0, .int .i64 0, .int .i64 0, .int .i64 0, .int .i64 0, .int .i64 0, .int .i64 0, .int .i64 0, .int .i64 0, .int .i64 0, .int .i64 0, .int .i64 0, .int .i64 0, .int .i64 0, .int .i64 0, .int .i64 0, .int .i64 0, .int .i64 0, .int .i64 0, .int .i64 0] = w2 := ⟨_, rfl⟩
  rw [hw2]
  have hx2 : w2.heap[w.heap.size + 1 + 1]? = some (.cells #[.int .i64 0, .int .i64 0, .int .i64 0, .int .i64 0, .int .i64 0, .int .i64 0, .int .i64 0, .int .i64 0, .int .i64 0, .int .i64 0, .int .i64 0, .int .i64 0, .int .i64 0, .int .i64 0, .int .i64 0, .int .i64 0, .int .i64 0, .int .i64 0, .int .i64 0, .int .i64 0, .int .i64 0, .int .i64 0, .int .i64 0, .int .i64 0, .int .i64 0, .int .i64 0, .int .i64 0, .int .i64 0, .int .i64 0, .int .i64 0, .int .i64 0, .int .i64 0, .int .i64 0, .int .i64 0, .int .i64 0, .int .i64 0, .int .i64 0, .int .i64 0, .int .i64 0, .int .i64 0, .int .i64 0, .int .i64 0, .int .i64 0, .int .i64 0, .int .i64 0, .int .i64 0, .int .i64 0, .int .i64 0, .int .i64 0, .int .i64 0, .int .i64 0, .int .i64 0, .int .i64 0, .int .i64 0, .int .i64 0, .int .i64 0, .int .i64 0, .int .i64 0, .int .i64 0, .int .i64 0, .int .i64 0, .int .i64 0, .int .i64 0, .int .i64 0] 23 (0, 0)) := by rw [← hw2]; exact setRow_heap _ _ _ _ _ _ (heap_new2 _ _ _ _)
  have hz64 : (#[.int .i64 0, .int .i64 0, .int .i64 0, .int .i64 0, .int .i64 0, .int .i64 0, .int .i64 0, .int .i64 0, .int .i64 0, .int .i64 0, .int .i64 0, .int .i64 0, .int .i64 0, .int .i64 0, .int .i64 0, .int .i64 0, .int .i64 0, .int .i64 0, .int .i64 0, .int .i64 0, .int .i64 0, .int .i64 0, .int .i64 0, .int .i64 0, .int .i64 0, .int .i64 0, .int .i64 0, .int .i64 0, .int .i64 0, .int .i64 0, .int .i64 0, .int .i64 0, .int .i64 0, .int .i64 0, .int .i64 0, .int .i64 0, .int .i64 0, .int .i64 0, .int .i64 0, .int .i64 0, .int .i64 0, .int .i64 0, .int .i64 0, .int .i64 0, .int .i64 0, .int .i64 0, .int .i64 0, .int .i64 0, .int .i64 0, .int .i64 0, .int .i64 0, .int .i64 0, .int .i64 0, .int .i64 0, .int .i64 0, .int .i64 0, .int .i64 0, .int .i64 0, .int .i64 0, .int .i64 0, .int .i64 0, .int .i64 0, .int .i64 0, .int .i64 0] : Array Value) = (vIs (List.replicate 64 0)).toArray := by kernel_rfl
  rw [hz64] at hx2
  have hrow2 : w2.rowIs (w.heap.size + 1 + 1) 23 64 (rfF M (8 * 0)) := (row_of_heap hx2 rfl).congr (fun k hk => by unfold rfF; rw [if_neg (Nat.not_lt_zero _), List.getD_eq_getElem?_getD, List.getElem?_replicate]; simp [hk])
  have hst2 : RefSt w l w2 := by
    rw [← hw2]
    refine ⟨?_, ?_, ?_⟩
    · rw [setRow_other _ _ _ _ (by omega)]
      exact ⟨_, heap_old (heap_new1 _ _ _), rfl⟩
    · refine (row_of_heap (?_ : (((w.alloc (.cells (vIs l).toArray 23)).alloc (.cells #[.int .i64 0, .int .i64 0, .int .i64 0, .int .i64 0, .int .i64 0, .int .i64 0, .int .i64 0, .int .i64 0, .int .i64 0, .int .i64 0, .int .i64 0, .int .i64 0, .int .i64 0, .int .i64 0, .int .i64 0, .int .i64 0, .int .i64 0, .int .i64 0, .int .i64 0, .int .i64 0, .int .i64 0, .int .i64 0, .int .i64 0, .int .i64 0, .int .i64 0, .int .i64 0, .int .i64 0, .int .i64 0, .int .i64 0, .int .i64 0, .int .i64 0, .int .i64 0, .int .i64 0, .int .i64 0, .int .i64 0, .int .i64 0, .int .i64 0, .int .i64 0, .int .i64 0, .int .i64 0, .int .i64 0, .int .i64 0, .int .i64 0, .int .i64 0, .int .i64 0, .int .i64 0, .int .i64 0, .int .i64 0, .int .i64 0, .int .i64 0, .int .i64 0, .int .i64 0, .int .i64 0, .int .i64 0, .int .i64 0, .int .i64 0, .int .i64 0, .int .i64 0, .int .i64 0, .int .i64 0, .int .i64 0, .int .i64 0, .int .i64 0, .int .i64 0] 23)).alloc (.cells #[.int .i64 0, .int .i64 0, .int .i64 0, .int .i64 0, .int .i64 0, .int .i64 0, .int .i64 0, .int .i64 0, .int .i64 0, .int .i64 0, .int .i64 0, .int .i64 0, .int .i64 0, .int .i64 0, .int .i64 0, .int .i64 0, .int .i64 0, .int .i64 0, .int .i64 0, .int .i64 0, .int .i64 0, .int .i64 0, .int .i64 0, .int .i64 0, .int .i64 0, .int .i64 0, .int .i64 0, .int .i64 0, .int .i64 0, .int .i64 0, .int .i64 0, .int .i64 0, .int .i64 0, .int .i64 0, .int .i64 0, .int .i64 0, .int .i64 0, .int .i64 0, .int .i64 0, .int .i64 0, .int .i64 0, .int .i64 0, .int .i64 0, .int .i64 0, .int .i64 0, .int .i64 0, .int .i64 0, .int .i64 0, .int .i64 0, .int .i64 0, .int .i64 0, .int .i64 0, .int .i64 0, .int .i64 0, .int .i64 0, .int .i64 0, .int .i64 0, .int .i64 0, .int .i64 0, .int .i64 0, .int .i64 0, .int .i64 0, .int .i64 0, .int .i64 0] 23)).heap[w.heap.size]? = some (.cells (vIs l).toArray 23 (0, 0))) HL.out).of_block (setRow_other _ _ _ _ (by omega))
      exact heap_old (heap_new0 _ _ _)
    · exact below_setRow ((((Below.refl _ _).alloc (Nat.le_refl _) _).alloc (by simp) _).alloc (by simp; omega) _) (by omega) _
  have R2 := Lib.hid hrow2
  have S2 := Lib.hid hst2
  obtain ⟨g5, hg5⟩ : ∃ g5, w.heap.size + 1 + 1 = g5 := ⟨_, rfl⟩
  have SET : Hid (∀ (w' : World) (k : Nat) (v : Value), RefSt w l w' → RefSt w l (w'.setCell ⟨g5, k, none⟩ v)) := Lib.hid (fun w' k v h => by rw [← hg5]; exact h.set k v)
  rw [hg5] at R2
  rw [hg5]
  clear hw2 hx2 hz64 hrow2 hst2 BZ ZZ Z1 hg5
  go_wp2_with fail
  clear d1 d2
  go_loopw [6] (fun i w' => ∃ y : Nat, y ≤ 8 ∧ i = .int .i64 y ∧ w'.rowIs g5 23 64 (rfF M (8 * y)) ∧ RefSt w l w') (fun i _ => 8 - (intOf i).toNat)
  case atStart => exact ⟨0, Nat.zero_le _, rfl, R2.out, S2.out⟩
  case round =>
    obtain ⟨y, hy, rfl, hrow, hst⟩ := hrel
    have HR := Lib.hid hrow
    have HS := Lib.hid hst
    clear hrow hst R2 S2
    by_cases hy8 : y < 8
    · have f1 : decide (y < 8) = true := by rw [decide_eq_true_eq]; exact hy8
      have f1' : decide ((y : Int) < 8) = true := by rw [decide_eq_true_eq]; omega
      go_wp2_with fail
      clear f1 f1'
      go_loopw [7, 8] (fun i _ w' => ∃ x : Nat, x ≤ 8 ∧ i = .int .i64 x ∧ w'.rowIs g5 23 64 (rfF M (8 * y + x)) ∧ RefSt w l w') (fun i _ _ => 8 - (intOf i).toNat)
      case atStart => exact ⟨0, Nat.zero_le _, rfl, HR.out, HS.out⟩
      case round =>
        obtain ⟨x, hx, rfl, hrow, hst⟩ := hrel
        have HR2 := Lib.hid hrow
        have HS2 := Lib.hid hst
        clear hrow hst
        by_cases hx8 : x < 8
        · have f2 : decide (x < 8) = true := by rw [decide_eq_true_eq]; exact hx8
          have f2' : decide ((x : Int) < 8) = true := by rw [decide_eq_true_eq]; omega
          obtain ⟨m, hm⟩ : ∃ m, 8 * y + x = m := ⟨_, rfl⟩
          obtain ⟨m2, hm2⟩ : ∃ m2, 8 * x + y = m2 := ⟨_, rfl⟩
          have m64 : m < 64 := by omega
          have m264 : m2 < 64 := by omega
          have i1 : (m : Int) < 64 := Int.ofNat_lt.2 m64
          have i2 : (m2 : Int) < 64 := Int.ofNat_lt.2 m264
          have i3 : decide (m < 64) = true := by rw [decide_eq_true_eq]; exact m64
          have i4 : decide (m2 < 64) = true := by rw [decide_eq_true_eq]; exact m264
          have s1 : wrap64 (8 * (y : Int)) = 8 * (y : Int) ∧ wrap64 (8 * (x : Int)) = 8 * (x : Int) := ⟨IntWalk.wrap64_in _ (by omega), IntWalk.wrap64_in _ (by omega)⟩
          have s2 : wrap64 (8 * (y : Int) + (x : Int)) = (m : Int) ∧ wrap64 (8 * (x : Int) + (y : Int)) = (m2 : Int) := ⟨by rw [IntWalk.wrap64_in _ (by omega)]; omega, by rw [IntWalk.wrap64_in _ (by omega)]; omega⟩
          have s3 : IntKind.i64.wrap (8 * (y : Int)) = 8 * (y : Int) ∧ IntKind.i64.wrap (8 * (x : Int)) = 8 * (x : Int) := ⟨IntWalk.i64_in _ (by omega), IntWalk.i64_in _ (by omega)⟩
          have s4 : IntKind.i64.wrap (8 * (y : Int) + (x : Int)) = (m : Int) ∧ IntKind.i64.wrap (8 * (x : Int) + (y : Int)) = (m2 : Int) := ⟨by rw [IntWalk.i64_in _ (by omega)]; omega, by rw [IntWalk.i64_in _ (by omega)]; omega⟩
          have s5 : 8 * (y : Int) + (x : Int) = (m : Int) ∧ 8 * (x : Int) + (y : Int) = (m2 : Int) := by omega
          obtain ⟨s1a, s1b⟩ := s1
          obtain ⟨s2a, s2b⟩ := s2
          obtain ⟨s3a, s3b⟩ := s3
          obtain ⟨s4a, s4b⟩ := s4
          obtain ⟨s5a, s5b⟩ := s5
          have c1 := HS2.out.row.cell m64
          have c2 := HS2.out.row.cell m264
          have o1 : wr.cell? ⟨g5, m, none⟩ = some (.int .i64 0) := by
            have h := HR2.out.cell (i := m) m64
            rw [h, hm]; unfold rfF; rw [if_neg (Nat.lt_irrefl _)]
          have o2 := HR2.out.frozen m
          have AK := Lib.hid (AT.out x y hx8 hy8)
          have NX : Hid (∀ v, v = M.getD m 0 → (wr.setCell ⟨g5, m, none⟩ (.int .i64 v)).rowIs g5 23 64 (rfF M (8 * y + (x + 1))) ∧ RefSt w l (wr.setCell ⟨g5, m, none⟩ (.int .i64 v))) := Lib.hid (fun v hv => ⟨by have h := rfF_step M m (hm ▸ HR2.out) v hv; rw [← Nat.add_assoc, hm]; exact h, SET.out _ _ _ HS2.out⟩)
          rw [hm, hm2] at AK
          obtain ⟨n1, hn1⟩ : ∃ n, l.getD m 0 = n := ⟨_, rfl⟩
          obtain ⟨n2, hn2⟩ : ∃ n, l.getD m2 0 = n := ⟨_, rfl⟩
          rw [hn1] at c1 AK
          rw [hn2] at c2 AK
          obtain ⟨a2, ha2, ha2'⟩ : ∃ a2 : Nat, x % 2 = a2 ∧ (a2 = 0 ∨ a2 = 1) := ⟨_, rfl, by omega⟩
          obtain ⟨b2, hb2, hb2'⟩ : ∃ b2 : Nat, y % 2 = b2 ∧ (b2 = 0 ∨ b2 = 1) := ⟨_, rfl, by omega⟩
          have t2 : (x : Int) % 2 = (a2 : Int) := by clear s1a s1b s2a s2b s3a s3b s4a s4b s5a s5b; omega
          have t9 : (y : Int) % 2 = (b2 : Int) := by clear s1a s1b s2a s2b s3a s3b s4a s4b s5a s5b; omega
          rw [ha2, hb2] at AK
          clear hm hm2 hn1 hn2 ha2 hb2 m64 m264
          go_wp2_with fail
          refine (C1.out _).mono ?_; rintro e w5 ⟨rfl, rfl⟩
          rcases c with _ | _
          all_goals
            go_wp2_with fail
            refine (C2.out _).mono ?_; rintro e w5 ⟨rfl, rfl⟩
            rcases f with _ | _ <;> rcases ha2' with rfl | rfl
            all_goals
              go_wp2_with fail
              refine (C3.out _).mono ?_; rintro e w5 ⟨rfl, rfl⟩
              rcases o with _ | _ <;> rcases hb2' with rfl | rfl
              all_goals
                go_wp2_with fail
                go_roundw
                case rel => obtain ⟨r1, r2⟩ := NX.out _ (by rw [AK.out] <;> simp [sg2]); exact ⟨x + 1, by omega, by go_num, r1, r2⟩
                case measure => simp [intOf]; omega
        · obtain rfl : x = 8 := by omega
          go_wp2_with fail
          go_roundw
          case rel => exact ⟨y + 1, by omega, by go_num, HR2.out, HS2.out⟩
          case measure => simp [intOf]; omega
    · obtain rfl : y = 8 := by omega
      have RE := Lib.hid (row_range ((HR.out.congr (fun k hk => by unfold rfF; rw [if_pos (by omega)])) : wr.rowIs g5 23 64 (fun k => .int .i64 (M.getD k 0))) HML.out)
      obtain ⟨old, hold, hosz⟩ := HS.out.zero
      have HO := Lib.hid hold
      have HOS := Lib.hid hosz
      clear hold hosz
      go_wp2_with (first | refine wpList_load_mid rfl _ _ rfl g5 0 rfl (vIs M) _ RE.out Try.underlying23 rfl (HI64'.out M HML.out) ?_ | refine wpList_store_row rfl _ _ _ rfl (w.heap.size + 1) (vIs M).toArray rfl rfl 23 _ HO.out (HI64.out M HML.out) (by rw [HOS.out]; simp [vIs, HML.out]) (H164.out M) ?_)
      refine bodyPost_ret (v := arr M) (results_cell_row rfl _ _ (w.heap.size + 1) 23 (vIs M).toArray (0, 0) _ rfl ?_ Try.underlying23 rfl (HI64.out M HML.out)) rfl ⟨rfl, ?_⟩
      · exact setRow_heap _ _ _ _ _ _ HO.out
      · exact below_setRow HS.out.bel (Nat.le_succ _) _
theorem refBlock_any (l : List Int) (t : Int) (w : World) (hl : l.length = 64) : Calls Try.prog 11 #[arr l, .int .i64 t] w fun e w' => e = .returned (arr (blockL t l)) ∧ Below w.heap.size w w' := by
  by_cases ht : 0 ≤ t ∧ t ≤ 7
  · exact refBlock_in l t w hl ht
  · have h : blockL t l = l := by
      have h1 : crossB t = false := by unfold crossB; rw [decide_eq_false_iff_not]; omega
      have h2 : flipB t = false := by unfold flipB; rw [decide_eq_false_iff_not]; omega
      have h3 : flopB t = false := by unfold flopB; rw [decide_eq_false_iff_not]; omega
      unfold blockL
      rw [h1, h2, h3]
      apply List.ext_getElem
      · rw [signL_len, hl]
      · intro i hi1 hi2
        simp [signL, sgn, sg2, hi2]
    rw [h]
    exact refBlock_out l t w hl (by omega)

end Go.Proofs.Ytnhalnjdlkdnkaa
