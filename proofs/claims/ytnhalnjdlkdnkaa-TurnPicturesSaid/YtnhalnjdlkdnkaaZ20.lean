/- The fixed fact of chapter 24, and TurnBlocks: the law's walk. By an AI agent. -/
import Derived.Test.YtnhalnjdlkdnkaaZ18
import Derived.Test.YtnhalnjdlkdnkaaZ16
import Derived.Deep.RegionHeld3
namespace Go.Proofs.Ytnhalnjdlkdnkaa
open Go.RowKit
set_option linter.unusedVariables false
set_option linter.unusedSimpArgs false

def blk0 : List Int := [1, 2, 3, 0, 0, 0, 0, 0, 4, 0, 0, 0, 0, 0, 0, 0, 0, 0, 0, 0, 0, 0, 0, 0, 0, 0, 0, 0, 0, 0, 0, 0, 0, 0, 0, 0, 0, 0, 0, 0, 0, 0, 0, 0, 0, 0, 0, 0, 0, 0, 0, 0, 0, 0, 0, 0, 0, 0, 0, 0, 0, 0, 0, 0]
def blk1 : List Int := [1, (-4), 0, 0, 0, 0, 0, 0, 2, 0, 0, 0, 0, 0, 0, 0, 3, 0, 0, 0, 0, 0, 0, 0, 0, 0, 0, 0, 0, 0, 0, 0, 0, 0, 0, 0, 0, 0, 0, 0, 0, 0, 0, 0, 0, 0, 0, 0, 0, 0, 0, 0, 0, 0, 0, 0, 0, 0, 0, 0, 0, 0, 0, 0]
theorem blk01 : blockL 5 blk0 = blk1 := by decide +kernel
theorem built0 : Try.prog.built 23 [(0, .int .i64 1), (1, .int .i64 2), (2, .int .i64 3), (3, .int .i64 0), (4, .int .i64 0), (5, .int .i64 0), (6, .int .i64 0), (7, .int .i64 0), (8, .int .i64 4), (9, .int .i64 0), (10, .int .i64 0), (11, .int .i64 0), (12, .int .i64 0), (13, .int .i64 0), (14, .int .i64 0), (15, .int .i64 0), (16, .int .i64 0), (17, .int .i64 0), (18, .int .i64 0), (19, .int .i64 0), (20, .int .i64 0), (21, .int .i64 0), (22, .int .i64 0), (23, .int .i64 0), (24, .int .i64 0), (25, .int .i64 0), (26, .int .i64 0), (27, .int .i64 0), (28, .int .i64 0), (29, .int .i64 0), (30, .int .i64 0), (31, .int .i64 0), (32, .int .i64 0), (33, .int .i64 0), (34, .int .i64 0), (35, .int .i64 0), (36, .int .i64 0), (37, .int .i64 0), (38, .int .i64 0), (39, .int .i64 0), (40, .int .i64 0), (41, .int .i64 0), (42, .int .i64 0), (43, .int .i64 0), (44, .int .i64 0), (45, .int .i64 0), (46, .int .i64 0), (47, .int .i64 0), (48, .int .i64 0), (49, .int .i64 0), (50, .int .i64 0), (51, .int .i64 0), (52, .int .i64 0), (53, .int .i64 0), (54, .int .i64 0), (55, .int .i64 0), (56, .int .i64 0), (57, .int .i64 0), (58, .int .i64 0), (59, .int .i64 0), (60, .int .i64 0), (61, .int .i64 0), (62, .int .i64 0), (63, .int .i64 0)] = some (vIs blk0).toArray := by kernel_rfl
theorem built1 : Try.prog.built 23 [(0, .int .i64 1), (1, .int .i64 (-4)), (2, .int .i64 0), (3, .int .i64 0), (4, .int .i64 0), (5, .int .i64 0), (6, .int .i64 0), (7, .int .i64 0), (8, .int .i64 2), (9, .int .i64 0), (10, .int .i64 0), (11, .int .i64 0), (12, .int .i64 0), (13, .int .i64 0), (14, .int .i64 0), (15, .int .i64 0), (16, .int .i64 3), (17, .int .i64 0), (18, .int .i64 0), (19, .int .i64 0), (20, .int .i64 0), (21, .int .i64 0), (22, .int .i64 0), (23, .int .i64 0), (24, .int .i64 0), (25, .int .i64 0), (26, .int .i64 0), (27, .int .i64 0), (28, .int .i64 0), (29, .int .i64 0), (30, .int .i64 0), (31, .int .i64 0), (32, .int .i64 0), (33, .int .i64 0), (34, .int .i64 0), (35, .int .i64 0), (36, .int .i64 0), (37, .int .i64 0), (38, .int .i64 0), (39, .int .i64 0), (40, .int .i64 0), (41, .int .i64 0), (42, .int .i64 0), (43, .int .i64 0), (44, .int .i64 0), (45, .int .i64 0), (46, .int .i64 0), (47, .int .i64 0), (48, .int .i64 0), (49, .int .i64 0), (50, .int .i64 0), (51, .int .i64 0), (52, .int .i64 0), (53, .int .i64 0), (54, .int .i64 0), (55, .int .i64 0), (56, .int .i64 0), (57, .int .i64 0), (58, .int .i64 0), (59, .int .i64 0), (60, .int .i64 0), (61, .int .i64 0), (62, .int .i64 0), (63, .int .i64 0)] = some (vIs blk1).toArray := by kernel_rfl
theorem in64_1 : In64 blk1 := by
  unfold In64
  decide +kernel
theorem loadV {W : World} {g : Nat} {l : List Int} (h : W.rangeAt g 0 (vIs l)) (hl : l.length = 64) : (loadVar 23 ⟨g, 0, none⟩).run Try.prog W = .ok (arr l) W :=
  run_loadVar_mid W g 0 23 (vIs l) _ h Try.underlying23 rfl (by have := info64 l hl; simpa using this)
theorem wpList_wanted {P : Program} {w : World} {ops : Array Oper} {rest : List Oper} {o : Oper} {a : Act} {Q : Exit → Act → World → Prop} (hw : Region.wanted o (yielded ops a.tmps) = true)
    (h : ∀ K : Act → World → Prop, (∀ a w, wpList P ops Q rest a w → K a w) → o.wp P a w K Q) : wpList P ops Q (o :: rest) a w := by
  unfold wpList
  rw [if_pos hw]
  exact .inl (h _ (fun _ _ h => h))
theorem wp_agg {P : Program} {w : World} {o : Oper} {a : Act} {K : Act → World → Prop} {Q : Exit → Act → World → Prop} (t : TypeId) (parts : Array (Nat × Operand)) (ho : o.op = .build t parts) (ps : List (Nat × Value)) (cells : Array Value) (hp : (parts.map fun (i, x) => (i, a.eval x)).toList = ps) (hb : P.built t ps = some cells)
    (h : K (a.put o.dst (.agg cells)) w) : o.wp P a w K Q := by
  refine wp_build t parts ho (by rw [hp, hb]; rfl) ?_
  rw [hp, hb]
  exact h
set_option maxRecDepth 20000 in
set_option maxHeartbeats 3200000 in
theorem alive_any (w : World) : Calls Try.prog 9 #[] w fun e w' => e = .returned (.bool true) ∧ Below w.heap.size w w' := by
  have B0 := Lib.hid built0
  have B1 := Lib.hid built1
  have HI := Lib.hid (info64 blk1 rfl)
  have H1 : Hid ((vIs blk1).toArray.all (·.oneCell') = true) := Lib.hid (by kernel_rfl)
  have BK := Lib.hid (fun W => by have h := block_any blk0 5 W rfl; rw [blk01] at h; exact h)
  have EQ := Lib.hid (eql_same blk1 rfl in64_1)
  have BH := Lib.hid (fun W => by have h := behind_any 4 1 W; rw [show behindN 4 1 = 5 by decide] at h; exact h)
  unfold arr at BK EQ
  go_enter Try.func9, Try.ntmps9
  go_wp2_with (refine wpList_agg rfl _ _ rfl _ _ rfl B0.out ?_)
  refine (BK.out _).mono ?_; rintro e w1 ⟨rfl, hb1⟩
  have L1 := Lib.hid hb1
  clear hb1
  go_wp2_with (refine wpList_store_row rfl _ _ _ rfl w1.heap.size (vIs blk1).toArray rfl rfl 23 _ (heap_alloc_new _ _) HI.out rfl H1.out ?_; refine stop ?_)
  refine unstop ?_
  obtain ⟨w2, hw2⟩ : ∃ w2, (w1.alloc (.cells #[.int .i64 0, .int .i64 0, .int .i64 0, .int .i64 0, .int .i64 0, .int .i64 0, .int .i64 0, .int .i64 0, .int .i64 0, .int .i64 0, .int .i64 0, .int .i64 0, .int .i64 0, .int .i64 0, .int .i64 0, .int .i64 0, .int .i64 0, .int .i64 0, .int .i64 0, .int .i64 0, .int .i64 0, .int .i64 0, .int .i64 0, .int .i64 0, .int .i64 0, .int .i64 0, .int .i64 0, .int .i64 0, .int .i64 0, .int .i64 0, .int .i64 0, .int .i64 0, .int .i64 0, .int .i64 0, .int .i64 0, .int .i64 0, .int .i64 0, .int .i64 0, .int .i64 0, .int .i64 0, .int .i64 0, .int .i64 0, .int .i64 0, .int .i64 0, .int .i64 0, .int .i64 0, .int .i64 0, .int .i64 0, .int .i64 0, .int .i64 0, .int .i64 0, .int .i64 0, .int .i64 0, .int .i64 0, .int .i64 0, .int .i64 0, .int .i64 0, .int .i64 0, .int .i64 0, .int .i64 0, .int .i64 0, .int .i64 0, .int .i64 0, .int .i64 0] 23)).setRow w1.heap.size (vIs blk1).toArray = w2 := ⟨_, rfl⟩
  rw [hw2]
  have hb2 : Below w1.heap.size w1 w2 := by rw [← hw2]; exact below_setRow ((Below.refl _ _).alloc (Nat.le_refl _) _) (Nat.le_refl _) _
  have hr2 : w2.rowIs w1.heap.size 23 64 (fun k => .int .i64 (blk1.getD k 0)) := by rw [← hw2]; exact row_of_heap (setRow_heap _ _ _ _ _ _ (heap_alloc_new _ _)) rfl
  have L2 := Lib.hid (L1.out.trans (hb2.mono L1.out.size))
  have R2 := Lib.hid hr2
  clear hw2 hb2 hr2
  go_wp2_with fail
  refine (BH.out _).mono ?_; rintro e w3 ⟨rfl, hb3⟩
  have rg := Lib.hid (row_range (R2.out.of_block (hb3.block _ R2.out.lt)) (l := blk1) rfl)
  have L3 := Lib.hid (L2.out.trans (hb3.mono L2.out.size))
  have eq := EQ.out w3
  have eq2 : (Op.equalIn 10000 23 (.agg (vIs blk1).toArray) (.agg #[.int .i64 1, .int .i64 (-4), .int .i64 0, .int .i64 0, .int .i64 0, .int .i64 0, .int .i64 0, .int .i64 0, .int .i64 2, .int .i64 0, .int .i64 0, .int .i64 0, .int .i64 0, .int .i64 0, .int .i64 0, .int .i64 0, .int .i64 3, .int .i64 0, .int .i64 0, .int .i64 0, .int .i64 0, .int .i64 0, .int .i64 0, .int .i64 0, .int .i64 0, .int .i64 0, .int .i64 0, .int .i64 0, .int .i64 0, .int .i64 0, .int .i64 0, .int .i64 0, .int .i64 0, .int .i64 0, .int .i64 0, .int .i64 0, .int .i64 0, .int .i64 0, .int .i64 0, .int .i64 0, .int .i64 0, .int .i64 0, .int .i64 0, .int .i64 0, .int .i64 0, .int .i64 0, .int .i64 0, .int .i64 0, .int .i64 0, .int .i64 0, .int .i64 0, .int .i64 0, .int .i64 0, .int .i64 0, .int .i64 0, .int .i64 0, .int .i64 0, .int .i64 0, .int .i64 0, .int .i64 0, .int .i64 0, .int .i64 0, .int .i64 0, .int .i64 0]) ).run Try.prog w3 = .ok true w3 := same_in blk1 rfl in64_1 w3
  have HI' : Hid ((Try.prog.info? 23).map (·.size) = some (vIs blk1).length) := Lib.hid (by have := info64 blk1 rfl; simpa using this)
  clear hb3 R2
  go_wp2_with (first | refine wpList_wanted (by rfl) (fun K hK => wp_load_mid _ _ rfl w1.heap.size 0 rfl (vIs blk1) _ rg.out Try.underlying23 rfl HI'.out (hK _ _ ?_)) | refine wpList_wanted (by rfl) (fun K hK => wp_agg _ _ rfl _ _ rfl B1.out (hK _ _ ?_)))
  go_ret
  exact ⟨rfl, L3.out⟩
theorem in64_wrap (x : Int) : -9223372036854775808 ≤ wrap64 x ∧ wrap64 x ≤ 9223372036854775807 := by
  unfold wrap64
  omega
theorem in64_block (t : Int) (l : List Int) (h : In64 l) : In64 (blockL t l) := by
  have h0 : ∀ k, -9223372036854775808 ≤ l.getD k 0 ∧ l.getD k 0 ≤ 9223372036854775807 := by
    intro k
    rw [List.getD_eq_getElem?_getD]
    cases hk : l[k]? with
    | none => simp
    | some v => exact h v (List.mem_of_getElem? hk)
  have h1 : ∀ k, -9223372036854775808 ≤ (if crossB t = true then crossL l else l).getD k 0 ∧ (if crossB t = true then crossL l else l).getD k 0 ≤ 9223372036854775807 := by
    intro k
    by_cases hc : crossB t = true
    · rw [if_pos hc, List.getD_eq_getElem?_getD]
      cases hk : (crossL l)[k]? with
      | none => simp
      | some v =>
        obtain ⟨j, _, rfl⟩ := List.mem_map.1 (List.mem_of_getElem? hk)
        exact h0 _
    · rw [if_neg hc]; exact h0 k
  intro x hx
  obtain ⟨k, _, rfl⟩ := List.mem_map.1 hx
  unfold sgn sg2
  have hw := in64_wrap
  have hk := h1 k
  dsimp only
  split
  · exact hw _
  · split
    · exact hw _
    · exact hk
theorem keepR {w W W' : World} {g : Nat} {cs : List Value} (h : W.rangeAt g 0 cs ∧ Below w.heap.size w W) (hb : Below W.heap.size W W') : W'.rangeAt g 0 cs ∧ Below w.heap.size w W' :=
  ⟨fun j v hv => cell_old hb (h.1 j v hv), h.2.trans (hb.mono h.2.size)⟩
set_option maxRecDepth 20000 in
set_option maxHeartbeats 3200000 in
theorem turnBlocks_any (l : List Int) (t : Int) (w : World) (hl : l.length = 64) (hin : In64 l) (ht : -9223372036854775808 ≤ t ∧ t ≤ 9223372036854775807) :
    Calls Try.prog 3 #[arr l, .int .i64 t] w fun e w' => e = .returned (.bool true) ∧ Below w.heap.size w w' := by
  have BK := Lib.hid (fun W => block_any l t W hl)
  have RB := Lib.hid (fun W => refBlock_any l t W hl)
  have eq := eql_same (blockL t l) (by unfold blockL; exact signL_len _ _ _) (in64_block t l hin)
  have AL := Lib.hid alive_any
  have hu : Try.prog.underlying 23 = some (.array 64 3) := by kernel_rfl
  have hi : (Try.prog.info? 23).map (·.size) = some (vIs l).length := by have := info64 l hl; simpa using this
  have rg : (w.alloc (.cells (vIs l).toArray 23)).rangeAt w.heap.size 0 (vIs l) := row_range (row_of_heap (heap_alloc_new _ _) hl) hl
  have RG := Lib.hid rg
  have eq2 := same_in (blockL t l) (by unfold blockL; exact signL_len _ _ _) (in64_block t l hin)
  unfold arr at BK RB eq eq2 ⊢
  generalize blockL t l = M at BK RB eq eq2
  have EQ1 := Lib.hid eq
  have EQ2 := Lib.hid eq2
  have HU := Lib.hid hu
  have HI := Lib.hid hi
  clear eq eq2 hu hi
  clear hl hin ht rg
  go_enter Try.func3, Try.ntmps3
  go_wp2_with fail
  refine wp_region_held_drew (S := fun W => W.rangeAt w.heap.size 0 (vIs l) ∧ Below w.heap.size w W) (by kernel_rfl) ⟨RG.out, ((Below.refl _ _).alloc (Nat.le_refl _) _).drew⟩ (fun hS0 => ?_)
  refine wpAnyH_ready (rs := [0]) (by kernel_rfl) (by simp) ?_
  refine AllReadyH.cons (o := { dst := some 5, op := .call { callee := .value (.func 9), args := #[], argTypes := #[] }, type := 4, pos := "law.go:72", after := #[], guard := none }) rfl (fun K hK => ?_) AllReadyH.nil
  go_wp2_with (go_at_call 9; refine (AL.out _).mono ?_; rintro e w1 ⟨rfl, hbx⟩)
  refine hK.out _ _ (keepR hS0 hbx) (fun hS1 => ?_)
  clear hK K hS0 hbx
  try simp only [Act.put, List.setIfInBounds_toArray, List.set_cons_zero, List.set_cons_succ]
  refine wpAnyH_take (i := 1) (oi := { dst := some 6, op := .move (.tmp 5), type := 4, pos := "law.go:72", after := #[{ on := 0, ground := .data }, { on := 0, ground := .chain }], guard := none }) (v := .bool true) rfl (by kernel_rfl) (by kernel_rfl) (by kernel_rfl) (fun _ _ _ h => h) (Or.inl ⟨by rfl, fun W hW => by rfl⟩) (by assumption) ?_
  try simp only [Act.put, List.setIfInBounds_toArray, List.set_cons_zero, List.set_cons_succ]
  refine wpAnyH_take (i := 2) (oi := { dst := some 7, op := .load 23 (.tmp 2), type := 23, pos := "law.go:72", after := #[{ on := 1, ground := .guard }], guard := some (1, true) }) (v := .agg (vIs l).toArray) rfl (by kernel_rfl) (by kernel_rfl) (by kernel_rfl) (fun _ _ _ h => h) (yieldsIf_load_mid (by rfl) _ _ rfl w.heap.size 0 rfl (vIs l) _ (fun W hW => hW.1) HU.out rfl HI.out) (by assumption) ?_
  try simp only [Act.put, List.setIfInBounds_toArray, List.set_cons_zero, List.set_cons_succ]
  refine wpAnyH_take (i := 3) (oi := { dst := some 8, op := .move (.tmp 1), type := 3, pos := "law.go:72", after := #[{ on := 1, ground := .guard }], guard := some (1, true) }) (v := .int .i64 t) rfl (by kernel_rfl) (by kernel_rfl) (by kernel_rfl) (fun _ _ _ h => h) (Or.inl ⟨by rfl, fun W hW => by rfl⟩) (by assumption) ?_
  try simp only [Act.put, List.setIfInBounds_toArray, List.set_cons_zero, List.set_cons_succ]
  refine wpAnyH_take (i := 5) (oi := { dst := some 10, op := .load 23 (.tmp 2), type := 23, pos := "law.go:72", after := #[{ on := 1, ground := .guard }], guard := some (1, true) }) (v := .agg (vIs l).toArray) rfl (by kernel_rfl) (by kernel_rfl) (by kernel_rfl) (fun _ _ _ h => h) (yieldsIf_load_mid (by rfl) _ _ rfl w.heap.size 0 rfl (vIs l) _ (fun W hW => hW.1) HU.out rfl HI.out) (by assumption) ?_
  try simp only [Act.put, List.setIfInBounds_toArray, List.set_cons_zero, List.set_cons_succ]
  refine wpAnyH_take (i := 6) (oi := { dst := some 11, op := .move (.tmp 1), type := 3, pos := "law.go:72", after := #[{ on := 1, ground := .guard }], guard := some (1, true) }) (v := .int .i64 t) rfl (by kernel_rfl) (by kernel_rfl) (by kernel_rfl) (fun _ _ _ h => h) (Or.inl ⟨by rfl, fun W hW => by rfl⟩) (by assumption) ?_
  try simp only [Act.put, List.setIfInBounds_toArray, List.set_cons_zero, List.set_cons_succ]
  refine wpAnyH_ready (rs := [4]) (by kernel_rfl) (by simp) ?_
  refine AllReadyH.cons (o := { dst := some 9, op := .call { callee := .value (.func 10), args := #[.tmp 7, .tmp 8], argTypes := #[23, 3] }, type := 23, pos := "law.go:72", after := #[{ on := 2, ground := .data }, { on := 3, ground := .data }, { on := 1, ground := .chain }, { on := 1, ground := .guard }], guard := some (1, true) }) rfl (fun K hK => ?_) AllReadyH.nil
  rw [if_pos (by rfl)]
  have HS1 := Lib.hid hS1
  clear hS1
  go_wp2_with (go_at_call 10; refine (BK.out _).mono ?_; rintro e w2 ⟨rfl, hbx⟩)
  refine hK.out _ _ (keepR HS1.out hbx) (fun hS2 => ?_)
  clear hK K HS1 hbx
  try simp only [Act.put, List.setIfInBounds_toArray, List.set_cons_zero, List.set_cons_succ]
  refine wpAnyH_ready (rs := [7]) (by kernel_rfl) (by simp) ?_
  refine AllReadyH.cons (o := { dst := some 12, op := .call { callee := .value (.func 11), args := #[.tmp 10, .tmp 11], argTypes := #[23, 3] }, type := 23, pos := "law.go:72", after := #[{ on := 5, ground := .data }, { on := 6, ground := .data }, { on := 4, ground := .chain }, { on := 1, ground := .guard }], guard := some (1, true) }) rfl (fun K hK => ?_) AllReadyH.nil
  rw [if_pos (by rfl)]
  have HS2 := Lib.hid hS2
  clear hS2
  go_wp2_with (go_at_call 11; refine (RB.out _).mono ?_; rintro e w3 ⟨rfl, hbx⟩)
  refine hK.out _ _ (keepR HS2.out hbx) (fun hS3 => ?_)
  clear hK K HS2 hbx
  try simp only [Act.put, List.setIfInBounds_toArray, List.set_cons_zero, List.set_cons_succ]
  refine wpAnyH_take (i := 8) (oi := { dst := some 13, op := .binOp .eql 23 (.tmp 9) (.tmp 12) 23, type := 4, pos := "law.go:72", after := #[{ on := 4, ground := .data }, { on := 7, ground := .data }, { on := 1, ground := .guard }], guard := some (1, true) }) (v := .bool true) rfl (by kernel_rfl) (by kernel_rfl) (by kernel_rfl) (fun _ _ _ h => h) (Or.inl ⟨by rfl, fun W hW => ?_⟩) (by assumption) ?_
  · have e1 := EQ1.out W
    have e2 := EQ2.out W
    clear hW
    go_simp
  try simp only [Act.put, List.setIfInBounds_toArray, List.set_cons_zero, List.set_cons_succ]
  refine wpAnyH_take (i := 9) (oi := { dst := some 14, op := .pick (.tmp 6) (.tmp 13) (.const (.bool false)), type := 4, pos := "law.go:72", after := #[{ on := 1, ground := .data }, { on := 8, ground := .data }], guard := none }) (v := .bool true) rfl (by kernel_rfl) (by kernel_rfl) (by kernel_rfl) (fun _ _ _ h => h) (Or.inl ⟨by rfl, fun W hW => by rfl⟩) (by assumption) ?_
  try simp only [Act.put, List.setIfInBounds_toArray, List.set_cons_zero, List.set_cons_succ]
  refine wpAnyH_take (i := 10) (oi := { dst := some 4, op := .assign (.tmp 14), type := 4, pos := "law.go:72", after := #[{ on := 9, ground := .data }, { on := 7, ground := .chain }, { on := 0, ground := .phase }, { on := 1, ground := .phase }, { on := 2, ground := .phase }, { on := 3, ground := .phase }, { on := 4, ground := .phase }, { on := 5, ground := .phase }, { on := 6, ground := .phase }, { on := 7, ground := .phase }, { on := 8, ground := .phase }, { on := 9, ground := .phase }], guard := none }) (v := .bool true) rfl (by kernel_rfl) (by kernel_rfl) (by kernel_rfl) (fun _ _ _ h => h) (Or.inl ⟨by rfl, fun W hW => by rfl⟩) (by assumption) ?_
  try simp only [Act.put, List.setIfInBounds_toArray, List.set_cons_zero, List.set_cons_succ]
  refine wpAnyH_done (by kernel_rfl) ?_ _
  have HS3 := Lib.hid hS3
  clear hS3
  go_wp2_with fail
  go_ret
  exact ⟨rfl, HS3.out.2⟩
end Go.Proofs.Ytnhalnjdlkdnkaa
