/- TurnAll: the law's walk (under way). By an AI agent. -/
import Derived.Test.YtnhalnjdlkdnkaaLawTB
import Derived.Test.YtnhalnjdlkdnkaaTurnU
namespace Go.Proofs.Ytnhalnjdlkdnkaa
open Go.RowKit
set_option linter.unusedVariables false
set_option linter.unusedSimpArgs false

theorem turnN_le : ∀ c f o : Bool, turnN c f o ≤ 7 := by decide
theorem inTurn_yes (t : Int) (w : World) (h : 0 ≤ t ∧ t ≤ 7) : Calls Try.prog 32 #[.int .i64 t] w fun e w' => e = .returned (.bool true) ∧ w = w' := by
  have c1 : decide (0 ≤ t) = true := by rw [decide_eq_true_eq]; exact h.1
  have c2 : decide (t ≤ 7) = true := by rw [decide_eq_true_eq]; exact h.2
  clear h
  go_enter Try.func32, Try.ntmps32
  go_wp2
  go_ret
  exact ⟨rfl, rfl⟩
theorem inTurn_no (t : Int) (w : World) (h : ¬ (0 ≤ t ∧ t ≤ 7)) : Calls Try.prog 32 #[.int .i64 t] w fun e w' => e = .returned (.bool false) ∧ w = w' := by
  have c : decide (0 ≤ t) = false ∨ (decide (0 ≤ t) = true ∧ decide (t ≤ 7) = false) := by simp only [decide_eq_true_eq, decide_eq_false_iff_not]; omega
  clear h
  rcases c with c1 | ⟨c1, c2⟩
  all_goals
    go_enter Try.func32, Try.ntmps32
    go_wp2
    go_ret
    exact ⟨rfl, rfl⟩
set_option maxHeartbeats 3200000 in
theorem group_no (l : List Int) (g h k : Int) (w : World) (hl : l.length = 64) (hn : ¬ ((0 ≤ g ∧ g ≤ 7) ∧ (0 ≤ h ∧ h ≤ 7))) :
    Calls Try.prog 12 #[arr l, .int .i64 g, .int .i64 h, .int .i64 k] w fun e w' => e = .returned (.bool true) ∧ Below w.heap.size w w' := by
  have AL := Lib.hid alive_any
  have BH := Lib.hid (fun W => by have h := behind_any g h W; rw [show behindN g _ = 0 by unfold behindN; rw [if_neg hn]] at h; exact h)
  unfold arr
  by_cases hg : 0 ≤ g ∧ g ≤ 7
  · have hh : ¬ (0 ≤ h ∧ h ≤ 7) := fun x => hn ⟨hg, x⟩
    have I1 := Lib.hid (fun W => inTurn_yes g W hg)
    have I2 := Lib.hid (fun W => inTurn_no h W hh)
    clear hn hg hh hl
    go_enter Try.func12, Try.ntmps12
    go_wp2_with fail
    refine (AL.out _).mono ?_; rintro e w1 ⟨rfl, hb1⟩
    have B1 : Hid (Below w.heap.size w w1) := Lib.hid (((Below.refl _ _).alloc (Nat.le_refl _) _).trans (hb1.mono (by simp)))
    clear hb1
    go_wp2_with fail
    refine (I1.out _).mono ?_; rintro e w' ⟨rfl, rfl⟩
    go_wp2_with fail
    refine (I2.out _).mono ?_; rintro e w' ⟨rfl, rfl⟩
    go_wp2_with fail
    refine (BH.out _).mono ?_; rintro e w2 ⟨rfl, hb2⟩
    have B2 := Lib.hid (B1.out.trans (hb2.mono B1.out.size))
    clear hb2
    go_wp2_with fail
    refine (I1.out _).mono ?_; rintro e w' ⟨rfl, rfl⟩
    go_wp2_with fail
    go_ret
    exact ⟨rfl, B2.out⟩
  · have I1 := Lib.hid (fun W => inTurn_no g W hg)
    have U := Lib.hid (fun W => by have h := undo_any g W; rw [show undoN g = 0 by unfold undoN; rw [if_neg (by omega), if_neg (by omega), if_neg hg]] at h; exact h)
    clear hn hg hl
    go_enter Try.func12, Try.ntmps12
    go_wp2_with fail
    refine (AL.out _).mono ?_; rintro e w1 ⟨rfl, hb1⟩
    have B1 : Hid (Below w.heap.size w w1) := Lib.hid (((Below.refl _ _).alloc (Nat.le_refl _) _).trans (hb1.mono (by simp)))
    clear hb1
    go_wp2_with fail
    refine (I1.out _).mono ?_; rintro e w' ⟨rfl, rfl⟩
    go_wp2_with fail
    refine (BH.out _).mono ?_; rintro e w2 ⟨rfl, hb2⟩
    have B2 := Lib.hid (B1.out.trans (hb2.mono B1.out.size))
    clear hb2
    go_wp2_with fail
    refine (I1.out _).mono ?_; rintro e w' ⟨rfl, rfl⟩
    go_wp2_with fail
    refine (U.out _).mono ?_; rintro e w3 ⟨rfl, hb3⟩
    have B3 := Lib.hid (B2.out.trans (hb3.mono B2.out.size))
    clear hb3
    go_wp2_with fail
    go_ret
    exact ⟨rfl, B3.out⟩
theorem k8 (k : Int) : ∃ kk : Nat, kk < 8 ∧ wrap64 ((IntKind.u64.wrap k).tmod 8) = (kk : Int) := by
  have h0 : 0 ≤ IntKind.u64.wrap k := by simp [IntKind.wrap, IntKind.signed, IntKind.bits]; omega
  refine ⟨(IntKind.u64.wrap k % 8).toNat, by omega, ?_⟩
  rw [Int.tmod_eq_emod_of_nonneg h0, IntWalk.wrap64_in _ (by omega)]
  omega
theorem undo_group : ∀ g : Nat, g < 8 → behindN (g : Int) (undoN g) = 0 ∧ behindN (undoN g) (g : Int) = 0 ∧ behindN (g : Int) 0 = g ∧ behindN 0 (g : Int) = g := by decide +kernel
theorem behind_assoc : ∀ g : Nat, g < 8 → ∀ h : Nat, h < 8 → ∀ k : Nat, k < 8 → behindN (behindN (g : Int) (h : Int) : Nat) (k : Int) = behindN (g : Int) (behindN (h : Int) (k : Int) : Nat) := by decide +kernel
set_option maxRecDepth 20000 in
set_option maxHeartbeats 12800000 in
theorem group_yes (l : List Int) (G0 H0 : Nat) (k : Int) (w : World) (hl : l.length = 64) (hin : In64 l) (hg : G0 < 8) (hh : H0 < 8) (hk : -9223372036854775808 ≤ k ∧ k ≤ 9223372036854775807) :
    Calls Try.prog 12 #[arr l, .int .i64 (G0 : Int), .int .i64 (H0 : Int), .int .i64 k] w fun e w' => e = .returned (.bool true) ∧ Below w.heap.size w w' := by
  have AL := Lib.hid alive_any
  obtain ⟨u1, u2, u3, u4⟩ := undo_group G0 hg
  have AS := Lib.hid (fun kk hkk => behind_assoc G0 hg H0 hh kk hkk)
  obtain ⟨g, hgg⟩ : ∃ g : Int, (G0 : Int) = g := ⟨_, rfl⟩
  obtain ⟨h, hhh⟩ : ∃ h : Int, (H0 : Int) = h := ⟨_, rfl⟩
  have hg' : 0 ≤ g ∧ g ≤ 7 := by omega
  have hh' : 0 ≤ h ∧ h ≤ 7 := by omega
  rw [hgg, hhh] at AS
  rw [hgg] at u1 u2 u3 u4
  rw [hgg, hhh]
  have I1 := Lib.hid (fun W => inTurn_yes g W hg')
  have I2 := Lib.hid (fun W => inTurn_yes h W hh')
  have BH := Lib.hid (behind_any g h)
  have rg : (w.alloc (.cells (vIs l).toArray 23)).rangeAt w.heap.size 0 (vIs l) := row_range (row_of_heap (heap_alloc_new _ _) hl) hl
  have RG := Lib.hid rg
  have TWO := block_two g h hg' hh' l hin
  obtain ⟨gh, hgh⟩ : ∃ gh, behindN g h = gh := ⟨_, rfl⟩
  rw [hgh] at BH TWO
  have hgh7 : gh ≤ 7 := by
    rw [← hgh]; unfold behindN; rw [if_pos ⟨hg', hh'⟩]; exact turnN_le _ _ _
  have k45 := fun W => block_any l g W hl
  have k47 := fun W => block_any (blockL g l) h W (blockL_len _ _)
  have k50 := fun W => block_any l (gh : Int) W hl
  have EQ2 := Lib.hid (same_in (blockL (gh : Int) l) (blockL_len _ _) (in64_block _ l hin))
  rw [TWO] at k47
  obtain ⟨M1, hM1⟩ : ∃ M1, blockL g l = M1 := ⟨_, rfl⟩
  obtain ⟨M2, hM2⟩ : ∃ M2, blockL (gh : Int) l = M2 := ⟨_, rfl⟩
  rw [hM1] at k45 k47
  rw [hM2] at k47 k50 EQ2
  obtain ⟨u, hu0⟩ : ∃ u, undoN g = u := ⟨_, rfl⟩
  have k56 := undo_any g
  rw [hu0] at k56 u1 u2
  have k57 := behind_any g (u : Int)
  rw [u1] at k57
  have k64 := behind_any (u : Int) g
  rw [u2] at k64
  have k69 := behind_any g 0
  rw [u3, hgg] at k69
  have k75 := behind_any 0 g
  rw [u4, hgg] at k75
  unfold arr at k45 k47 k50 EQ2
  have K45 := Lib.hid k45
  have K47 := Lib.hid k47
  have K50 := Lib.hid k50
  have K56 := Lib.hid k56
  have K57 := Lib.hid k57
  have K64 := Lib.hid k64
  have K69 := Lib.hid k69
  have K75 := Lib.hid k75
  have FF : Hid (decide ((gh : Int) < 0) = false ∧ decide ((7 : Int) < (gh : Int)) = false ∧ decide (7 < gh) = false ∧ (g != g) = false) := Lib.hid ⟨by rw [decide_eq_false_iff_not]; omega, by rw [decide_eq_false_iff_not]; omega, by rw [decide_eq_false_iff_not]; omega, by simp⟩
  have HU : Hid (Try.prog.underlying 23 = some (.array 64 3)) := Lib.hid (by kernel_rfl)
  have HI : Hid ((Try.prog.info? 23).map (·.size) = some (vIs l).length) := Lib.hid (by have := info64 l hl; simpa using this)
  clear rg TWO k45 k47 k50 k56 k57 k64 k69 k75 u1 u2 u3 u4 hM1 hM2 hu0 hl hin hg hh hg' hh' hgg hhh
  have HGH := Lib.hid hgh
  have HG7 := Lib.hid hgh7
  have HK := Lib.hid hk
  clear hgh hgh7 hk
  unfold arr
  go_enter Try.func12, Try.ntmps12
  go_wp2_with fail
  refine (AL.out _).mono ?_; rintro e w1 ⟨rfl, hb1⟩
  have B1 : Hid (w1.rangeAt w.heap.size 0 (vIs l) ∧ Below w.heap.size w w1) := Lib.hid (keepR ⟨RG.out, (Below.refl _ _).alloc (Nat.le_refl _) _⟩ hb1)
  clear hb1
  go_wp2_with fail
  refine (I1.out _).mono ?_; rintro e w' ⟨rfl, rfl⟩
  go_wp2_with fail
  refine (I2.out _).mono ?_; rintro e w' ⟨rfl, rfl⟩
  go_wp2_with fail
  refine (BH.out _).mono ?_; rintro e w2 ⟨rfl, hb2⟩
  have B2 := Lib.hid (keepR B1.out hb2)
  clear hb2
  go_wp2_with fail
  refine wp_region_held_drew (S := fun W => W.rangeAt w.heap.size 0 (vIs l) ∧ Below w.heap.size w W) (by kernel_rfl) (keepR B2.out (Below.refl _ _).drew) (fun hS0 => ?_)
  refine wpAnyH_take (i := 0) (oi := { dst := some 36, op := Op.move (Operand.tmp 9), type := 3, pos := "law.go:133", after := #[], guard := none }) (v := .int .i64 (gh : Int)) rfl (by kernel_rfl) (by kernel_rfl) (by kernel_rfl) (fun _ _ _ h => h) (Or.inl ⟨by rfl, fun W hW => by rfl⟩) (by assumption) ?_
  try simp only [Act.put, List.setIfInBounds_toArray, List.set_cons_zero, List.set_cons_succ]
  refine wpAnyH_take (i := 1) (oi := { dst := some 37, op := Op.binOp BinOp.lss 3 (Operand.tmp 36) (Operand.const (Value.int IntKind.i64 0)) 3, type := 4, pos := "law.go:133", after := #[{ on := 0, ground := Ground.data }], guard := none }) (v := .bool false) rfl (by kernel_rfl) (by kernel_rfl) (by kernel_rfl) (fun _ _ _ h => h) (Or.inl ⟨by rfl, fun W hW => (by have e1 := EQ2.out W; obtain ⟨f1, f2, f3, f4⟩ := FF.out; clear hW; go_simp)⟩) (by assumption) ?_
  try simp only [Act.put, List.setIfInBounds_toArray, List.set_cons_zero, List.set_cons_succ]
  refine wpAnyH_take (i := 2) (oi := { dst := some 38, op := Op.move (Operand.tmp 37), type := 4, pos := "law.go:133", after := #[{ on := 1, ground := Ground.data }], guard := none }) (v := .bool false) rfl (by kernel_rfl) (by kernel_rfl) (by kernel_rfl) (fun _ _ _ h => h) (Or.inl ⟨by rfl, fun W hW => by rfl⟩) (by assumption) ?_
  try simp only [Act.put, List.setIfInBounds_toArray, List.set_cons_zero, List.set_cons_succ]
  refine wpAnyH_take (i := 3) (oi := { dst := some 39, op := Op.move (Operand.tmp 9), type := 3, pos := "law.go:133", after := #[{ on := 2, ground := Ground.guard }], guard := some (2, false) }) (v := .int .i64 (gh : Int)) rfl (by kernel_rfl) (by kernel_rfl) (by kernel_rfl) (fun _ _ _ h => h) (Or.inl ⟨by rfl, fun W hW => by rfl⟩) (by assumption) ?_
  try simp only [Act.put, List.setIfInBounds_toArray, List.set_cons_zero, List.set_cons_succ]
  refine wpAnyH_take (i := 4) (oi := { dst := some 40, op := Op.binOp BinOp.gtr 3 (Operand.tmp 39) (Operand.const (Value.int IntKind.i64 7)) 3, type := 4, pos := "law.go:133", after := #[{ on := 3, ground := Ground.data }, { on := 2, ground := Ground.guard }], guard := some (2, false) }) (v := .bool false) rfl (by kernel_rfl) (by kernel_rfl) (by kernel_rfl) (fun _ _ _ h => h) (Or.inl ⟨by rfl, fun W hW => (by have e1 := EQ2.out W; obtain ⟨f1, f2, f3, f4⟩ := FF.out; clear hW; go_simp)⟩) (by assumption) ?_
  try simp only [Act.put, List.setIfInBounds_toArray, List.set_cons_zero, List.set_cons_succ]
  refine wpAnyH_take (i := 5) (oi := { dst := some 41, op := Op.pick (Operand.tmp 38) (Operand.const (Value.bool true)) (Operand.tmp 40), type := 4, pos := "law.go:133", after := #[{ on := 2, ground := Ground.data }, { on := 4, ground := Ground.data }], guard := none }) (v := .bool false) rfl (by kernel_rfl) (by kernel_rfl) (by kernel_rfl) (fun _ _ _ h => h) (Or.inl ⟨by rfl, fun W hW => by rfl⟩) (by assumption) ?_
  try simp only [Act.put, List.setIfInBounds_toArray, List.set_cons_zero, List.set_cons_succ]
  refine wpAnyH_take (i := 6) (oi := { dst := some 42, op := Op.move (Operand.tmp 41), type := 4, pos := "law.go:133", after := #[{ on := 5, ground := Ground.data }, { on := 2, ground := Ground.chain }], guard := none }) (v := .bool false) rfl (by kernel_rfl) (by kernel_rfl) (by kernel_rfl) (fun _ _ _ h => h) (Or.inl ⟨by rfl, fun W hW => by rfl⟩) (by assumption) ?_
  try simp only [Act.put, List.setIfInBounds_toArray, List.set_cons_zero, List.set_cons_succ]
  refine wpAnyH_take (i := 7) (oi := { dst := some 43, op := Op.load 23 (Operand.tmp 4), type := 23, pos := "law.go:133", after := #[{ on := 6, ground := Ground.guard }], guard := some (6, false) }) (v := .agg (vIs l).toArray) rfl (by kernel_rfl) (by kernel_rfl) (by kernel_rfl) (fun _ _ _ h => h) (yieldsIf_load_mid (by rfl) _ _ rfl w.heap.size 0 rfl (vIs l) _ (fun W hW => hW.1) HU.out rfl HI.out) (by assumption) ?_
  try simp only [Act.put, List.setIfInBounds_toArray, List.set_cons_zero, List.set_cons_succ]
  refine wpAnyH_take (i := 8) (oi := { dst := some 44, op := Op.move (Operand.tmp 1), type := 3, pos := "law.go:133", after := #[{ on := 6, ground := Ground.guard }], guard := some (6, false) }) (v := .int .i64 g) rfl (by kernel_rfl) (by kernel_rfl) (by kernel_rfl) (fun _ _ _ h => h) (Or.inl ⟨by rfl, fun W hW => by rfl⟩) (by assumption) ?_
  try simp only [Act.put, List.setIfInBounds_toArray, List.set_cons_zero, List.set_cons_succ]
  refine wpAnyH_take (i := 10) (oi := { dst := some 46, op := Op.move (Operand.tmp 2), type := 3, pos := "law.go:133", after := #[{ on := 6, ground := Ground.guard }], guard := some (6, false) }) (v := .int .i64 h) rfl (by kernel_rfl) (by kernel_rfl) (by kernel_rfl) (fun _ _ _ h => h) (Or.inl ⟨by rfl, fun W hW => by rfl⟩) (by assumption) ?_
  try simp only [Act.put, List.setIfInBounds_toArray, List.set_cons_zero, List.set_cons_succ]
  refine wpAnyH_take (i := 12) (oi := { dst := some 48, op := Op.load 23 (Operand.tmp 4), type := 23, pos := "law.go:133", after := #[{ on := 6, ground := Ground.guard }], guard := some (6, false) }) (v := .agg (vIs l).toArray) rfl (by kernel_rfl) (by kernel_rfl) (by kernel_rfl) (fun _ _ _ h => h) (yieldsIf_load_mid (by rfl) _ _ rfl w.heap.size 0 rfl (vIs l) _ (fun W hW => hW.1) HU.out rfl HI.out) (by assumption) ?_
  try simp only [Act.put, List.setIfInBounds_toArray, List.set_cons_zero, List.set_cons_succ]
  refine wpAnyH_take (i := 13) (oi := { dst := some 49, op := Op.move (Operand.tmp 9), type := 3, pos := "law.go:133", after := #[{ on := 6, ground := Ground.guard }], guard := some (6, false) }) (v := .int .i64 (gh : Int)) rfl (by kernel_rfl) (by kernel_rfl) (by kernel_rfl) (fun _ _ _ h => h) (Or.inl ⟨by rfl, fun W hW => by rfl⟩) (by assumption) ?_
  try simp only [Act.put, List.setIfInBounds_toArray, List.set_cons_zero, List.set_cons_succ]
  refine wpAnyH_ready (rs := [9]) (by kernel_rfl) (by simp) ?_
  refine AllReadyH.cons (o := { dst := some 45, op := Op.call { callee := Callee.value (Operand.func 10), args := #[Operand.tmp 43, Operand.tmp 44], argTypes := #[23, 3] }, type := 23, pos := "law.go:133", after := #[{ on := 7, ground := Ground.data }, { on := 8, ground := Ground.data }, { on := 6, ground := Ground.chain }, { on := 6, ground := Ground.guard }], guard := some (6, false) }) rfl (fun K hK => ?_) AllReadyH.nil
  rw [if_pos (by rfl)]
  have HS0 := Lib.hid hS0
  clear hS0
  go_wp2_with (go_at_call 10; refine (K45.out _).mono ?_; rintro e x1 ⟨rfl, hbx⟩)
  refine hK.out _ _ (keepR HS0.out hbx) (fun hS1 => ?_)
  clear hK K HS0 hbx
  try simp only [Act.put, List.setIfInBounds_toArray, List.set_cons_zero, List.set_cons_succ]
  refine wpAnyH_ready (rs := [11]) (by kernel_rfl) (by simp) ?_
  refine AllReadyH.cons (o := { dst := some 47, op := Op.call { callee := Callee.value (Operand.func 10), args := #[Operand.tmp 45, Operand.tmp 46], argTypes := #[23, 3] }, type := 23, pos := "law.go:133", after := #[{ on := 9, ground := Ground.data }, { on := 10, ground := Ground.data }, { on := 9, ground := Ground.chain }, { on := 6, ground := Ground.guard }], guard := some (6, false) }) rfl (fun K hK => ?_) AllReadyH.nil
  rw [if_pos (by rfl)]
  have HS1 := Lib.hid hS1
  clear hS1
  go_wp2_with (go_at_call 10; refine (K47.out _).mono ?_; rintro e x2 ⟨rfl, hbx⟩)
  refine hK.out _ _ (keepR HS1.out hbx) (fun hS2 => ?_)
  clear hK K HS1 hbx
  try simp only [Act.put, List.setIfInBounds_toArray, List.set_cons_zero, List.set_cons_succ]
  refine wpAnyH_ready (rs := [14]) (by kernel_rfl) (by simp) ?_
  refine AllReadyH.cons (o := { dst := some 50, op := Op.call { callee := Callee.value (Operand.func 10), args := #[Operand.tmp 48, Operand.tmp 49], argTypes := #[23, 3] }, type := 23, pos := "law.go:133", after := #[{ on := 12, ground := Ground.data }, { on := 13, ground := Ground.data }, { on := 11, ground := Ground.chain }, { on := 6, ground := Ground.guard }], guard := some (6, false) }) rfl (fun K hK => ?_) AllReadyH.nil
  rw [if_pos (by rfl)]
  have HS2 := Lib.hid hS2
  clear hS2
  go_wp2_with (go_at_call 10; refine (K50.out _).mono ?_; rintro e x3 ⟨rfl, hbx⟩)
  refine hK.out _ _ (keepR HS2.out hbx) (fun hS3 => ?_)
  clear hK K HS2 hbx
  try simp only [Act.put, List.setIfInBounds_toArray, List.set_cons_zero, List.set_cons_succ]
  refine wpAnyH_take (i := 15) (oi := { dst := some 51, op := Op.binOp BinOp.neq 23 (Operand.tmp 47) (Operand.tmp 50) 23, type := 4, pos := "law.go:133", after := #[{ on := 11, ground := Ground.data }, { on := 14, ground := Ground.data }, { on := 6, ground := Ground.guard }], guard := some (6, false) }) (v := .bool false) rfl (by kernel_rfl) (by kernel_rfl) (by kernel_rfl) (fun _ _ _ h => h) (Or.inl ⟨by rfl, fun W hW => (by have e1 := EQ2.out W; obtain ⟨f1, f2, f3, f4⟩ := FF.out; clear hW; go_simp)⟩) (by assumption) ?_
  try simp only [Act.put, List.setIfInBounds_toArray, List.set_cons_zero, List.set_cons_succ]
  refine wpAnyH_take (i := 16) (oi := { dst := some 52, op := Op.pick (Operand.tmp 42) (Operand.const (Value.bool true)) (Operand.tmp 51), type := 4, pos := "law.go:133", after := #[{ on := 6, ground := Ground.data }, { on := 15, ground := Ground.data }], guard := none }) (v := .bool false) rfl (by kernel_rfl) (by kernel_rfl) (by kernel_rfl) (fun _ _ _ h => h) (Or.inl ⟨by rfl, fun W hW => by rfl⟩) (by assumption) ?_
  try simp only [Act.put, List.setIfInBounds_toArray, List.set_cons_zero, List.set_cons_succ]
  refine wpAnyH_take (i := 17) (oi := { dst := some 53, op := Op.move (Operand.tmp 52), type := 4, pos := "law.go:133", after := #[{ on := 16, ground := Ground.data }, { on := 14, ground := Ground.chain }], guard := none }) (v := .bool false) rfl (by kernel_rfl) (by kernel_rfl) (by kernel_rfl) (fun _ _ _ h => h) (Or.inl ⟨by rfl, fun W hW => by rfl⟩) (by assumption) ?_
  try simp only [Act.put, List.setIfInBounds_toArray, List.set_cons_zero, List.set_cons_succ]
  refine wpAnyH_take (i := 18) (oi := { dst := some 54, op := Op.move (Operand.tmp 1), type := 3, pos := "law.go:133", after := #[{ on := 17, ground := Ground.guard }], guard := some (17, false) }) (v := .int .i64 g) rfl (by kernel_rfl) (by kernel_rfl) (by kernel_rfl) (fun _ _ _ h => h) (Or.inl ⟨by rfl, fun W hW => by rfl⟩) (by assumption) ?_
  try simp only [Act.put, List.setIfInBounds_toArray, List.set_cons_zero, List.set_cons_succ]
  refine wpAnyH_take (i := 19) (oi := { dst := some 55, op := Op.move (Operand.tmp 1), type := 3, pos := "law.go:133", after := #[{ on := 17, ground := Ground.guard }], guard := some (17, false) }) (v := .int .i64 g) rfl (by kernel_rfl) (by kernel_rfl) (by kernel_rfl) (fun _ _ _ h => h) (Or.inl ⟨by rfl, fun W hW => by rfl⟩) (by assumption) ?_
  try simp only [Act.put, List.setIfInBounds_toArray, List.set_cons_zero, List.set_cons_succ]
  refine wpAnyH_ready (rs := [20]) (by kernel_rfl) (by simp) ?_
  refine AllReadyH.cons (o := { dst := some 56, op := Op.call { callee := Callee.value (Operand.func 26), args := #[Operand.tmp 55], argTypes := #[3] }, type := 3, pos := "law.go:133", after := #[{ on := 19, ground := Ground.data }, { on := 17, ground := Ground.chain }, { on := 17, ground := Ground.guard }], guard := some (17, false) }) rfl (fun K hK => ?_) AllReadyH.nil
  rw [if_pos (by rfl)]
  have HS3 := Lib.hid hS3
  clear hS3
  go_wp2_with (go_at_call 26; refine (K56.out _).mono ?_; rintro e x4 ⟨rfl, hbx⟩)
  refine hK.out _ _ (keepR HS3.out hbx) (fun hS4 => ?_)
  clear hK K HS3 hbx
  try simp only [Act.put, List.setIfInBounds_toArray, List.set_cons_zero, List.set_cons_succ]
  refine wpAnyH_ready (rs := [21]) (by kernel_rfl) (by simp) ?_
  refine AllReadyH.cons (o := { dst := some 57, op := Op.call { callee := Callee.value (Operand.func 25), args := #[Operand.tmp 54, Operand.tmp 56], argTypes := #[3, 3] }, type := 3, pos := "law.go:133", after := #[{ on := 18, ground := Ground.data }, { on := 20, ground := Ground.data }, { on := 20, ground := Ground.chain }, { on := 17, ground := Ground.guard }], guard := some (17, false) }) rfl (fun K hK => ?_) AllReadyH.nil
  rw [if_pos (by rfl)]
  have HS4 := Lib.hid hS4
  clear hS4
  go_wp2_with (go_at_call 25; refine (K57.out _).mono ?_; rintro e x5 ⟨rfl, hbx⟩)
  refine hK.out _ _ (keepR HS4.out hbx) (fun hS5 => ?_)
  clear hK K HS4 hbx
  try simp only [Act.put, List.setIfInBounds_toArray, List.set_cons_zero, List.set_cons_succ]
  refine wpAnyH_take (i := 22) (oi := { dst := some 58, op := Op.binOp BinOp.neq 3 (Operand.tmp 57) (Operand.const (Value.int IntKind.i64 0)) 3, type := 4, pos := "law.go:133", after := #[{ on := 21, ground := Ground.data }, { on := 17, ground := Ground.guard }], guard := some (17, false) }) (v := .bool false) rfl (by kernel_rfl) (by kernel_rfl) (by kernel_rfl) (fun _ _ _ h => h) (Or.inl ⟨by rfl, fun W hW => (by have e1 := EQ2.out W; obtain ⟨f1, f2, f3, f4⟩ := FF.out; clear hW; go_simp)⟩) (by assumption) ?_
  try simp only [Act.put, List.setIfInBounds_toArray, List.set_cons_zero, List.set_cons_succ]
  refine wpAnyH_take (i := 23) (oi := { dst := some 59, op := Op.pick (Operand.tmp 53) (Operand.const (Value.bool true)) (Operand.tmp 58), type := 4, pos := "law.go:133", after := #[{ on := 17, ground := Ground.data }, { on := 22, ground := Ground.data }], guard := none }) (v := .bool false) rfl (by kernel_rfl) (by kernel_rfl) (by kernel_rfl) (fun _ _ _ h => h) (Or.inl ⟨by rfl, fun W hW => by rfl⟩) (by assumption) ?_
  try simp only [Act.put, List.setIfInBounds_toArray, List.set_cons_zero, List.set_cons_succ]
  refine wpAnyH_take (i := 24) (oi := { dst := some 60, op := Op.move (Operand.tmp 59), type := 4, pos := "law.go:133", after := #[{ on := 23, ground := Ground.data }, { on := 21, ground := Ground.chain }], guard := none }) (v := .bool false) rfl (by kernel_rfl) (by kernel_rfl) (by kernel_rfl) (fun _ _ _ h => h) (Or.inl ⟨by rfl, fun W hW => by rfl⟩) (by assumption) ?_
  try simp only [Act.put, List.setIfInBounds_toArray, List.set_cons_zero, List.set_cons_succ]
  refine wpAnyH_take (i := 25) (oi := { dst := some 61, op := Op.move (Operand.tmp 1), type := 3, pos := "law.go:133", after := #[{ on := 24, ground := Ground.guard }], guard := some (24, false) }) (v := .int .i64 g) rfl (by kernel_rfl) (by kernel_rfl) (by kernel_rfl) (fun _ _ _ h => h) (Or.inl ⟨by rfl, fun W hW => by rfl⟩) (by assumption) ?_
  try simp only [Act.put, List.setIfInBounds_toArray, List.set_cons_zero, List.set_cons_succ]
  refine wpAnyH_take (i := 27) (oi := { dst := some 63, op := Op.move (Operand.tmp 1), type := 3, pos := "law.go:133", after := #[{ on := 24, ground := Ground.guard }], guard := some (24, false) }) (v := .int .i64 g) rfl (by kernel_rfl) (by kernel_rfl) (by kernel_rfl) (fun _ _ _ h => h) (Or.inl ⟨by rfl, fun W hW => by rfl⟩) (by assumption) ?_
  try simp only [Act.put, List.setIfInBounds_toArray, List.set_cons_zero, List.set_cons_succ]
  refine wpAnyH_ready (rs := [26]) (by kernel_rfl) (by simp) ?_
  refine AllReadyH.cons (o := { dst := some 62, op := Op.call { callee := Callee.value (Operand.func 26), args := #[Operand.tmp 61], argTypes := #[3] }, type := 3, pos := "law.go:133", after := #[{ on := 25, ground := Ground.data }, { on := 24, ground := Ground.chain }, { on := 24, ground := Ground.guard }], guard := some (24, false) }) rfl (fun K hK => ?_) AllReadyH.nil
  rw [if_pos (by rfl)]
  have HS5 := Lib.hid hS5
  clear hS5
  go_wp2_with (go_at_call 26; refine (K56.out _).mono ?_; rintro e x6 ⟨rfl, hbx⟩)
  refine hK.out _ _ (keepR HS5.out hbx) (fun hS6 => ?_)
  clear hK K HS5 hbx
  try simp only [Act.put, List.setIfInBounds_toArray, List.set_cons_zero, List.set_cons_succ]
  refine wpAnyH_ready (rs := [28]) (by kernel_rfl) (by simp) ?_
  refine AllReadyH.cons (o := { dst := some 64, op := Op.call { callee := Callee.value (Operand.func 25), args := #[Operand.tmp 62, Operand.tmp 63], argTypes := #[3, 3] }, type := 3, pos := "law.go:133", after := #[{ on := 26, ground := Ground.data }, { on := 27, ground := Ground.data }, { on := 26, ground := Ground.chain }, { on := 24, ground := Ground.guard }], guard := some (24, false) }) rfl (fun K hK => ?_) AllReadyH.nil
  rw [if_pos (by rfl)]
  have HS6 := Lib.hid hS6
  clear hS6
  go_wp2_with (go_at_call 25; refine (K64.out _).mono ?_; rintro e x7 ⟨rfl, hbx⟩)
  refine hK.out _ _ (keepR HS6.out hbx) (fun hS7 => ?_)
  clear hK K HS6 hbx
  try simp only [Act.put, List.setIfInBounds_toArray, List.set_cons_zero, List.set_cons_succ]
  refine wpAnyH_take (i := 29) (oi := { dst := some 65, op := Op.binOp BinOp.neq 3 (Operand.tmp 64) (Operand.const (Value.int IntKind.i64 0)) 3, type := 4, pos := "law.go:133", after := #[{ on := 28, ground := Ground.data }, { on := 24, ground := Ground.guard }], guard := some (24, false) }) (v := .bool false) rfl (by kernel_rfl) (by kernel_rfl) (by kernel_rfl) (fun _ _ _ h => h) (Or.inl ⟨by rfl, fun W hW => (by have e1 := EQ2.out W; obtain ⟨f1, f2, f3, f4⟩ := FF.out; clear hW; go_simp)⟩) (by assumption) ?_
  try simp only [Act.put, List.setIfInBounds_toArray, List.set_cons_zero, List.set_cons_succ]
  refine wpAnyH_take (i := 30) (oi := { dst := some 66, op := Op.pick (Operand.tmp 60) (Operand.const (Value.bool true)) (Operand.tmp 65), type := 4, pos := "law.go:133", after := #[{ on := 24, ground := Ground.data }, { on := 29, ground := Ground.data }], guard := none }) (v := .bool false) rfl (by kernel_rfl) (by kernel_rfl) (by kernel_rfl) (fun _ _ _ h => h) (Or.inl ⟨by rfl, fun W hW => by rfl⟩) (by assumption) ?_
  try simp only [Act.put, List.setIfInBounds_toArray, List.set_cons_zero, List.set_cons_succ]
  refine wpAnyH_take (i := 31) (oi := { dst := some 67, op := Op.move (Operand.tmp 66), type := 4, pos := "law.go:133", after := #[{ on := 30, ground := Ground.data }, { on := 28, ground := Ground.chain }], guard := none }) (v := .bool false) rfl (by kernel_rfl) (by kernel_rfl) (by kernel_rfl) (fun _ _ _ h => h) (Or.inl ⟨by rfl, fun W hW => by rfl⟩) (by assumption) ?_
  try simp only [Act.put, List.setIfInBounds_toArray, List.set_cons_zero, List.set_cons_succ]
  refine wpAnyH_take (i := 32) (oi := { dst := some 68, op := Op.move (Operand.tmp 1), type := 3, pos := "law.go:133", after := #[{ on := 31, ground := Ground.guard }], guard := some (31, false) }) (v := .int .i64 g) rfl (by kernel_rfl) (by kernel_rfl) (by kernel_rfl) (fun _ _ _ h => h) (Or.inl ⟨by rfl, fun W hW => by rfl⟩) (by assumption) ?_
  try simp only [Act.put, List.setIfInBounds_toArray, List.set_cons_zero, List.set_cons_succ]
  refine wpAnyH_take (i := 34) (oi := { dst := some 70, op := Op.move (Operand.tmp 1), type := 3, pos := "law.go:133", after := #[{ on := 31, ground := Ground.guard }], guard := some (31, false) }) (v := .int .i64 g) rfl (by kernel_rfl) (by kernel_rfl) (by kernel_rfl) (fun _ _ _ h => h) (Or.inl ⟨by rfl, fun W hW => by rfl⟩) (by assumption) ?_
  try simp only [Act.put, List.setIfInBounds_toArray, List.set_cons_zero, List.set_cons_succ]
  refine wpAnyH_ready (rs := [33]) (by kernel_rfl) (by simp) ?_
  refine AllReadyH.cons (o := { dst := some 69, op := Op.call { callee := Callee.value (Operand.func 25), args := #[Operand.tmp 68, Operand.const (Value.int IntKind.i64 0)], argTypes := #[3, 3] }, type := 3, pos := "law.go:133", after := #[{ on := 32, ground := Ground.data }, { on := 31, ground := Ground.chain }, { on := 31, ground := Ground.guard }], guard := some (31, false) }) rfl (fun K hK => ?_) AllReadyH.nil
  rw [if_pos (by rfl)]
  have HS7 := Lib.hid hS7
  clear hS7
  go_wp2_with (go_at_call 25; refine (K69.out _).mono ?_; rintro e x8 ⟨rfl, hbx⟩)
  refine hK.out _ _ (keepR HS7.out hbx) (fun hS8 => ?_)
  clear hK K HS7 hbx
  try simp only [Act.put, List.setIfInBounds_toArray, List.set_cons_zero, List.set_cons_succ]
  refine wpAnyH_take (i := 35) (oi := { dst := some 71, op := Op.binOp BinOp.neq 3 (Operand.tmp 69) (Operand.tmp 70) 3, type := 4, pos := "law.go:133", after := #[{ on := 33, ground := Ground.data }, { on := 34, ground := Ground.data }, { on := 31, ground := Ground.guard }], guard := some (31, false) }) (v := .bool false) rfl (by kernel_rfl) (by kernel_rfl) (by kernel_rfl) (fun _ _ _ h => h) (Or.inl ⟨by rfl, fun W hW => (by have e1 := EQ2.out W; obtain ⟨f1, f2, f3, f4⟩ := FF.out; clear hW; go_simp)⟩) (by assumption) ?_
  try simp only [Act.put, List.setIfInBounds_toArray, List.set_cons_zero, List.set_cons_succ]
  refine wpAnyH_take (i := 36) (oi := { dst := some 72, op := Op.pick (Operand.tmp 67) (Operand.const (Value.bool true)) (Operand.tmp 71), type := 4, pos := "law.go:133", after := #[{ on := 31, ground := Ground.data }, { on := 35, ground := Ground.data }], guard := none }) (v := .bool false) rfl (by kernel_rfl) (by kernel_rfl) (by kernel_rfl) (fun _ _ _ h => h) (Or.inl ⟨by rfl, fun W hW => by rfl⟩) (by assumption) ?_
  try simp only [Act.put, List.setIfInBounds_toArray, List.set_cons_zero, List.set_cons_succ]
  refine wpAnyH_take (i := 37) (oi := { dst := some 73, op := Op.move (Operand.tmp 72), type := 4, pos := "law.go:133", after := #[{ on := 36, ground := Ground.data }, { on := 33, ground := Ground.chain }], guard := none }) (v := .bool false) rfl (by kernel_rfl) (by kernel_rfl) (by kernel_rfl) (fun _ _ _ h => h) (Or.inl ⟨by rfl, fun W hW => by rfl⟩) (by assumption) ?_
  try simp only [Act.put, List.setIfInBounds_toArray, List.set_cons_zero, List.set_cons_succ]
  refine wpAnyH_take (i := 38) (oi := { dst := some 74, op := Op.move (Operand.tmp 1), type := 3, pos := "law.go:133", after := #[{ on := 37, ground := Ground.guard }], guard := some (37, false) }) (v := .int .i64 g) rfl (by kernel_rfl) (by kernel_rfl) (by kernel_rfl) (fun _ _ _ h => h) (Or.inl ⟨by rfl, fun W hW => by rfl⟩) (by assumption) ?_
  try simp only [Act.put, List.setIfInBounds_toArray, List.set_cons_zero, List.set_cons_succ]
  refine wpAnyH_take (i := 40) (oi := { dst := some 76, op := Op.move (Operand.tmp 1), type := 3, pos := "law.go:133", after := #[{ on := 37, ground := Ground.guard }], guard := some (37, false) }) (v := .int .i64 g) rfl (by kernel_rfl) (by kernel_rfl) (by kernel_rfl) (fun _ _ _ h => h) (Or.inl ⟨by rfl, fun W hW => by rfl⟩) (by assumption) ?_
  try simp only [Act.put, List.setIfInBounds_toArray, List.set_cons_zero, List.set_cons_succ]
  refine wpAnyH_ready (rs := [39]) (by kernel_rfl) (by simp) ?_
  refine AllReadyH.cons (o := { dst := some 75, op := Op.call { callee := Callee.value (Operand.func 25), args := #[Operand.const (Value.int IntKind.i64 0), Operand.tmp 74], argTypes := #[3, 3] }, type := 3, pos := "law.go:133", after := #[{ on := 38, ground := Ground.data }, { on := 37, ground := Ground.chain }, { on := 37, ground := Ground.guard }], guard := some (37, false) }) rfl (fun K hK => ?_) AllReadyH.nil
  rw [if_pos (by rfl)]
  have HS8 := Lib.hid hS8
  clear hS8
  go_wp2_with (go_at_call 25; refine (K75.out _).mono ?_; rintro e x9 ⟨rfl, hbx⟩)
  refine hK.out _ _ (keepR HS8.out hbx) (fun hS9 => ?_)
  clear hK K HS8 hbx
  try simp only [Act.put, List.setIfInBounds_toArray, List.set_cons_zero, List.set_cons_succ]
  refine wpAnyH_take (i := 41) (oi := { dst := some 77, op := Op.binOp BinOp.neq 3 (Operand.tmp 75) (Operand.tmp 76) 3, type := 4, pos := "law.go:133", after := #[{ on := 39, ground := Ground.data }, { on := 40, ground := Ground.data }, { on := 37, ground := Ground.guard }], guard := some (37, false) }) (v := .bool false) rfl (by kernel_rfl) (by kernel_rfl) (by kernel_rfl) (fun _ _ _ h => h) (Or.inl ⟨by rfl, fun W hW => (by have e1 := EQ2.out W; obtain ⟨f1, f2, f3, f4⟩ := FF.out; clear hW; go_simp)⟩) (by assumption) ?_
  try simp only [Act.put, List.setIfInBounds_toArray, List.set_cons_zero, List.set_cons_succ]
  refine wpAnyH_take (i := 42) (oi := { dst := some 78, op := Op.pick (Operand.tmp 73) (Operand.const (Value.bool true)) (Operand.tmp 77), type := 4, pos := "law.go:133", after := #[{ on := 37, ground := Ground.data }, { on := 41, ground := Ground.data }], guard := none }) (v := .bool false) rfl (by kernel_rfl) (by kernel_rfl) (by kernel_rfl) (fun _ _ _ h => h) (Or.inl ⟨by rfl, fun W hW => by rfl⟩) (by assumption) ?_
  try simp only [Act.put, List.setIfInBounds_toArray, List.set_cons_zero, List.set_cons_succ]
  refine wpAnyH_done (by kernel_rfl) ?_ _
  have HSE := Lib.hid hS9
  clear hS9
  go_wp2_with fail
  obtain ⟨kk, hkk, hk8⟩ := k8 k
  rw [hk8]
  have ASK := Lib.hid (AS.out kk hkk)
  clear hk8
  refine (behind_any (gh : Int) (kk : Int) _).mono ?_; rintro e y1 ⟨rfl, hb⟩
  have Y1 := Lib.hid (HSE.out.2.trans (hb.mono HSE.out.2.size))
  clear hb
  go_wp2_with fail
  refine (behind_any h (kk : Int) _).mono ?_; rintro e y2 ⟨rfl, hb⟩
  have Y2 := Lib.hid (Y1.out.trans (hb.mono Y1.out.size))
  clear hb
  go_wp2_with fail
  refine (behind_any g (behindN h (kk : Int) : Nat) _).mono ?_; rintro e y3 ⟨rfl, hb⟩
  have Y3 := Lib.hid (Y2.out.trans (hb.mono Y2.out.size))
  clear hb
  have heq := ASK.out
  rw [HGH.out] at heq
  rw [heq]
  obtain ⟨z, hz⟩ : ∃ z, behindN g (behindN h (kk : Int) : Nat) = z := ⟨_, rfl⟩
  rw [hz]
  clear hz heq
  go_wp2_with fail
  go_ret
  exact ⟨rfl, Y3.out⟩
theorem group_any (l : List Int) (g h k : Int) (w : World) (hl : l.length = 64) (hin : In64 l) (hk : -9223372036854775808 ≤ k ∧ k ≤ 9223372036854775807) :
    Calls Try.prog 12 #[arr l, .int .i64 g, .int .i64 h, .int .i64 k] w fun e w' => e = .returned (.bool true) ∧ Below w.heap.size w w' := by
  by_cases hn : (0 ≤ g ∧ g ≤ 7) ∧ (0 ≤ h ∧ h ≤ 7)
  · obtain ⟨G0, rfl⟩ : ∃ G0 : Nat, g = (G0 : Int) := ⟨g.toNat, by omega⟩
    obtain ⟨H0, rfl⟩ : ∃ H0 : Nat, h = (H0 : Int) := ⟨h.toNat, by omega⟩
    exact group_yes l G0 H0 k w hl hin (by omega) (by omega) hk
  · exact group_no l g h k w hl hn
/-- a block and three turns, by value -/
def turnsV (l : List Int) (g h k : Int) : Value := .agg (vIs l ++ [Value.int .i64 g, .int .i64 h, .int .i64 k]).toArray
set_option maxRecDepth 20000 in
set_option maxHeartbeats 1600000 in
theorem turnAll_any (l : List Int) (g h k : Int) (w : World) (hl : l.length = 64) (hin : In64 l) (hg : -9223372036854775808 ≤ g ∧ g ≤ 9223372036854775807) (hh : -9223372036854775808 ≤ h ∧ h ≤ 9223372036854775807) (hk : -9223372036854775808 ≤ k ∧ k ≤ 9223372036854775807) :
    Calls Try.prog 4 #[turnsV l g h k] w fun e w' => e = .returned (.bool true) ∧ Below w.heap.size w w' := by
  have GA := Lib.hid (fun W => group_any l g h k W hl hin hk)
  have hx := heap_alloc_new w (.cells (vIs l ++ [Value.int .i64 g, .int .i64 h, .int .i64 k]).toArray 28)
  obtain ⟨w1, hw1⟩ : ∃ w1, w.alloc (.cells (vIs l ++ [Value.int .i64 g, .int .i64 h, .int .i64 k]).toArray 28) = w1 := ⟨_, rfl⟩
  rw [hw1] at hx
  have hvl : (vIs l).length = 64 := by rw [vIs_length, hl]
  have rg : w1.rangeAt w.heap.size 0 (vIs l) := by
    intro j v hv
    have hj := (List.getElem?_eq_some_iff.1 hv).1
    rw [cell_of_row w1 _ _ _ _ (0, 0) hx, Nat.zero_add, List.getElem?_toArray, List.getElem?_append_left hj]
    exact hv
  have c4 : w1.cell? ⟨w.heap.size, 64, none⟩ = some (.int .i64 g) := by
    rw [cell_of_row w1 _ _ _ _ (0, 0) hx, List.getElem?_toArray, List.getElem?_append_right (by omega), hvl]; rfl
  have c5 : w1.cell? ⟨w.heap.size, 65, none⟩ = some (.int .i64 h) := by
    rw [cell_of_row w1 _ _ _ _ (0, 0) hx, List.getElem?_toArray, List.getElem?_append_right (by omega), hvl]; rfl
  have c6 : w1.cell? ⟨w.heap.size, 66, none⟩ = some (.int .i64 k) := by
    rw [cell_of_row w1 _ _ _ _ (0, 0) hx, List.getElem?_toArray, List.getElem?_append_right (by omega), hvl]; rfl
  have B1 : Hid (Below w.heap.size w w1) := Lib.hid (by rw [← hw1]; exact (Below.refl _ _).alloc (Nat.le_refl _) _)
  have RG := Lib.hid rg
  have HW := Lib.hid hw1
  have HI : Hid ((Try.prog.info? 23).map (·.size) = some (vIs l).length) := Lib.hid (by have := info64 l hl; simpa using this)
  have HC := Lib.hid (And.intro c4 (And.intro c5 c6))
  clear hx rg c4 c5 c6 hw1 hl hin hg hh hk hvl
  unfold turnsV
  unfold arr at GA
  go_enter Try.func4, Try.ntmps4
  go_wp2_with (refine wpList_load_mid rfl _ _ rfl w.heap.size 0 rfl (vIs l) _ (by rw [HW.out]; exact RG.out) Try.underlying23 rfl HI.out ?_; refine stop ?_)
  refine unstop ?_
  rw [HW.out]
  obtain ⟨c4, c5, c6⟩ := HC.out
  go_wp2_with fail
  refine (GA.out _).mono ?_; rintro e w2 ⟨rfl, hb2⟩
  have B2 := Lib.hid (B1.out.trans (hb2.mono B1.out.size))
  clear hb2 c4 c5 c6
  go_wp2_with fail
  go_ret
  exact ⟨rfl, B2.out⟩
end Go.Proofs.Ytnhalnjdlkdnkaa
