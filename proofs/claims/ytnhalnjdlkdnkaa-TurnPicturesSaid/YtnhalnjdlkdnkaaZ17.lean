/- The walk of turn.Block. By an AI agent. -/
import Derived.Test.YtnhalnjdlkdnkaaZ05
import Derived.Laws.Tables
import Derived.Deep.MidRow
namespace Go.Proofs.Ytnhalnjdlkdnkaa
open Go.RowKit
set_option linter.unusedVariables false
set_option linter.unusedSimpArgs false

/-- what a turn does to the number at place k -/
def sg2 (f o : Bool) (a b : Nat) (x : Int) : Int :=
  let y := if f = true ∧ a = 1 then wrap64 (-x) else x
  if o = true ∧ b = 1 then wrap64 (-y) else y
def sgn (f o : Bool) (k : Nat) (x : Int) : Int := sg2 f o (k % 2) (k / 8 % 2) x
def signL (f o : Bool) (l : List Int) : List Int := (List.range 64).map fun k => sgn f o k (l.getD k 0)
def blockL (t : Int) (l : List Int) : List Int := signL (flipB t) (flopB t) (if crossB t = true then crossL l else l)
theorem signL_len (f o : Bool) (l : List Int) : (signL f o l).length = 64 := by simp [signL]
def sgF (f o : Bool) (l : List Int) (i k : Nat) : Value := if k < i then .int .i64 (sgn f o k (l.getD k 0)) else .int .i64 (l.getD k 0)
theorem row_range {w : World} {g : Nat} {T : TypeId} {l : List Int} (h : w.rowIs g T 64 (fun k => .int .i64 (l.getD k 0))) (hl : l.length = 64) : w.rangeAt g 0 (vIs l) := by
  intro j v hv
  have hj : j < l.length := by have := (List.getElem?_eq_some_iff.1 hv).1; rwa [vIs_length] at this
  rw [Nat.zero_add, h.cell (by omega)]
  simp only [vIs, List.getElem?_map, List.getElem?_eq_getElem hj, Option.map_some, Option.some.injEq] at hv
  rw [← hv, List.getD_eq_getElem?_getD, List.getElem?_eq_getElem hj]
  rfl
theorem row_of_heap {w : World} {g : Nat} {T : TypeId} {l : List Int} (h : w.heap[g]? = some (.cells (vIs l).toArray T (0, 0))) (hl : l.length = 64) : w.rowIs g T 64 (fun k => .int .i64 (l.getD k 0)) := by
  refine ⟨_, h, by simp [vIs, hl], fun i hi => ?_⟩
  have hil : i < l.length := by omega
  simp [vIs, vI, List.getElem?_eq_getElem hil]
theorem row_heap {w : World} {g : Nat} {T : TypeId} {f : Nat → Value} (h : w.rowIs g T 64 f) : ∃ old : Array Value, w.heap[g]? = some (.cells old T (0, 0)) ∧ old.size = 64 := by
  obtain ⟨c, h1, h2, _⟩ := h
  exact ⟨c, h1, h2⟩

theorem sgF_step (f o : Bool) (L : List Int) (k : Nat) {w : World} {g : Nat} {T : TypeId} (h : w.rowIs g T 64 (sgF f o L k)) (v : Value) (hv : v = .int .i64 (sgn f o k (L.getD k 0))) : (w.setCell ⟨g, k, none⟩ v).rowIs g T 64 (sgF f o L (k + 1)) :=
  (h.set k v).congr (fun j _ => by
    unfold sgF
    by_cases hj : j = k
    · subst hj; rw [if_pos rfl, if_pos (Nat.lt_succ_self _)]; exact hv
    · rw [if_neg hj]
      by_cases h2 : j < k
      · rw [if_pos h2, if_pos (by omega)]
      · rw [if_neg h2, if_neg (by omega)])
theorem sgF_same (f o : Bool) (L : List Int) (k : Nat) {w : World} {g : Nat} {T : TypeId} (h : w.rowIs g T 64 (sgF f o L k)) (hv : L.getD k 0 = sgn f o k (L.getD k 0)) : w.rowIs g T 64 (sgF f o L (k + 1)) :=
  h.congr (fun j _ => by
    unfold sgF
    by_cases hj : j = k
    · subst hj; rw [if_neg (Nat.lt_irrefl _), if_pos (Nat.lt_succ_self _), ← hv]
    · by_cases h2 : j < k
      · rw [if_pos h2, if_pos (by omega)]
      · rw [if_neg h2, if_neg (by omega)])
theorem sgF_start (f o : Bool) (L : List Int) {w : World} {g : Nat} {T : TypeId} (h : w.rowIs g T 64 (fun k => .int .i64 (L.getD k 0))) : w.rowIs g T 64 (sgF f o L 0) :=
  h.congr (fun j _ => by unfold sgF; rw [if_neg (Nat.not_lt_zero _)])
theorem sgF_end (f o : Bool) (L : List Int) {w : World} {g : Nat} {T : TypeId} (h : w.rowIs g T 64 (sgF f o L 64)) : w.rowIs g T 64 (fun k => .int .i64 ((signL f o L).getD k 0)) :=
  h.congr (fun j hj => by unfold sgF; rw [if_pos hj]; simp [signL, hj])
theorem set_two {w : World} {g k : Nat} {T : TypeId} {F : Nat → Value} (h : w.rowIs g T 64 F) (u v : Value) {G : Nat → Value} (h2 : (w.setCell ⟨g, k, none⟩ v).rowIs g T 64 G) : ((w.setCell ⟨g, k, none⟩ u).setCell ⟨g, k, none⟩ v).rowIs g T 64 G := by
  have h3 := ((h.set k u).set k v)
  have h4 := h.set k v
  obtain ⟨c, hc, hn, hi⟩ := h3
  obtain ⟨c2, hc2, hn2, hi2⟩ := h2
  obtain ⟨c4, hc4, hn4, hi4⟩ := h4
  rw [hc2] at hc4
  have e42 : c2 = c4 := by simpa using hc4
  refine ⟨c, hc, hn, fun i hin => ?_⟩
  rw [hi i hin, ← hi2 i hin, e42, hi4 i hin]
  by_cases hik : i = k <;> simp [hik]
theorem info64 (m : List Int) (hm : m.length = 64) : (Try.prog.info? 23).map (·.size) = some (vIs m).toArray.size := by
  have h : (Try.prog.info? 23).map (·.size) = some 64 := by kernel_rfl
  rw [h]
  simp [vIs, hm]
/-- the facts that a round of turn.Block needs and hands on -/
structure BlkSt (w : World) (gw : Nat) (f o : Bool) (w' : World) : Prop where
  zero : ∃ old : Array Value, w'.heap[w.heap.size + 1]? = some (.cells old 23 (0, 0)) ∧ old.size = 64
  way : w'.cell? ⟨gw, 1, none⟩ = some (.bool f) ∧ w'.cell? ⟨gw, 2, none⟩ = some (.bool o)
  bel : Below w.heap.size w w'
  ne : w.heap.size + 1 < gw
theorem BlkSt.set {w : World} {gw : Nat} {f o : Bool} {w' : World} (h : BlkSt w gw f o w') (k : Nat) (v : Value) : BlkSt w gw f o (w'.setCell ⟨w.heap.size, k, none⟩ v) := by
  have hne := h.ne
  refine ⟨?_, ⟨?_, ?_⟩, h.bel.setCell (by exact Nat.le_refl _) _, h.ne⟩
  · rw [heap_setCell_other _ _ _ _ (by show w.heap.size + 1 ≠ w.heap.size; omega)]; exact h.zero
  · rw [World.cell?_setCell_other]
    · exact h.way.1
    · intro he; have := congrArg Addr.block he; simp at this; omega
  · rw [World.cell?_setCell_other]
    · exact h.way.2
    · intro he; have := congrArg Addr.block he; simp at this; omega
theorem BlkSt.below {w : World} {gw : Nat} {f o : Bool} {w' w'' : World} (h : BlkSt w gw f o w') (hb : Below w'.heap.size w' w'') : BlkSt w gw f o w'' := by
  refine ⟨?_, ⟨cell_old hb h.way.1, cell_old hb h.way.2⟩, h.bel.trans (hb.mono h.bel.size), h.ne⟩
  obtain ⟨old, h1, h2⟩ := h.zero
  exact ⟨old, by rw [hb.block _ (Array.getElem?_eq_some_iff.1 h1).1]; exact h1, h2⟩
theorem BlkSt.setRow {w : World} {gw : Nat} {f o : Bool} {w' : World} (h : BlkSt w gw f o w') (cs : Array Value) : BlkSt w gw f o (w'.setRow w.heap.size cs) := by
  have hne := h.ne
  refine ⟨?_, ⟨?_, ?_⟩, below_setRow h.bel (Nat.le_refl _) _, h.ne⟩
  · rw [setRow_other _ _ _ _ (by omega)]; exact h.zero
  · rw [cell_setRow_other _ _ _ _ (by show gw ≠ w.heap.size; omega)]; exact h.way.1
  · rw [cell_setRow_other _ _ _ _ (by show gw ≠ w.heap.size; omega)]; exact h.way.2
theorem arrayAt_64 (g : Nat) (W : World) : (Instr.arrayAt 23 (.slice (some ⟨g, 0, none⟩) 64 64)).run Try.prog W = .ok (.pointer (some ⟨g, 0, none⟩)) W := by kernel_rfl
theorem row_ns {w : World} {g : Nat} {T : TypeId} {l : List Int} (h : w.rowIs g T 64 (fun k => .int .i64 (l.getD k 0))) (hl : l.length = 64) : Ns w (.slice (some ⟨g, 0, none⟩) 64 64) l := by
  refine ⟨by simp [vIs], .inr ⟨g, 0, 64, by rw [hl], by omega, by omega, fun i u hu => row_range h hl i u hu⟩⟩

set_option maxRecDepth 20000 in
set_option maxHeartbeats 6400000 in
theorem block_c0 (l : List Int) (t : Int) (f o : Bool) (w : World) (hl : l.length = 64) (hc : crossB t = false) (hf : flipB t = f) (ho : flopB t = o) :
    Calls Try.prog 10 #[arr l, .int .i64 t] w fun e w' => e = .returned (arr (signL f o l)) ∧ Below w.heap.size w w' := by
  have OF := Lib.hid (fun W => by have h := of_any t W; rw [hc, hf, ho] at h; unfold wayV at h; exact h)
  have HL := Lib.hid hl
  clear hc hf ho hl
  unfold arr
  go_enter Try.func10, Try.ntmps10
  go_wp2_with fail
  obtain ⟨w2, hw2⟩ : ∃ w2, (w.alloc (.cells (vIs l).toArray 23)).alloc (.cells #[.int .i64 0, .int .i64 0, .int .i64 0, .int .i64 0, .int .i64 0, .int .i64 0, .int .i64 0, .int .i64 0, .int .i64 0, .int .i64 0, .int .i64 0, .int .i64 0, .int .i64 0, .int .i64 0, .int .i64 0, .int .i64 0, .int .i64 0, .int .i64 0, .int .i64 0, .int .i64 0, .int .i64 0, .int .i64 0, .int .i64 0, .int .i64 0, .int .i64 0, .int .i64 0, .int .i64 0, .int .i64 0, .int .i64 0, .int .i64 0, .int .i64 0, .int .i64 0, .int .i64 0, .int .i64 0, .int .i64 0, .int .i64 0, .int .i64 0, .int .i64 0, .int .i64 0, .int .i64 0, .int .i64 0, .int .i64 0, .int .i64 0, .int .i64 0, .int .i64 0, .int .i64 0, .int .i64 0, .int .i64 0, .int .i64 0, .int .i64 0, .int .i64 0, .int .i64 0, .int .i64 0, .int .i64 0, .int .i64 0, .int .i64 0, .int .i64 0, .int .i64 0, .int .i64 0, .int .i64 0, .int .i64 0, .int .i64 0, .int .i64 0, .int .i64 0] 23) = w2 := ⟨_, rfl⟩
  have hr2 : w2.rowIs w.heap.size 23 64 (fun k => .int .i64 (l.getD k 0)) := by rw [← hw2]; exact row_of_heap (heap_new0 _ _ _) HL.out
  have hz2 : ∃ old : Array Value, w2.heap[w.heap.size + 1]? = some (.cells old 23 (0, 0)) ∧ old.size = 64 := by rw [← hw2]; exact ⟨_, heap_new1 _ _ _, rfl⟩
  have hb2 : Below w.heap.size w w2 := by rw [← hw2]; exact ((Below.refl _ _).alloc (Nat.le_refl _) _).alloc (by simp) _
  have hs2 : w2.heap.size = w.heap.size + 1 + 1 := by rw [← hw2]; simp
  rw [hw2]
  clear hw2
  refine (OF.out _).mono ?_; rintro e w3 ⟨rfl, hb3⟩
  have R3 := Lib.hid (hr2.of_block (hb3.block w.heap.size (by omega)))
  have Z3 : Hid (∃ old : Array Value, w3.heap[w.heap.size + 1]? = some (.cells old 23 (0, 0)) ∧ old.size = 64) := Lib.hid (by rw [hb3.block (w.heap.size + 1) (by omega)]; exact hz2)
  have B3 := Lib.hid (hb2.trans (hb3.mono hb2.size))
  have S3 : Hid (w.heap.size + 1 < w3.heap.size) := Lib.hid (by have := hb3.size; omega)
  clear hr2 hz2 hb2 hs2 hb3
  go_wp2_with fail
  obtain ⟨w4, hw4⟩ : ∃ w4, w3.alloc (.cells #[.bool false, .bool f, .bool o] 64) = w4 := ⟨_, rfl⟩
  rw [hw4]
  have hb4 : Below w3.heap.size w3 w4 := by rw [← hw4]; exact (Below.refl _ _).alloc (Nat.le_refl _) _
  have hx4 : w4.heap[w3.heap.size]? = some (.cells #[.bool false, .bool f, .bool o] 64 (0, 0)) := by rw [← hw4]; exact heap_alloc_new _ _
  have ST4 : Hid (BlkSt w w3.heap.size f o w4) := Lib.hid ⟨by rw [hb4.block _ S3.out]; exact Z3.out, ⟨by rw [cell_of_row w4 _ 1 _ _ (0, 0) hx4]; rfl, by rw [cell_of_row w4 _ 2 _ _ (0, 0) hx4]; rfl⟩, B3.out.trans (hb4.mono B3.out.size), S3.out⟩
  have R4 := Lib.hid (R3.out.of_block (hb4.block w.heap.size (by have := S3.out; omega)))
  have HI64 := Lib.hid info64
  have HI64' : Hid (∀ m : List Int, m.length = 64 → (Try.prog.info? 23).map (·.size) = some (vIs m).length) := Lib.hid (fun m hm => by have h := HI64.out m hm; simpa using h)
  have H164 : Hid (∀ m : List Int, (vIs m).toArray.all (·.oneCell') = true) := Lib.hid (fun m => all_oneCell_toArray (fun v hv => vIs_one m v hv))
  obtain ⟨gw, hgw⟩ : ∃ gw, w3.heap.size = gw := ⟨_, rfl⟩
  rw [hgw] at ST4
  rw [hgw]
  clear hw4 hb4 hx4 R3 Z3 B3 S3 hgw OF
  go_loopw [15] (fun i w' => ∃ k : Nat, k ≤ 64 ∧ i = .int .i64 k ∧ w'.rowIs w.heap.size 23 64 (sgF f o l k) ∧ BlkSt w gw f o w') (fun i _ => 64 - (intOf i).toNat)
  case atStart => exact ⟨0, Nat.zero_le _, rfl, sgF_start f o l R4.out, ST4.out⟩
  case round =>
    obtain ⟨k, hk, rfl, hrow, hst⟩ := hrel
    have HR := Lib.hid hrow
    have HS := Lib.hid hst
    clear hrow hst
    by_cases hk6 : k < 64
    · have f1' : decide ((k : Int) < 64) = true := by rw [decide_eq_true_eq]; omega
      have f1 : decide (k < 64) = true := by rw [decide_eq_true_eq]; exact hk6
      obtain ⟨p1, p2⟩ := HS.out.way
      have c1 : wr.cell? ⟨w.heap.size, k, none⟩ = some (.int .i64 (l.getD k 0)) := by
        rw [HR.out.cell hk6]; unfold sgF; rw [if_neg (Nat.lt_irrefl _)]
      have c2 := HR.out.frozen k
      have SG : Hid (∀ x, sgn f o k x = sg2 f o (k % 2) (k / 8 % 2) x) := Lib.hid (fun _ => rfl)
      have N0 : Hid (l.getD k 0 = sgn f o k (l.getD k 0) → wr.rowIs w.heap.size 23 64 (sgF f o l (k + 1)) ∧ BlkSt w gw f o wr) := Lib.hid (fun h => ⟨sgF_same f o l k HR.out h, HS.out⟩)
      have N1 : Hid (∀ v, v = sgn f o k (l.getD k 0) → (wr.setCell ⟨w.heap.size, k, none⟩ (.int .i64 v)).rowIs w.heap.size 23 64 (sgF f o l (k + 1)) ∧ BlkSt w gw f o (wr.setCell ⟨w.heap.size, k, none⟩ (.int .i64 v))) := Lib.hid (fun v h => ⟨sgF_step f o l k HR.out _ (by rw [h]), HS.out.set k _⟩)
      have N2 : Hid (∀ u v, v = sgn f o k (l.getD k 0) → ((wr.setCell ⟨w.heap.size, k, none⟩ (.int .i64 u)).setCell ⟨w.heap.size, k, none⟩ (.int .i64 v)).rowIs w.heap.size 23 64 (sgF f o l (k + 1)) ∧ BlkSt w gw f o ((wr.setCell ⟨w.heap.size, k, none⟩ (.int .i64 u)).setCell ⟨w.heap.size, k, none⟩ (.int .i64 v))) := Lib.hid (fun u v h => ⟨set_two HR.out _ _ (sgF_step f o l k HR.out _ (by rw [h])), (HS.out.set k _).set k _⟩)
      have p2s : Hid (∀ v : Value, (wr.setCell ⟨w.heap.size, k, none⟩ v).cell? ⟨gw, 2, none⟩ = some (.bool o)) := Lib.hid (fun v => (HS.out.set k v).way.2)
      have hne := HS.out.ne
      have ne1 : ¬ (w.heap.size = gw) := by omega
      have ne2 : ¬ (gw = w.heap.size) := by omega
      clear hne
      obtain ⟨x, hx⟩ : ∃ x, l.getD k 0 = x := ⟨_, rfl⟩
      rw [hx] at c1 N0 N1 N2
      clear hx
      obtain ⟨a2, ha2, ha2'⟩ : ∃ a2 : Nat, k % 2 = a2 ∧ (a2 = 0 ∨ a2 = 1) := ⟨_, rfl, by omega⟩
      obtain ⟨q8, hq8, hq8'⟩ : ∃ q8 : Nat, k / 8 = q8 ∧ q8 < 8 := ⟨_, rfl, by omega⟩
      obtain ⟨b2, hb2, hb2'⟩ : ∃ b2 : Nat, q8 % 2 = b2 ∧ (b2 = 0 ∨ b2 = 1) := ⟨_, rfl, by omega⟩
      have t2 : (k : Int) % 2 = (a2 : Int) := by omega
      have t8 : (k : Int) / 8 = (q8 : Int) := by omega
      have t9 : (q8 : Int) % 2 = (b2 : Int) := by omega
      have w3a : wrap64 (q8 : Int) = (q8 : Int) ∧ IntKind.i64.wrap (q8 : Int) = (q8 : Int) := ⟨IntWalk.wrap64_in _ (by omega), IntWalk.i64_in _ (by omega)⟩
      obtain ⟨w3b, w3c⟩ := w3a
      have SG2 : Hid (∀ x, sgn f o k x = sg2 f o a2 b2 x) := Lib.hid (fun x => by rw [SG.out, ha2, hq8, hb2])
      clear SG ha2 hq8 hb2 hq8'
      rcases f with _ | _ <;> rcases o with _ | _ <;> rcases ha2' with rfl | rfl <;> rcases hb2' with rfl | rfl
      · skip
        go_wp2_with fail
        go_roundw
        case rel => obtain ⟨r1, r2⟩ := N0.out (by rw [SG2.out] <;> simp [sg2]); exact ⟨k + 1, by omega, by go_num, r1, r2⟩
        case measure => simp [intOf]; omega
      · skip
        go_wp2_with fail
        go_roundw
        case rel => obtain ⟨r1, r2⟩ := N0.out (by rw [SG2.out] <;> simp [sg2]); exact ⟨k + 1, by omega, by go_num, r1, r2⟩
        case measure => simp [intOf]; omega
      · skip
        go_wp2_with fail
        go_roundw
        case rel => obtain ⟨r1, r2⟩ := N0.out (by rw [SG2.out] <;> simp [sg2]); exact ⟨k + 1, by omega, by go_num, r1, r2⟩
        case measure => simp [intOf]; omega
      · skip
        go_wp2_with fail
        go_roundw
        case rel => obtain ⟨r1, r2⟩ := N0.out (by rw [SG2.out] <;> simp [sg2]); exact ⟨k + 1, by omega, by go_num, r1, r2⟩
        case measure => simp [intOf]; omega
      · skip
        go_wp2_with fail
        go_roundw
        case rel => obtain ⟨r1, r2⟩ := N0.out (by rw [SG2.out] <;> simp [sg2]); exact ⟨k + 1, by omega, by go_num, r1, r2⟩
        case measure => simp [intOf]; omega
      · skip
        go_wp2_with fail
        go_roundw
        case rel => obtain ⟨r1, r2⟩ := N1.out _ (by rw [SG2.out] <;> simp [sg2]); exact ⟨k + 1, by omega, by go_num, r1, r2⟩
        case measure => simp [intOf]; omega
      · skip
        go_wp2_with fail
        go_roundw
        case rel => obtain ⟨r1, r2⟩ := N0.out (by rw [SG2.out] <;> simp [sg2]); exact ⟨k + 1, by omega, by go_num, r1, r2⟩
        case measure => simp [intOf]; omega
      · skip
        go_wp2_with fail
        go_roundw
        case rel => obtain ⟨r1, r2⟩ := N1.out _ (by rw [SG2.out] <;> simp [sg2]); exact ⟨k + 1, by omega, by go_num, r1, r2⟩
        case measure => simp [intOf]; omega
      · skip
        go_wp2_with fail
        go_roundw
        case rel => obtain ⟨r1, r2⟩ := N0.out (by rw [SG2.out] <;> simp [sg2]); exact ⟨k + 1, by omega, by go_num, r1, r2⟩
        case measure => simp [intOf]; omega
      · skip
        go_wp2_with fail
        go_roundw
        case rel => obtain ⟨r1, r2⟩ := N0.out (by rw [SG2.out] <;> simp [sg2]); exact ⟨k + 1, by omega, by go_num, r1, r2⟩
        case measure => simp [intOf]; omega
      · skip
        have p2t := p2s.out (.int .i64 (wrap64 (-x)))
        go_wp2_with fail
        go_roundw
        case rel => obtain ⟨r1, r2⟩ := N1.out _ (by rw [SG2.out] <;> simp [sg2]); exact ⟨k + 1, by omega, by go_num, r1, r2⟩
        case measure => simp [intOf]; omega
      · skip
        have p2t := p2s.out (.int .i64 (wrap64 (-x)))
        go_wp2_with fail
        go_roundw
        case rel => obtain ⟨r1, r2⟩ := N1.out _ (by rw [SG2.out] <;> simp [sg2]); exact ⟨k + 1, by omega, by go_num, r1, r2⟩
        case measure => simp [intOf]; omega
      · skip
        go_wp2_with fail
        go_roundw
        case rel => obtain ⟨r1, r2⟩ := N0.out (by rw [SG2.out] <;> simp [sg2]); exact ⟨k + 1, by omega, by go_num, r1, r2⟩
        case measure => simp [intOf]; omega
      · skip
        go_wp2_with fail
        go_roundw
        case rel => obtain ⟨r1, r2⟩ := N1.out _ (by rw [SG2.out] <;> simp [sg2]); exact ⟨k + 1, by omega, by go_num, r1, r2⟩
        case measure => simp [intOf]; omega
      · skip
        have p2t := p2s.out (.int .i64 (wrap64 (-x)))
        go_wp2_with fail
        go_roundw
        case rel => obtain ⟨r1, r2⟩ := N1.out _ (by rw [SG2.out] <;> simp [sg2]); exact ⟨k + 1, by omega, by go_num, r1, r2⟩
        case measure => simp [intOf]; omega
      · skip
        have p2t := p2s.out (.int .i64 (wrap64 (-x)))
        go_wp2_with fail
        go_roundw
        case rel => obtain ⟨r1, r2⟩ := N2.out _ _ (by rw [SG2.out] <;> simp [sg2]); exact ⟨k + 1, by omega, by go_num, r1, r2⟩
        case measure => simp [intOf]; omega
    · obtain rfl : k = 64 := by omega
      have RE := Lib.hid (row_range (sgF_end f o l HR.out) (signL_len f o l))
      obtain ⟨old, hold, hosz⟩ := HS.out.zero
      have HO := Lib.hid hold
      have HOS := Lib.hid hosz
      have HSL := Lib.hid (signL_len f o l)
      obtain ⟨M, hM⟩ : ∃ M, signL f o l = M := ⟨_, rfl⟩
      rw [hM] at RE HSL
      have HM := Lib.hid hM
      clear hM hold hosz
      go_wp2_with (refine wpList_load_mid rfl _ _ rfl w.heap.size 0 rfl (vIs M) _ RE.out Try.underlying23 rfl (HI64'.out M HSL.out) ?_; refine stop ?_)
      refine unstop ?_
      go_wp2_with (refine wpList_store_row rfl _ _ _ rfl (w.heap.size + 1) (vIs M).toArray rfl rfl 23 _ HO.out (HI64.out M HSL.out) (by rw [HOS.out]; simp [vIs, HSL.out]) (H164.out M) ?_)
      refine bodyPost_ret (v := arr M) (results_cell_row rfl _ _ (w.heap.size + 1) 23 (vIs M).toArray (0, 0) _ rfl ?_ Try.underlying23 rfl (HI64.out M HSL.out)) rfl ⟨by rw [HM.out]; rfl, ?_⟩
      · exact setRow_heap _ _ _ _ _ _ HO.out
      · exact below_setRow HS.out.bel (Nat.le_succ _) _

set_option maxRecDepth 20000 in
set_option maxHeartbeats 6400000 in
theorem block_c1 (l : List Int) (t : Int) (f o : Bool) (w : World) (hl : l.length = 64) (hc : crossB t = true) (hf : flipB t = f) (ho : flopB t = o) :
    Calls Try.prog 10 #[arr l, .int .i64 t] w fun e w' => e = .returned (arr (signL f o (crossL l))) ∧ Below w.heap.size w w' := by
  have OF := Lib.hid (fun W => by have h := of_any t W; rw [hc, hf, ho] at h; unfold wayV at h; exact h)
  have HL := Lib.hid hl
  clear hc hf ho hl
  unfold arr
  go_enter Try.func10, Try.ntmps10
  go_wp2_with fail
  obtain ⟨w2, hw2⟩ : ∃ w2, (w.alloc (.cells (vIs l).toArray 23)).alloc (.cells #[.int .i64 0, .int .i64 0, .int .i64 0, .int .i64 0, .int .i64 0, .int .i64 0, .int .i64 0, .int .i64 0, .int .i64 0, .int .i64 0, .int .i64 0, .int .i64 0, .int .i64 0, .int .i64 0, .int .i64 0, .int .i64 0, .int .i64 0, .int .i64 0, .int .i64 0, .int .i64 0, .int .i64 0, .int .i64 0, .int .i64 0, .int .i64 0, .int .i64 0, .int .i64 0, .int .i64 0, .int .i64 0, .int .i64 0, .int .i64 0, .int .i64 0, .int .i64 0, .int .i64 0, .int .i64 0, .int .i64 0, .int .i64 0, .int .i64 0, .int .i64 0, .int .i64 0, .int .i64 0, .int .i64 0, .int .i64 0, .int .i64 0, .int .i64 0, .int .i64 0, .int .i64 0, .int .i64 0, .int .i64 0, .int .i64 0, .int .i64 0, .int .i64 0, .int .i64 0, .int .i64 0, .int .i64 0, .int .i64 0, .int .i64 0, .int .i64 0, .int .i64 0, .int .i64 0, .int .i64 0, .int .i64 0, .int .i64 0, .int .i64 0, .int .i64 0] 23) = w2 := ⟨_, rfl⟩
  have hr2 : w2.rowIs w.heap.size 23 64 (fun k => .int .i64 (l.getD k 0)) := by rw [← hw2]; exact row_of_heap (heap_new0 _ _ _) HL.out
  have hz2 : ∃ old : Array Value, w2.heap[w.heap.size + 1]? = some (.cells old 23 (0, 0)) ∧ old.size = 64 := by rw [← hw2]; exact ⟨_, heap_new1 _ _ _, rfl⟩
  have hb2 : Below w.heap.size w w2 := by rw [← hw2]; exact ((Below.refl _ _).alloc (Nat.le_refl _) _).alloc (by simp) _
  have hs2 : w2.heap.size = w.heap.size + 1 + 1 := by rw [← hw2]; simp
  rw [hw2]
  clear hw2
  refine (OF.out _).mono ?_; rintro e w3 ⟨rfl, hb3⟩
  have R3 := Lib.hid (hr2.of_block (hb3.block w.heap.size (by omega)))
  have Z3 : Hid (∃ old : Array Value, w3.heap[w.heap.size + 1]? = some (.cells old 23 (0, 0)) ∧ old.size = 64) := Lib.hid (by rw [hb3.block (w.heap.size + 1) (by omega)]; exact hz2)
  have B3 := Lib.hid (hb2.trans (hb3.mono hb2.size))
  have S3 : Hid (w.heap.size + 1 < w3.heap.size) := Lib.hid (by have := hb3.size; omega)
  clear hr2 hz2 hb2 hs2 hb3
  go_wp2_with fail
  obtain ⟨w4, hw4⟩ : ∃ w4, w3.alloc (.cells #[.bool true, .bool f, .bool o] 64) = w4 := ⟨_, rfl⟩
  rw [hw4]
  have hb4 : Below w3.heap.size w3 w4 := by rw [← hw4]; exact (Below.refl _ _).alloc (Nat.le_refl _) _
  have hx4 : w4.heap[w3.heap.size]? = some (.cells #[.bool true, .bool f, .bool o] 64 (0, 0)) := by rw [← hw4]; exact heap_alloc_new _ _
  have ST4 : Hid (BlkSt w w3.heap.size f o w4) := Lib.hid ⟨by rw [hb4.block _ S3.out]; exact Z3.out, ⟨by rw [cell_of_row w4 _ 1 _ _ (0, 0) hx4]; rfl, by rw [cell_of_row w4 _ 2 _ _ (0, 0) hx4]; rfl⟩, B3.out.trans (hb4.mono B3.out.size), S3.out⟩
  have R4 := Lib.hid (R3.out.of_block (hb4.block w.heap.size (by have := S3.out; omega)))
  have HI64 := Lib.hid info64
  have HI64' : Hid (∀ m : List Int, m.length = 64 → (Try.prog.info? 23).map (·.size) = some (vIs m).length) := Lib.hid (fun m hm => by have h := HI64.out m hm; simpa using h)
  have H164 : Hid (∀ m : List Int, (vIs m).toArray.all (·.oneCell') = true) := Lib.hid (fun m => all_oneCell_toArray (fun v hv => vIs_one m v hv))
  obtain ⟨gw, hgw⟩ : ∃ gw, w3.heap.size = gw := ⟨_, rfl⟩
  rw [hgw] at ST4
  rw [hgw]
  clear hw4 hb4 hx4 R3 Z3 B3 S3 hgw OF
  refine (crossed_any _ l _ (row_ns R4.out HL.out) HL.out).mono ?_; rintro e w5 ⟨gc, rfl, _, hrc, hb5⟩
  have ST5 := Lib.hid (ST4.out.below hb5)
  have R5 := Lib.hid (R4.out.of_block (hb5.block w.heap.size R4.out.lt))
  have RC := Lib.hid (row_range hrc (crossL_len l))
  obtain ⟨old, hold, hosz⟩ := row_heap R5.out
  have HO5 := Lib.hid hold
  have HS5 := Lib.hid hosz
  have CL := Lib.hid (crossL_len l)
  obtain ⟨X, hX⟩ : ∃ X, crossL l = X := ⟨_, rfl⟩
  rw [hX] at RC CL
  have HX := Lib.hid hX
  clear hrc hb5 hold hosz hX
  have aa := arrayAt_64 gc w5
  go_wp2_with (first | refine wpList_load_mid rfl _ _ rfl gc 0 rfl (vIs X) _ RC.out Try.underlying23 rfl (HI64'.out X CL.out) ?_ | (refine wpList_store_row rfl _ _ _ rfl w.heap.size (vIs X).toArray rfl rfl 23 _ HO5.out (HI64.out X CL.out) (by rw [HS5.out]; simp [vIs, CL.out]) (H164.out X) ?_; refine stop ?_))
  refine unstop ?_
  obtain ⟨w6, hw6⟩ : ∃ w6, w5.setRow w.heap.size (vIs X).toArray = w6 := ⟨_, rfl⟩
  rw [hw6]
  have ST6 : Hid (BlkSt w gw f o w6) := Lib.hid (by rw [← hw6]; exact ST5.out.setRow _)
  have R6 : Hid (w6.rowIs w.heap.size 23 64 (fun k => .int .i64 ((crossL l).getD k 0))) := Lib.hid (by rw [← hw6, HX.out]; exact row_of_heap (setRow_heap _ _ _ _ _ _ HO5.out) CL.out)
  clear aa hw6 HO5 HS5 RC R5 ST5 ST4 R4 HX CL
  go_wp2_with fail
  go_loopw [15] (fun i w' => ∃ k : Nat, k ≤ 64 ∧ i = .int .i64 k ∧ w'.rowIs w.heap.size 23 64 (sgF f o (crossL l) k) ∧ BlkSt w gw f o w') (fun i _ => 64 - (intOf i).toNat)
  case atStart => exact ⟨0, Nat.zero_le _, rfl, sgF_start f o (crossL l) R6.out, ST6.out⟩
  case round =>
    obtain ⟨k, hk, rfl, hrow, hst⟩ := hrel
    have HR := Lib.hid hrow
    have HS := Lib.hid hst
    clear hrow hst
    by_cases hk6 : k < 64
    · have f1' : decide ((k : Int) < 64) = true := by rw [decide_eq_true_eq]; omega
      have f1 : decide (k < 64) = true := by rw [decide_eq_true_eq]; exact hk6
      obtain ⟨p1, p2⟩ := HS.out.way
      have c1 : wr.cell? ⟨w.heap.size, k, none⟩ = some (.int .i64 ((crossL l).getD k 0)) := by
        rw [HR.out.cell hk6]; unfold sgF; rw [if_neg (Nat.lt_irrefl _)]
      have c2 := HR.out.frozen k
      have SG : Hid (∀ x, sgn f o k x = sg2 f o (k % 2) (k / 8 % 2) x) := Lib.hid (fun _ => rfl)
      have N0 : Hid ((crossL l).getD k 0 = sgn f o k ((crossL l).getD k 0) → wr.rowIs w.heap.size 23 64 (sgF f o (crossL l) (k + 1)) ∧ BlkSt w gw f o wr) := Lib.hid (fun h => ⟨sgF_same f o (crossL l) k HR.out h, HS.out⟩)
      have N1 : Hid (∀ v, v = sgn f o k ((crossL l).getD k 0) → (wr.setCell ⟨w.heap.size, k, none⟩ (.int .i64 v)).rowIs w.heap.size 23 64 (sgF f o (crossL l) (k + 1)) ∧ BlkSt w gw f o (wr.setCell ⟨w.heap.size, k, none⟩ (.int .i64 v))) := Lib.hid (fun v h => ⟨sgF_step f o (crossL l) k HR.out _ (by rw [h]), HS.out.set k _⟩)
      have N2 : Hid (∀ u v, v = sgn f o k ((crossL l).getD k 0) → ((wr.setCell ⟨w.heap.size, k, none⟩ (.int .i64 u)).setCell ⟨w.heap.size, k, none⟩ (.int .i64 v)).rowIs w.heap.size 23 64 (sgF f o (crossL l) (k + 1)) ∧ BlkSt w gw f o ((wr.setCell ⟨w.heap.size, k, none⟩ (.int .i64 u)).setCell ⟨w.heap.size, k, none⟩ (.int .i64 v))) := Lib.hid (fun u v h => ⟨set_two HR.out _ _ (sgF_step f o (crossL l) k HR.out _ (by rw [h])), (HS.out.set k _).set k _⟩)
      have p2s : Hid (∀ v : Value, (wr.setCell ⟨w.heap.size, k, none⟩ v).cell? ⟨gw, 2, none⟩ = some (.bool o)) := Lib.hid (fun v => (HS.out.set k v).way.2)
      have hne := HS.out.ne
      have ne1 : ¬ (w.heap.size = gw) := by omega
      have ne2 : ¬ (gw = w.heap.size) := by omega
      clear hne
      obtain ⟨x, hx⟩ : ∃ x, (crossL l).getD k 0 = x := ⟨_, rfl⟩
      rw [hx] at c1 N0 N1 N2
      clear hx
      obtain ⟨a2, ha2, ha2'⟩ : ∃ a2 : Nat, k % 2 = a2 ∧ (a2 = 0 ∨ a2 = 1) := ⟨_, rfl, by omega⟩
      obtain ⟨q8, hq8, hq8'⟩ : ∃ q8 : Nat, k / 8 = q8 ∧ q8 < 8 := ⟨_, rfl, by omega⟩
      obtain ⟨b2, hb2, hb2'⟩ : ∃ b2 : Nat, q8 % 2 = b2 ∧ (b2 = 0 ∨ b2 = 1) := ⟨_, rfl, by omega⟩
      have t2 : (k : Int) % 2 = (a2 : Int) := by omega
      have t8 : (k : Int) / 8 = (q8 : Int) := by omega
      have t9 : (q8 : Int) % 2 = (b2 : Int) := by omega
      have w3a : wrap64 (q8 : Int) = (q8 : Int) ∧ IntKind.i64.wrap (q8 : Int) = (q8 : Int) := ⟨IntWalk.wrap64_in _ (by omega), IntWalk.i64_in _ (by omega)⟩
      obtain ⟨w3b, w3c⟩ := w3a
      have SG2 : Hid (∀ x, sgn f o k x = sg2 f o a2 b2 x) := Lib.hid (fun x => by rw [SG.out, ha2, hq8, hb2])
      clear SG ha2 hq8 hb2 hq8'
      rcases f with _ | _ <;> rcases o with _ | _ <;> rcases ha2' with rfl | rfl <;> rcases hb2' with rfl | rfl
      · skip
        go_wp2_with fail
        go_roundw
        case rel => obtain ⟨r1, r2⟩ := N0.out (by rw [SG2.out] <;> simp [sg2]); exact ⟨k + 1, by omega, by go_num, r1, r2⟩
        case measure => simp [intOf]; omega
      · skip
        go_wp2_with fail
        go_roundw
        case rel => obtain ⟨r1, r2⟩ := N0.out (by rw [SG2.out] <;> simp [sg2]); exact ⟨k + 1, by omega, by go_num, r1, r2⟩
        case measure => simp [intOf]; omega
      · skip
        go_wp2_with fail
        go_roundw
        case rel => obtain ⟨r1, r2⟩ := N0.out (by rw [SG2.out] <;> simp [sg2]); exact ⟨k + 1, by omega, by go_num, r1, r2⟩
        case measure => simp [intOf]; omega
      · skip
        go_wp2_with fail
        go_roundw
        case rel => obtain ⟨r1, r2⟩ := N0.out (by rw [SG2.out] <;> simp [sg2]); exact ⟨k + 1, by omega, by go_num, r1, r2⟩
        case measure => simp [intOf]; omega
      · skip
        go_wp2_with fail
        go_roundw
        case rel => obtain ⟨r1, r2⟩ := N0.out (by rw [SG2.out] <;> simp [sg2]); exact ⟨k + 1, by omega, by go_num, r1, r2⟩
        case measure => simp [intOf]; omega
      · skip
        go_wp2_with fail
        go_roundw
        case rel => obtain ⟨r1, r2⟩ := N1.out _ (by rw [SG2.out] <;> simp [sg2]); exact ⟨k + 1, by omega, by go_num, r1, r2⟩
        case measure => simp [intOf]; omega
      · skip
        go_wp2_with fail
        go_roundw
        case rel => obtain ⟨r1, r2⟩ := N0.out (by rw [SG2.out] <;> simp [sg2]); exact ⟨k + 1, by omega, by go_num, r1, r2⟩
        case measure => simp [intOf]; omega
      · skip
        go_wp2_with fail
        go_roundw
        case rel => obtain ⟨r1, r2⟩ := N1.out _ (by rw [SG2.out] <;> simp [sg2]); exact ⟨k + 1, by omega, by go_num, r1, r2⟩
        case measure => simp [intOf]; omega
      · skip
        go_wp2_with fail
        go_roundw
        case rel => obtain ⟨r1, r2⟩ := N0.out (by rw [SG2.out] <;> simp [sg2]); exact ⟨k + 1, by omega, by go_num, r1, r2⟩
        case measure => simp [intOf]; omega
      · skip
        go_wp2_with fail
        go_roundw
        case rel => obtain ⟨r1, r2⟩ := N0.out (by rw [SG2.out] <;> simp [sg2]); exact ⟨k + 1, by omega, by go_num, r1, r2⟩
        case measure => simp [intOf]; omega
      · skip
        have p2t := p2s.out (.int .i64 (wrap64 (-x)))
        go_wp2_with fail
        go_roundw
        case rel => obtain ⟨r1, r2⟩ := N1.out _ (by rw [SG2.out] <;> simp [sg2]); exact ⟨k + 1, by omega, by go_num, r1, r2⟩
        case measure => simp [intOf]; omega
      · skip
        have p2t := p2s.out (.int .i64 (wrap64 (-x)))
        go_wp2_with fail
        go_roundw
        case rel => obtain ⟨r1, r2⟩ := N1.out _ (by rw [SG2.out] <;> simp [sg2]); exact ⟨k + 1, by omega, by go_num, r1, r2⟩
        case measure => simp [intOf]; omega
      · skip
        go_wp2_with fail
        go_roundw
        case rel => obtain ⟨r1, r2⟩ := N0.out (by rw [SG2.out] <;> simp [sg2]); exact ⟨k + 1, by omega, by go_num, r1, r2⟩
        case measure => simp [intOf]; omega
      · skip
        go_wp2_with fail
        go_roundw
        case rel => obtain ⟨r1, r2⟩ := N1.out _ (by rw [SG2.out] <;> simp [sg2]); exact ⟨k + 1, by omega, by go_num, r1, r2⟩
        case measure => simp [intOf]; omega
      · skip
        have p2t := p2s.out (.int .i64 (wrap64 (-x)))
        go_wp2_with fail
        go_roundw
        case rel => obtain ⟨r1, r2⟩ := N1.out _ (by rw [SG2.out] <;> simp [sg2]); exact ⟨k + 1, by omega, by go_num, r1, r2⟩
        case measure => simp [intOf]; omega
      · skip
        have p2t := p2s.out (.int .i64 (wrap64 (-x)))
        go_wp2_with fail
        go_roundw
        case rel => obtain ⟨r1, r2⟩ := N2.out _ _ (by rw [SG2.out] <;> simp [sg2]); exact ⟨k + 1, by omega, by go_num, r1, r2⟩
        case measure => simp [intOf]; omega
    · obtain rfl : k = 64 := by omega
      have RE := Lib.hid (row_range (sgF_end f o (crossL l) HR.out) (signL_len f o (crossL l)))
      obtain ⟨old, hold, hosz⟩ := HS.out.zero
      have HO := Lib.hid hold
      have HOS := Lib.hid hosz
      have HSL := Lib.hid (signL_len f o (crossL l))
      obtain ⟨M, hM⟩ : ∃ M, signL f o (crossL l) = M := ⟨_, rfl⟩
      rw [hM] at RE HSL
      have HM := Lib.hid hM
      clear hM hold hosz
      go_wp2_with (refine wpList_load_mid rfl _ _ rfl w.heap.size 0 rfl (vIs M) _ RE.out Try.underlying23 rfl (HI64'.out M HSL.out) ?_; refine stop ?_)
      refine unstop ?_
      go_wp2_with (refine wpList_store_row rfl _ _ _ rfl (w.heap.size + 1) (vIs M).toArray rfl rfl 23 _ HO.out (HI64.out M HSL.out) (by rw [HOS.out]; simp [vIs, HSL.out]) (H164.out M) ?_)
      refine bodyPost_ret (v := arr M) (results_cell_row rfl _ _ (w.heap.size + 1) 23 (vIs M).toArray (0, 0) _ rfl ?_ Try.underlying23 rfl (HI64.out M HSL.out)) rfl ⟨by rw [HM.out]; rfl, ?_⟩
      · exact setRow_heap _ _ _ _ _ _ HO.out
      · exact below_setRow HS.out.bel (Nat.le_succ _) _

end Go.Proofs.Ytnhalnjdlkdnkaa
