/- The walk of chunk.reader's chunk. By an AI agent. -/
import Derived.Test.YtmdbnnnaiidheaaChunkR
import Derived.Test.YtmdbnnnaiidheaaWalkC
import Derived.Handy
import Derived.Deep.Onto
namespace Go.Proofs.Ytmdbnnnaiidheaa
open Go.RowKit Go.BigFrame
set_option linter.unusedVariables false
set_option linter.unusedSimpArgs false

/-- what a step leaves -/
def StepPost (w0 w : World) (R : Nat) : Nat ⊕ (Chk × List UInt8) → Ending → World → Prop
  | .inl n, e, w' => e = .returned (.tuple #[.agg #[.string ⟨#[]⟩, .slice none 0 0], errV n]) ∧ Below w0.heap.size w0 w'
  | .inr (c, r), e, w' => (∃ v, e = .returned (.tuple #[.agg #[.string (strOf c.1), v], .nilIface]) ∧ w'.ownsRow w.heap.size 5 1 v c.2.length (vBs c.2)) ∧ Rd w0 w' R r ∧ w.grownBy w' (some R)
/-- the result's own box -/
structure ResB (w : World) (B : Nat) (w' : World) : Prop where
  c0 : ∃ u, w'.cell? ⟨B, 0, none⟩ = some u
  c1 : ∃ u, w'.cell? ⟨B, 1, none⟩ = some u
theorem resB_of {w : World} {B : Nat} {u v : Value} (h : w.heap[B]? = some (.cells #[u, v] 39 (0, 0))) : w.cell? ⟨B, 0, none⟩ = some u ∧ w.cell? ⟨B, 1, none⟩ = some v ∧ w.frozen? ⟨B, 0, none⟩ = false ∧ w.frozen? ⟨B, 1, none⟩ = false :=
  ⟨by rw [cell_of_row w B 0 _ _ (0, 0) h]; rfl, by rw [cell_of_row w B 1 _ _ (0, 0) h]; rfl, by simp [World.frozen?, h], by simp [World.frozen?, h]⟩

theorem named_str (v : Value) (nm : List UInt8) (w : World) (hb : Bs w v nm) : (convert 22 9 v).run Try.prog w = .ok (.string (strOf nm)) w :=
  run_str (P := Try.prog) w 22 5 9 Try.underlying22 Try.underlying5 Try.underlying9 hb
theorem owns_below {w w' : World} {base : Nat} {e : TypeId} {size : Nat} {v : Value} {n : Nat} {xs : List Value} (h : w.ownsRow base e size v n xs) (hb : Below w.heap.size w w') : w'.ownsRow base e size v n xs := by
  refine h.kept (row := none) ⟨hb.os, hb.tape, hb.output, hb.size, fun b hl _ => hb.block b hl⟩ ?_
  cases hv : v.ownBlock with
  | none => exact .inl rfl
  | some k => exact .inr (by simp)
theorem owns_len {w : World} {base : Nat} {e : TypeId} {size : Nat} {v : Value} {n : Nat} {xs : List Value} (h : w.ownsRow base e size v n xs) : ∃ a c, v = .slice a n c := by
  rcases h.2 with ⟨rfl, rfl⟩ | ⟨g, cap, cur, rfl, _⟩
  · exact ⟨_, _, rfl⟩
  · exact ⟨_, _, rfl⟩
theorem heap_low {w w' : World} {B : Nat} {o : Obj} (h : w.heap[B]? = some o) (hb : Below w.heap.size w w') : w'.heap[B]? = some o := by
  rw [hb.block B (Array.getElem?_eq_some_iff.1 h).1]; exact h
theorem grown_heap {w w' : World} {R B : Nat} {o : Obj} (hg : w.grownBy w' (some R)) (h : w.heap[B]? = some o) (hne : B ≠ R) : w'.heap[B]? = some o := by
  rw [hg.block B (Array.getElem?_eq_some_iff.1 h).1 (fun e => hne (Option.some.inj e))]; exact h
theorem rd_below {w0 w w' : World} {R : Nat} (h : Below w0.heap.size w0 w) (hg : w.grownBy w' (some R)) (hR : w0.heap.size ≤ R) : Below w0.heap.size w0 w' :=
  h.grown hg h.size fun k hk => by simp only [Option.some.injEq] at hk; omega
theorem grown_trans {w w' w'' : World} {R : Nat} (h : w.grownBy w' (some R)) (k : w'.grownBy w'' (some R)) : w.grownBy w'' (some R) :=
  ⟨k.os.trans h.os, k.tape.trans h.tape, k.output.trans h.output, Nat.le_trans h.size k.size, fun b hb hne => (k.block b (Nat.lt_of_lt_of_le hb h.size) hne).trans (h.block b hb hne)⟩
theorem grown_below {w w' w'' : World} {R : Nat} (h : w.grownBy w' (some R)) (k : Below w'.heap.size w' w'') : w.grownBy w'' (some R) :=
  ⟨k.os.trans h.os, k.tape.trans h.tape, k.output.trans h.output, Nat.le_trans h.size k.size, fun b hb hne => (k.block b (Nat.lt_of_lt_of_le hb h.size)).trans (h.block b hb hne)⟩
theorem bss_two {w : World} {g : Nat} {v u : Value} {t : TypeId} {fr : Nat × Nat} {l m : List UInt8} (h : w.heap[g]? = some (.cells #[v, u] t fr)) (hb : Bs w v l) (hc : Bs w u m) : Bss w (.slice (some ⟨g, 0, none⟩) 2 2) [l, m] :=
  bss_heap [l, m] h rfl (Nat.le_refl _) rfl fun i hi => by
    match i, hi with
    | 0, _ => exact ⟨v, rfl, hb⟩
    | 1, _ => exact ⟨u, rfl, hc⟩
theorem alloc_grown (w : World) (o : Obj) (R : Nat) : w.grownBy (w.alloc o) (some R) :=
  ⟨rfl, rfl, rfl, by simp, fun b hb _ => ((Below.refl _ w).alloc (Nat.le_refl _) o).block b hb⟩
theorem Rd.other {w0 w : World} {R B i : Nat} {l : List UInt8} {v : Value} (h : Rd w0 w R l) (hne : R ≠ B) (hB : w0.heap.size ≤ B) : Rd w0 (w.setCell ⟨B, i, none⟩ v) R l := by
  obtain ⟨u, hh, hv⟩ := h.cell
  exact ⟨h.below.setCell (p := ⟨B, i, none⟩) hB _, h.own, u, by rw [Go.Deep.blk_setCell_other _ _ _ _ hne]; exact hh, hv⟩
theorem grown_new {w w' : World} {R B i : Nat} {v : Value} (h : w.grownBy w' (some R)) (hB : w.heap.size ≤ B) : w.grownBy (w'.setCell ⟨B, i, none⟩ v) (some R) :=
  ⟨h.os, h.tape, h.output, by simpa using h.size, fun k hk hne => by
    rw [Go.Deep.blk_setCell_other _ _ _ _ (by simp only; omega)]; exact h.block k hk hne⟩
/-- an error's end -/
theorem step_end {w0 w : World} {R : Nat} {n : Nat} {w' : World} (h : Below w0.heap.size w0 w') : StepPost w0 w R (.inl n) (.returned (.tuple #[.agg #[.string ⟨#[]⟩, .slice none 0 0], errV n])) w' := ⟨rfl, h⟩
theorem step_end8 {w0 w : World} {R : Nat} {w' : World} (h : Below w0.heap.size w0 w') : StepPost w0 w R (.inl 8) (.returned (.tuple #[.agg #[.string ⟨#[]⟩, .slice none 0 0], .iface 43 (.int .i64 8)])) w' := step_end h
theorem step_end2 {w0 w : World} {R : Nat} {w' : World} (h : Below w0.heap.size w0 w') : StepPost w0 w R (.inl 2) (.returned (.tuple #[.agg #[.string ⟨#[]⟩, .slice none 0 0], .iface 43 (.int .i64 2)])) w' := step_end h
theorem below_two {n : Nat} {w w' : World} {B : Nat} (h : Below n w w') (hB : n ≤ B) (u v : Value) : Below n w ((w'.setCell ⟨B, 0, none⟩ u).setCell ⟨B, 1, none⟩ v) := (h.setCell (p := ⟨B, 0, none⟩) hB _).setCell (p := ⟨B, 1, none⟩) hB _

set_option maxHeartbeats 4000000 in
theorem chunk_any (w0 w : World) (R : Nat) (l : List UInt8) (h : Rd w0 w R l) (hl : l.length ≤ 140737488351232) :
    Calls Try.prog 25 #[.pointer (some ⟨R, 0, none⟩)] w (StepPost w0 w R (stepC l)) := by
  have hR : R < w.heap.size := h.ex.elim fun _ h => h.elim fun _ h => h.2.2.2
  have HL := Lib.hid hl
  obtain ⟨w1, hw1⟩ : ∃ w1, w.alloc (.cells #[.string ⟨#[]⟩, .slice none 0 0] 39) = w1 := ⟨_, rfl⟩
  have rd1 : Rd w0 w1 R l := by rw [← hw1]; exact h.old ((Below.refl _ _).alloc (Nat.le_refl _) _)
  have g1 : w.grownBy w1 (some R) := by rw [← hw1]; exact alloc_grown _ _ _
  have hb1 : w1.heap[w.heap.size]? = some (.cells #[.string ⟨#[]⟩, .slice none 0 0] 39 (0, 0)) := by rw [← hw1]; exact heap_alloc_new _ _
  have RD1 := Lib.hid rd1
  have G1 := Lib.hid g1
  have HB1 := Lib.hid hb1
  have HR := Lib.hid hR
  have W0 : Hid (w0.heap.size ≤ w.heap.size) := Lib.hid h.below.size
  have RO : Hid (w0.heap.size ≤ R) := Lib.hid h.own
  obtain ⟨B, hB⟩ : ∃ B, w.heap.size = B := ⟨_, rfl⟩
  have HBB := Lib.hid hB
  rw [hB] at HB1
  clear h hl rd1 g1 hb1
  by_cases c1 : l.length < 4
  · have ST : Hid (stepC l = .inl 8) := Lib.hid (by unfold stepC; rw [if_pos c1])
    have C1 := Lib.hid c1
    clear c1
    go_enter Try.func25, Try.ntmps25
    go_wp2_with fail
    refine (word_short w0 _ R l RD1.out HL.out C1.out).mono ?_; rintro e w2 ⟨rfl, hb2⟩
    rw [errV_some (n := 8) (by decide)]
    have B2 := Lib.hid (RD1.out.below.trans (hb2.mono RD1.out.below.size))
    obtain ⟨r0, r1, r2, r3⟩ := resB_of (heap_low HB1.out hb2)
    clear hb2 hw1 hB
    go_wp2_with fail
    refine bodyPost_ret (v := .tuple #[.agg #[.string ⟨#[]⟩, .slice none 0 0], .iface 43 (.int .i64 8)]) ?_ rfl (by rw [ST.out]; exact step_end8 (w := w) (R := R) (below_two B2.out (by have := W0.out; have := HBB.out; omega) _ _))
    simp [results, Try.results25, go_sem, r0, r1, r2, r3]
  · have W1 := Lib.hid (word_good w0 w1 R l RD1.out HL.out (by omega))
    obtain ⟨n, hn⟩ : ∃ n, numL (l.take 4) = n := ⟨_, rfl⟩
    rw [hn] at W1
    have CN := Lib.hid hn
    have C1 := Lib.hid c1
    have L4 : Hid ((l.drop 4).length ≤ 140737488351232) := Lib.hid (by have := HL.out; rw [List.length_drop]; omega)
    clear c1 hn
    go_enter Try.func25, Try.ntmps25
    go_wp2_with fail
    refine W1.out.mono ?_; rintro e w2 ⟨rfl, rd2, g2⟩
    have RD2 := Lib.hid rd2
    have G2 := Lib.hid (grown_trans G1.out g2)
    have HB2 := Lib.hid (grown_heap g2 HB1.out (by have := HBB.out; have := HR.out; omega))
    have S2 : Hid (B < w2.heap.size) := Lib.hid (Array.getElem?_eq_some_iff.1 HB2.out).1
    have B2 := Lib.hid rd2.below
    clear rd2 g2 W1 hw1 hB
    by_cases c2 : 2147483647 < n
    · have ST : Hid (stepC l = .inl 2) := Lib.hid (by unfold stepC; rw [if_neg C1.out, CN.out, if_pos c2])
      have d2 : decide ((2147483647 : Int) < (n : Int)) = true := by rw [decide_eq_true_eq]; omega
      obtain ⟨r0, r1, r2, r3⟩ := resB_of HB2.out
      clear c2
      go_wp2_with fail
      refine bodyPost_ret (v := .tuple #[.agg #[.string ⟨#[]⟩, .slice none 0 0], .iface 43 (.int .i64 2)]) ?_ rfl (by rw [ST.out]; exact step_end2 (w := w) (R := R) (below_two B2.out (by have := W0.out; have := HBB.out; omega) _ _))
      simp [results, Try.results25, go_sem, r0, r1, r2, r3]
    have d2 : decide ((2147483647 : Int) < (n : Int)) = false := by rw [decide_eq_false_iff_not]; omega
    have C2 := Lib.hid c2
    clear c2
    go_wp2_with fail
    by_cases c3 : l.length < 8
    · have ST : Hid (stepC l = .inl 8) := Lib.hid (by unfold stepC; rw [if_neg C1.out, CN.out, if_neg C2.out, if_pos c3])
      have C3 : Hid ((l.drop 4).length < 4) := Lib.hid (by have := C1.out; rw [List.length_drop]; omega)
      clear c3
      refine (bytes_short w0 _ R (l.drop 4) 4 RD2.out L4.out C3.out).mono ?_; rintro e w3 ⟨rfl, hb3⟩
      rw [errV_some (n := 8) (by decide)]
      have B3 := Lib.hid (B2.out.trans (hb3.mono B2.out.size))
      obtain ⟨r0, r1, r2, r3⟩ := resB_of (heap_low HB2.out hb3)
      clear hb3 d2
      go_wp2_with fail
      refine bodyPost_ret (v := .tuple #[.agg #[.string ⟨#[]⟩, .slice none 0 0], .iface 43 (.int .i64 8)]) ?_ rfl (by rw [ST.out]; exact step_end8 (w := w) (R := R) (below_two B3.out (by have := W0.out; have := HBB.out; omega) _ _))
      simp [results, Try.results25, go_sem, r0, r1, r2, r3]
    have C3 := Lib.hid c3
    refine (bytes_good w0 _ R (l.drop 4) 4 RD2.out L4.out (by rw [List.length_drop]; omega)).mono ?_; rintro e w3 ⟨v3, rfl, o3, rd3, g3⟩
    obtain ⟨a3, k3, rfl⟩ := owns_len o3
    obtain ⟨v3, hv3⟩ : ∃ v3, Value.slice a3 4 k3 = v3 := ⟨_, rfl⟩
    rw [hv3] at o3 ⊢
    have HV3 := Lib.hid hv3
    clear hv3
    obtain ⟨nm, hnm⟩ : ∃ nm, (l.drop 4).take 4 = nm := ⟨_, rfl⟩
    rw [hnm] at o3
    have ln : nm.length = 4 := by rw [← hnm, List.length_take, List.length_drop]; omega
    have BS3 : Hid (Bs w3 v3 nm) := Lib.hid (by have := sl_of_owns o3; unfold Bs; rw [ln]; exact this)
    have LN := Lib.hid ln
    rw [List.drop_drop] at rd3
    have RD3 : Hid (Rd w0 w3 R (l.drop 8)) := Lib.hid rd3
    have NM := Lib.hid hnm
    have G3 := Lib.hid (grown_trans G2.out g3)
    have HB3 := Lib.hid (grown_heap g3 HB2.out (by have := HBB.out; have := HR.out; omega))
    have O3 := Lib.hid o3
    have B3 := Lib.hid rd3.below
    have S3 : Hid (B < w3.heap.size) := Lib.hid (Array.getElem?_eq_some_iff.1 HB3.out).1
    have cv := named_str v3 nm w3 BS3.out
    clear c3 hnm ln rd3 o3 g3 d2
    go_wp2_with fail
    refine (named_any nm _ (by have := LN.out; omega)).mono ?_; rintro e w4 ⟨rfl, hb4⟩
    have BS4 := Lib.hid (BS3.out.old hb4)
    have RD4 := Lib.hid (RD3.out.old hb4)
    have G4 := Lib.hid (grown_below G3.out hb4)
    have HB4 := Lib.hid (heap_low HB3.out hb4)
    have B4 := Lib.hid (B3.out.trans (hb4.mono B3.out.size))
    have N34 := Lib.hid hb4
    clear hb4 cv
    rcases hN : namedB nm with _ | _
    · have ST : Hid (stepC l = .inl 2) := Lib.hid (by unfold stepC; rw [if_neg C1.out, CN.out, if_neg C2.out, if_neg C3.out, NM.out, hN]; rfl)
      obtain ⟨r0, r1, r2, r3⟩ := resB_of HB4.out
      clear hN
      go_wp2_with fail
      refine bodyPost_ret (v := .tuple #[.agg #[.string ⟨#[]⟩, .slice none 0 0], .iface 43 (.int .i64 2)]) ?_ rfl (by rw [ST.out]; exact step_end2 (w := w) (R := R) (below_two B4.out (by have := W0.out; have := HBB.out; omega) _ _))
      simp [results, Try.results25, go_sem, r0, r1, r2, r3]
    have C4 : Hid (¬ (!namedB nm) = true) := Lib.hid (by rw [hN]; simp)
    clear hN
    go_wp2_with fail
    have L8 : Hid ((l.drop 8).length ≤ 140737488351232) := Lib.hid (by have := HL.out; rw [List.length_drop]; omega)
    by_cases c5 : l.length < 8 + n
    · have ST : Hid (stepC l = .inl 8) := Lib.hid (by unfold stepC; rw [if_neg C1.out, CN.out, if_neg C2.out, if_neg C3.out, NM.out, if_neg C4.out, if_pos c5])
      have C5 : Hid ((l.drop 8).length < n) := Lib.hid (by have := C3.out; rw [List.length_drop]; omega)
      clear c5
      refine (bytes_short w0 _ R (l.drop 8) n RD4.out L8.out C5.out).mono ?_; rintro e w5 ⟨rfl, hb5⟩
      rw [errV_some (n := 8) (by decide)]
      have B5 := Lib.hid (B4.out.trans (hb5.mono B4.out.size))
      obtain ⟨r0, r1, r2, r3⟩ := resB_of (heap_low HB4.out hb5)
      clear hb5
      go_wp2_with fail
      refine bodyPost_ret (v := .tuple #[.agg #[.string ⟨#[]⟩, .slice none 0 0], .iface 43 (.int .i64 8)]) ?_ rfl (by rw [ST.out]; exact step_end8 (w := w) (R := R) (below_two B5.out (by have := W0.out; have := HBB.out; omega) _ _))
      simp [results, Try.results25, go_sem, r0, r1, r2, r3]
    have C5 := Lib.hid c5
    refine (bytes_good w0 _ R (l.drop 8) n RD4.out L8.out (by have := C3.out; rw [List.length_drop]; omega)).mono ?_; rintro e w5 ⟨v5, rfl, o5, rd5, g5⟩
    obtain ⟨a5, k5, rfl⟩ := owns_len o5
    obtain ⟨v5, hv5⟩ : ∃ v5, Value.slice a5 n k5 = v5 := ⟨_, rfl⟩
    rw [hv5] at o5 ⊢
    have HV5 := Lib.hid hv5
    clear hv5
    obtain ⟨dt, hdt⟩ : ∃ dt, (l.drop 8).take n = dt := ⟨_, rfl⟩
    rw [hdt] at o5
    have ld : dt.length = n := by rw [← hdt, List.length_take, List.length_drop]; omega
    rw [List.drop_drop] at rd5
    have N45 := Lib.hid g5
    have BS5 : Hid (Bs w5 v5 dt) := Lib.hid (by have := sl_of_owns o5; unfold Bs; rw [ld]; exact this)
    have hwR : R < w2.heap.size := by have := S2.out; have := HBB.out; have := HR.out; omega
    have BN5 : Hid (Bs w5 v3 nm) := Lib.hid (by
      have h5 := owns_low (owns_below O3.out N34.out) g5 hwR
      have := sl_of_owns h5; unfold Bs; rw [LN.out]; exact this)
    have RD5 : Hid (Rd w0 w5 R (l.drop (8 + n))) := Lib.hid rd5
    have G5 := Lib.hid (grown_trans G4.out g5)
    have HB5 := Lib.hid (grown_heap g5 HB4.out (by have := HBB.out; have := HR.out; omega))
    have O5 := Lib.hid o5
    have B5 := Lib.hid rd5.below
    have DT := Lib.hid hdt
    have LD := Lib.hid ld
    have HWR := Lib.hid hwR
    have S5 : Hid (R < w4.heap.size) := Lib.hid (by have := G4.out.size; have := HR.out; omega)
    have L12 : Hid ((l.drop (8 + n)).length ≤ 140737488351232) := Lib.hid (by have := HL.out; rw [List.length_drop]; omega)
    clear c5 hdt ld rd5 o5 g5 hwR
    go_wp2_with fail
    by_cases c6 : l.length < 12 + n
    · have ST : Hid (stepC l = .inl 8) := Lib.hid (by unfold stepC; rw [if_neg C1.out, CN.out, if_neg C2.out, if_neg C3.out, NM.out, if_neg C4.out, if_neg C5.out, if_pos c6])
      have C6 : Hid ((l.drop (8 + n)).length < 4) := Lib.hid (by have := C5.out; rw [List.length_drop]; omega)
      clear c6
      refine (word_short w0 _ R (l.drop (8 + n)) RD5.out L12.out C6.out).mono ?_; rintro e w6 ⟨rfl, hb6⟩
      rw [errV_some (n := 8) (by decide)]
      have B6 := Lib.hid (B5.out.trans (hb6.mono B5.out.size))
      obtain ⟨r0, r1, r2, r3⟩ := resB_of (heap_low HB5.out hb6)
      clear hb6
      go_wp2_with fail
      refine bodyPost_ret (v := .tuple #[.agg #[.string ⟨#[]⟩, .slice none 0 0], .iface 43 (.int .i64 8)]) ?_ rfl (by rw [ST.out]; exact step_end8 (w := w) (R := R) (below_two B6.out (by have := W0.out; have := HBB.out; omega) _ _))
      simp [results, Try.results25, go_sem, r0, r1, r2, r3]
    have C6 := Lib.hid c6
    refine (word_good w0 _ R (l.drop (8 + n)) RD5.out L12.out (by have := C5.out; rw [List.length_drop]; omega)).mono ?_; rintro e w6 ⟨rfl, rd6, g6⟩
    obtain ⟨m, hm⟩ : ∃ m, numL ((l.drop (8 + n)).take 4) = m := ⟨_, rfl⟩
    rw [hm]
    have MM := Lib.hid hm
    rw [List.drop_drop, show 8 + n + 4 = 12 + n by omega] at rd6
    have RD6 : Hid (Rd w0 w6 R (l.drop (12 + n))) := Lib.hid rd6
    have G6 := Lib.hid (grown_trans G5.out g6)
    have HB6 := Lib.hid (grown_heap g6 HB5.out (by have := HBB.out; have := HR.out; omega))
    have B6 := Lib.hid rd6.below
    have BN6 : Hid (Bs w6 v3 nm) := Lib.hid (by
      have h6 := owns_low (owns_low (owns_below O3.out N34.out) N45.out HWR.out) g6 HWR.out
      have := sl_of_owns h6; unfold Bs; rw [LN.out]; exact this)
    have O6 := Lib.hid (owns_low O5.out g6 S5.out)
    have BD6 : Hid (Bs w6 v5 dt) := Lib.hid (by have := sl_of_owns O6.out; unfold Bs; rw [LD.out]; exact this)
    clear c6 hm rd6 g6
    obtain ⟨c, hc⟩ : ∃ c, crcN (nm ++ dt) = c := ⟨_, rfl⟩
    have CC : Hid (crc [nm, dt].flatten = (c : Int)) := Lib.hid (by rw [crc_nat, ← hc]; simp)
    have HC := Lib.hid hc
    rw [← HV3.out, ← HV5.out]
    rw [← HV3.out] at BN6
    rw [← HV5.out] at BD6
    clear hc
    go_wp2_with fail
    refine (crc_any _ [nm, dt] _ (bss_two (heap_alloc_new _ _) (BN6.out.old ((Below.refl _ _).alloc (Nat.le_refl _) _)) (BD6.out.old ((Below.refl _ _).alloc (Nat.le_refl _) _))) ?len (by simp)).mono ?_
    case len =>
      intro x hx
      simp only [List.mem_cons, List.not_mem_nil, or_false] at hx
      have h1 := LN.out
      have h2 := LD.out
      have h3 := C2.out
      rcases hx with rfl | rfl <;> omega
    rintro e w7 ⟨rfl, hw7⟩
    rw [CC.out]
    have N67 : Hid (Below w6.heap.size w6 w7) := Lib.hid (by rw [← hw7]; exact (Below.refl _ _).alloc (Nat.le_refl _) _)
    have HB7 := Lib.hid (heap_low HB6.out N67.out)
    have cv := named_str _ nm w7 (BN6.out.old N67.out)
    clear hw7
    obtain ⟨r0, r1, r2, r3⟩ := resB_of HB7.out
    have RD7 := Lib.hid (RD6.out.old N67.out)
    by_cases c7 : m = c
    · subst c7
      have ST : Hid (stepC l = .inr ((nm, dt), l.drop (12 + n))) := Lib.hid (by unfold stepC; rw [if_neg C1.out, CN.out, if_neg C2.out, if_neg C3.out, NM.out, if_neg C4.out, if_neg C5.out, if_neg C6.out, MM.out, DT.out, if_neg (by simp [HC.out])])
      have G7 := Lib.hid (grown_below G6.out N67.out)
      go_wp2_with fail
      refine bodyPost_ret (v := .tuple #[.agg #[.string (strOf nm), .slice a5 n k5], .nilIface]) ?_ rfl ?_
      · simp [results, Try.results25, go_sem, r0, r1, r2, r3]
      · rw [HV5.out]
        have z1 : w.heap.size ≤ w4.heap.size := G4.out.size
        have z2 : B < w4.heap.size := by have := HBB.out; have := S2.out; have h1 := S3.out; have h2 := N34.out.size; omega
        have z3 : w.heap.size = B := HBB.out
        have z4 := HR.out
        rw [ST.out]
        refine ⟨⟨v5, rfl, ?_⟩, ?_, ?_⟩
        · have o7 := owns_below O6.out N67.out
          have o8 := owns_low (owns_low o7 (grown_set (Below.refl _ _) B 0 (.string (strOf nm))) z2) (grown_set (Below.refl _ _) B 1 v5) z2
          have := World.ownsRow.mono o8 z1
          rw [LD.out]
          exact this
        · exact (RD7.out.other (by omega) (by have := W0.out; omega)).other (by omega) (by have := W0.out; omega)
        · exact grown_new (grown_new G7.out (by omega)) (by omega)
    · have ST : Hid (stepC l = .inl 2) := Lib.hid (by unfold stepC; rw [if_neg C1.out, CN.out, if_neg C2.out, if_neg C3.out, NM.out, if_neg C4.out, if_neg C5.out, if_neg C6.out, MM.out, DT.out, HC.out, if_pos c7])
      have c8 : ((m : Int) != (c : Int)) = true := by rw [bne_iff_ne]; omega
      have c9 : ((m : Int) == (c : Int)) = false := by rw [beq_eq_false_iff_ne]; omega
      clear c7
      go_wp2_with fail
      refine bodyPost_ret (v := .tuple #[.agg #[.string ⟨#[]⟩, .slice none 0 0], .iface 43 (.int .i64 2)]) ?_ rfl (by rw [ST.out]; exact step_end2 (w := w) (R := R) (below_two RD7.out.below (by have := W0.out; have := HBB.out; omega) _ _))
      simp [results, Try.results25, go_sem, r0, r1, r2, r3]
end Go.Proofs.Ytmdbnnnaiidheaa
