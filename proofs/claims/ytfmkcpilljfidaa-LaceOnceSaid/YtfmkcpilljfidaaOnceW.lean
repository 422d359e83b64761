/- LaceOnce: the law's walk. By an AI agent. -/
import Derived.Test.YtfmkcpilljfidaaPassG
import Derived.Test.YtfmkcpilljfidaaPassesL
import Derived.Test.YtfmkcpilljfidaaSpreadB
import Derived.Deep.OwnRows
import Derived.RegionTactic
import Derived.ChangeAlike
namespace Go.Proofs.Ytfmkcpilljfidaa
open Go.RowKit Go.Shelf Go.BigFrame
set_option linter.unusedVariables false
set_option linter.unusedSimpArgs false
attribute [local go_sem] Oper.semAt_some

theorem side60 (k : Int) : ∃ m : Nat, 1 ≤ m ∧ m ≤ 60 ∧ wrap64 (1 + wrap64 ((IntKind.u64.wrap k).tmod 60)) = (m : Int) := by
  have h0 : 0 ≤ IntKind.u64.wrap k := by simp [IntKind.wrap, IntKind.signed, IntKind.bits]; omega
  refine ⟨(1 + IntKind.u64.wrap k % 60).toNat, by omega, by omega, ?_⟩
  rw [Int.tmod_eq_emod_of_nonneg h0, IntWalk.wrap64_in (IntKind.u64.wrap k % 60) (by omega), IntWalk.wrap64_in _ (by omega)]
  omega
/-- a new row of noughts -/
theorem mkRow (n : Nat) (h : n ≤ 100000) : ∃ O : Obj, (∀ w, (Instr.makeSlice 27 (.int .i64 (n : Int)) (.int .i64 (n : Int))).run Try.prog w = .ok (.slice (some ⟨w.heap.size, 0, none⟩) n n) (w.alloc O)) ∧ ∀ w : World, (w.alloc O).rowIs w.heap.size 3 n (fun _ => .int .i64 0) :=
  ⟨.cells (madeCells #[.int .i64 0] n) 3, fun w => run_make_row' 27 3 (.int .i64 0) 8 Try.underlying27 (by kernel_rfl) rfl .i64 .i64 n (by omega) (by omega) w, fun w => World.rowIs_made w (.int .i64 0) n 3⟩
/-- the pixels of a pass that is told -/
def eP (W : Nat) (x : Int × Int × Int) : List Int := rowsE W x.1.toNat x.2.1.toNat x.2.2.toNat
theorem pass_eP (W H : Nat) : ∀ k, k ≤ 7 → passL (selP 1) W H k = (lacedTo W H k).flatMap (eP W)
  | 0, _ => rfl
  | k + 1, h => by
    rw [passL_succ, lacedTo_succ, List.flatMap_append, ← pass_eP W H k (by omega), rows_sized W H k (by omega)]
    congr 1
    by_cases e : 0 < (sizeN k W H).1
    · rw [if_pos e, if_pos e]; simp [eP]
    · rw [if_neg e, if_neg e]; rfl

def idxP (a b : Nat) (pre : List (Pas a b)) : Nat := ((pre.map Subtype.val).flatMap (eP a)).length
def cN (l : List Int) (k j : Nat) : Value := .int .i64 (((l.take k).count (j : Int) : Nat) : Int)
theorem cN_step (l : List Int) (k m j : Nat) (h : l[k]? = some (m : Int)) : cN l (k + 1) j = if j = m then .int .i64 ((((l.take k).count (m : Int) : Nat) : Int) + 1) else cN l k j := by
  unfold cN
  obtain ⟨hk, hm⟩ := List.getElem?_eq_some_iff.1 h
  rw [List.take_succ_eq_append_getElem hk, hm, List.count_append]
  by_cases e : j = m
  · subst e
    rw [if_pos rfl]
    simp
  · rw [if_neg e]
    have : List.count (j : Int) [(m : Int)] = 0 := by
      rw [List.count_eq_zero]
      simp only [List.mem_singleton]
      omega
    rw [this, Nat.add_zero]
/-- where the loop stands: k pixels have come -/
structure OnceI (w3 : World) (Q n : Nat) (va : Option Addr) (vc : Nat) (l : List Int) (m : Nat) (V : World) (k : Nat) : Prop where
  below : Below Q w3 V
  list : Boxed V Q 27 (.slice va n vc)
  seen : Boxed V (Q + 1 + 1) 27 (.slice (some ⟨Q + 1, 0, none⟩) n n)
  kb : Boxed V (Q + 1 + 1 + 1) 3 (.int .i64 (k : Int))
  row : V.rowIs (Q + 1) 3 n (cN l k)
  size : m ≤ V.heap.size
theorem OnceI.low {w3 : World} {Q n : Nat} {va : Option Addr} {vc : Nat} {l : List Int} {V Y : World} {k : Nat} (h : OnceI w3 Q n va vc l (Q + 7) V k) (hb : Below (Q + 7) V Y) : OnceI w3 Q n va vc l (Q + 7) Y k :=
  ⟨h.below.trans (hb.mono (by omega)), boxed_low h.list hb (by omega), boxed_low h.seen hb (by omega), boxed_low h.kb hb (by omega), h.row.of_block (hb.block _ (by omega)), Nat.le_trans h.size hb.size⟩
theorem ownFrom_keep {β : Type} {B : Nat} {I : β → World → Prop} (hB : ∀ s X, I s X → B ≤ X.heap.size) (h : ∀ s X Y, I s X → Below B X Y → I s Y) : OwnFrom B I := fun s X Y row hs hg hr =>
  h s X Y hs ⟨hg.os, hg.tape, hg.output, hg.size, fun k hk => hg.block k (Nat.lt_of_lt_of_le hk (hB s X hs)) (fun e => by have := (hr k e.symm).1; omega)⟩

theorem gX_nat : ∀ p < 7, (gX.getD p 0 = (nX p : Int) ∧ gDx.getD p 0 = (nDx p : Int)) ∧ (gY.getD p 0 = (nY p : Int) ∧ gDy.getD p 0 = (nDy p : Int)) := by decide
theorem size_le (p a b : Nat) (h : 0 < (sizeN p a b).1) : (sizeN p a b).1 = colsN p a ∧ (sizeN p a b).2 = rowsH p b := by
  unfold sizeN at h ⊢
  split at h
  · exact absurd h (by decide)
  · rename_i h'; rw [if_neg h']; exact ⟨rfl, rfl⟩
/-- where a pass's pixel stands in the whole list -/
theorem once_at (a b : Nat) (pre : List (Pas a b)) (x : Pas a b) (p ca rb : Nat) (hx : x.1 = ((p : Int), (ca : Int), (rb : Int))) (hp : pre ++ [x] <+: (lacedTo a b 7).attach) (r c : Nat) (hr : r < rb) (hc : c < ca) :
    (passL (selP 1) a b 7)[idxP a b pre + r * ca + c]? = some (((nY p + r * nDy p) * a + (nX p + c * nDx p) : Nat) : Int) := by
  obtain ⟨t, ht⟩ := hp
  have hL : lacedTo a b 7 = (pre.map Subtype.val ++ [x.1]) ++ t.map Subtype.val := by
    have := congrArg (List.map Subtype.val) ht
    rw [List.attach_map_subtype_val] at this
    exact this.symm.trans (by simp)
  rw [pass_eP a b 7 (by omega), hL, List.flatMap_append, List.flatMap_append, List.append_assoc, Nat.add_assoc, List.getElem?_append_right (by unfold idxP; omega)]
  have e : idxP a b pre + (r * ca + c) - ((pre.map Subtype.val).flatMap (eP a)).length = r * ca + c := by unfold idxP; omega
  rw [e]
  have hE : ([x.1].flatMap (eP a)) = rowsE a p ca rb := by simp [eP, hx]
  rw [hE]
  have h := rowsE_at a p ca r c hc rb hr
  rw [List.getElem?_append_left (List.getElem?_eq_some_iff.1 h).1]
  exact h
theorem idx_snoc (a b : Nat) (pre : List (Pas a b)) (x : Pas a b) (p ca rb : Nat) (hx : x.1 = ((p : Int), (ca : Int), (rb : Int))) : idxP a b (pre ++ [x]) = idxP a b pre + rb * ca := by
  unfold idxP
  rw [List.map_append, List.flatMap_append, List.length_append]
  simp [eP, hx, rowsE_len]
theorem idx_all (a b : Nat) : idxP a b (lacedTo a b 7).attach = (passL (selP 1) a b 7).length := by
  unfold idxP
  rw [List.attach_map_subtype_val, pass_eP a b 7 (by omega)]

set_option maxRecDepth 100000 in
set_option maxHeartbeats 8000000 in
theorem laceOnce_any (W0 H0 : Int) (w : World) :
    Calls Try.prog 7 #[.int .i64 W0, .int .i64 H0] w fun e w' => e = .returned (.bool true) ∧ Below w.heap.size w w' := by
  refine (callsIn_wide (n := 6)).1 ?_
  refine callsIn_of_wp_marks Try.func7 rfl trivial ?_ rfl
  simp only [Try.ntmps7, List.size_toArray, List.length_cons, List.length_nil, Nat.reduceAdd, Nat.reduceSub, Array.replicate_succ, Array.replicate_zero, List.push_toArray, List.append_toArray, List.nil_append, List.cons_append]
  refine wpIn_wide.2 ?_
  go_wp2_with fail
  obtain ⟨B, hB⟩ : ∃ B, w.heap.size = B := ⟨_, rfl⟩
  obtain ⟨w1, hw1⟩ : ∃ w1, ((w.alloc (.cells #[.int .i64 W0] 3)).alloc (.cells #[.int .i64 H0] 3)).alloc (.cells #[.bool false] 4) = w1 := ⟨_, rfl⟩
  have q1 : Boxed w1 B 3 (.int .i64 W0) := by rw [← hB, ← hw1]; exact ((Boxed.new w _ _).alloc _).alloc _
  have q2 : Boxed w1 (B + 1) 3 (.int .i64 H0) := by rw [← hB, ← hw1]; have h := Boxed.new (w.alloc (.cells #[.int .i64 W0] 3)) 3 (.int .i64 H0); rw [World.size_alloc] at h; exact h.alloc _
  have q3 : Boxed w1 (B + 1 + 1) 4 (.bool false) := by rw [← hB, ← hw1]; have h := Boxed.new ((w.alloc (.cells #[.int .i64 W0] 3)).alloc (.cells #[.int .i64 H0] 3)) 4 (.bool false); simp only [World.size_alloc] at h; exact h
  have b1 : Below w.heap.size w w1 := by rw [← hw1]; exact (((Below.refl _ _).alloc (Nat.le_refl _) _).alloc (by simp) _).alloc (by simp; omega) _
  rw [hw1, hB]
  have s1 : w1.heap.size = B + 3 := by rw [← hw1]; simp [hB]
  clear hw1
  have cB := q1.cell
  have cH := q2.cell
  have fB := q1.frozen
  have fH := q2.frozen
  obtain ⟨a, ha1, ha2, ha⟩ := side60 W0
  obtain ⟨b, hb1, hb2, hb⟩ := side60 H0
  have HA := Lib.hid ha
  have HBb := Lib.hid hb
  clear ha hb
  go_cut [] from 17 to 26 (fun wx => wx = ((w1.setCell ⟨B, 0, none⟩ (.int .i64 (a : Int))).setCell ⟨B + 1, 0, none⟩ (.int .i64 (b : Int))).drew)
  case first =>
    go_region
    all_goals
      go_wp2_with fail
      go_meet
      show _ = _
      rw [← HA.out, ← HBb.out]
  case rest =>
    obtain ⟨w2, hw2⟩ : ∃ w2, wc = w2 := ⟨_, rfl⟩
    rw [hw2] at hcut
    rw [hw2]
    have r1 : Boxed w2 B 3 (.int .i64 (a : Int)) := by rw [hcut]; exact Boxed.other (Boxed.set (.int .i64 (a : Int)) q1) (by omega) _
    have r2 : Boxed w2 (B + 1) 3 (.int .i64 (b : Int)) := by rw [hcut]; exact Boxed.set _ (Boxed.other q2 (by omega) _)
    have r3 : Boxed w2 (B + 1 + 1) 4 (.bool false) := by rw [hcut]; exact Boxed.other (Boxed.other q3 (by omega) _) (by omega) _
    have b2 : Below w.heap.size w w2 := by rw [hcut]; exact ((b1.setCell (p := ⟨B, 0, none⟩) (by simp only; omega) _).setCell (p := ⟨B + 1, 0, none⟩) (by simp only; omega) _).drew
    have s2 : w2.heap.size = B + 3 := by rw [hcut]; simpa using s1
    clear hcut hw2 q1 q2 q3 b1 s1 cB cH fB fH
    have c1 := r1.cell
    have c2 := r2.cell
    have SPR := Lib.hid (fun X => spread_1 a b X ⟨ha1, by omega⟩ ⟨hb1, by omega⟩ (Nat.le_trans (Nat.mul_le_mul ha2 hb2) (by decide)))
    obtain ⟨l, hl⟩ : ∃ l, passL (selP 1) a b 7 = l := ⟨_, rfl⟩
    have LEN : Hid (l.length = a * b) := Lib.hid (by rw [← hl]; exact pass_len a b ha1)
    rw [hl] at SPR
    have HL := Lib.hid hl
    have R1 := Lib.hid r1
    have R2 := Lib.hid r2
    have R3 := Lib.hid r3
    have BB2 := Lib.hid b2
    have S2 := Lib.hid s2
    clear hl r1 r2 r3 b2 s2
    go_wp2_with fail
    refine (SPR.out _).mono ?_; rintro e w3 ⟨v, rfl, hv, hb3⟩
    have t1 := boxed_below R1.out hb3
    have t2 := boxed_below R2.out hb3
    have t3 := boxed_below R3.out hb3
    have bb3 := BB2.out.trans (hb3.mono BB2.out.size)
    have n60 : a * b ≤ 3600 := Nat.le_trans (Nat.mul_le_mul ha2 hb2) (by decide)
    have SZ3 : Hid (B + 3 ≤ w3.heap.size) := Lib.hid (by rw [← S2.out]; exact hb3.size)
    obtain ⟨va, vc, rfl⟩ := hv.len
    rw [LEN.out] at hv
    rw [LEN.out]
    obtain ⟨n, hn⟩ : ∃ n, a * b = n := ⟨_, rfl⟩
    have hnI : (a : Int) * (b : Int) = (n : Int) := by rw [← hn]; simp
    rw [hn] at hv
    rw [hn]
    have i1 : wrap64 ((a : Int) * (b : Int)) = (n : Int) := by rw [hnI]; exact IntWalk.wrap64_in _ (by omega)
    have i2 : IntKind.i64.wrap ((a : Int) * (b : Int)) = (n : Int) := by rw [hnI]; exact IntWalk.i64_in _ (by omega)
    have i3 : ((n : Int) != (n : Int)) = false := by rw [bne_eq_false_iff_eq]
    obtain ⟨O, M1, hr⟩ := mkRow n (by omega)
    have RO := Lib.hid hr
    have u1 := (t1.alloc (.cells #[.slice va n vc] 27)).cell
    have u2 := (t2.alloc (.cells #[.slice va n vc] 27)).cell
    have u3 := ((((t1.alloc (.cells #[.slice va n vc] 27)).alloc O).alloc (.cells #[.slice (some ⟨w3.heap.size + 1, 0, none⟩) n n] 27)).alloc (.cells #[.int .i64 0] 3)).cell
    have u4 := ((((t2.alloc (.cells #[.slice va n vc] 27)).alloc O).alloc (.cells #[.slice (some ⟨w3.heap.size + 1, 0, none⟩) n n] 27)).alloc (.cells #[.int .i64 0] 3)).cell
    have T1 := Lib.hid t1
    have T2 := Lib.hid t2
    have T3 := Lib.hid t3
    have BB3 := Lib.hid bb3
    have HV := Lib.hid hv
    have N60 : Hid (n ≤ 3600) := Lib.hid (by rw [← hn]; exact n60)
    have HN := Lib.hid hn
    clear hnI hr hb3 t1 t2 t3 bb3 hv hn n60 c1 c2
    go_wp2_with fail
    refine (passes_any (a : Int) (b : Int) 1 _).mono ?_; rintro e w4 ⟨rfl, hw4⟩
    go_wp2_with fail
    rw [← hw4]
    obtain ⟨Q, hQ⟩ : ∃ Q, w3.heap.size = Q := ⟨_, rfl⟩
    have ST : OnceI w3 Q n va vc l (Q + 7) w4 0 := by
      rw [← hQ]
      have z0 := Boxed.new w3 27 (.slice va n vc)
      have z1 := RO.out (w3.alloc (.cells #[.slice va n vc] 27))
      have z2 := Boxed.new ((w3.alloc (.cells #[.slice va n vc] 27)).alloc O) 27 (.slice (some ⟨w3.heap.size + 1, 0, none⟩) n n)
      have z3 := Boxed.new (((w3.alloc (.cells #[.slice va n vc] 27)).alloc O).alloc (.cells #[.slice (some ⟨w3.heap.size + 1, 0, none⟩) n n] 27)) 3 (.int .i64 0)
      simp only [World.size_alloc] at z1 z2 z3
      rw [hw4]
      refine ⟨?_, (((((z0.alloc _).alloc _).alloc _).alloc _).alloc _).alloc _, (((z2.alloc _).alloc _).alloc _).alloc _, ((z3.alloc _).alloc _).alloc _, ?_, by simp⟩
      · exact ((((((((Below.refl _ _).alloc (Nat.le_refl _) _).alloc (by simp) _).alloc (by simp; omega) _).alloc (by simp; omega) _).alloc (by simp; omega) _).alloc (by simp; omega) _).alloc (by simp; omega) _)
      · exact (((((z1.alloc _).alloc _).alloc _).alloc _).alloc _).congr (fun j _ => by unfold cN; simp)
    have p1 : Boxed w4 (Q + 1 + 1 + 1 + 1) 3 (.int .i64 (a : Int)) := by
      rw [hw4, ← hQ]
      have h := Boxed.new ((((w3.alloc (.cells #[.slice va n vc] 27)).alloc O).alloc (.cells #[.slice (some ⟨w3.heap.size + 1, 0, none⟩) n n] 27)).alloc (.cells #[.int .i64 0] 3)) 3 (.int .i64 (a : Int))
      simp only [World.size_alloc] at h
      exact (h.alloc _).alloc _
    have p2 : Boxed w4 (Q + 1 + 1 + 1 + 1 + 1) 3 (.int .i64 (b : Int)) := by
      rw [hw4, ← hQ]
      have h := Boxed.new (((((w3.alloc (.cells #[.slice va n vc] 27)).alloc O).alloc (.cells #[.slice (some ⟨w3.heap.size + 1, 0, none⟩) n n] 27)).alloc (.cells #[.int .i64 0] 3)).alloc (.cells #[.int .i64 (a : Int)] 3)) 3 (.int .i64 (b : Int))
      simp only [World.size_alloc] at h
      exact h.alloc _
    have p3 : Boxed w4 (Q + 1 + 1 + 1 + 1 + 1 + 1) 3 (.int .i64 1) := by
      rw [hw4, ← hQ]
      have h := Boxed.new ((((((w3.alloc (.cells #[.slice va n vc] 27)).alloc O).alloc (.cells #[.slice (some ⟨w3.heap.size + 1, 0, none⟩) n n] 27)).alloc (.cells #[.int .i64 0] 3)).alloc (.cells #[.int .i64 (a : Int)] 3)).alloc (.cells #[.int .i64 (b : Int)] 3)) 3 (.int .i64 1)
      simp only [World.size_alloc] at h
      exact h
    have sz4 : w4.heap.size = Q + 7 := by rw [hw4, ← hQ]; simp
    have QB : B + 3 ≤ Q := by rw [← hQ]; exact SZ3.out
    rw [hQ]
    have HQ := Lib.hid hQ
    have n36 : n ≤ 3600 := N60.out
    clear hw4 hQ RO M1 SPR u1 u2 u3 u4 i1 i2 i3 R1 R2 R3 BB2 S2 SZ3
    refine wpIn_wide.1 (wpIn_rangeFunc_ownH (F := Fence.wide) (n := 6) rfl (by omega) (gf := 28) (lb := #[.pointer (some ⟨Q + 1 + 1 + 1 + 1, 0, none⟩), .pointer (some ⟨Q + 1 + 1 + 1 + 1 + 1, 0, none⟩), .pointer (some ⟨Q + 1 + 1 + 1 + 1 + 1 + 1, 0, none⟩)]) rfl trivial (enters_of Try.func28 (by kernel_rfl) rfl)
      (passes_laced (6 - 1) (by omega) (Q + 1 + 1 + 1 + 1) (Q + 1 + 1 + 1 + 1 + 1) (Q + 1 + 1 + 1 + 1 + 1 + 1) a b ⟨ha1, by omega⟩ ⟨hb1, by omega⟩ w4 p1.cell p2.cell p3.cell) KeepB.trans (KeepB.put (by intro b hb; simp only [List.mem_cons, List.not_mem_nil, or_false] at hb; omega)) (Below.refl _ _) (fun _ => rfl)
      (fun pre V => ∃ k, k ≤ n ∧ (pre <+: (lacedTo a b 7).attach → k = idxP a b pre) ∧ OnceI w3 Q n va vc l (Q + 7) V k)
      (fun c pre V => c = .ret ∧ ¬ pre <+: (lacedTo a b 7).attach)
      (ownFrom_keep (fun s X ⟨k, _, _, h⟩ => by rw [sz4]; exact h.size) (fun s X Y ⟨k, h1, h2, h⟩ hb => ⟨k, h1, h2, h.low (by rw [← sz4]; exact hb)⟩))
      (fun _ _ _ _ _ hs _ _ => hs)
      ⟨0, Nat.zero_le _, fun _ => rfl, ST⟩
      (fun x a' V => ∃ Bx, w4.heap.size ≤ Bx ∧ V.heap[Bx]? = some (.cells #[.int .i64 x.1.2.1, .int .i64 x.1.2.2] 45 (0, 0)) ∧ a' = { tmps := #[Value.int IntKind.i64 W0, Value.int IntKind.i64 H0, Value.pointer (some { block := B, off := 0 }), Value.pointer (some { block := B + 1, off := 0 }), Value.pointer (some { block := B + 1 + 1, off := 0 }), Value.pointer (some { block := Q, off := 0 }), Value.nilIface, Value.pointer (some { block := Q + 1 + 1, off := 0 }), Value.pointer (some { block := Q + 1 + 1 + 1, off := 0 }), .int .i64 x.1.1, .pointer (some ⟨Bx, 0, none⟩), undef, undef, undef, undef, undef, undef, u17, u18, u19, u20, u21, u22, u23, u24, u25, u26, Value.tuple #[Value.slice va n vc, Value.nilIface], Value.int IntKind.i64 ↑a, Value.int IntKind.i64 ↑b, Value.tuple #[Value.slice va n vc, Value.nilIface], Value.slice va n vc, Value.nilIface, Value.nilIface, Value.bool false, Value.bool false, Value.slice va n vc, Value.int IntKind.i64 ↑n, Value.int IntKind.i64 ↑a, Value.int IntKind.i64 ↑b, Value.int IntKind.i64 ↑n, Value.bool false, Value.bool false, Value.int IntKind.i64 ↑a, Value.int IntKind.i64 ↑b, Value.int IntKind.i64 ↑n, Value.slice (some { block := Q + 1, off := 0 }) n n, Value.int IntKind.i64 ↑a, Value.int IntKind.i64 ↑b, Value.func (Fn.func 28) #[] #[Value.pointer (some { block := Q + 1 + 1 + 1 + 1, off := 0 }), Value.pointer (some { block := Q + 1 + 1 + 1 + 1 + 1, off := 0 }), Value.pointer (some { block := Q + 1 + 1 + 1 + 1 + 1 + 1, off := 0 })], .int .i64 x.1.1, .agg #[.int .i64 x.1.2.1, .int .i64 x.1.2.2], undef, undef, undef, undef, undef, undef, undef, undef, undef, undef, undef, undef, undef, undef, undef, undef, undef, undef, undef, undef, undef, undef, undef, undef, undef, undef, undef, undef, undef, undef, undef, undef, undef, undef, undef, undef, undef, undef, undef, undef, undef, undef, undef, undef, undef, undef, undef, undef, undef, undef, undef, undef, undef, undef, undef, undef, undef, undef, undef, undef, undef, undef, undef, undef, undef, undef, undef, undef, undef, undef, undef, undef, undef, undef, undef, undef, undef], defers := [] })
      (fun x a' _ X Y row hs hg hr => by
        obtain ⟨Bx, h1, h2, h3⟩ := hs
        exact ⟨Bx, h1, heap_own Bx _ rfl () X Y row h2 hg (fun r e => (hr r e).2), h3⟩)
      ?assign ?body ?done ?stop)
    case assign =>
      rintro lp pre x V K ⟨k, hk, hpk, hI⟩ hK
      gi_wp2
      have hVs : Q + 7 ≤ V.heap.size := hI.size
      refine hK _ _ ((KeepsOthers.alloc _ _).from _) ⟨by simp, fun b hb => Below.heap_alloc _ _ _ (by simp only [List.mem_cons, List.not_mem_nil, or_false] at hb; omega)⟩ ⟨k, hk, hpk, hI.low (((Below.refl _ V).alloc (Nat.le_refl _) _).mono hVs)⟩ ⟨V.heap.size, by omega, heap_alloc_new V _, rfl⟩
    case body =>
      rintro lp pre x a' V hlp ⟨rr, hrr⟩ ⟨k0, hk0, hpk, hI⟩ ⟨Bx, hBx, bX, rfl⟩ hlt
      obtain ⟨p, hp7, hpos, hx⟩ := pas_prop x
      obtain ⟨sz1, sz2⟩ := size_le p a b hpos
      obtain ⟨ca, hca⟩ : ∃ c, (sizeN p a b).1 = c := ⟨_, rfl⟩
      obtain ⟨rb, hrb⟩ : ∃ c, (sizeN p a b).2 = c := ⟨_, rfl⟩
      rw [hca, hrb] at hx
      rw [hca] at sz1 hpos
      rw [hrb] at sz2
      rw [hx] at bX
      rw [hx]
      dsimp only at bX
      dsimp only
      have BXV : Bx < V.heap.size := (Array.getElem?_eq_some_iff.1 bX).1
      have VS : Q + 7 ≤ V.heap.size := hI.size
      have PB : Hid (∃ P : Prop, (P ↔ pre ++ [x] <+: (lacedTo a b 7).attach)) := Lib.hid ⟨_, Iff.rfl⟩
      have PK : Hid (pre ++ [x] <+: (lacedTo a b 7).attach → k0 = idxP a b pre + 0 * ca) := Lib.hid (fun h => by rw [Nat.zero_mul, Nat.add_zero]; exact hpk ((List.prefix_append _ _).trans h))
      have AT := Lib.hid (fun h => once_at a b pre x p ca rb hx h)
      have SN := Lib.hid (idx_snoc a b pre x p ca rb hx)
      have CA : Hid (ca = alongN a (nX p) (nDx p)) := Lib.hid sz1
      have RB : Hid (rb = alongN b (nY p) (nDy p)) := Lib.hid sz2
      have ca60 : ca ≤ 60 := by have := alongN_le a (nX p) (nDx p) (nD_dvd p hp7).2.2.2.2.2.2.1; have h2 : ca = alongN a (nX p) (nDx p) := sz1; omega
      have rb60 : rb ≤ 60 := by have := alongN_le b (nY p) (nDy p) (nD_dvd p hp7).2.2.2.2.2.2.2; have h2 : rb = alongN b (nY p) (nDy p) := sz2; omega
      have HI := Lib.hid hI
      have HBX := Lib.hid bX
      have x1 : V.cell? ⟨Bx, 1, none⟩ = some (.int .i64 (rb : Int)) := by rw [cell_of_row _ _ 1 _ _ (0, 0) bX]; rfl
      clear hx hca hrb hpk hI bX hrr hlt sz1 sz2
      gi_wp2_with fail
      clear x1
      gi_loopw [54] (fun t wr => ∃ r k : Nat, r ≤ rb ∧ t = .int .i64 r ∧ k ≤ n ∧ (pre ++ [x] <+: (lacedTo a b 7).attach → k = idxP a b pre + r * ca) ∧ OnceI w3 Q n va vc l (Q + 7) wr k ∧ wr.heap[Bx]? = some (.cells #[.int .i64 (ca : Int), .int .i64 (rb : Int)] 45 (0, 0)) ∧ KeepsFrom w4.heap.size V wr ∧ KeepB [Q + 1 + 1 + 1 + 1, Q + 1 + 1 + 1 + 1 + 1, Q + 1 + 1 + 1 + 1 + 1 + 1] V wr) (fun t _ => rb - (intOf t).toNat)
      case atStart => exact ⟨0, k0, Nat.zero_le _, rfl, hk0, PK.out, HI.out, HBX.out, KeepsFrom.refl _ _, KeepB.refl _ _⟩
      case round =>
        obtain ⟨r, k, hr, rfl, hk, hpk, hI, hX, hKF, hKB⟩ := hrel
        obtain ⟨Vo, hVo⟩ : ∃ Vo, wr = Vo := ⟨_, rfl⟩
        rw [hVo] at hI hX hKF hKB
        rw [hVo]
        clear hVo
        have PK1 := Lib.hid hpk
        have I1 := Lib.hid hI
        have X1 := Lib.hid hX
        have KF1 := Lib.hid hKF
        have KB1 := Lib.hid hKB
        have x0 : Vo.cell? ⟨Bx, 0, none⟩ = some (.int .i64 (ca : Int)) := by rw [cell_of_row _ _ 0 _ _ (0, 0) hX]; rfl
        clear hpk hI hX hKF hKB PK HI HBX
        by_cases hrl : r < rb
        · have f1 : decide ((r : Int) < (rb : Int)) = true := by rw [decide_eq_true_eq]; omega
          have f2 : decide (r < rb) = true := by rw [decide_eq_true_eq]; exact hrl
          gi_wp2_with fail
          clear x0
          gi_loopw [59] (fun t wr => ∃ c k : Nat, c ≤ ca ∧ t = .int .i64 c ∧ k ≤ n ∧ (pre ++ [x] <+: (lacedTo a b 7).attach → k = idxP a b pre + r * ca + c) ∧ OnceI w3 Q n va vc l (Q + 7) wr k ∧ wr.heap[Bx]? = some (.cells #[.int .i64 (ca : Int), .int .i64 (rb : Int)] 45 (0, 0)) ∧ KeepsFrom w4.heap.size V wr ∧ KeepB [Q + 1 + 1 + 1 + 1, Q + 1 + 1 + 1 + 1 + 1, Q + 1 + 1 + 1 + 1 + 1 + 1] V wr) (fun t _ => ca - (intOf t).toNat)
          case atStart => exact ⟨0, k, Nat.zero_le _, rfl, hk, fun h => by rw [Nat.add_zero]; exact PK1.out h, I1.out, X1.out, KF1.out, KB1.out⟩
          case round =>
            obtain ⟨c, kk, hc, rfl, hkk, hpk, hI, hX, hKF, hKB⟩ := hrel
            have PK2 := Lib.hid hpk
            have I2 := Lib.hid hI
            have X2 := Lib.hid hX
            have KF2 := Lib.hid hKF
            have KB2 := Lib.hid hKB
            clear hpk hI hX hKF hKB
            by_cases hcl : c < ca
            · have g1 : decide ((c : Int) < (ca : Int)) = true := by rw [decide_eq_true_eq]; omega
              have g2 : decide (c < ca) = true := by rw [decide_eq_true_eq]; exact hcl
              obtain ⟨⟨gx1, gx2⟩, gy1, gy2⟩ := gX_nat p hp7
              obtain ⟨xN, hxN⟩ : ∃ z, nX p + c * nDx p = z := ⟨_, rfl⟩
              obtain ⟨yN, hyN⟩ : ∃ z, nY p + r * nDy p = z := ⟨_, rfl⟩
              have xa : xN < a := by rw [← hxN]; exact along_lt a (nX p) (nDx p) c (nD_dvd p hp7).2.2.2.2.2.2.1 (by have := CA.out; omega)
              have yb : yN < b := by rw [← hyN]; exact along_lt b (nY p) (nDy p) r (nD_dvd p hp7).2.2.2.2.2.2.2 (by have := RB.out; omega)
              have PL := Lib.hid (fun X => place_at (p : Int) p rfl hp7 (c : Int) (r : Int) (xN : Int) (yN : Int) X (by omega) (by omega) (by rw [gx1, gx2, ← hxN]; simp) (by rw [gy1, gy2, ← hyN]; simp))
              obtain ⟨jn, hjn⟩ : ∃ z, yN * a + xN = z := ⟨_, rfl⟩
              have AT2 : Hid (pre ++ [x] <+: (lacedTo a b 7).attach → l[kk]? = some (jn : Int)) := Lib.hid (fun h => by
                have h2 := AT.out h r c hrl hcl
                rw [← PK2.out h, hxN, hyN, hjn, HL.out] at h2
                exact h2)
              have jlt : jn < n := by
                rw [← HN.out, ← hjn]
                have h1 : (yN + 1) * a ≤ b * a := Nat.mul_le_mul_right a yb
                rw [Nat.succ_mul] at h1
                rw [Nat.mul_comm a b]
                omega
              have yaI : (yN : Int) * (a : Int) = ((yN * a : Nat) : Int) := by simp
              obtain ⟨ya, hya⟩ : ∃ z, yN * a = z := ⟨_, rfl⟩
              have ya36 : ya + xN = jn := by rw [← hya]; exact hjn
              rw [hya] at yaI
              have JN := Lib.hid jlt
              clear gx1 gx2 gy1 gy2 hxN hyN hjn hya
              have j36 : jn ≤ 3600 := by omega
              have n1 : decide ((xN : Int) < 0) = false := by rw [decide_eq_false_iff_not]; omega
              have n2 : decide ((yN : Int) < 0) = false := by rw [decide_eq_false_iff_not]; omega
              have n3 : decide ((a : Int) ≤ (xN : Int)) = false := by rw [decide_eq_false_iff_not]; omega
              have n4 : decide ((b : Int) ≤ (yN : Int)) = false := by rw [decide_eq_false_iff_not]; omega
              have n5 : decide (a ≤ xN) = false := by rw [decide_eq_false_iff_not]; omega
              have n6 : decide (b ≤ yN) = false := by rw [decide_eq_false_iff_not]; omega
              have YA : Hid (wrap64 ((yN : Int) * (a : Int)) = (ya : Int) ∧ IntKind.i64.wrap ((yN : Int) * (a : Int)) = (ya : Int) ∧ wrap64 ((ya : Int) + (xN : Int)) = (jn : Int) ∧ IntKind.i64.wrap ((ya : Int) + (xN : Int)) = (jn : Int) ∧ (ya : Int) + (xN : Int) = (jn : Int)) := Lib.hid ⟨by rw [yaI]; exact IntWalk.wrap64_in _ (by omega), by rw [yaI]; exact IntWalk.i64_in _ (by omega), by rw [IntWalk.wrap64_in _ (by omega)]; omega, by rw [IntWalk.i64_in _ (by omega)]; omega, by omega⟩
              have LL : Hid (l.length = n) := Lib.hid (LEN.out.trans HN.out)
              clear yaI ya36
              gi_wp2_with fail
              refine ⟨trivial, (callsIn_wide.2 (PL.out _)).mono ?_⟩; rintro e w5 ⟨rfl, hb5⟩
              have WS : Q + 7 ≤ wr.heap.size := I2.out.size
              have I5 := Lib.hid (I2.out.low (hb5.mono WS))
              have X5 : Hid (w5.heap[Bx]? = some (.cells #[.int .i64 (ca : Int), .int .i64 (rb : Int)] 45 (0, 0))) := Lib.hid ((hb5.block Bx (Array.getElem?_eq_some_iff.1 X2.out).1).trans X2.out)
              have KF5 : Hid (KeepsFrom w4.heap.size V w5) := Lib.hid (KF2.out.trans (keepsFrom_below hb5))
              have KB5 : Hid (KeepB [Q + 1 + 1 + 1 + 1, Q + 1 + 1 + 1 + 1 + 1, Q + 1 + 1 + 1 + 1 + 1 + 1] V w5) := Lib.hid (KB2.out.trans (KeepB.below hb5 hb5.size (by intro b hb; simp only [List.mem_cons, List.not_mem_nil, or_false] at hb; omega)))
              clear hb5 I2 X2 KF2 KB2
              have lB : w3.heap.size = Q := HQ.out
              have bel5 : Below w3.heap.size w3 w5 := by rw [lB]; exact I5.out.below
              have e1 := (boxed_below T1.out bel5).cell
              have e2 := (boxed_below T2.out bel5).cell
              have e3 := I5.out.list.cell
              have e4 := I5.out.kb.cell
              have nv := HV.out.old bel5
              have r3 := boxed_below T3.out bel5
              have r3c := r3.cell
              have r3f := r3.frozen
              clear lB
              obtain ⟨va', vc', hve, hcell⟩ := nv.read
              rw [LL.out] at hve
              simp only [Value.slice.injEq, true_and] at hve
              obtain ⟨rfl, rfl⟩ := hve
              have NV := Lib.hid hcell
              have BE5 := Lib.hid bel5
              clear hcell nv bel5 r3
              by_cases hkn : kk < n
              · have k1 : decide ((n : Int) ≤ (kk : Int)) = false := by rw [decide_eq_false_iff_not]; omega
                have k2 : decide (n ≤ kk) = false := by rw [decide_eq_false_iff_not]; omega
                have k3 : (kk : Int) < (n : Int) := by omega
                obtain ⟨lb, lo, rfl, hlc⟩ := NV.out kk (by rw [LL.out]; exact hkn)
                obtain ⟨z, hz⟩ : ∃ z, l[kk]'(by rw [LL.out]; exact hkn) = z := ⟨_, rfl⟩
                rw [hz] at hlc
                have LZ : Hid (l[kk]? = some z) := Lib.hid (by rw [List.getElem?_eq_getElem (by rw [LL.out]; exact hkn), hz])
                clear hz
                by_cases hzj : z = (jn : Int)
                · subst hzj
                  have z1 : ((jn : Int) != (jn : Int)) = false := by rw [bne_eq_false_iff_eq]
                  have j1 : (jn : Int) < (n : Int) := by have := JN.out; omega
                  have RW5 := I5.out.row
                  have cc := RW5.cell (i := jn) JN.out
                  have cle : (l.take kk).count (jn : Int) ≤ kk := Nat.le_trans List.count_le_length (List.length_take_le _ _)
                  have e5 := I5.out.seen.cell
                  have kf := I5.out.kb.frozen
                  have rf := RW5.frozen jn
                  unfold cN at cc
                  obtain ⟨cn, hcn⟩ : ∃ q, (l.take kk).count (jn : Int) = q := ⟨_, rfl⟩
                  rw [hcn] at cc cle
                  have HCN := Lib.hid hcn
                  clear hcn RW5
                  gi_wp2_with fail
                  obtain ⟨-, m2, -, m4, -⟩ := YA.out
                  refine wpIn_region_q (fun X => X.cell? ⟨B, 0, none⟩ = some (.int .i64 (a : Int)) ∧ X.cell? ⟨B + 1, 0, none⟩ = some (.int .i64 (b : Int)) ∧ X.cell? ⟨Q, 0, none⟩ = some (.slice (some ⟨lb, lo, none⟩) n vc) ∧ X.cell? ⟨Q + 1 + 1 + 1, 0, none⟩ = some (.int .i64 (kk : Int)) ∧ X.cell? ⟨lb, lo + kk, none⟩ = some (.int .i64 (jn : Int)) ∧ Below w5.heap.size w5 X) (by kernel_rfl) (by kernel_rfl) (by kernel_rfl) (fun _ _ h => h) ⟨e1, e2, e3, e4, hlc, (Below.refl _ w5).drew⟩ ?_
                  clear e1 e2
                  repeat
                    first
                    | go_big_quiet_skip
                    | (go_big_quiet_want
                       first
                       | (go_big_quiet_op; go_big_quiet_on)
                       | (apply Exists.intro
                          refine ⟨fun X hX => ?_, ?_⟩
                          · obtain ⟨e1, e2, e3, e4, e5, eZ⟩ := hX
                            clear eZ
                            unfold Oper.quietAt
                            go_simp
                            first
                            | exact ⟨rfl, rfl⟩
                            | exact rfl
                          go_big_quiet_on
                          try simp only [Act.put, List.setIfInBounds_toArray, List.set_cons_zero, List.set_cons_succ]))
                  refine wpQuiet_nil ?_
                  rintro X ⟨_, _, y3, y4, yl, hbX⟩
                  have y5 := cell_old hbX e5
                  have yc := cell_old hbX cc
                  clear m2 m4 n1 n2 n3 n4 n5 n6 z1 e3 e4 e5 hlc cc
                  gi_wp2_with fail
                  refine wpIn_region_qt (fun Y => Y.cell? ⟨Q + 1 + 1, 0, none⟩ = some (.slice (some ⟨Q + 1, 0, none⟩) n n) ∧ Y.cell? ⟨Q, 0, none⟩ = some (.slice (some ⟨lb, lo, none⟩) n vc) ∧ Y.cell? ⟨Q + 1 + 1 + 1, 0, none⟩ = some (.int .i64 (kk : Int)) ∧ Y.cell? ⟨lb, lo + kk, none⟩ = some (.int .i64 (jn : Int)) ∧ Y.cell? ⟨Q + 1, jn, none⟩ = some (.int .i64 (cn : Int)) ∧ Below w5.heap.size w5 Y) 9 (by kernel_rfl) (by kernel_rfl) (by kernel_rfl) (fun _ _ h => h) ⟨y5, y3, y4, yl, yc, hbX.drew⟩ ?_
                  simp only [List.take_succ_cons, List.take_zero, List.drop_succ_cons, List.drop_zero]
                  clear y3 y4 y5 yl yc
                  repeat
                    first
                    | go_big_quiet_skip
                    | (go_big_quiet_want
                       first
                       | (go_big_quiet_op; go_big_quiet_on)
                       | (apply Exists.intro
                          refine ⟨fun X hX => ?_, ?_⟩
                          · obtain ⟨e1, e2, e3, e4, e5, eZ⟩ := hX
                            clear eZ
                            unfold Oper.quietAt
                            go_simp
                            first
                            | exact ⟨rfl, rfl⟩
                            | exact rfl
                          go_big_quiet_on
                          try simp only [Act.put, List.setIfInBounds_toArray, List.set_cons_zero, List.set_cons_succ]))
                  refine wpQuiet_nil ?_
                  rintro Y ⟨_, _, y6, _, _, hbY⟩
                  have IY := I5.out.low (hbY.mono I5.out.size)
                  have rfY := IY.row.frozen jn
                  have ycY : Y.cell? ⟨Q + 1, jn, none⟩ = some (.int .i64 (cn : Int)) := by assumption
                  have row2 := (IY.row.set jn (.int .i64 ((cn : Int) + 1))).congr (g := cN l (kk + 1)) (fun j hj => by rw [← HCN.out]; exact (cN_step l kk jn j LZ.out).symm)
                  have kb2 := Boxed.other IY.kb (show Q + 1 + 1 + 1 ≠ Q + 1 by omega) (.int .i64 0)
                  have ne1 : ∀ (q : Nat) (v : Value), (Y.setCell ⟨Q + 1, jn, none⟩ v).heap[Q + 1 + q + 1]? = Y.heap[Q + 1 + q + 1]? := fun q v => Go.Deep.blk_setCell_other _ _ _ _ (by simp only; omega)
                  have k1c : (Y.setCell ⟨Q + 1, jn, none⟩ (.int .i64 ((cn : Int) + 1))).cell? ⟨Q + 1 + 1 + 1, 0, none⟩ = some (.int .i64 (kk : Int)) := by rw [World.cell?_of_block (ne1 1 _)]; exact IY.kb.cell
                  have k1f : (Y.setCell ⟨Q + 1, jn, none⟩ (.int .i64 ((cn : Int) + 1))).frozen? ⟨Q + 1 + 1 + 1, 0, none⟩ = false := by rw [World.frozen?_of_block (ne1 1 _)]; exact IY.kb.frozen
                  have I6 : Hid (OnceI w3 Q n (some ⟨lb, lo, none⟩) vc l (Q + 7) ((Y.setCell ⟨Q + 1, jn, none⟩ (.int .i64 ((cn : Int) + 1))).setCell ⟨Q + 1 + 1 + 1, 0, none⟩ (.int .i64 ((kk : Int) + 1))) (kk + 1)) := Lib.hid
                    ⟨(IY.below.setCell (p := ⟨Q + 1, jn, none⟩) (by simp only; omega) _).setCell (p := ⟨Q + 1 + 1 + 1, 0, none⟩) (by simp only; omega) _,
                     Boxed.other (show Boxed (Y.setCell ⟨Q + 1, jn, none⟩ _) Q _ _ from (Go.Deep.blk_setCell_other _ _ _ _ (by simp only; omega)).trans IY.list) (by omega) _,
                     Boxed.other (show Boxed (Y.setCell ⟨Q + 1, jn, none⟩ _) (Q + 1 + 1) _ _ from (ne1 0 _).trans IY.seen) (by omega) _,
                     Boxed.set (v := .int .i64 (kk : Int)) (.int .i64 ((kk : Int) + 1)) (show Boxed (Y.setCell ⟨Q + 1, jn, none⟩ _) (Q + 1 + 1 + 1) _ _ from (ne1 1 _).trans IY.kb),
                     row2.setOther (a := ⟨Q + 1 + 1 + 1, 0, none⟩) (by simp only; omega) _, by simp; exact IY.size⟩
                  have X6 : Hid (((Y.setCell ⟨Q + 1, jn, none⟩ (.int .i64 ((cn : Int) + 1))).setCell ⟨Q + 1 + 1 + 1, 0, none⟩ (.int .i64 ((kk : Int) + 1))).heap[Bx]? = some (.cells #[.int .i64 (ca : Int), .int .i64 (rb : Int)] 45 (0, 0))) := Lib.hid (by
                    rw [Go.Deep.blk_setCell_other _ _ _ _ (by simp only; omega), Go.Deep.blk_setCell_other _ _ _ _ (by simp only; omega)]
                    exact (hbY.block Bx (Array.getElem?_eq_some_iff.1 X5.out).1).trans X5.out)
                  have KF6 : Hid (KeepsFrom w4.heap.size V ((Y.setCell ⟨Q + 1, jn, none⟩ (.int .i64 ((cn : Int) + 1))).setCell ⟨Q + 1 + 1 + 1, 0, none⟩ (.int .i64 ((kk : Int) + 1)))) := Lib.hid (((KF5.out.trans (keepsFrom_below hbY)).trans (keepsFrom_set _ _ _)).trans (keepsFrom_set _ _ _))
                  have KB6 : Hid (KeepB [Q + 1 + 1 + 1 + 1, Q + 1 + 1 + 1 + 1 + 1, Q + 1 + 1 + 1 + 1 + 1 + 1] V ((Y.setCell ⟨Q + 1, jn, none⟩ (.int .i64 ((cn : Int) + 1))).setCell ⟨Q + 1 + 1 + 1, 0, none⟩ (.int .i64 ((kk : Int) + 1)))) := Lib.hid ((KB5.out.trans (KeepB.below hbY hbY.size (by intro b hb; have := I5.out.size; simp only [List.mem_cons, List.not_mem_nil, or_false] at hb; omega))).trans ⟨by simp, fun b hb => by
                    simp only [List.mem_cons, List.not_mem_nil, or_false] at hb
                    rw [Go.Deep.blk_setCell_other _ _ _ _ (by simp only; omega), Go.Deep.blk_setCell_other _ _ _ _ (by simp only; omega)]⟩)
                  clear IY row2 kb2 ne1 hbY
                  go_wp2_with fail
                  gi_wp2_with fail
                  go_roundw
                  case rel => exact ⟨c + 1, kk + 1, by omega, by go_num, by omega, fun h => by rw [PK2.out h, Nat.add_assoc], I6.out, X6.out, KF6.out, KB6.out⟩
                  case measure => simp [intOf]; omega
                · have z1 : (z != (jn : Int)) = true := by rw [bne_iff_ne]; exact hzj
                  have NP : Hid (¬ pre ++ [x] <+: (lacedTo a b 7).attach) := Lib.hid (fun h => by
                    have h2 := AT2.out h
                    rw [LZ.out] at h2
                    exact hzj (Option.some.inj h2))
                  clear hzj
                  gi_wp2_with fail
                  obtain ⟨-, m2, -, m4, -⟩ := YA.out
                  refine wpIn_region_q (fun X => X.cell? ⟨B, 0, none⟩ = some (.int .i64 (a : Int)) ∧ X.cell? ⟨B + 1, 0, none⟩ = some (.int .i64 (b : Int)) ∧ X.cell? ⟨Q, 0, none⟩ = some (.slice (some ⟨lb, lo, none⟩) n vc) ∧ X.cell? ⟨Q + 1 + 1 + 1, 0, none⟩ = some (.int .i64 (kk : Int)) ∧ X.cell? ⟨lb, lo + kk, none⟩ = some (.int .i64 z) ∧ Below w5.heap.size w5 X) (by kernel_rfl) (by kernel_rfl) (by kernel_rfl) (fun _ _ h => h) ⟨e1, e2, e3, e4, hlc, (Below.refl _ w5).drew⟩ ?_
                  clear e1 e2 e3 e4 hlc
                  repeat
                    first
                    | go_big_quiet_skip
                    | (go_big_quiet_want
                       first
                       | (go_big_quiet_op; go_big_quiet_on)
                       | (apply Exists.intro
                          refine ⟨fun X hX => ?_, ?_⟩
                          · obtain ⟨e1, e2, e3, e4, e5, eZ⟩ := hX
                            clear eZ
                            unfold Oper.quietAt
                            go_simp
                            first
                            | exact ⟨rfl, rfl⟩
                            | exact rfl
                          go_big_quiet_on
                          try simp only [Act.put, List.setIfInBounds_toArray, List.set_cons_zero, List.set_cons_succ]))
                  refine wpQuiet_nil ?_
                  rintro X ⟨_, _, _, _, _, hbX⟩
                  have r3c' := cell_old hbX r3c
                  have r3f' : X.frozen? ⟨B + 1 + 1, 0, none⟩ = false := by rw [World.frozen?_of_block (hbX.block (B + 1 + 1) (World.block_lt_of_cell? _ _ r3c))]; exact r3f
                  gi_wp2
                  exact ⟨KF5.out.trans ((keepsFrom_below hbX).trans (keepsFrom_set _ _ _)), rfl, NP.out⟩
              · have k1 : decide ((n : Int) ≤ (kk : Int)) = true := by rw [decide_eq_true_eq]; omega
                have k2 : decide (n ≤ kk) = true := by rw [decide_eq_true_eq]; omega
                have NP : Hid (¬ pre ++ [x] <+: (lacedTo a b 7).attach) := Lib.hid (fun h => by
                  have h2 := AT2.out h
                  rw [List.getElem?_eq_none (by rw [LL.out]; omega)] at h2
                  cases h2)
                gi_wp2_with fail
                refine wpIn_region_q (fun X => X.cell? ⟨B, 0, none⟩ = some (.int .i64 (a : Int)) ∧ X.cell? ⟨B + 1, 0, none⟩ = some (.int .i64 (b : Int)) ∧ X.cell? ⟨Q, 0, none⟩ = some (.slice va n vc) ∧ X.cell? ⟨Q + 1 + 1 + 1, 0, none⟩ = some (.int .i64 (kk : Int)) ∧ Below w5.heap.size w5 X) (by kernel_rfl) (by kernel_rfl) (by kernel_rfl) (fun _ _ h => h) ⟨e1, e2, e3, e4, (Below.refl _ w5).drew⟩ ?_
                clear e1 e2 e3 e4
                repeat
                  first
                  | go_big_quiet_skip
                  | (go_big_quiet_want
                     first
                     | (go_big_quiet_op; go_big_quiet_on)
                     | (apply Exists.intro
                        refine ⟨fun X hX => ?_, ?_⟩
                        · obtain ⟨e1, e2, e3, e4, eZ⟩ := hX
                          clear eZ
                          unfold Oper.quietAt
                          go_simp
                          first
                          | exact ⟨rfl, rfl⟩
                          | exact rfl
                        go_big_quiet_on
                        try simp only [Act.put, List.setIfInBounds_toArray, List.set_cons_zero, List.set_cons_succ]))
                refine wpQuiet_nil ?_
                rintro X ⟨_, _, _, _, hbX⟩
                have r3c' := cell_old hbX r3c
                have r3f' : X.frozen? ⟨B + 1 + 1, 0, none⟩ = false := by rw [World.frozen?_of_block (hbX.block (B + 1 + 1) (World.block_lt_of_cell? _ _ r3c))]; exact r3f
                gi_wp2
                exact ⟨KF5.out.trans ((keepsFrom_below hbX).trans (keepsFrom_set _ _ _)), rfl, NP.out⟩
            · obtain rfl : c = ca := by omega
              gi_wp2_with fail
              go_roundw
              case rel => exact ⟨r + 1, kk, by omega, by go_num, hkk, fun h => by rw [PK2.out h, Nat.succ_mul]; omega, I2.out, X2.out, KF2.out, KB2.out⟩
              case measure => simp [intOf]; omega
        · obtain rfl : r = rb := by omega
          gi_wp2_with fail
          exact ⟨KF1.out, KB1.out, k, hk, fun h => by rw [SN.out]; exact PK1.out h, I1.out⟩
    case done =>
      rintro D zs Z hD rfl ⟨k, hk, hpk, hI⟩ hK
      have hkn : k = n := by
        rw [hpk List.prefix_rfl, idx_all, HL.out, LEN.out, HN.out]
      rw [hkn] at hI
      have lB : w3.heap.size = Q := HQ.out
      have belZ : Below w3.heap.size w3 Z := by rw [lB]; exact hI.below
      have c1 := hI.seen.cell
      have t3 := boxed_below T3.out belZ
      have bz := BB3.out.trans (belZ.mono BB3.out.size)
      have ONE : Hid (∀ r, r < n → Z.cell? ⟨Q + 1, r, none⟩ = some (.int .i64 1)) := Lib.hid (fun r hr => by
        rw [hI.row.cell hr]
        unfold cN
        have e1 : l.take n = l := List.take_of_length_le (by rw [LEN.out, HN.out]; exact Nat.le_refl _)
        have e2 : l.count (r : Int) = 1 := by
          rw [← HL.out, (pass_perm a b ha1).count_eq, count_cast, List.count_range, if_pos (by rw [HN.out]; exact hr)]
        rw [e1, e2]
        rfl)
      have IZ := Lib.hid hI
      have T3Z := Lib.hid t3
      have BZ := Lib.hid bz
      have DK := Lib.hid hK
      have DB : B + 1 + 1 < D := by omega
      clear hI t3 bz hK lB belZ hpk hkn hk
      go_wp2_with fail
      clear c1
      go_loopw [118] (fun i w' => ∃ r : Nat, r ≤ n ∧ i = .int .i64 r ∧ Z = w') (fun i _ => n - (intOf i).toNat)
      case atStart => exact ⟨0, Nat.zero_le _, rfl, rfl⟩
      case round =>
        obtain ⟨r, hr, rfl, rfl⟩ := hrel
        by_cases hrn : r < n
        · have f1 : decide ((r : Int) < (n : Int)) = true := by rw [decide_eq_true_eq]; omega
          have f2 : decide (r < n) = true := by rw [decide_eq_true_eq]; exact hrn
          have c1 := ONE.out r hrn
          go_wp2_with fail
          go_roundw
          case rel => exact ⟨r + 1, by omega, by go_num, by first | rfl | trivial⟩
          case measure => simp [intOf]; omega
        · obtain rfl : r = n := by omega
          have c2 := IZ.out.kb.cell
          have c3 := IZ.out.list.cell
          have c4 := T3Z.out.cell
          have f4 := T3Z.out.frozen
          have K1 : Hid ((Z.setCell ⟨B + 1 + 1, 0, none⟩ (.bool true)).heap[D]? = some (.deferred (some []))) := Lib.hid ((KeepsOthers.setCell _ _ _).same D _ DK.out rfl)
          have RS := Lib.hid (Boxed.set (.bool true) T3Z.out)
          have BF := Lib.hid (BZ.out.setCell (p := ⟨B + 1 + 1, 0, none⟩) (by simp only; omega) (.bool true))
          go_wp2_with fail
          obtain ⟨Y, hY⟩ : ∃ Y, Z.setCell ⟨B + 1 + 1, 0, none⟩ (.bool true) = Y := ⟨_, rfl⟩
          rw [hY] at K1 RS BF
          rw [hY]
          clear hY
          refine ⟨by simp, .inl ⟨_, _, rfl, run_takeDeferred K1.out, ?_⟩⟩
          have r1 := cell_kept RS.out.cell (grownBy_putObj' _ D (.deferred none)) (fun r e => by cases e; exact ⟨_, K1.out, rfl⟩)
          refine ⟨.bool true, ?_, rfl, ?_⟩
          · simp [results, Try.f7, go_sem, r1]
          · exact BF.out.trans (belowK_b (w := w) (Nat.le_refl _) Y D _ _ (by omega) K1.out rfl rfl)
    case stop =>
      rintro D c pre V hD hSp ⟨_, hn⟩ _
      exact absurd hSp hn
theorem laceOnce_all (W H : Int) (w : World) (_ : -9223372036854775808 ≤ W ∧ W ≤ 9223372036854775807) (_ : -9223372036854775808 ≤ H ∧ H ≤ 9223372036854775807) :
    Calls Try.prog 7 #[.int .i64 W, .int .i64 H] w fun e w' => e = .returned (.bool true) ∧ Below w.heap.size w w' := laceOnce_any W H w
end Go.Proofs.Ytfmkcpilljfidaa
