/- []byte(s), and an append to it. By an AI agent. -/
import Derived.Test.YtmdbnnnaiidheaaNum
import Derived.Lib.ConvBytes
import Derived.ArgAppend
import Derived.Laws.IdiomCopy
import Derived.Deep.Upon
namespace Go.Proofs.Ytmdbnnnaiidheaa
open Go.RowKit
set_option linter.unusedVariables false
set_option linter.unusedSimpArgs false

/-- Bytes at the head of a row; the row's rest may be written. -/
structure Sb (w : World) (g K : Nat) (l : List UInt8) : Prop where
  cells : ∀ i u, (vBs l)[i]? = some u → w.cell? ⟨g, i, none⟩ = some u
  spare : ∀ j, l.length ≤ j → j < K → (w.cell? ⟨g, j, none⟩).isSome = true ∧ w.frozen? ⟨g, j, none⟩ = false
  le : l.length ≤ K
  lt : g < w.heap.size
theorem Sb.bs {w : World} {g K : Nat} {l : List UInt8} (h : Sb w g K l) : Bs w (.slice (some ⟨g, 0, none⟩) l.length K) l := by
  refine ⟨by simp [vBs], ?_⟩
  by_cases h0 : l.length = 0
  · exact .inl ⟨_, _, by rw [h0], h0⟩
  · exact .inr ⟨g, 0, K, rfl, h.le, by omega, fun i u hu => by rw [Nat.zero_add]; exact h.cells i u hu⟩
theorem str_row (nm : List UInt8) (w : World) : ∃ K W, (convert 9 22 (.string (strOf nm))).run Try.prog w = .ok (.slice (some ⟨w.heap.size, 0, none⟩) nm.length K) W ∧ Sb W w.heap.size K nm ∧ Below w.heap.size w W ∧ W.heap.size = w.heap.size + 1 := by
  have hge := grownCap_ge w nm.length 0 5
  have hnew := Lib.bytesWorld_at_new w 5 (strOf nm)
  have hsz : (Lib.bytesCells w 5 (strOf nm)).size = grownCap w nm.length 0 5 := by
    have : (strOf nm).data.size = nm.length := by simp [strOf]
    simp [Lib.bytesCells, strOf_size, this]; omega
  refine ⟨grownCap w nm.length 0 5, Lib.bytesWorld w 5 (strOf nm), ?_, ⟨fun i u hu => ?_, fun j h1 h2 => ?_, hge, by rw [Lib.bytesWorld_size]; omega⟩, ⟨rfl, rfl, rfl, by rw [Lib.bytesWorld_size]; omega, fun k hk => Lib.bytesWorld_at_old w _ _ k hk⟩, Lib.bytesWorld_size _ _ _⟩
  · have := Lib.run_convert_string_bytes (P := Try.prog) w 9 22 5 (strOf nm) Try.underlying9 Try.underlying22 Try.underlying5
    rw [strOf_size] at this
    exact this
  · have hi : i < nm.length := by have := (List.getElem?_eq_some_iff.1 hu).1; simpa [vBs] using this
    rw [Lib.bytesWorld_cell w _ _ i (by rw [strOf_size]; exact hi)]
    rw [← hu]
    simp [strOf, List.getD, hi, vBs, vB]
  · constructor
    · rw [cell_of_row _ _ j _ _ _ hnew]
      rw [Array.getElem?_eq_getElem (by rw [hsz]; exact h2)]
      rfl
    · simp only [World.frozen?, hnew, hsz]
      simp
      omega
theorem sb_setCells {w : World} {g K : Nat} {l m : List UInt8} (h : Sb w g K l) (hr : l.length + m.length ≤ K) : Bs (w.setCells g (0 + l.length * 1) (vBs m)) (.slice (some ⟨g, 0, none⟩) (l ++ m).length K) (l ++ m) := by
  rw [Nat.zero_add, Nat.mul_one]
  refine ⟨by simp [vBs], ?_⟩
  by_cases h0 : (l ++ m).length = 0
  · exact .inl ⟨_, _, by rw [h0], h0⟩
  · refine .inr ⟨g, 0, K, rfl, by rw [List.length_append]; omega, by omega, fun i u hu => ?_⟩
    rw [Nat.zero_add]
    rw [vBs_append] at hu
    by_cases hi : i < l.length
    · rw [List.getElem?_append_left (by rw [vBs_length]; exact hi)] at hu
      rw [World.cell?_setCells_out g (vBs m) _ w _ (fun _ _ => .inl hi)]
      exact h.cells i u hu
    · rw [List.getElem?_append_right (by rw [vBs_length]; omega), vBs_length] at hu
      obtain ⟨hj, hu⟩ := List.getElem?_eq_some_iff.1 hu
      have := World.cell?_setCells_in g (vBs m) l.length w (fun j hj => (h.spare (l.length + j) (by omega) (by rw [vBs_length] at hj; omega)).1) (i - l.length) hj
      rw [show l.length + (i - l.length) = i by omega] at this
      rw [this, hu]
theorem grown_cells (g : Nat) : ∀ (vs : List Value) (o : Nat) (w : World), w.grownBy (w.setCells g o vs) (some g)
  | [], o, w => ⟨rfl, rfl, rfl, Nat.le_refl _, fun _ _ _ => rfl⟩
  | v :: vs, o, w => by
    have h := grown_cells g vs (o + 1) (w.setCell ⟨g, o, none⟩ v)
    refine ⟨h.os, h.tape, h.output, Nat.le_trans (by simp) h.size, fun k hk hne => ?_⟩
    have h2 := h.block k (by simpa using hk) hne
    rw [Go.Deep.blk_setCell_other _ _ _ _ (fun e => hne (by simp only at e; rw [e]))] at h2
    exact h2
/-- append to it, whatever the source -/
theorem wpList_appS {w : World} {ops : Array Oper} {rest : List Oper} {o : Oper} {a : Act} {Q : Exit → Act → World → Prop} (hg : o.guard = none) (s x : Operand) (hop : o.op = Op.call { callee := Callee.builtin Builtin.append, args := #[s, x], argTypes := #[22, 22] })
    {g K : Nat} {l m : List UInt8} (hs : a.eval s = .slice (some ⟨g, 0, none⟩) l.length K) (h : Sb w g K l) (src : Value) (hx : a.eval x = src) (hb : Bs w src m) (hlen : l.length + m.length ≤ 140737488355328)
    (hk : ∀ v' w', Bs w' v' (l ++ m) → w.grownBy w' (some g) → wpList Try.prog ops Q rest (a.put o.dst v') w') : wpList Try.prog ops Q (o :: rest) a w := by
  obtain ⟨i, hi, hz, hsz, hby⟩ := tyB.hi
  rcases hb.shape with ⟨ao, c, rfl, rfl⟩ | ⟨b, off, c, rfl, hc, hn, hcell⟩
  · refine wpList_plain hg fun K' hK' => ?_
    have hrun : (Builtin.append_ #[22, 22] o.type #[.slice (some ⟨g, 0, none⟩) l.length K, .slice ao 0 c]).run Try.prog w = .ok (.slice (some ⟨g, 0, none⟩) l.length K) w := by
      cases ao <;> simp [Builtin.append_, run_underlying tyB.ht, sizeOf, typeInfo, hi, Builtin.lenOf, Builtin.firstCells, storeCells, h.le, loadCells, loadCellsFrom]
    unfold Oper.wp execOp
    simp only [hop, resolve, invoke, builtin, Sem.run_bind, Sem.run_pure, Result.andThen_ok, List.map_toArray, List.map_cons, List.map_nil, hs, hx, hrun]
    exact hK' _ _ (hk _ w (by simpa using h.bs) ⟨rfl, rfl, rfl, Nat.le_refl _, fun _ _ _ => rfl⟩)
  · refine wpList_append_arg w hg s x 22 hop 5 i (.int .u8 0) 1 1 tyB.ht hi hz hsz hby rfl (by decide) g 0 l.length K (vBs l) hs (by simp [vBs]) (fun j u hj => by rw [Nat.zero_add]; exact h.cells j u hj) ⟨b, off, none⟩ m.length c (vBs m) hx (by simp [vBs]) (fun j u hj => ?_) (vBs_one m) (fun hr j hj => ?_) (by unfold maxLen; omega) (by omega) (fun hr => ?_) (fun hr v' w' ho hgr => ?_)
    · rw [add_at]
      have hj' : j < m.length := by have := (List.getElem?_eq_some_iff.1 hj).1; rw [vBs_length] at this; exact this
      rw [hcell j hj']
      rw [← hj]
      simp [vBs, vB, hj']
    · rw [Nat.zero_add, Nat.mul_one]
      rw [vBs_length] at hj
      exact h.spare (l.length + j) (by omega) (by omega)
    · have hb2 := sb_setCells h hr
      rw [List.length_append] at hb2
      exact hk _ _ hb2 (grown_cells g _ _ w)
    · refine hk v' w' ?_ ⟨hgr.os, hgr.tape, hgr.output, hgr.size, fun k hkl _ => hgr.block k hkl (by simp)⟩
      have := sl_of_owns ho
      rw [← vBs_append] at this
      unfold Bs
      rw [List.length_append]
      exact this
end Go.Proofs.Ytmdbnnnaiidheaa
