/- Appends that say where the row lies; what an own row's growth leaves alone. By an AI agent. -/
import Derived.Test.YtnhalnjdlkdnkaaLib
import Derived.Maps.AppendAt
import Derived.Deep.MidRow
namespace Go.Proofs.Ytnhalnjdlkdnkaa
open Go.RowKit
set_option linter.unusedVariables false
set_option linter.unusedSimpArgs false

theorem run_appAt {P : Program} (w : World) {t e : TypeId} {z : Value} {size bytes : Nat} (T : ElemTy P t e z size bytes) (ty : TypeId) (base : Nat)
    (v : Value) (n : Nat) (xs : List Value) (hown : w.ownsRow base e size v n xs) (x : Value) (m : Nat) (news : List Value) (hx : SlN size w x m news) (h1 : ∀ u ∈ news, u.oneCell' = true)
    (hbytes : (n + m) * bytes ≤ 140737488355328) (h63 : n + m ≤ 140737488355328) (hbase : base ≤ w.heap.size) :
    ∃ v' w', (Builtin.append_ #[t, t] ty #[v, x]).run P w = .ok v' w' ∧ w'.ownsRow base e size v' (n + m) (xs ++ news) ∧ w.grownBy w' v.ownBlock ∧ (v'.ownBlock = v.ownBlock ∨ v'.ownBlock = some w.heap.size) := by
  obtain ⟨i, hi, hz, hsz, hby⟩ := T.hi
  have h63' : n + m ≤ maxLen := by unfold maxLen; omega
  rcases hx.2 with ⟨a, cap, rfl, rfl⟩ | ⟨b, off, cap, rfl, hc, hn, hcell⟩
  · have hnil : news = [] := List.eq_nil_of_length_eq_zero (by simpa using hx.1)
    subst hnil
    cases a with
    | none =>
      refine ⟨v, w, ?_, by simpa using hown, ⟨rfl, rfl, rfl, Nat.le_refl _, fun _ _ _ => rfl⟩, .inl rfl⟩
      rcases hown.2 with ⟨rfl, rfl⟩ | ⟨g, cap, cur, rfl, _, hg, hnc, _⟩
      · simp [Builtin.append_, run_underlying T.ht, sizeOf, typeInfo, hi, Builtin.lenOf, Builtin.firstCells]
      · simp [Builtin.append_, run_underlying T.ht, sizeOf, typeInfo, hi, Builtin.lenOf, Builtin.firstCells, hnc, storeCells]
    | some ad =>
      obtain ⟨v', w', h⟩ := run_append_own_at w base t ty e i z size bytes T.ht hi hz hsz hby T.hz T.pos v n xs hown ad 0 cap [] (by simp) (by simp) (by simp) h63' hbytes hbase
      exact ⟨v', w', h.1, h.2.1, h.2.2.1, h.2.2.2.2⟩
  · obtain ⟨v', w', h⟩ := run_append_own_at w base t ty e i z size bytes T.ht hi hz hsz hby T.hz T.pos v n xs hown ⟨b, off, none⟩ m cap news hx.1 (fun j u hu => by rw [add_at]; exact hcell j u hu) h1 h63' hbytes hbase
    exact ⟨v', w', h.1, h.2.1, h.2.2.1, h.2.2.2.2⟩

theorem wpList_appAt {P : Program} {w : World} {ops : Array Oper} {rest : List Oper} {o : Oper} {a : Act} {Q : Exit → Act → World → Prop} {t e : TypeId} {z : Value} {size bytes : Nat} (T : ElemTy P t e z size bytes) (hgd : o.guard = none) (s x : Operand)
    (ho : o.op = .call { callee := .builtin .append, args := #[s, x], argTypes := #[t, t] }) (base : Nat)
    (v : Value) (n : Nat) (xs : List Value) (hs : a.eval s = v) (hown : w.ownsRow base e size v n xs) (src : Value) (m : Nat) (news : List Value) (hx : a.eval x = src) (hsrc : SlN size w src m news) (h1 : ∀ u ∈ news, u.oneCell' = true)
    (hbytes : (n + m) * bytes ≤ 140737488355328) (h63 : n + m ≤ 140737488355328) (hbase : base ≤ w.heap.size)
    (h : ∀ v' w', w'.ownsRow base e size v' (n + m) (xs ++ news) → w.grownBy w' v.ownBlock → (v'.ownBlock = v.ownBlock ∨ v'.ownBlock = some w.heap.size) → wpList P ops Q rest (a.put o.dst v') w') : wpList P ops Q (o :: rest) a w := by
  refine wpList_plain hgd fun K hK => ?_
  obtain ⟨v', w', hr, h2, h3, h4⟩ := run_appAt (P := P) w T o.type base v n xs hown src m news hsrc h1 hbytes h63 hbase
  unfold Oper.wp execOp
  simp only [ho, resolve, invoke, builtin, Sem.run_bind, Sem.run_pure, Result.andThen_ok, List.map_toArray, List.map_cons, List.map_nil, hs, hx, hr]
  exact hK _ _ (h v' w' h2 h3 h4)

/-- From (w0, v0) on only v0's row has turned; v lies there or in a block that is new. -/
def Gr (w0 : World) (v0 : Value) (w : World) (v : Value) : Prop := w0.grownBy w v0.ownBlock ∧ (v.ownBlock = v0.ownBlock ∨ ∃ k, v.ownBlock = some k ∧ w0.heap.size ≤ k)
theorem Gr.refl (w : World) (v : Value) : Gr w v w v := ⟨⟨rfl, rfl, rfl, Nat.le_refl _, fun _ _ _ => rfl⟩, .inl rfl⟩
theorem Gr.below {w0 w w' : World} {v0 v : Value} (h : Gr w0 v0 w v) (hb : Below w.heap.size w w') : Gr w0 v0 w' v :=
  ⟨⟨hb.os.trans h.1.os, hb.tape.trans h.1.tape, hb.output.trans h.1.output, Nat.le_trans h.1.size hb.size, fun k hk hne => by
    rw [hb.block k (Nat.lt_of_lt_of_le hk h.1.size)]; exact h.1.block k hk hne⟩, h.2⟩
theorem Gr.app {w0 w w' : World} {v0 v v' : Value} (h : Gr w0 v0 w v) (hg : w.grownBy w' v.ownBlock) (hv : v'.ownBlock = v.ownBlock ∨ v'.ownBlock = some w.heap.size) : Gr w0 v0 w' v' := by
  refine ⟨⟨hg.os.trans h.1.os, hg.tape.trans h.1.tape, hg.output.trans h.1.output, Nat.le_trans h.1.size hg.size, fun k hk hne => ?_⟩, ?_⟩
  · rw [hg.block k (Nat.lt_of_lt_of_le hk h.1.size), h.1.block k hk hne]
    rcases h.2 with h2 | ⟨q, h2, hq⟩
    · rw [h2]; exact hne
    · rw [h2]; intro he; have := Option.some.inj he; omega
  · rcases hv with hv | hv
    · rw [hv]; exact h.2
    · exact .inr ⟨_, hv, h.1.size⟩
theorem Gr.trans {w0 w1 w2 : World} {v0 v1 v2 : Value} (h : Gr w0 v0 w1 v1) (h' : Gr w1 v1 w2 v2) : Gr w0 v0 w2 v2 := by
  refine ⟨⟨h'.1.os.trans h.1.os, h'.1.tape.trans h.1.tape, h'.1.output.trans h.1.output, Nat.le_trans h.1.size h'.1.size, fun k hk hne => ?_⟩, ?_⟩
  · rw [h'.1.block k (Nat.lt_of_lt_of_le hk h.1.size), h.1.block k hk hne]
    rcases h.2 with h2 | ⟨q, h2, hq⟩
    · rw [h2]; exact hne
    · rw [h2]; intro he; have := Option.some.inj he; omega
  · rcases h'.2 with h2 | ⟨q, h2, hq⟩
    · rw [h2]; exact h.2
    · exact .inr ⟨q, h2, Nat.le_trans h.1.size hq⟩
theorem Gr.heap {w0 w : World} {v0 v : Value} (h : Gr w0 v0 w v) {k : Nat} {o : Obj} (hk : w0.heap[k]? = some o) (hne : some k ≠ v0.ownBlock) : w.heap[k]? = some o := by
  rw [h.1.block k (Array.getElem?_eq_some_iff.1 hk).1 hne]; exact hk
theorem Gr.cell {w0 w : World} {v0 v : Value} (h : Gr w0 v0 w v) {a : Addr} {u : Value} (hc : w0.cell? a = some u) (hne : some a.block ≠ v0.ownBlock) : w.cell? a = some u := by
  rw [World.cell?_of_block (h.1.block a.block (World.block_lt_of_cell? w0 a hc) hne)]; exact hc
theorem Gr.size {w0 w : World} {v0 v : Value} (h : Gr w0 v0 w v) : w0.heap.size ≤ w.heap.size := h.1.size
/-- the row of an own slice is no block that has been made since -/
theorem own_new {w : World} {base : Nat} {e : TypeId} {size : Nat} {v : Value} {n : Nat} {xs : List Value} (h : w.ownsRow base e size v n xs) {k : Nat} (hk : w.heap.size ≤ k) : some k ≠ v.ownBlock := by
  intro he
  have := (h.lt k he.symm).2
  omega
theorem own_low {w : World} {base : Nat} {e : TypeId} {size : Nat} {v : Value} {n : Nat} {xs : List Value} (h : w.ownsRow base e size v n xs) {k : Nat} (hk : k < base) : some k ≠ v.ownBlock := by
  intro he
  have := (h.lt k he.symm).1
  omega
end Go.Proofs.Ytnhalnjdlkdnkaa
