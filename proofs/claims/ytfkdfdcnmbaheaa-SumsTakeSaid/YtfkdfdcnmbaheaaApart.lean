/- Appends that keep what stands; rows that are marked and grown: the laws behind burnishnum.Apart. By an AI agent. -/
import Derived.Test.YtfkdfdcnmbaheaaNum
import Derived.ArgAppend
namespace Go.Proofs.Ytfkdfdcnmbaheaa
open Go.RowKit
set_option linter.unusedVariables false
set_option linter.unusedSimpArgs false

theorem own_mono {w : World} {base base' : Nat} {e : TypeId} {size : Nat} {v : Value} {n : Nat} {xs : List Value} (h : w.ownsRow base e size v n xs) (hb : base' ≤ base) : w.ownsRow base' e size v n xs := by
  refine ⟨h.1, ?_⟩
  rcases h.2 with h | ⟨g, cap, cur, hv, hg, hr⟩
  · exact .inl h
  · exact .inr ⟨g, cap, cur, hv, Nat.le_trans hb hg, hr⟩
theorem own_fresh {w : World} {base : Nat} {e : TypeId} {size : Nat} {v : Value} {n : Nat} {xs : List Value} (h : w.ownsRow base e size v n xs) (hn : 0 < n) : ∃ k, v.ownBlock = some k ∧ base ≤ k := by
  rcases h.2 with ⟨_, h⟩ | ⟨g, cap, cur, hv, hg, hr⟩
  · omega
  · exact ⟨g, by rw [hv]; rfl, hg⟩
theorem own_old {w w' : World} {base : Nat} {e : TypeId} {size : Nat} {v : Value} {n : Nat} {xs : List Value} (h : w.ownsRow base e size v n xs) (hb : ∀ b, v.ownBlock = some b → w'.heap[b]? = w.heap[b]?) : w'.ownsRow base e size v n xs := by
  refine ⟨h.1, ?_⟩
  rcases h.2 with h | ⟨g, cap, cur, hv, hg, hc, hr⟩
  · exact .inl h
  · refine .inr ⟨g, cap, cur, hv, hg, ?_, hr⟩
    rw [hb g (by rw [hv]; rfl)]
    exact hc
theorem own_set {w : World} {base : Nat} {e : TypeId} {g n c j : Nat} {xs : List Value} (h : w.ownsRow base e 1 (.slice (some ⟨g, 0, none⟩) n c) n xs) (hj : j < n) (u : Value) : (w.setCell ⟨g, j, none⟩ u).ownsRow base e 1 (.slice (some ⟨g, 0, none⟩) n c) n (xs.set j u) := by
  refine ⟨by rw [List.length_set]; exact h.1, ?_⟩
  rcases h.2 with ⟨hv, _⟩ | ⟨g', cap, cur, hv, hg, hc, h1, h2, h3, h4⟩
  · cases hv
  · simp only [Value.slice.injEq, Option.some.injEq, Addr.mk.injEq, and_true, true_and] at hv
    obtain ⟨rfl, rfl⟩ := hv
    refine .inr ⟨g, c, cur.setIfInBounds j u, rfl, hg, heap_setCell_same w g j cur e u hc, h1, h2, by simpa using h3, ?_⟩
    rw [← h4, Array.toList_setIfInBounds, List.take_set]
theorem own_cell {w : World} {base : Nat} {e : TypeId} {g n c j : Nat} {xs : List Value} {u : Value} (h : w.ownsRow base e 1 (.slice (some ⟨g, 0, none⟩) n c) n xs) (hu : xs[j]? = some u) : w.cell? ⟨g, j, none⟩ = some u ∧ w.frozen? ⟨g, j, none⟩ = false := by
  have h1 := h.cells (g := g) rfl j u hu
  rw [add_at, Nat.zero_add] at h1
  refine ⟨h1, ?_⟩
  rcases h.2 with ⟨hv, _⟩ | ⟨g', cap, cur, hv, hg, hc, _⟩
  · cases hv
  · simp only [Value.slice.injEq, Option.some.injEq, Addr.mk.injEq, and_true, true_and] at hv
    obtain ⟨rfl, rfl⟩ := hv
    exact frozen_of_row w g j cur e hc

/-- an append that tells what stays: all cells but those of the row behind its elements -/
theorem wpList_appK {P : Program} {w : World} {ops : Array Oper} {rest : List Oper} {o : Oper} {a : Act} {Q : Exit → Act → World → Prop} {t e : TypeId} {z : Value} {bytes : Nat} (T : ElemTy P t e z 1 bytes) (hgd : o.guard = none) (s x : Operand)
    (ho : o.op = .call { callee := .builtin .append, args := #[s, x], argTypes := #[t, t] }) (base : Nat)
    (v : Value) (n : Nat) (xs : List Value) (hs : a.eval s = v) (hown : w.ownsRow base e 1 v n xs) (src : Value) (m : Nat) (news : List Value) (hx : a.eval x = src) (hsrc : SlN 1 w src m news) (hm : 0 < m) (h1 : ∀ u ∈ news, u.oneCell' = true)
    (hbytes : (n + m) * bytes ≤ 140737488355328) (h63 : n + m ≤ 140737488355328) (hbase : base ≤ w.heap.size)
    (h : ∀ v' w', w'.ownsRow base e 1 v' (n + m) (xs ++ news) → w.grownBy w' v.ownBlock → (v'.ownBlock = v.ownBlock ∨ ∃ k, v'.ownBlock = some k ∧ w.heap.size ≤ k) →
      (∀ b off u, (v.ownBlock = some b → off < n) → w.cell? ⟨b, off, none⟩ = some u → w'.cell? ⟨b, off, none⟩ = some u) → wpList P ops Q rest (a.put o.dst v') w') : wpList P ops Q (o :: rest) a w := by
  obtain ⟨i, hi, hz, hsz, hby⟩ := T.hi
  have h63' : n + m ≤ maxLen := by unfold maxLen; omega
  rcases hsrc.2 with ⟨_, _, _, h0⟩ | ⟨sb, off, sc, rfl, hsc, _, hcell⟩
  · omega
  have grow : ∀ ao cap, a.eval s = .slice ao n cap → (ao = none → n = 0 ∧ cap = 0) → (∀ b, ao = some b → ∀ j u, xs[j]? = some u → w.cell? (b.add j) = some u) → cap < n + m → wpList P ops Q (o :: rest) a w := by
    intro ao cap hs' hn holds hfull
    refine wpList_append_grows w hgd s x t ho e i z 1 bytes T.ht hi hz hsz hby T.hz T.pos ao n cap xs hs' hn hown.1 holds ⟨sb, off, none⟩ m sc news hx hsrc.1 (fun j u hu => by rw [add_at]; exact hcell j u hu) h1 hfull h63' hbytes ?_
    intro v' w' hown' hg'
    refine h v' w' (own_mono hown' hbase) ⟨hg'.os, hg'.tape, hg'.output, hg'.size, fun k hk _ => hg'.block k hk (by simp)⟩ (.inr (own_fresh hown' (by omega))) ?_
    intro b off u _ hu
    rw [World.cell?_of_block (hg'.block b (World.block_lt_of_cell? w _ hu) (by simp))]
    exact hu
  rcases hown.2 with ⟨hv, hn0⟩ | ⟨g, cap, cur, hv, hb, hg, hnc, hmx, hsz1, htk⟩
  · exact grow none 0 (by rw [hs, hv, hn0]) (fun _ => ⟨hn0, rfl⟩) (fun b hb => by cases hb) (by omega)
  · by_cases hroom : n + m ≤ cap
    · subst hv
      refine wpList_fit T hgd s x ho base g n cap xs hs hown _ m news hx hsrc h1 hroom ?_
      intro w' hown' hg'
      refine h _ w' hown' hg' (.inl rfl) ?_
      intro b off u hlt hu
      by_cases hbg : b = g
      · subst hbg
        have hoff := hlt rfl
        have hl : off < xs.length := by rw [hown.1]; omega
        have e1 := (own_cell hown (List.getElem?_eq_getElem hl)).1
        rw [hu] at e1
        have e2 : (xs ++ news)[off]? = some u := by rw [List.getElem?_append_left hl, List.getElem?_eq_getElem hl]; exact e1.symm
        have e3 := hown'.cells (g := b) rfl off u e2
        rw [add_at, Nat.zero_add] at e3
        exact e3
      · rw [World.cell?_of_block (hg'.block b (World.block_lt_of_cell? w _ hu) (by intro he; exact hbg (Option.some.inj he)))]
        exact hu
    · refine grow (some ⟨g, 0, none⟩) cap (by rw [hs, hv]) (fun h => by cases h) ?_ (by omega)
      intro b hb' j u hu
      cases hb'
      exact hown.cells (g := g) (by rw [hv]; rfl) j u hu

/-- the bytes that mark a list -/
def mrk (k j : Nat) : UInt8 := UInt8.ofNat (29 * k + 5 * j + 3)
def marks (k m : Nat) : List UInt8 := (List.range m).map (mrk k)
theorem marks_len (k m : Nat) : (marks k m).length = m := by simp [marks]
theorem marks_succ (k m : Nat) : marks k (m + 1) = marks k m ++ [mrk k m] := by simp [marks, List.range_succ]
theorem marks_at (k m j : Nat) (h : j < m) : (marks k m)[j]? = some (mrk k j) := by simp [marks, h]
/-- the j-th mark is laid -/
theorem marks_set (k j : Nat) (L : List UInt8) (hj : j < L.length) : (marks k j ++ L.drop j).set j (mrk k j) = marks k (j + 1) ++ L.drop (j + 1) := by
  rw [List.set_append_right _ _ (by rw [marks_len]; exact Nat.le_refl _), marks_len, Nat.sub_self, List.drop_eq_getElem_cons hj, List.set_cons_zero, marks_succ, List.append_assoc]
  rfl
end Go.Proofs.Ytfkdfdcnmbaheaa
