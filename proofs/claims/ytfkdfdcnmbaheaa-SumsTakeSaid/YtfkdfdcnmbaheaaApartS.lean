/- The states of burnishnum.Apart and their steps, with no program in sight. By an AI agent. -/
import Derived.Test.YtfkdfdcnmbaheaaApart
namespace Go.Proofs.Ytfkdfdcnmbaheaa
open Go.RowKit
set_option linter.unusedVariables false
set_option linter.unusedSimpArgs false

/-- the lists: each a row of its own, or nil -/
structure Lists (base gl N : Nat) (V : Nat → Value) (n : Nat → Nat) (w0 : World) : Prop where
  dis : ∀ i, i < N → ∀ j, j < N → i ≠ j → ∀ b, (V i).ownBlock = some b → (V j).ownBlock ≠ some b
  glne : ∀ i, i < N → (V i).ownBlock ≠ some gl
  lt : ∀ i, i < N → ∀ b, (V i).ownBlock = some b → base ≤ b ∧ b < w0.heap.size
  form : ∀ i, i < N → (V i = .slice none 0 0 ∧ n i = 0) ∨ ∃ g c, V i = .slice (some ⟨g, 0, none⟩) (n i) c
  gl0 : gl < w0.heap.size
  base0 : base ≤ w0.heap.size

/-- while the lists are marked -/
structure Ap1 (base gl N : Nat) (V : Nat → Value) (n : Nat → Nat) (w0 : World) (C : Nat → List UInt8) (w : World) : Prop where
  own : ∀ i, i < N → w.ownsRow base 5 1 (V i) (n i) (vBs (C i))
  cell : ∀ i, i < N → w.cell? ⟨gl, i, none⟩ = some (V i)
  bel : Below base w0 w
theorem Ap1.congr {base gl N : Nat} {V : Nat → Value} {n : Nat → Nat} {w0 w : World} {C C' : Nat → List UInt8} (h : Ap1 base gl N V n w0 C w) (hc : ∀ i, i < N → C' i = C i) : Ap1 base gl N V n w0 C' w :=
  ⟨fun i hi => by rw [hc i hi]; exact h.own i hi, h.cell, h.bel⟩
theorem Ap1.set {base gl N : Nat} {V : Nat → Value} {n : Nat → Nat} {w0 w : World} {C C' : Nat → List UInt8} (h : Ap1 base gl N V n w0 C w) (hL : Lists base gl N V n w0) {k g c j : Nat} (hk : k < N) (hV : V k = .slice (some ⟨g, 0, none⟩) (n k) c) (hj : j < n k) (x : UInt8)
    (hk' : C' k = (C k).set j x) (ho : ∀ i, i < N → i ≠ k → C' i = C i) : Ap1 base gl N V n w0 C' (w.setCell ⟨g, j, none⟩ (vB x)) := by
  have hVb : (V k).ownBlock = some g := by rw [hV]; rfl
  refine ⟨fun i hi => ?_, fun i hi => ?_, h.bel.setCell (by exact (hL.lt k hk g hVb).1) _⟩
  · by_cases hik : i = k
    · subst hik
      have h1 := h.own i hi
      rw [hV] at h1 ⊢
      have h2 := own_set h1 hj (vB x)
      rw [hk']
      have h3 : vBs ((C i).set j x) = (vBs (C i)).set j (vB x) := by unfold vBs; rw [List.map_set]
      rw [h3]
      exact h2
    · rw [ho i hi hik]
      refine own_old (h.own i hi) (fun b hb => heap_setCell_other w _ b _ ?_)
      intro he
      exact hL.dis i hi k hk hik b hb (by rw [hVb, he])
  · rw [World.cell?_setCell_other]
    · exact h.cell i hi
    · intro he
      have : gl = g := (congrArg Addr.block he).symm
      exact hL.glne k hk (by rw [hVb, this])

/-- behind an append onto cur's row (n0 elements) -/
def Keeps (w w' : World) (cur : Value) (n0 : Nat) : Prop := ∀ b off u, (cur.ownBlock = some b → off < n0) → w.cell? ⟨b, off, none⟩ = some u → w'.cell? ⟨b, off, none⟩ = some u
theorem Bs.keeps {w w' : World} {cur v : Value} {n0 : Nat} {l : List UInt8} (h : Bs w v l) (hk : Keeps w w' cur n0) (hne : ∀ b, v.ownBlock = some b → cur.ownBlock ≠ some b) : Bs w' v l := by
  refine ⟨h.1, ?_⟩
  rcases h.2 with h | ⟨b, off, cap, hv, hc, hn, hx⟩
  · exact .inl h
  · exact .inr ⟨b, off, cap, hv, hc, hn, fun i u hu => hk b _ u (fun he => absurd he (hne b (by rw [hv]; rfl))) (hx i u hu)⟩
theorem Bs.keeps0 {w w' : World} {cur : Value} {g nk c n0 : Nat} {l : List UInt8} (h : Bs w (.slice (some ⟨g, 0, none⟩) nk c) l) (hk : Keeps w w' cur n0) (hn0 : nk ≤ n0) : Bs w' (.slice (some ⟨g, 0, none⟩) nk c) l := by
  refine ⟨h.1, ?_⟩
  rcases h.2 with h | ⟨b, off, cap, hv, hc, hn, hx⟩
  · exact .inl h
  · refine .inr ⟨b, off, cap, hv, hc, hn, fun i u hu => hk b _ u (fun _ => ?_) (hx i u hu)⟩
    simp only [Value.slice.injEq, Option.some.injEq, Addr.mk.injEq, and_true] at hv
    obtain ⟨⟨rfl, rfl⟩, rfl, rfl⟩ := hv
    have hi := (List.getElem?_eq_some_iff.1 hu).1
    rw [vBs_length] at hi
    omega
theorem grown_block {w w' : World} {row : Option Nat} (hg : w.grownBy w' row) {b : Nat} (hb : b < w.heap.size) (hne : row ≠ some b) : w'.heap[b]? = w.heap[b]? := hg.block b hb (fun he => hne he.symm)

/-- between two lists that grow: k have grown -/
structure Ap2 (base gl N : Nat) (V : Nat → Value) (n : Nat → Nat) (w0 : World) (k : Nat) (G : Nat → Value) (gs : Value) (w : World) : Prop where
  row : w.ownsRow base 22 1 gs k ((List.range k).map G)
  gB : ∀ i, i < k → Bs w (G i) (marks i (n i + 10))
  vR : ∀ i, i < N → Bs w (V i) (marks i (n i))
  vO : ∀ i, k ≤ i → i < N → w.ownsRow base 5 1 (V i) (n i) (vBs (marks i (n i)))
  cell : ∀ i, i < N → w.cell? ⟨gl, i, none⟩ = some (V i)
  bel : Below base w0 w
  d1 : ∀ i, i < k → ∀ b, (G i).ownBlock = some b → b < w.heap.size ∧ gs.ownBlock ≠ some b ∧ ∀ j, k ≤ j → j < N → (V j).ownBlock ≠ some b
  d2 : ∀ b, gs.ownBlock = some b → b < w.heap.size ∧ b ≠ gl ∧ ∀ i, i < N → (V i).ownBlock ≠ some b
/-- list k has grown by m -/
structure Ap3 (base gl N : Nat) (V : Nat → Value) (n : Nat → Nat) (w0 : World) (k m : Nat) (G : Nat → Value) (gs cur : Value) (w : World) : Prop where
  row : w.ownsRow base 22 1 gs k ((List.range k).map G)
  gB : ∀ i, i < k → Bs w (G i) (marks i (n i + 10))
  vR : ∀ i, i < N → Bs w (V i) (marks i (n i))
  vO : ∀ i, k < i → i < N → w.ownsRow base 5 1 (V i) (n i) (vBs (marks i (n i)))
  cell : ∀ i, i < N → w.cell? ⟨gl, i, none⟩ = some (V i)
  bel : Below base w0 w
  d1 : ∀ i, i < k → ∀ b, (G i).ownBlock = some b → b < w.heap.size ∧ gs.ownBlock ≠ some b ∧ cur.ownBlock ≠ some b ∧ ∀ j, k < j → j < N → (V j).ownBlock ≠ some b
  d2 : ∀ b, gs.ownBlock = some b → b < w.heap.size ∧ b ≠ gl ∧ cur.ownBlock ≠ some b ∧ ∀ i, i < N → (V i).ownBlock ≠ some b
  own : w.ownsRow base 5 1 cur (n k + m) (vBs (marks k (n k + m)))
  d3 : ∀ b, cur.ownBlock = some b → b < w.heap.size ∧ b ≠ gl ∧ ∀ i, i < N → i ≠ k → (V i).ownBlock ≠ some b
section
variable {base gl N : Nat} {V : Nat → Value} {n : Nat → Nat} {w0 w w' : World} {k m : Nat} {G : Nat → Value} {gs cur : Value}
theorem Ap2.start (h : Ap2 base gl N V n w0 k G gs w) (hL : Lists base gl N V n w0) (hk : k < N) : Ap3 base gl N V n w0 k 0 G gs (V k) w :=
  ⟨h.row, h.gB, h.vR, fun i hi => h.vO i (Nat.le_of_lt hi), h.cell, h.bel,
    fun i hi b hb => ⟨(h.d1 i hi b hb).1, (h.d1 i hi b hb).2.1, (h.d1 i hi b hb).2.2 k (Nat.le_refl _) hk, fun j hj => (h.d1 i hi b hb).2.2 j (Nat.le_of_lt hj)⟩,
    fun b hb => ⟨(h.d2 b hb).1, (h.d2 b hb).2.1, (h.d2 b hb).2.2 k hk, (h.d2 b hb).2.2⟩,
    h.vO k (Nat.le_refl _) hk,
    fun b hb => ⟨Nat.lt_of_lt_of_le (hL.lt k hk b hb).2 h.bel.size, fun he => hL.glne k hk (by rw [hb, he]), fun i hi hik => hL.dis k hk i hi (fun e => hik e.symm) b hb⟩⟩
theorem Ap3.below (h : Ap3 base gl N V n w0 k m G gs cur w) (hL : Lists base gl N V n w0) (hb : Below w.heap.size w w') : Ap3 base gl N V n w0 k m G gs cur w' := by
  have hbs : base ≤ w.heap.size := Nat.le_trans hL.base0 h.bel.size
  exact ⟨own_old h.row (fun b hb' => hb.block b (h.d2 b hb').1), fun i hi => (h.gB i hi).old hb, fun i hi => (h.vR i hi).old hb,
    fun i hi hiN => own_old (h.vO i hi hiN) (fun b hb' => hb.block b (Nat.lt_of_lt_of_le (hL.lt i hiN b hb').2 h.bel.size)), fun i hi => cell_old hb (h.cell i hi), h.bel.trans (hb.mono hbs),
    fun i hi b hb' => ⟨Nat.lt_of_lt_of_le (h.d1 i hi b hb').1 hb.size, (h.d1 i hi b hb').2⟩, fun b hb' => ⟨Nat.lt_of_lt_of_le (h.d2 b hb').1 hb.size, (h.d2 b hb').2⟩,
    own_old h.own (fun b hb' => hb.block b (h.d3 b hb').1), fun b hb' => ⟨Nat.lt_of_lt_of_le (h.d3 b hb').1 hb.size, (h.d3 b hb').2⟩⟩
/-- one byte more -/
theorem Ap3.app {cur' : Value} (h : Ap3 base gl N V n w0 k m G gs cur w) (hL : Lists base gl N V n w0) (hk : k < N) (hown : w'.ownsRow base 5 1 cur' (n k + m + 1) (vBs (marks k (n k + m)) ++ [vB (mrk k (n k + m))]))
    (hg : w.grownBy w' cur.ownBlock) (hat : cur'.ownBlock = cur.ownBlock ∨ ∃ q, cur'.ownBlock = some q ∧ w.heap.size ≤ q) (hkeep : Keeps w w' cur (n k + m)) : Ap3 base gl N V n w0 k (m + 1) G gs cur' w' := by
  have hcb : ∀ b, cur'.ownBlock = some b → cur.ownBlock = some b ∨ w.heap.size ≤ b := by
    intro b hb
    rcases hat with he | ⟨q, hq, hle⟩
    · exact .inl (he ▸ hb)
    · rw [hq] at hb; cases hb; exact .inr hle
  have hw0 : w0.heap.size ≤ w.heap.size := h.bel.size
  refine ⟨own_old h.row (fun b hb' => grown_block hg (h.d2 b hb').1 (h.d2 b hb').2.2.1), fun i hi => (h.gB i hi).keeps hkeep (fun b hb' => (h.d1 i hi b hb').2.2.1), fun i hi => ?_,
    fun i hi hiN => own_old (h.vO i hi hiN) (fun b hb' => grown_block hg (Nat.lt_of_lt_of_le (hL.lt i hiN b hb').2 hw0) (fun he => (h.d3 b he).2.2 i hiN (by omega) hb')),
    fun i hi => hkeep gl i _ (fun he => absurd rfl ((h.d3 gl he).2.1)) (h.cell i hi), h.bel.grown hg (Nat.le_trans hL.base0 hw0) (fun b hb => (h.own.lt b hb).1), fun i hi b hb' => ?_, fun b hb' => ?_, ?_, fun b hb => ?_⟩
  · by_cases hik : i = k
    · subst hik
      rcases hL.form i hi with ⟨hv, h0⟩ | ⟨g, c, hv⟩
      · have h1 := h.vR i hi
        rw [hv, h0] at h1 ⊢
        exact Bs.nil _ _ _
      · have h1 := h.vR i hi
        rw [hv] at h1 ⊢
        exact h1.keeps0 hkeep (Nat.le_add_right _ _)
    · exact (h.vR i hi).keeps hkeep (fun b hb' he => (h.d3 b he).2.2 i hi hik hb')
  · have hd := h.d1 i hi b hb'
    refine ⟨Nat.lt_of_lt_of_le hd.1 hg.size, hd.2.1, fun he => ?_, hd.2.2.2⟩
    rcases hcb b he with h1 | h1
    · exact hd.2.2.1 h1
    · have := hd.1; omega
  · have hd := h.d2 b hb'
    refine ⟨Nat.lt_of_lt_of_le hd.1 hg.size, hd.2.1, fun he => ?_, hd.2.2.2⟩
    rcases hcb b he with h1 | h1
    · exact hd.2.2.1 h1
    · have := hd.1; omega
  · rw [← Nat.add_assoc, marks_succ, vBs_append]
    exact hown
  · refine ⟨(hown.lt b hb).2, ?_, fun i hi hik => ?_⟩
    · rcases hcb b hb with h1 | h1
      · exact (h.d3 b h1).2.1
      · have := hL.gl0; omega
    · rcases hcb b hb with h1 | h1
      · exact (h.d3 b h1).2.2 i hi hik
      · intro he; have := (hL.lt i hi b he).2; omega
/-- the grown list is taken down -/
theorem Ap3.take {gs' : Value} (h : Ap3 base gl N V n w0 k 10 G gs cur w) (hL : Lists base gl N V n w0) (hk : k < N) (hown : w'.ownsRow base 22 1 gs' (k + 1) ((List.range k).map G ++ [cur]))
    (hg : w.grownBy w' gs.ownBlock) (hat : gs'.ownBlock = gs.ownBlock ∨ ∃ q, gs'.ownBlock = some q ∧ w.heap.size ≤ q) (hkeep : Keeps w w' gs k) : Ap2 base gl N V n w0 (k + 1) (fun i => if i = k then cur else G i) gs' w' := by
  have hcb : ∀ b, gs'.ownBlock = some b → gs.ownBlock = some b ∨ w.heap.size ≤ b := by
    intro b hb
    rcases hat with he | ⟨q, hq, hle⟩
    · exact .inl (he ▸ hb)
    · rw [hq] at hb; cases hb; exact .inr hle
  have hw0 : w0.heap.size ≤ w.heap.size := h.bel.size
  have hmap : (List.range (k + 1)).map (fun i => if i = k then cur else G i) = (List.range k).map G ++ [cur] := by
    rw [List.range_succ, List.map_append]
    congr 1
    · apply List.map_congr_left
      intro i hi
      rw [if_neg (by have := List.mem_range.1 hi; omega)]
    · simp
  refine ⟨by rw [hmap]; exact hown, fun i hi => ?_, fun i hi => (h.vR i hi).keeps hkeep (fun b hb' he => (h.d2 b he).2.2.2 i hi hb'),
    fun i hi hiN => own_old (h.vO i (by omega) hiN) (fun b hb' => grown_block hg (Nat.lt_of_lt_of_le (hL.lt i hiN b hb').2 hw0) (fun he => (h.d2 b he).2.2.2 i hiN hb')),
    fun i hi => hkeep gl i _ (fun he => absurd rfl ((h.d2 gl he).2.1)) (h.cell i hi), h.bel.grown hg (Nat.le_trans hL.base0 hw0) (fun b hb => (h.row.lt b hb).1), fun i hi b hb' => ?_, fun b hb' => ?_⟩
  · by_cases hik : i = k
    · subst hik
      simp only [if_pos]
      have h1 : Bs w cur (marks i (n i + 10)) := by
        have h2 := sl_of_owns h.own
        unfold Bs
        rw [marks_len]
        exact h2
      exact h1.keeps hkeep (fun b hb' he => (h.d2 b he).2.2.1 hb')
    · simp only [if_neg hik]
      exact (h.gB i (by omega)).keeps hkeep (fun b hb' he => (h.d1 i (by omega) b hb').2.1 he)
  · by_cases hik : i = k
    · subst hik
      simp only [if_pos] at hb'
      have hd := h.d3 b hb'
      refine ⟨Nat.lt_of_lt_of_le hd.1 hg.size, fun he => ?_, fun j hj hjN => hd.2.2 j hjN (by omega)⟩
      rcases hcb b he with h1 | h1
      · exact (h.d2 b h1).2.2.1 hb'
      · have := hd.1; omega
    · simp only [if_neg hik] at hb'
      have hd := h.d1 i (by omega) b hb'
      refine ⟨Nat.lt_of_lt_of_le hd.1 hg.size, fun he => ?_, fun j hj hjN => hd.2.2.2 j (by omega) hjN⟩
      rcases hcb b he with h1 | h1
      · exact hd.2.1 h1
      · have := hd.1; omega
  · refine ⟨(hown.lt b hb').2, ?_, fun i hi => ?_⟩
    · rcases hcb b hb' with h1 | h1
      · exact (h.d2 b h1).2.1
      · have := hL.gl0; omega
    · rcases hcb b hb' with h1 | h1
      · exact (h.d2 b h1).2.2.2 i hi
      · intro he; have := (hL.lt i hi b he).2; omega
/-- all lists are marked; nothing has grown yet -/
theorem Ap2.first (h : Ap1 base gl N V n w0 (fun i => marks i (n i)) w) (hL : Lists base gl N V n w0) (hb : Below w.heap.size w w') (gs : Value) (hown : w'.ownsRow w.heap.size 22 1 gs 0 []) : Ap2 base gl N V n w0 0 (fun _ => undef) gs w' := by
  have hbs : base ≤ w.heap.size := Nat.le_trans hL.base0 h.bel.size
  have hw0 : w0.heap.size ≤ w.heap.size := h.bel.size
  have hB : ∀ i, i < N → Bs w' (V i) (marks i (n i)) := fun i hi => by
    have h1 : Bs w (V i) (marks i (n i)) := by
      have h2 := sl_of_owns (h.own i hi)
      unfold Bs
      rw [marks_len]
      exact h2
    exact h1.old hb
  exact ⟨own_mono hown hbs, fun i hi => absurd hi (Nat.not_lt_zero i), hB, fun i _ hi => own_old (h.own i hi) (fun b hb' => hb.block b (Nat.lt_of_lt_of_le (hL.lt i hi b hb').2 hw0)), fun i hi => cell_old hb (h.cell i hi), h.bel.trans (hb.mono hbs),
    fun i hi => absurd hi (Nat.not_lt_zero i), fun b hb' => ⟨(hown.lt b hb').2, fun he => by have := (hown.lt b hb').1; have := hL.gl0; omega, fun i hi he => by have := (hown.lt b hb').1; have := (hL.lt i hi b he).2; omega⟩⟩
end
end Go.Proofs.Ytfkdfdcnmbaheaa
