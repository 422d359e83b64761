/- A loop over an iterator that has boxes of its own: what the caller says must not speak of blocks made since. By an AI agent; over the kit's laws of the loop's record. -/
import Derived.Test.YtlgjjoglajgbeaaDoorRF
import Derived.Shelf.Abstract
namespace Go.Proofs.YtlgjjoglajgbeaaDoor
open Go.RowKit
set_option linter.unusedVariables false
set_option linter.unusedSimpArgs false

/-- J speaks of nothing that lies at B or behind it. -/
def SinceB {β : Type} (B : Nat) (J : β → World → Prop) : Prop := ∀ s X Y, J s X → Below B X Y → J s Y
theorem SinceB.and {β : Type} {B : Nat} {I J : β → World → Prop} (h : SinceB B I) (k : SinceB B J) : SinceB B (fun s W => I s W ∧ J s W) := fun s X Y hs hb => ⟨h s X Y hs.1 hb, k s X Y hs.2 hb⟩
/-- Two worlds that agree but in one block. -/
structure SameBut (l : Nat) (A B : World) : Prop where
  os : B.os = A.os
  tape : B.tape = A.tape
  output : B.output = A.output
  size : B.heap.size = A.heap.size
  block : ∀ k, k ≠ l → B.heap[k]? = A.heap[k]?
theorem SameBut.below {l n : Nat} {A B : World} (h : SameBut l A B) (hn : n ≤ l) : Below n A B := ⟨h.os, h.tape, h.output, by have := h.size; omega, fun k hk => h.block k (by omega)⟩
theorem sameBut_put (W : World) (l : Nat) (o : Obj) : SameBut l W (W.putObj l o) := ⟨rfl, rfl, rfl, by simp [World.putObj], fun k hk => World.putObj_heap_other hk⟩
/-- Of what there was: the blocks of bs, and all from U on, lie as they lay. -/
def KeepU (bs : List Nat) (U : Nat) (A B : World) : Prop := A.heap.size ≤ B.heap.size ∧ ∀ b, b ∈ bs ∨ U ≤ b → b < A.heap.size → B.heap[b]? = A.heap[b]?
theorem KeepU.refl (bs : List Nat) (U : Nat) (A : World) : KeepU bs U A A := ⟨Nat.le_refl _, fun _ _ _ => rfl⟩
theorem KeepU.trans {bs : List Nat} {U : Nat} {A B C : World} (h : KeepU bs U A B) (k : KeepU bs U B C) : KeepU bs U A C := ⟨Nat.le_trans h.1 k.1, fun b hb hl => (k.2 b hb (Nat.lt_of_lt_of_le hl h.1)).trans (h.2 b hb hl)⟩
theorem KeepU.below {bs : List Nat} {U : Nat} {A B : World} (h : Below A.heap.size A B) : KeepU bs U A B := ⟨h.size, fun b _ hl => h.block b hl⟩
/-- the end of a round's body, from the round's world W and the body's V -/
def postB {α : Type} (T : Nat) (bs : List Nat) (I : List α → World → Prop) (Ix : Code → List α → World → Prop) (xs : List α) (W V : World) : Exit → Act → World → Prop
  | .normal, _, V' => KeepsFrom T V V' ∧ KeepU bs (T + 2) W V' ∧ I xs V'
  | .ret, _, V' => KeepsFrom T V V' ∧ KeepU bs (T + 2) W V' ∧ Ix .ret xs V'
  | .exit id, _, V' => KeepsFrom T V V' ∧ KeepU bs (T + 2) W V' ∧ Ix (.exit id) xs V'
  | .goto t, _, V' => KeepsFrom T V V' ∧ KeepU bs (T + 2) W V' ∧ Ix (.goto t) xs V'
  | .panic _, _, _ => False
  | .outgrown, _, _ => False
/-- The iterator's contract: it may write what it has made; it hands the elements of L over, in order, until it is told to stop. -/
def SeqB {α : Type} (n : Nat) (P : Program) (g : Nat) (lb : Array Value) (encs : α → Array Value) (bs : List Nat) (L : List α) (w : World) : Prop :=
  ∀ (l : Nat) (J Jx : List α → World → Prop) (W : World), Below w.heap.size w W → SinceB W.heap.size J → SinceB W.heap.size Jx →
    (∀ pre x W1, W.heap.size ≤ W1.heap.size → J pre W1 → pre ++ [x] <+: L → YieldAt Fence.wide (n - 1) P l (encs x) W1 fun e W' =>
      (e = .returned (.bool true) ∧ J (pre ++ [x]) W' ∧ KeepU bs W.heap.size W1 W') ∨ (e = .returned (.bool false) ∧ Jx (pre ++ [x]) W' ∧ KeepU bs W.heap.size W1 W')) →
    J [] W →
    CallsIn Fence.wide n P g (#[.func (.yield l) #[] #[]] ++ lb) W fun e W' => (∃ v, e = .returned v) ∧ (J L W' ∨ ∃ pre, pre <+: L ∧ Jx pre W')

theorem rangeB {α : Type} {P : Program} {n : Nat} {g : Operand} {ps : Array Tmp} {assign body : Code} {Q : Exit → Act → World → Prop} {a : Act} {w : World}
    (h1 : 1 ≤ n) {gf : Nat} {lb : Array Value} (hg : a.eval g = .func (.func gf) #[] lb) (eg : ∀ args w, (callFunc gf args).run P w = .ok (.enter gf args) w)
    {encs : α → Array Value} {bs : List Nat} {L : List α} {w0 : World} (hseq : SeqB (n - 1) P gf lb encs bs L w0) (hb0 : Below w0.heap.size w0 w) (hps : ∀ x, (encs x).size = ps.size)
    (hbs : ∀ b ∈ bs, b < w.heap.size)
    (I : List α → World → Prop) (Ix : Code → List α → World → Prop) (hI : SinceB w.heap.size I) (hIx : ∀ c, SinceB w.heap.size (Ix c)) (h0 : I [] w)
    (hround : ∀ (l : Nat) (pre : List α) (x : α) (W : World), l = w.heap.size + 1 → l < W.heap.size → I pre W → pre ++ [x] <+: L →
      assign.wpIn (Fence.wide.inRound l) (n - 1 - 1) P (Exit.then (fun a' W1 => KeepsFrom w.heap.size W W1 ∧ ∀ V, SameBut l W1 V →
        body.wpIn (Fence.wide.inRound l) (n - 1 - 1) P (postB w.heap.size bs I Ix (pre ++ [x]) W V) a' V) (fun _ _ _ => False))
        { tmps := (ps.zip (encs x)).foldl (fun t (p, v) => t.setIfInBounds p v) a.tmps, defers := [] } W)
    (hdone : ∀ (D : Nat) (W : World), w.heap.size ≤ D → D < W.heap.size → I L W → W.heap[D]? = some (.deferred (some [])) → Q .normal { a with defers := { target := .collected D, args := #[] } :: a.defers } W)
    (hstop : ∀ (D : Nat) (c : Code) (pre : List α) (W : World), w.heap.size ≤ D → D < W.heap.size → pre <+: L → Ix c pre W → W.heap[D]? = some (.deferred (some [])) → c.wpIn Fence.wide n P Q { a with defers := { target := .collected D, args := #[] } :: a.defers } W) :
    (Code.rangeFunc g ps assign body).wpIn Fence.wide n P Q a w := by
  refine wpIn_rangeFunc fun fn hfn => ?_
  -- the loop's record, in each of its states
  obtain ⟨rec, hrec⟩ : ∃ rec : LoopState → Option Code → Loop, ∀ st pe, rec st pe = { state := st, pending := pe, fn, tmps := a.tmps, params := ps, assign, body, defers := w.heap.size } := ⟨_, fun _ _ => rfl⟩
  obtain ⟨T, hT⟩ : ∃ T, w.heap.size = T := ⟨_, rfl⟩
  obtain ⟨W1, hW1⟩ : ∃ W1, (w.alloc (.deferred (some []))).alloc (.loop (rec .ready none)) = W1 := ⟨_, rfl⟩
  have s1 : W1.heap.size = T + 2 := by rw [← hW1, ← hT]; simp
  have b1 : Below T w W1 := by rw [← hW1, ← hT]; exact ((Below.refl _ _).alloc (Nat.le_refl _) _).alloc (by simp) _
  have r1 : W1.heap[T + 1]? = some (.loop (rec .ready none)) := by rw [← hW1, ← hT]; exact heap_new1 _ _ _
  have m1 : W1.heap[T]? = some (.deferred (some [])) := by rw [← hW1, ← hT]; exact heap_new0 _ _ _
  rw [hT] at hI hIx hbs hround hdone hstop
  -- what the iterator is told
  have hJ : SinceB W1.heap.size (fun (pre : List α) W => I pre W ∧ W.heap[T + 1]? = some (.loop (rec .ready none)) ∧ W.heap[T]? = some (.deferred (some []))) := fun s X Y ⟨i, l, m⟩ hb =>
    ⟨hI s X Y i (hb.mono (by omega)), by rw [hb.block _ (by omega)]; exact l, by rw [hb.block _ (by omega)]; exact m⟩
  have hJx : SinceB W1.heap.size (fun (pre : List α) W => ∃ c, Ix c pre W ∧ W.heap[T + 1]? = some (.loop (rec .done (some c))) ∧ W.heap[T]? = some (.deferred (some []))) := fun s X Y ⟨c, i, l, m⟩ hb =>
    ⟨c, hIx c s X Y i (hb.mono (by omega)), by rw [hb.block _ (by omega)]; exact l, by rw [hb.block _ (by omega)]; exact m⟩
  refine ⟨T + 1, [{ target := .collected T, args := #[] }], W1, { target := .fn (.func gf) lb, args := #[.func (.yield (T + 1)) #[] #[]] }, W1, gf, #[.func (.yield (T + 1)) #[] #[]] ++ lb, W1, ?_, ?_, fun _ _ => trivial, ?_, fun _ => h1, ?_⟩
  · have h := run_enterLoop_outer (P := P) (w := w) fn a.tmps ps assign body
    rw [hT] at h
    rw [← hW1, hrec, hT]
    exact h
  · simp only [resolve, hg]
    simp [go_sem]
  · simp [invoke, go_sem, eg]
  have hcall := hseq (T + 1) _ _ W1 (hb0.trans ((b1.mono (by omega)).mono hb0.size)) hJ hJx ?_ ⟨hI [] w W1 h0 b1, r1, m1⟩
  · refine hcall.mono ?_
    rintro e W2 ⟨⟨v, rfl⟩, (⟨i, l, m⟩ | ⟨pre, hp, c, i, l, m⟩)⟩
    · have e1 := run_endLoop (P := P) l (by rw [hrec]; simp)
      rw [hrec] at e1
      refine ⟨none, _, e1, ?_⟩
      have sb := sameBut_put W2 (T + 1) (.loop { (rec .ready none) with state := .exhausted })
      rw [hrec] at sb
      have m2 := (sb.block T (by omega)).trans m
      exact hdone T _ (Nat.le_refl _) (Array.getElem?_eq_some_iff.1 m2).1 (hI _ _ _ i (sb.below (by omega))) m2
    · have e1 := run_endLoop (P := P) l (by rw [hrec]; simp)
      rw [hrec] at e1
      refine ⟨some c, _, e1, ?_⟩
      have sb := sameBut_put W2 (T + 1) (.loop { (rec .done (some c)) with state := .exhausted })
      rw [hrec] at sb
      have m2 := (sb.block T (by omega)).trans m
      exact hstop T c pre _ (Nat.le_refl _) (Array.getElem?_eq_some_iff.1 m2).1 hp (hIx c _ _ _ i (sb.below (by omega))) m2
  · -- a round
    rintro pre x W hs ⟨i, l, m⟩ hx
    have hy := run_yield (P := P) (args := encs x) l (by rw [hrec]; exact hps x)
    rw [hrec] at hy
    refine ⟨fn, _, assign, body, hy, roundIn_of_wpIn hfn (wpIn_mono (hround (T + 1) pre x W rfl (by omega) i hx) ?_)⟩
    rintro e a' V h
    cases e with
    | normal =>
      obtain ⟨hk, hV⟩ := h
      have l1 := hk.same _ _ (by omega) l rfl
      have m2 := hk.same _ _ (Nat.le_refl _) m rfl
      refine ⟨_, run_beginRound l1 (by rw [hrec]), wpIn_mono (hV _ (sameBut_put _ _ _)) ?_⟩
      have lt1 := (Array.getElem?_eq_some_iff.1 l1).1
      have l2 : (V.putObj (T + 1) (.loop { (rec .ready none) with state := .busy })).heap[T + 1]? = some (.loop { (rec .ready none) with state := .busy }) := World.putObj_heap_same lt1
      have m3 : (V.putObj (T + 1) (.loop { (rec .ready none) with state := .busy })).heap[T]? = some (.deferred (some [])) := (World.putObj_heap_other (by omega)).trans m2
      generalize V.putObj (T + 1) (.loop { (rec .ready none) with state := .busy }) = V2 at l2 m3
      -- the round's end, whatever the way
      have fin : ∀ (jump : Option Code) (W3 : World), KeepsFrom T V2 W3 → ∃ r W4, (Instr.endRound (T + 1) jump).run P W3 = .ok r W4 ∧ r = .bool jump.isNone ∧ SameBut (T + 1) W3 W4 ∧
          W4.heap[T + 1]? = some (.loop (rec (if jump.isNone then .ready else .done) jump)) ∧ W4.heap[T]? = some (.deferred (some [])) := fun jump W3 hk3 => by
        have l3 := hk3.same _ _ (by omega) l2 rfl
        have m4 := hk3.same _ _ (Nat.le_refl _) m3 rfl
        have lt3 := (Array.getElem?_eq_some_iff.1 l3).1
        refine ⟨_, _, run_endRound (P := P) jump l3, rfl, sameBut_put _ _ _, ?_, (World.putObj_heap_other (by omega)).trans m4⟩
        rw [World.putObj_heap_same lt3, hrec, hrec]
      rintro e3 a3 W3 hp
      cases e3 with
      | normal =>
        obtain ⟨k3, kp3, i3⟩ := hp
        obtain ⟨r, W4, hr, rfl, sb, l4, m4⟩ := fin none W3 k3
        exact ⟨_, W4, hr, .inl ⟨rfl, ⟨hI _ _ _ i3 (sb.below (by omega)), l4, m4⟩, by rw [s1]; exact kp3.trans ⟨by have := sb.size; omega, fun k hk _ => sb.block k (hk.elim (fun h => by have := hbs k h; omega) (fun h => by omega))⟩⟩⟩
      | ret =>
        obtain ⟨k3, kp3, i3⟩ := hp
        obtain ⟨r, W4, hr, rfl, sb, l4, m4⟩ := fin (some .ret) W3 k3
        exact ⟨_, W4, hr, .inr ⟨rfl, ⟨.ret, hIx _ _ _ _ i3 (sb.below (by omega)), l4, m4⟩, by rw [s1]; exact kp3.trans ⟨by have := sb.size; omega, fun k hk _ => sb.block k (hk.elim (fun h => by have := hbs k h; omega) (fun h => by omega))⟩⟩⟩
      | exit id =>
        obtain ⟨k3, kp3, i3⟩ := hp
        obtain ⟨r, W4, hr, rfl, sb, l4, m4⟩ := fin (some (.exit id)) W3 k3
        exact ⟨_, W4, hr, .inr ⟨rfl, ⟨.exit id, hIx _ _ _ _ i3 (sb.below (by omega)), l4, m4⟩, by rw [s1]; exact kp3.trans ⟨by have := sb.size; omega, fun k hk _ => sb.block k (hk.elim (fun h => by have := hbs k h; omega) (fun h => by omega))⟩⟩⟩
      | goto t =>
        obtain ⟨k3, kp3, i3⟩ := hp
        obtain ⟨r, W4, hr, rfl, sb, l4, m4⟩ := fin (some (.goto t)) W3 k3
        exact ⟨_, W4, hr, .inr ⟨rfl, ⟨.goto t, hIx _ _ _ _ i3 (sb.below (by omega)), l4, m4⟩, by rw [s1]; exact kp3.trans ⟨by have := sb.size; omega, fun k hk _ => sb.block k (hk.elim (fun h => by have := hbs k h; omega) (fun h => by omega))⟩⟩⟩
      | panic ch => exact hp.elim
      | outgrown => exact hp.elim
    | _ => exact h.elim
end Go.Proofs.YtlgjjoglajgbeaaDoor
