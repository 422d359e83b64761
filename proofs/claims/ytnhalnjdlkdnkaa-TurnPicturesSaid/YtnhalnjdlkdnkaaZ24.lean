/- A loop over an iterator whose values aren't known ahead (clones): what it hands over satisfies a relation in the world at the yield. By an AI agent; XRangeB's text turned. XRangeR with iterators that only make new blocks: what the rounds keep may grow in blocks of the rounds' own. By an AI agent; XRangeR's text turned. slices.Chunk of blocks once more, to a loop whose own rows grow. By an AI agent; XChunkK's text turned. slices.AppendSeq, slices.Collect of parts of a row of blocks. By an AI agent. slices.Reverse of parts of a row. By an AI agent. slices.Grow, slices.Concat of parts of a row of blocks, last part first. By an AI agent. -/
import Derived.Test.YtnhalnjdlkdnkaaZ22
import Derived.Test.YtnhalnjdlkdnkaaZ23
import Derived.Lib.AppendZeros
namespace Go.Proofs.Ytnhalnjdlkdnkaa
open Go.RowKit
set_option linter.unusedVariables false
set_option linter.unusedSimpArgs false

/-- the blocks of bs lie as they lay -/
def KeepO (bs : List Nat) (A B : World) : Prop := A.heap.size ≤ B.heap.size ∧ ∀ b ∈ bs, b < A.heap.size → B.heap[b]? = A.heap[b]?
theorem KeepO.refl (bs : List Nat) (A : World) : KeepO bs A A := ⟨Nat.le_refl _, fun _ _ _ => rfl⟩
theorem KeepO.trans {bs : List Nat} {A B C : World} (h : KeepO bs A B) (k : KeepO bs B C) : KeepO bs A C := ⟨Nat.le_trans h.1 k.1, fun b hb hl => (k.2 b hb (Nat.lt_of_lt_of_le hl h.1)).trans (h.2 b hb hl)⟩
theorem KeepO.below {bs : List Nat} {A B : World} (h : Below A.heap.size A B) : KeepO bs A B := ⟨h.size, fun b _ hl => h.block b hl⟩
/-- the end of a round's body, from the round's world W and the body's V -/
def postR {α : Type} (T : Nat) (bs : List Nat) (I : List α → World → Prop) (Ix : Code → List α → World → Prop) (xs : List α) (W V : World) : Exit → Act → World → Prop
  | .normal, _, V' => KeepsFrom T V V' ∧ KeepO bs W V' ∧ I xs V'
  | .ret, _, V' => KeepsFrom T V V' ∧ KeepO bs W V' ∧ Ix .ret xs V'
  | .exit id, _, V' => KeepsFrom T V V' ∧ KeepO bs W V' ∧ Ix (.exit id) xs V'
  | .goto t, _, V' => KeepsFrom T V V' ∧ KeepO bs W V' ∧ Ix (.goto t) xs V'
  | .panic _, _, _ => False
  | .outgrown, _, _ => False
/-- The iterator's contract: it may write what it has made; it hands the elements of L over, in order, until it is told to stop. -/
def SeqR {α : Type} (n : Nat) (P : Program) (g : Nat) (lb : Array Value) (encs : α → Array Value) (bs : List Nat) (Ok : List α → α → World → Prop) (Fin : List α → Prop) (w : World) : Prop :=
  ∀ (l : Nat) (J Jx : List α → World → Prop) (W : World), Below w.heap.size w W → SinceB W.heap.size J → SinceB W.heap.size Jx →
    (∀ pre x W1, W.heap.size ≤ W1.heap.size → J pre W1 → Ok pre x W1 → YieldAt Fence.wide (n - 1) P l (encs x) W1 fun e W' =>
      (e = .returned (.bool true) ∧ J (pre ++ [x]) W' ∧ KeepO bs W1 W') ∨ (e = .returned (.bool false) ∧ Jx (pre ++ [x]) W' ∧ KeepO bs W1 W')) →
    J [] W →
    CallsIn Fence.wide n P g (#[.func (.yield l) #[] #[]] ++ lb) W fun e W' => (∃ v, e = .returned v) ∧ ((∃ pre, Fin pre ∧ J pre W') ∨ ∃ pre, Jx pre W')

theorem rangeR {α : Type} {P : Program} {n : Nat} {g : Operand} {ps : Array Tmp} {assign body : Code} {Q : Exit → Act → World → Prop} {a : Act} {w : World}
    (h1 : 1 ≤ n) {gf : Nat} {lb : Array Value} (hg : a.eval g = .func (.func gf) #[] lb) (eg : ∀ args w, (callFunc gf args).run P w = .ok (.enter gf args) w)
    {encs : α → Array Value} {bs : List Nat} {Ok : List α → α → World → Prop} {Fin : List α → Prop} {w0 : World} (hseq : SeqR (n - 1) P gf lb encs bs Ok Fin w0) (hb0 : Below w0.heap.size w0 w) (hps : ∀ x, (encs x).size = ps.size)
    (hbs : ∀ b ∈ bs, b < w.heap.size)
    (I : List α → World → Prop) (Ix : Code → List α → World → Prop) (hI : SinceB w.heap.size I) (hIx : ∀ c, SinceB w.heap.size (Ix c)) (h0 : I [] w)
    (hround : ∀ (l : Nat) (pre : List α) (x : α) (W : World), l = w.heap.size + 1 → l < W.heap.size → (∃ r, W.heap[l]? = some (.loop r)) → I pre W → Ok pre x W →
      assign.wpIn (Fence.wide.inRound l) (n - 1 - 1) P (Exit.then (fun a' W1 => KeepsFrom w.heap.size W W1 ∧ ∀ V, SameBut l W1 V →
        body.wpIn (Fence.wide.inRound l) (n - 1 - 1) P (postR w.heap.size bs I Ix (pre ++ [x]) W V) a' V) (fun _ _ _ => False))
        { tmps := (ps.zip (encs x)).foldl (fun t (p, v) => t.setIfInBounds p v) a.tmps, defers := [] } W)
    (hdone : ∀ (D : Nat) (pre : List α) (W : World), w.heap.size ≤ D → D < W.heap.size → Fin pre → I pre W → W.heap[D]? = some (.deferred (some [])) → Q .normal { a with defers := { target := .collected D, args := #[] } :: a.defers } W)
    (hstop : ∀ (D : Nat) (c : Code) (pre : List α) (W : World), w.heap.size ≤ D → D < W.heap.size → Ix c pre W → W.heap[D]? = some (.deferred (some [])) → c.wpIn Fence.wide n P Q { a with defers := { target := .collected D, args := #[] } :: a.defers } W) :
    (Code.rangeFunc g ps assign body).wpIn Fence.wide n P Q a w := by
  refine wpIn_rangeFunc fun fn hfn => ?_
  -- the loop's record, in each of its states
  obtain ⟨rec, hrec⟩ : ∃ rec : LoopState → Option Code → Loop, ∀ st pe, rec st pe = { state := st, pending := pe, fn, tmps := a.tmps, params := ps, assign, body, defers := w.heap.size } := ⟨_, fun _ _ => rfl⟩
  obtain ⟨T, hT⟩ : ∃ T, w.heap.size = T := ⟨_, rfl⟩
  obtain ⟨W1, hW1⟩ : ∃ W1, (w.alloc (.deferred (some []))).alloc (.loop (rec .ready none)) = W1 := ⟨_, rfl⟩
  have s1 : W1.heap.size = T + 2 := by rw [← hW1, ← hT]; simp
  have b1 : Below T w W1 := by rw [← hW1, ← hT]; exact ((Below.refl _ _).alloc (Nat.le_refl _) _).alloc (by simp) _
  have r1 : W1.heap[T + 1]? = some (.loop (rec .ready none)) := by rw [← hW1, ← hT]; exact heap_new1 _ _ _
  have m1 : W1.heap[T]? = some (.deferred (some [])) := by rw [← hW1, ← hT]; exact heap_new0 _ _ _
  rw [hT] at hI hIx hbs hround hdone hstop
  -- what the iterator is told
  have hJ : SinceB W1.heap.size (fun (pre : List α) W => I pre W ∧ W.heap[T + 1]? = some (.loop (rec .ready none)) ∧ W.heap[T]? = some (.deferred (some []))) := fun s X Y ⟨i, l, m⟩ hb =>
    ⟨hI s X Y i (hb.mono (by omega)), by rw [hb.block _ (by omega)]; exact l, by rw [hb.block _ (by omega)]; exact m⟩
  have hJx : SinceB W1.heap.size (fun (pre : List α) W => ∃ c, Ix c pre W ∧ W.heap[T + 1]? = some (.loop (rec .done (some c))) ∧ W.heap[T]? = some (.deferred (some []))) := fun s X Y ⟨c, i, l, m⟩ hb =>
    ⟨c, hIx c s X Y i (hb.mono (by omega)), by rw [hb.block _ (by omega)]; exact l, by rw [hb.block _ (by omega)]; exact m⟩
  refine ⟨T + 1, [{ target := .collected T, args := #[] }], W1, { target := .fn (.func gf) lb, args := #[.func (.yield (T + 1)) #[] #[]] }, W1, gf, #[.func (.yield (T + 1)) #[] #[]] ++ lb, W1, ?_, ?_, fun _ _ => trivial, ?_, fun _ => h1, ?_⟩
  · have h := run_enterLoop_outer (P := P) (w := w) fn a.tmps ps assign body
    rw [hT] at h
    rw [← hW1, hrec, hT]
    exact h
  · simp only [resolve, hg]
    simp [go_sem]
  · simp [invoke, go_sem, eg]
  have hcall := hseq (T + 1) _ _ W1 (hb0.trans ((b1.mono (by omega)).mono hb0.size)) hJ hJx ?_ ⟨hI [] w W1 h0 b1, r1, m1⟩
  · refine hcall.mono ?_
    rintro e W2 ⟨⟨v, rfl⟩, (⟨pre, hp, i, l, m⟩ | ⟨pre, c, i, l, m⟩)⟩
    · have e1 := run_endLoop (P := P) l (by rw [hrec]; simp)
      rw [hrec] at e1
      refine ⟨none, _, e1, ?_⟩
      have sb := sameBut_put W2 (T + 1) (.loop { (rec .ready none) with state := .exhausted })
      rw [hrec] at sb
      have m2 := (sb.block T (by omega)).trans m
      exact hdone T pre _ (Nat.le_refl _) (Array.getElem?_eq_some_iff.1 m2).1 hp (hI _ _ _ i (sb.below (by omega))) m2
    · have e1 := run_endLoop (P := P) l (by rw [hrec]; simp)
      rw [hrec] at e1
      refine ⟨some c, _, e1, ?_⟩
      have sb := sameBut_put W2 (T + 1) (.loop { (rec .done (some c)) with state := .exhausted })
      rw [hrec] at sb
      have m2 := (sb.block T (by omega)).trans m
      exact hstop T c pre _ (Nat.le_refl _) (Array.getElem?_eq_some_iff.1 m2).1 (hIx c _ _ _ i (sb.below (by omega))) m2
  · -- a round
    rintro pre x W hs ⟨i, l, m⟩ hx
    have hy := run_yield (P := P) (args := encs x) l (by rw [hrec]; exact hps x)
    rw [hrec] at hy
    refine ⟨fn, _, assign, body, hy, roundIn_of_wpIn hfn (wpIn_mono (hround (T + 1) pre x W rfl (by omega) ⟨_, l⟩ i hx) ?_)⟩
    rintro e a' V h
    cases e with
    | normal =>
      obtain ⟨hk, hV⟩ := h
      have l1 := hk.same _ _ (by omega) l rfl
      have m2 := hk.same _ _ (Nat.le_refl _) m rfl
      refine ⟨_, run_beginRound l1 (by rw [hrec]), wpIn_mono (hV _ (sameBut_put _ _ _)) ?_⟩
      have lt1 := (Array.getElem?_eq_some_iff.1 l1).1
      have l2 : (V.putObj (T + 1) (.loop { (rec .ready none) with state := .busy })).heap[T + 1]? = some (.loop { (rec .ready none) with state := .busy }) := World.putObj_heap_same lt1
      have m3 : (V.putObj (T + 1) (.loop { (rec .ready none) with state := .busy })).heap[T]? = some (.deferred (some [])) := (World.putObj_heap_other (by omega)).trans m2
      generalize V.putObj (T + 1) (.loop { (rec .ready none) with state := .busy }) = V2 at l2 m3
      -- the round's end, whatever the way
      have fin : ∀ (jump : Option Code) (W3 : World), KeepsFrom T V2 W3 → ∃ r W4, (Instr.endRound (T + 1) jump).run P W3 = .ok r W4 ∧ r = .bool jump.isNone ∧ SameBut (T + 1) W3 W4 ∧
          W4.heap[T + 1]? = some (.loop (rec (if jump.isNone then .ready else .done) jump)) ∧ W4.heap[T]? = some (.deferred (some [])) := fun jump W3 hk3 => by
        have l3 := hk3.same _ _ (by omega) l2 rfl
        have m4 := hk3.same _ _ (Nat.le_refl _) m3 rfl
        have lt3 := (Array.getElem?_eq_some_iff.1 l3).1
        refine ⟨_, _, run_endRound (P := P) jump l3, rfl, sameBut_put _ _ _, ?_, (World.putObj_heap_other (by omega)).trans m4⟩
        rw [World.putObj_heap_same lt3, hrec, hrec]
      rintro e3 a3 W3 hp
      cases e3 with
      | normal =>
        obtain ⟨k3, kp3, i3⟩ := hp
        obtain ⟨r, W4, hr, rfl, sb, l4, m4⟩ := fin none W3 k3
        exact ⟨_, W4, hr, .inl ⟨rfl, ⟨hI _ _ _ i3 (sb.below (by omega)), l4, m4⟩, kp3.trans ⟨by have := sb.size; omega, fun k hk _ => sb.block k (by have := hbs k hk; omega)⟩⟩⟩
      | ret =>
        obtain ⟨k3, kp3, i3⟩ := hp
        obtain ⟨r, W4, hr, rfl, sb, l4, m4⟩ := fin (some .ret) W3 k3
        exact ⟨_, W4, hr, .inr ⟨rfl, ⟨.ret, hIx _ _ _ _ i3 (sb.below (by omega)), l4, m4⟩, kp3.trans ⟨by have := sb.size; omega, fun k hk _ => sb.block k (by have := hbs k hk; omega)⟩⟩⟩
      | exit id =>
        obtain ⟨k3, kp3, i3⟩ := hp
        obtain ⟨r, W4, hr, rfl, sb, l4, m4⟩ := fin (some (.exit id)) W3 k3
        exact ⟨_, W4, hr, .inr ⟨rfl, ⟨.exit id, hIx _ _ _ _ i3 (sb.below (by omega)), l4, m4⟩, kp3.trans ⟨by have := sb.size; omega, fun k hk _ => sb.block k (by have := hbs k hk; omega)⟩⟩⟩
      | goto t =>
        obtain ⟨k3, kp3, i3⟩ := hp
        obtain ⟨r, W4, hr, rfl, sb, l4, m4⟩ := fin (some (.goto t)) W3 k3
        exact ⟨_, W4, hr, .inr ⟨rfl, ⟨.goto t, hIx _ _ _ _ i3 (sb.below (by omega)), l4, m4⟩, kp3.trans ⟨by have := sb.size; omega, fun k hk _ => sb.block k (by have := hbs k hk; omega)⟩⟩⟩
      | panic ch => exact hp.elim
      | outgrown => exact hp.elim
    | _ => exact h.elim
end Go.Proofs.Ytnhalnjdlkdnkaa

namespace Go.Proofs.Ytnhalnjdlkdnkaa
open Go.RowKit
set_option linter.unusedVariables false
set_option linter.unusedSimpArgs false

/-- kept by whatever only makes new blocks -/
def FreshS {β : Type} (J : β → World → Prop) : Prop := ∀ s X Y, J s X → Below X.heap.size X Y → J s Y
/-- The iterator's contract: it may write what it has made; it hands the elements of L over, in order, until it is told to stop. -/
def SeqF {α : Type} (n : Nat) (P : Program) (g : Nat) (lb : Array Value) (encs : α → Array Value) (bs : List Nat) (Ok : List α → α → World → Prop) (Fin : List α → Prop) (w : World) : Prop :=
  ∀ (l : Nat) (J Jx : List α → World → Prop) (W : World), Below w.heap.size w W → FreshS J → FreshS Jx →
    (∀ pre x W1, W.heap.size ≤ W1.heap.size → J pre W1 → Ok pre x W1 → YieldAt Fence.wide (n - 1) P l (encs x) W1 fun e W' =>
      (e = .returned (.bool true) ∧ J (pre ++ [x]) W' ∧ KeepO bs W1 W') ∨ (e = .returned (.bool false) ∧ Jx (pre ++ [x]) W' ∧ KeepO bs W1 W')) →
    J [] W →
    CallsIn Fence.wide n P g (#[.func (.yield l) #[] #[]] ++ lb) W fun e W' => (∃ v, e = .returned v) ∧ ((∃ pre, Fin pre ∧ J pre W') ∨ ∃ pre, Jx pre W')

theorem rangeF {α : Type} {P : Program} {n : Nat} {g : Operand} {ps : Array Tmp} {assign body : Code} {Q : Exit → Act → World → Prop} {a : Act} {w : World}
    (h1 : 1 ≤ n) {gf : Nat} {lb : Array Value} (hg : a.eval g = .func (.func gf) #[] lb) (eg : ∀ args w, (callFunc gf args).run P w = .ok (.enter gf args) w)
    {encs : α → Array Value} {bs : List Nat} {Ok : List α → α → World → Prop} {Fin : List α → Prop} {w0 : World} (hseq : SeqF (n - 1) P gf lb encs bs Ok Fin w0) (hb0 : Below w0.heap.size w0 w) (hps : ∀ x, (encs x).size = ps.size)
    (hbs : ∀ b ∈ bs, b < w.heap.size)
    (I : List α → World → Prop) (Ix : Code → List α → World → Prop) (hI : FreshS I) (hIx : ∀ c, FreshS (Ix c)) (hIl : ∀ s X Y, I s X → SameBut (w.heap.size + 1) X Y → I s Y) (hIxl : ∀ c s X Y, Ix c s X → SameBut (w.heap.size + 1) X Y → Ix c s Y) (h0 : I [] w)
    (hround : ∀ (l : Nat) (pre : List α) (x : α) (W : World), l = w.heap.size + 1 → l < W.heap.size → (∃ r, W.heap[l]? = some (.loop r)) → I pre W → Ok pre x W →
      assign.wpIn (Fence.wide.inRound l) (n - 1 - 1) P (Exit.then (fun a' W1 => KeepsFrom w.heap.size W W1 ∧ ∀ V, SameBut l W1 V →
        body.wpIn (Fence.wide.inRound l) (n - 1 - 1) P (postR w.heap.size bs I Ix (pre ++ [x]) W V) a' V) (fun _ _ _ => False))
        { tmps := (ps.zip (encs x)).foldl (fun t (p, v) => t.setIfInBounds p v) a.tmps, defers := [] } W)
    (hdone : ∀ (D : Nat) (pre : List α) (W : World), w.heap.size ≤ D → D < W.heap.size → Fin pre → I pre W → W.heap[D]? = some (.deferred (some [])) → Q .normal { a with defers := { target := .collected D, args := #[] } :: a.defers } W)
    (hstop : ∀ (D : Nat) (c : Code) (pre : List α) (W : World), w.heap.size ≤ D → D < W.heap.size → Ix c pre W → W.heap[D]? = some (.deferred (some [])) → c.wpIn Fence.wide n P Q { a with defers := { target := .collected D, args := #[] } :: a.defers } W) :
    (Code.rangeFunc g ps assign body).wpIn Fence.wide n P Q a w := by
  refine wpIn_rangeFunc fun fn hfn => ?_
  -- the loop's record, in each of its states
  obtain ⟨rec, hrec⟩ : ∃ rec : LoopState → Option Code → Loop, ∀ st pe, rec st pe = { state := st, pending := pe, fn, tmps := a.tmps, params := ps, assign, body, defers := w.heap.size } := ⟨_, fun _ _ => rfl⟩
  obtain ⟨T, hT⟩ : ∃ T, w.heap.size = T := ⟨_, rfl⟩
  obtain ⟨W1, hW1⟩ : ∃ W1, (w.alloc (.deferred (some []))).alloc (.loop (rec .ready none)) = W1 := ⟨_, rfl⟩
  have s1 : W1.heap.size = T + 2 := by rw [← hW1, ← hT]; simp
  have b1 : Below T w W1 := by rw [← hW1, ← hT]; exact ((Below.refl _ _).alloc (Nat.le_refl _) _).alloc (by simp) _
  have r1 : W1.heap[T + 1]? = some (.loop (rec .ready none)) := by rw [← hW1, ← hT]; exact heap_new1 _ _ _
  have m1 : W1.heap[T]? = some (.deferred (some [])) := by rw [← hW1, ← hT]; exact heap_new0 _ _ _
  rw [hT] at hIl hIxl hbs hround hdone hstop
  -- what the iterator is told
  have hJ : FreshS (fun (pre : List α) W => I pre W ∧ W.heap[T + 1]? = some (.loop (rec .ready none)) ∧ W.heap[T]? = some (.deferred (some []))) := fun s X Y ⟨i, l, m⟩ hb =>
    ⟨hI s X Y i hb, by rw [hb.block _ (Array.getElem?_eq_some_iff.1 l).1]; exact l, by rw [hb.block _ (Array.getElem?_eq_some_iff.1 m).1]; exact m⟩
  have hJx : FreshS (fun (pre : List α) W => ∃ c, Ix c pre W ∧ W.heap[T + 1]? = some (.loop (rec .done (some c))) ∧ W.heap[T]? = some (.deferred (some []))) := fun s X Y ⟨c, i, l, m⟩ hb =>
    ⟨c, hIx c s X Y i hb, by rw [hb.block _ (Array.getElem?_eq_some_iff.1 l).1]; exact l, by rw [hb.block _ (Array.getElem?_eq_some_iff.1 m).1]; exact m⟩
  refine ⟨T + 1, [{ target := .collected T, args := #[] }], W1, { target := .fn (.func gf) lb, args := #[.func (.yield (T + 1)) #[] #[]] }, W1, gf, #[.func (.yield (T + 1)) #[] #[]] ++ lb, W1, ?_, ?_, fun _ _ => trivial, ?_, fun _ => h1, ?_⟩
  · have h := run_enterLoop_outer (P := P) (w := w) fn a.tmps ps assign body
    rw [hT] at h
    rw [← hW1, hrec, hT]
    exact h
  · simp only [resolve, hg]
    simp [go_sem]
  · simp [invoke, go_sem, eg]
  have hcall := hseq (T + 1) _ _ W1 (hb0.trans ((b1.mono (by omega)).mono hb0.size)) hJ hJx ?_ ⟨hI [] w W1 h0 (by rw [hT]; exact b1), r1, m1⟩
  · refine hcall.mono ?_
    rintro e W2 ⟨⟨v, rfl⟩, (⟨pre, hp, i, l, m⟩ | ⟨pre, c, i, l, m⟩)⟩
    · have e1 := run_endLoop (P := P) l (by rw [hrec]; simp)
      rw [hrec] at e1
      refine ⟨none, _, e1, ?_⟩
      have sb := sameBut_put W2 (T + 1) (.loop { (rec .ready none) with state := .exhausted })
      rw [hrec] at sb
      have m2 := (sb.block T (by omega)).trans m
      exact hdone T pre _ (Nat.le_refl _) (Array.getElem?_eq_some_iff.1 m2).1 hp (hIl _ _ _ i sb) m2
    · have e1 := run_endLoop (P := P) l (by rw [hrec]; simp)
      rw [hrec] at e1
      refine ⟨some c, _, e1, ?_⟩
      have sb := sameBut_put W2 (T + 1) (.loop { (rec .done (some c)) with state := .exhausted })
      rw [hrec] at sb
      have m2 := (sb.block T (by omega)).trans m
      exact hstop T c pre _ (Nat.le_refl _) (Array.getElem?_eq_some_iff.1 m2).1 (hIxl c _ _ _ i sb) m2
  · -- a round
    rintro pre x W hs ⟨i, l, m⟩ hx
    have hy := run_yield (P := P) (args := encs x) l (by rw [hrec]; exact hps x)
    rw [hrec] at hy
    refine ⟨fn, _, assign, body, hy, roundIn_of_wpIn hfn (wpIn_mono (hround (T + 1) pre x W rfl (by omega) ⟨_, l⟩ i hx) ?_)⟩
    rintro e a' V h
    cases e with
    | normal =>
      obtain ⟨hk, hV⟩ := h
      have l1 := hk.same _ _ (by omega) l rfl
      have m2 := hk.same _ _ (Nat.le_refl _) m rfl
      refine ⟨_, run_beginRound l1 (by rw [hrec]), wpIn_mono (hV _ (sameBut_put _ _ _)) ?_⟩
      have lt1 := (Array.getElem?_eq_some_iff.1 l1).1
      have l2 : (V.putObj (T + 1) (.loop { (rec .ready none) with state := .busy })).heap[T + 1]? = some (.loop { (rec .ready none) with state := .busy }) := World.putObj_heap_same lt1
      have m3 : (V.putObj (T + 1) (.loop { (rec .ready none) with state := .busy })).heap[T]? = some (.deferred (some [])) := (World.putObj_heap_other (by omega)).trans m2
      generalize V.putObj (T + 1) (.loop { (rec .ready none) with state := .busy }) = V2 at l2 m3
      -- the round's end, whatever the way
      have fin : ∀ (jump : Option Code) (W3 : World), KeepsFrom T V2 W3 → ∃ r W4, (Instr.endRound (T + 1) jump).run P W3 = .ok r W4 ∧ r = .bool jump.isNone ∧ SameBut (T + 1) W3 W4 ∧
          W4.heap[T + 1]? = some (.loop (rec (if jump.isNone then .ready else .done) jump)) ∧ W4.heap[T]? = some (.deferred (some [])) := fun jump W3 hk3 => by
        have l3 := hk3.same _ _ (by omega) l2 rfl
        have m4 := hk3.same _ _ (Nat.le_refl _) m3 rfl
        have lt3 := (Array.getElem?_eq_some_iff.1 l3).1
        refine ⟨_, _, run_endRound (P := P) jump l3, rfl, sameBut_put _ _ _, ?_, (World.putObj_heap_other (by omega)).trans m4⟩
        rw [World.putObj_heap_same lt3, hrec, hrec]
      rintro e3 a3 W3 hp
      cases e3 with
      | normal =>
        obtain ⟨k3, kp3, i3⟩ := hp
        obtain ⟨r, W4, hr, rfl, sb, l4, m4⟩ := fin none W3 k3
        exact ⟨_, W4, hr, .inl ⟨rfl, ⟨hIl _ _ _ i3 sb, l4, m4⟩, kp3.trans ⟨by have := sb.size; omega, fun k hk _ => sb.block k (by have := hbs k hk; omega)⟩⟩⟩
      | ret =>
        obtain ⟨k3, kp3, i3⟩ := hp
        obtain ⟨r, W4, hr, rfl, sb, l4, m4⟩ := fin (some .ret) W3 k3
        exact ⟨_, W4, hr, .inr ⟨rfl, ⟨.ret, hIxl _ _ _ _ i3 sb, l4, m4⟩, kp3.trans ⟨by have := sb.size; omega, fun k hk _ => sb.block k (by have := hbs k hk; omega)⟩⟩⟩
      | exit id =>
        obtain ⟨k3, kp3, i3⟩ := hp
        obtain ⟨r, W4, hr, rfl, sb, l4, m4⟩ := fin (some (.exit id)) W3 k3
        exact ⟨_, W4, hr, .inr ⟨rfl, ⟨.exit id, hIxl _ _ _ _ i3 sb, l4, m4⟩, kp3.trans ⟨by have := sb.size; omega, fun k hk _ => sb.block k (by have := hbs k hk; omega)⟩⟩⟩
      | goto t =>
        obtain ⟨k3, kp3, i3⟩ := hp
        obtain ⟨r, W4, hr, rfl, sb, l4, m4⟩ := fin (some (.goto t)) W3 k3
        exact ⟨_, W4, hr, .inr ⟨rfl, ⟨.goto t, hIxl _ _ _ _ i3 sb, l4, m4⟩, kp3.trans ⟨by have := sb.size; omega, fun k hk _ => sb.block k (by have := hbs k hk; omega)⟩⟩⟩
      | panic ch => exact hp.elim
      | outgrown => exact hp.elim
    | _ => exact h.elim
end Go.Proofs.Ytnhalnjdlkdnkaa

namespace Go.Proofs.Ytnhalnjdlkdnkaa
open Go.RowKit Go.BigFrame
set_option linter.unusedVariables false
set_option linter.unusedSimpArgs false
attribute [local go_sem] Oper.semAt_some

set_option maxRecDepth 20000 in
set_option maxHeartbeats 8000000 in
theorem chunkF_seq (n b1 b2 : Nat) (bs : List Nat) (b o N m c : Nat) (w : World) (hN : 1 ≤ N) (hsz : m * N ≤ 140737488351232) (hNs : N ≤ 140737488351232) (h1 : Boxed w b1 68 (.slice (some ⟨b, o, none⟩) (m * N) c)) (h2 : Boxed w b2 3 (.int .i64 (N : Nat))) (hb1 : b1 ∈ bs) (hb2 : b2 ∈ bs) (hc : m * N ≤ c) :
    SeqF n Try.prog 82 #[.pointer (some ⟨b1, 0, none⟩), .pointer (some ⟨b2, 0, none⟩)] (fun x => #[x]) bs (OkCh b o N m) (FinCh m) w := fun ll J Jx V hV hJ hJx hY h0 => by
  have YY := Lib.hid hY
  have HJ := Lib.hid hJ
  have X1 : Hid (Boxed V b1 68 (.slice (some ⟨b, o, none⟩) (m * N) c)) := Lib.hid (boxed_below h1 hV)
  have X2 : Hid (Boxed V b2 3 (.int .i64 (N : Nat))) := Lib.hid (boxed_below h2 hV)
  have J0 := Lib.hid h0
  obtain ⟨T, hT⟩ : ∃ T, m * N = T := ⟨_, rfl⟩
  rw [hT] at X1 hsz hc
  have HT := Lib.hid hT
  have HB := Lib.hid (show b1 ∈ bs ∧ b2 ∈ bs from ⟨hb1, hb2⟩)
  have BD := Lib.hid (show T ≤ c ∧ T ≤ 140737488351232 ∧ 1 ≤ N ∧ N ≤ 140737488351232 from ⟨hc, hsz, hN, hNs⟩)
  clear hY hJ hJx h0 h1 h2 hT hV hb1 hb2 hc hsz hN hNs
  refine callsIn_wide.2 ?_
  show Calls Try.prog 82 #[.func (.yield ll) #[] #[], .pointer (some ⟨b1, 0, none⟩), .pointer (some ⟨b2, 0, none⟩)] V _
  go_enter Try.func82, Try.ntmps82
  go_wp2_with fail
  go_loopw [4] (fun i W => ∃ (k : Nat) (pre : List Value), i = .int .i64 ((k * N : Nat) : Int) ∧ k ≤ m ∧ pre.length = k ∧ J pre W ∧ V.heap.size ≤ W.heap.size ∧ Boxed W b1 68 (.slice (some ⟨b, o, none⟩) T c) ∧ Boxed W b2 3 (.int .i64 (N : Nat))) (fun i _ => m * N + N - (intOf i).toNat)
  case atStart => exact ⟨0, [], by simp, Nat.zero_le _, rfl, J0.out, Nat.le_refl _, X1.out, X2.out⟩
  case round =>
    clear X1 X2 J0
    obtain ⟨k, pre, rfl, hk, hpre, hjj, hus, hx1, hx2⟩ := hrel
    obtain ⟨i, hi⟩ : ∃ i, k * N = i := ⟨_, rfl⟩
    have HI := Lib.hid hi
    have JJ := Lib.hid hjj
    have PRE := Lib.hid hpre
    have US := Lib.hid hus
    have X1 := Lib.hid hx1
    have X2 := Lib.hid hx2
    have c1 := hx1.cell
    have c2 := hx2.cell
    rw [hi]
    clear hjj hpre hus hx1 hx2 hi
    by_cases hkm : k < m
    · have bd := BD.out
      have hiN : i + N ≤ T := by
        rw [← HI.out, ← HT.out, ← Nat.succ_mul]
        exact Nat.mul_le_mul_right _ hkm
      have e1 : decide ((i : Int) < (T : Int)) = true := by rw [decide_eq_true_eq]; omega
      have e1' : decide (i < T) = true := by rw [decide_eq_true_eq]; omega
      have MN : Hid (¬ (T - i < N)) := Lib.hid (by omega)
      obtain ⟨e, he⟩ : ∃ e : Nat, i + N = e := ⟨_, rfl⟩
      have HE := Lib.hid he
      have G1 : Hid (IntKind.i64.wrap ((i : Int) + (N : Int)) = (e : Int)) := Lib.hid (by rw [IntWalk.i64_in _ (by omega)]; omega)
      have i1 : (i : Int) ≤ (T : Int) := by omega
      have i2 : (T : Int) ≤ (c : Int) := by omega
      have i3 : ¬ c = i := by omega
      have HIN := Lib.hid hiN
      clear hiN he bd
      have US3 := US.out
      go_upto_region 3 with (fail)
      refine wp_region_q (fun Y => Y.cell? ⟨b1, 0, none⟩ = some (.slice (some ⟨b, o, none⟩) T c) ∧ Y.cell? ⟨b2, 0, none⟩ = some (.int .i64 (N : Nat)) ∧ Below wr.heap.size wr Y) (by kernel_rfl) (by kernel_rfl) ⟨cell_old (Below.refl _ _).drew c1, cell_old (Below.refl _ _).drew c2, (Below.refl _ _).drew⟩ ?_
      clear c1 c2
      repeat
        first
        | go_big_quiet_skip
        | (go_big_quiet_want
           first
           | (go_big_quiet_op; go_big_quiet_on; try rw [if_neg MN.out])
           | (apply Exists.intro
              refine ⟨fun X hX => ?_, ?_⟩
              · obtain ⟨q1, q2, eZ⟩ := hX
                clear eZ
                unfold Oper.quietAt
                go_simp
                first
                | exact ⟨rfl, rfl⟩
                | exact rfl
              go_big_quiet_on
              try simp only [Act.put, List.setIfInBounds_toArray, List.set_cons_zero, List.set_cons_succ]; try rw [if_neg MN.out]))
      refine wpQuiet_nil ?_
      rintro Y ⟨c1, c2, hbY⟩
      have EN : Hid (e - i = N) := Lib.hid (by have := HE.out; omega)
      obtain ⟨f1, t1, as1, y1, hy1, hR1⟩ := YY.out pre (.slice (some ⟨b, o + i * 64, none⟩) (e - i) (e - i)) Y (Nat.le_trans US.out hbY.size) (HJ.out _ _ _ JJ.out hbY) ⟨by rw [PRE.out]; exact hkm, by rw [PRE.out, HI.out, EN.out]⟩
      have RR := Lib.hid hR1
      have BY := Lib.hid hbY
      have HKM := Lib.hid hkm
      have g1 := G1.out
      have i4 : (i : Int) ≤ (e : Int) := by have := HE.out; omega
      have i5 : (e : Int) ≤ (c : Int) := by have := HE.out; have := BD.out; have := MN.out; omega
      have i6 : ¬ e = i := by have := HE.out; have := BD.out; omega
      clear hR1 hbY hkm US3 i1 i2 i3 e1 e1'
      go_upto_region 4 with (fail)
      refine (wpIn_wide (n := n - 1 + 1)).1 ?_
      gi_wp2_with fail
      refine RR.out.mono ?_
      rintro z W5 (⟨rfl, hj5, hk5⟩ | ⟨rfl, hj5, hk5⟩)
      · have J5 := Lib.hid hj5
        have K5 := Lib.hid hk5
        have Z1 : Hid (Boxed W5 b1 68 (.slice (some ⟨b, o, none⟩) T c)) := Lib.hid (by
          have h := boxed_below X1.out BY.out
          exact (hk5.2 b1 HB.out.1 h.lt).trans h)
        have Z2 : Hid (Boxed W5 b2 3 (.int .i64 (N : Nat))) := Lib.hid (by
          have h := boxed_below X2.out BY.out
          exact (hk5.2 b2 HB.out.2 h.lt).trans h)
        have z2 := Z2.out.cell
        have SZ : Hid (V.heap.size ≤ W5.heap.size) := Lib.hid (Nat.le_trans US.out (Nat.le_trans BY.out.size hk5.1))
        clear hj5 hk5 hy1 c1 c2 i4 i5 i6
        gi_wp2_with fail
        go_wp2_with fail
        go_roundw
        case rel => exact ⟨k + 1, pre ++ [_], by rw [← HE.out, ← HI.out, Nat.succ_mul], HKM.out, by rw [List.length_append, PRE.out]; rfl, J5.out, SZ.out, Z1.out, Z2.out⟩
        case measure =>
          have := HE.out
          have := HI.out
          have := HT.out
          have := BD.out
          have h2 : (k + 1) * N ≤ m * N := Nat.mul_le_mul_right _ HKM.out
          rw [Nat.succ_mul] at h2
          simp [intOf]
          omega
      · have J5 := Lib.hid hj5
        clear hj5 hk5 hy1 c1 c2 i4 i5 i6
        gi_wp2_with fail
        go_wp2_with fail
        refine bodyPost_ret (results_none rfl _ _ _) rfl ?_
        exact ⟨⟨_, rfl⟩, .inr ⟨_, J5.out⟩⟩
    · obtain rfl : k = m := by omega
      have hiT : i = T := by rw [← HI.out, HT.out]
      subst hiT
      have e1 : decide ((i : Int) < (i : Int)) = false := by rw [decide_eq_false_iff_not]; omega
      clear hkm
      go_wp2_with fail
      go_end0
      exact ⟨⟨_, rfl⟩, .inl ⟨pre, PRE.out, JJ.out⟩⟩
end Go.Proofs.Ytnhalnjdlkdnkaa

namespace Go.Proofs.Ytnhalnjdlkdnkaa
open Go.RowKit Go.BigFrame
set_option linter.unusedVariables false
set_option linter.unusedSimpArgs false
attribute [local go_sem] Oper.semAt_some

theorem tyRB : ElemTy Try.prog 97 68 (.slice none 0 0) 1 24 := elemTy Try.underlying97 (by kernel_rfl) rfl (by decide)
def chV (b N k : Nat) : Value := .slice (some ⟨b, k * N * 64, none⟩) N N
def chVs (b N m : Nat) : List Value := (List.range m).map (chV b N)
theorem chVs_len (b N m : Nat) : (chVs b N m).length = m := by simp [chVs]
theorem chVs_succ (b N m : Nat) : chVs b N (m + 1) = chVs b N m ++ [chV b N m] := by simp [chVs, List.range_succ]
/-- what has been collected -/
structure ColI (w : World) (b N : Nat) (pre : List Value) (X : World) : Prop where
  eq : pre = chVs b N pre.length
  box : ∃ v, Boxed X w.heap.size 97 v ∧ X.ownsRow (w.heap.size + 3) 68 1 v pre.length pre
  l : Below w.heap.size w X
theorem ColI.old {w : World} {b N : Nat} {pre : List Value} {X Y : World} (h : ColI w b N pre X) (hb : Below X.heap.size X Y) : ColI w b N pre Y := by
  obtain ⟨v, h1, h2⟩ := h.box
  exact ⟨h.eq, ⟨v, boxed_below h1 hb, owns_below h2 hb⟩, h.l.trans (hb.mono h.l.size)⟩
theorem ColI.put {w : World} {b N : Nat} {pre : List Value} {X Y : World} (h : ColI w b N pre X) {l : Nat} (hl : l = w.heap.size + 2) (hb : SameBut l X Y) : ColI w b N pre Y := by
  obtain ⟨v, h1, h2⟩ := h.box
  refine ⟨h.eq, ⟨v, (hb.block _ (by omega)).trans h1, ⟨h2.1, ?_⟩⟩, h.l.trans (hb.below (by omega))⟩
  rcases h2.2 with h | ⟨g, cap, cur, rfl, hg, hc, hx⟩
  · exact .inl h
  · exact .inr ⟨g, cap, cur, rfl, hg, by rw [hb.block g (by omega)]; exact hc, hx⟩

set_option maxRecDepth 20000 in
set_option maxHeartbeats 8000000 in
theorem appSeqK (b1 b2 b N m c : Nat) (w : World) (hN : 1 ≤ N) (hsz : m * N ≤ 140737488351232) (hm : m ≤ 65536) (hNs : N ≤ 140737488351232) (h1 : Boxed w b1 68 (.slice (some ⟨b, 0, none⟩) (m * N) c)) (h2 : Boxed w b2 3 (.int .i64 (N : Nat))) (hc : m * N ≤ c) :
    Calls Try.prog 83 #[.slice none 0 0, .func (.func 82) #[] #[.pointer (some ⟨b1, 0, none⟩), .pointer (some ⟨b2, 0, none⟩)]] w fun e w' =>
      ∃ v, e = .returned v ∧ w'.ownsRow w.heap.size 68 1 v m (chVs b N m) ∧ Below w.heap.size w w' := by
  obtain ⟨S, hS⟩ : ∃ S, w.heap.size = S := ⟨_, rfl⟩
  obtain ⟨w1, hw1⟩ : ∃ w1, w.alloc (.cells #[.slice none 0 0] 97) = w1 := ⟨_, rfl⟩
  have b01 : Below w.heap.size w w1 := by rw [← hw1]; exact (Below.refl _ _).alloc (Nat.le_refl _) _
  have S1 : Hid (w1.heap.size = S + 1) := Lib.hid (by rw [← hw1, ← hS]; simp)
  have C1 : Hid (ColI w b N [] w1) := Lib.hid ⟨rfl, ⟨.slice none 0 0, by rw [← hw1]; exact Boxed.new _ _ _, World.ownsRow_nil _ _ _ _⟩, b01⟩
  have SQ := Lib.hid (chunkF_seq 5 b1 b2 [b1, b2] b 0 N m c w1 hN hsz hNs (boxed_below h1 b01) (boxed_below h2 b01) (by simp) (by simp) hc)
  have LB : Hid (b1 < S ∧ b2 < S) := Lib.hid ⟨by rw [← hS]; exact h1.lt, by rw [← hS]; exact h2.lt⟩
  have HS := Lib.hid hS
  have HM := Lib.hid hm
  clear h1 h2 hN hsz hNs hc b01 hm
  refine (callsIn_wide (n := 6)).1 ?_
  refine callsIn_of_wp_marks Try.func83 rfl trivial ?_ rfl
  simp only [Try.ntmps83, List.size_toArray, List.length_cons, List.length_nil, Nat.reduceAdd, Nat.reduceSub, Array.replicate_succ, Array.replicate_zero, List.push_toArray, List.append_toArray, List.nil_append, List.cons_append]
  refine wpIn_wide.2 ?_
  go_wp2_with fail
  refine wpIn_wide.1 (rangeF (n := 6) (by omega) (gf := 82) (lb := #[.pointer (some ⟨b1, 0, none⟩), .pointer (some ⟨b2, 0, none⟩)]) rfl (enters_of Try.func82 (by kernel_rfl) rfl)
    SQ.out (Below.refl _ _) (fun _ => rfl) (fun z hz => by have := LB.out; rw [S1.out]; simp at hz; omega)
    (fun pre X => ColI w b N pre X) (fun c pre X => False) (fun s X Y h hb => h.old hb) (fun c s X Y h hb => h)
    (fun s X Y h hb => h.put (by rw [S1.out, HS.out]) hb) (fun c s X Y h hb => h) C1.out ?round ?done ?stop)
  case stop =>
    rintro _ _ _ _ _ _ h _
    exact h.elim
  case round =>
    rintro ll pre x X hl hlX _ hC hx
    rw [S1.out] at hl ⊢
    obtain ⟨hr, rfl⟩ := hx
    rw [Nat.zero_add]
    have RC := Lib.hid hC
    have HR := Lib.hid hr
    have HLX := Lib.hid hlX
    clear hC hr
    gi_wp2_with fail
    refine ⟨KeepsFrom.refl _ _, fun Z hZ => ?_⟩
    have hcz := RC.out.put (by rw [HS.out, hl]) hZ
    obtain ⟨v, hbx, hrow⟩ := hcz.box
    have y1 := hbx.cell
    have y2 := hbx.frozen
    rw [HS.out] at hbx hrow y1 y2
    have BX := Lib.hid hbx
    have RW := Lib.hid hrow
    have CZ := Lib.hid hcz
    have HZ := Lib.hid hZ
    clear hbx hrow hcz hZ
    obtain ⟨i0, hi, hz0, hz1, hz2⟩ := tyRB.hi
    gi_wp2_with (gi_at_builtin; refine stop ?_)
    refine unstop (wpListIn_append_own _ rfl _ _ 97 rfl (S + 3) 68 i0 (.slice none 0 0) 1 24 tyRB.ht hi hz0 hz1 hz2 rfl (by decide) _ _ _ rfl (RW.out.alloc _) ⟨Z.heap.size, 0, none⟩ 1 1 [.slice (some ⟨b, pre.length * N * 64, none⟩) N N] rfl rfl ?c1 (by simp [Value.oneCell']) (by have := HR.out; have := HM.out; unfold maxLen; omega) (by have := HR.out; have := HM.out; omega) (by have := HZ.out.size; have := HLX.out; rw [World.size_alloc]; omega) ?_)
    case c1 =>
      intro j u hu
      match j with
      | 0 =>
        simp only [List.getElem?_cons_zero, Option.some.injEq] at hu
        subst hu
        show (Z.alloc _).cell? ⟨Z.heap.size, 0 + 0, none⟩ = _
        rw [Nat.zero_add, cell_of_row _ _ _ _ _ _ (heap_alloc_new _ _)]
        rfl
      | j + 1 => simp at hu
    intro v' w3 hown hg3 _
    have B3 : Hid (Boxed w3 S 97 v) := Lib.hid (heap_grown (RW.out.alloc _) hg3 (heap_old BX.out) (by decide))
    have L3 : Hid (Below S w w3) := Lib.hid (by
      have h1 := CZ.out.l
      rw [HS.out] at h1
      exact (h1.alloc (by have := h1.size; have := HS.out; omega) _).grown hg3 (by rw [World.size_alloc]; have := h1.size; have := HS.out; omega) (fun k e => by have := (RW.out.lt k e).1; omega))
    obtain ⟨a3, c3, rfl⟩ := owns_any hown
    have O3 := Lib.hid hown
    have G3 := Lib.hid hg3
    have y1 := B3.out.cell
    have y2 := B3.out.frozen
    clear hown hg3
    gi_wp2_with fail
    have hsz := G3.out.size
    rw [World.size_alloc] at hsz
    have hzs := HZ.out.size
    obtain ⟨w9, hw9⟩ : ∃ w9, w3.setCell ⟨S, 0, none⟩ (.slice a3 (pre.length + 1) c3) = w9 := ⟨_, rfl⟩
    rw [hw9]
    have hg9 : w3.grownBy w9 (some S) := by rw [← hw9]; exact grownBy_setCell' w3 S _
    have hs9 := hg9.size
    have hall : ∀ j, j < Z.heap.size → j ≠ S → some j ≠ v.ownBlock → w9.heap[j]? = Z.heap[j]? := fun j hj h1 h2 => by
      rw [hg9.block j (by omega) (fun e => h1 (Option.some.inj e)), G3.out.block j (by rw [World.size_alloc]; omega) h2, (Below.refl Z.heap.size Z |>.alloc (Nat.le_refl _) _).block j hj]
    have hlow : ∀ j, j < S + 3 → some j ≠ v.ownBlock := fun j hj e => by have := (RW.out.lt j e.symm).1; omega
    refine ⟨⟨by omega, fun j o hj ho hcl => ?_⟩, ⟨by omega, fun j hj hlt => ?_⟩, ?_, ⟨_, by rw [HS.out, ← hw9]; exact Boxed.set _ B3.out, ?_⟩, ?_⟩
    · rw [hall j (Array.getElem?_eq_some_iff.1 ho).1 (by omega) ?_]
      · exact ho
      · intro e
        rcases RW.out.2 with ⟨rfl, _⟩ | ⟨g, cap, cur, rfl, _, hc, _⟩
        · simp [Value.ownBlock] at e
        · have e2 : j = g := Option.some.inj e
          rw [← e2, ho] at hc
          rw [Option.some.inj hc] at hcl
          simp [Obj.isCells] at hcl
    · have hb := LB.out
      have hjs : j < S := by simp at hj; omega
      rw [hall j (by omega) (by omega) (hlow j (by omega)), HZ.out.block j (by omega)]
    · rw [List.length_append, List.length_singleton, chVs_succ, ← CZ.out.eq]
      rfl
    · rw [HS.out, ← hw9, List.length_append]
      exact owns_other O3.out B3.out (by decide)
    · rw [← hw9, HS.out]
      exact below_set L3.out (Nat.le_refl _)
  case done =>
    rintro E pre X hE hEX hfin hC hK
    unfold FinCh at hfin
    have CC := Lib.hid hC
    have HK := Lib.hid hK
    have HF := Lib.hid hfin
    obtain ⟨v, hbx, hrow⟩ := hC.box
    have y1 := hbx.cell
    rw [HS.out] at hbx hrow y1
    have RW := Lib.hid hrow
    rw [S1.out] at hE
    have HE := Lib.hid hE
    clear hC hK hfin hrow hbx hE
    go_wp2_with fail
    have ME : Marks E X [{ target := .collected E, args := #[] }] (E + 1) := ⟨E, rfl, Nat.le_refl _, Nat.lt_succ_self _, HK.out, trivial⟩
    refine marks_leave _ (E + 1) X ME (fun w' hb' hs' => ?_)
    have hall : ∀ j, j ≠ E → w'.heap[j]? = X.heap[j]? := fun j hj => by
      rcases Nat.lt_or_ge j E with h | h
      · exact hb'.block j h
      · exact hs' j (by omega)
    refine ⟨v, by simp [results, Try.f83, go_sem], v, rfl, ?_, CC.out.l.trans (hb'.mono (by have := HE.out; have := HS.out; omega))⟩
    have hrow := RW.out
    have heq := CC.out.eq
    rw [HF.out] at hrow heq
    rw [heq] at hrow
    refine World.ownsRow.mono (base := S + 3) ⟨hrow.1, ?_⟩ (by have := HS.out; omega)
    rcases hrow.2 with h | ⟨g, cap, cur, rfl, hg, hc, hx⟩
    · exact .inl h
    · exact .inr ⟨g, cap, cur, rfl, hg, by rw [hall g (fun e => by rw [e, HK.out] at hc; simp at hc)]; exact hc, hx⟩
set_option maxHeartbeats 1600000 in
theorem collectK (b1 b2 b N m c : Nat) (w : World) (hN : 1 ≤ N) (hsz : m * N ≤ 140737488351232) (hm : m ≤ 65536) (hNs : N ≤ 140737488351232) (h1 : Boxed w b1 68 (.slice (some ⟨b, 0, none⟩) (m * N) c)) (h2 : Boxed w b2 3 (.int .i64 (N : Nat))) (hc : m * N ≤ c) :
    Calls Try.prog 68 #[.func (.func 82) #[] #[.pointer (some ⟨b1, 0, none⟩), .pointer (some ⟨b2, 0, none⟩)]] w fun e w' =>
      ∃ v, e = .returned v ∧ w'.ownsRow w.heap.size 68 1 v m (chVs b N m) ∧ Below w.heap.size w w' := by
  have A := Lib.hid (appSeqK b1 b2 b N m c w hN hsz hm hNs h1 h2 hc)
  clear hN hsz hm hNs h1 h2 hc
  go_enter Try.func68, Try.ntmps68
  go_wp2_with fail
  refine A.out.mono ?_
  rintro e w2 ⟨v, rfl, h1, h2⟩
  have H1 := Lib.hid h1
  have H2 := Lib.hid h2
  obtain ⟨a, c2, rfl⟩ := owns_any h1
  clear h1 h2
  go_wp2_with fail
  go_ret
  exact ⟨_, rfl, H1.out, H2.out⟩
end Go.Proofs.Ytnhalnjdlkdnkaa

namespace Go.Proofs.Ytnhalnjdlkdnkaa
open Go.RowKit Go.BigFrame
set_option linter.unusedVariables false
set_option linter.unusedSimpArgs false
set_option maxRecDepth 20000

def rvK (m k i : Nat) : Nat := if i < k ∨ m - k ≤ i then m - 1 - i else i
def rvV (b N m k : Nat) : List Value := (List.range m).map fun i => chV b N (rvK m k i)
theorem rvV_len (b N m k : Nat) : (rvV b N m k).length = m := by simp [rvV]
theorem rvV_zero (b N m : Nat) : rvV b N m 0 = chVs b N m := by
  unfold rvV chVs
  refine List.map_congr_left fun i hi => ?_
  rw [List.mem_range] at hi
  unfold rvK
  rw [if_neg (by omega)]
theorem rvV_end (b N m k : Nat) (h : m ≤ 2 * k + 1) : rvV b N m k = (List.range m).map fun i => chV b N (m - 1 - i) := by
  unfold rvV
  refine List.map_congr_left fun i hi => ?_
  rw [List.mem_range] at hi
  unfold rvK
  by_cases c : i < k ∨ m - k ≤ i
  · rw [if_pos c]
  · rw [if_neg c, show m - 1 - i = i by omega]
theorem rvV_at (b N m k i : Nat) (hi : i < m) : (rvV b N m k)[i]? = some (chV b N (rvK m k i)) := by simp [rvV, hi]
theorem rvV_succ (b N m k : Nat) (h : 2 * k + 1 < m) : rvV b N m (k + 1) = ((rvV b N m k).set k (chV b N (m - 1 - k))).set (m - 1 - k) (chV b N k) := by
  apply List.ext_getElem (by simp [rvV])
  intro i h1 h2
  have hi : i < m := by rw [rvV_len] at h1; exact h1
  rw [List.getElem_set, List.getElem_set]
  simp only [rvV, List.getElem_map, List.getElem_range, rvK]
  by_cases e1 : m - 1 - k = i
  · rw [if_pos e1, if_pos (by omega), show m - 1 - i = k by omega]
  · rw [if_neg e1]
    by_cases e2 : k = i
    · rw [if_pos e2, if_pos (by omega), show m - 1 - i = m - 1 - k by omega]
    · rw [if_neg e2]
      by_cases c : i < k ∨ m - k ≤ i
      · rw [if_pos c, if_pos (by omega)]
      · rw [if_neg c, if_neg (by omega)]
set_option maxHeartbeats 8000000 in
theorem revS_any (base g m cap b N : Nat) (w : World) (hr : w.ownsRow base 68 1 (.slice (some ⟨g, 0, none⟩) m cap) m (chVs b N m)) (hm : m ≤ 65536) :
    Calls Try.prog 69 #[.slice (some ⟨g, 0, none⟩) m cap] w fun e w' => (∃ v, e = .returned v) ∧ w'.ownsRow base 68 1 (.slice (some ⟨g, 0, none⟩) m cap) m (rvV b N m m) ∧ w.grownBy w' (some g) := by
  have HR0 : Hid (w.ownsRow base 68 1 (.slice (some ⟨g, 0, none⟩) m cap) m (rvV b N m 0)) := Lib.hid (by rw [rvV_zero]; exact hr)
  have HM := Lib.hid hm
  have e0 : IntKind.i64.wrap ((m : Int) - 1) = (m : Int) - 1 := IntWalk.i64_in _ (by omega)
  clear hr hm
  go_enter Try.func69, Try.ntmps69
  go_wp2_with fail
  go_loopw [2, 3] (fun i j W => ∃ k : Nat, k ≤ m ∧ i = .int .i64 (k : Nat) ∧ j = .int .i64 ((m : Int) - 1 - (k : Int)) ∧ W.ownsRow base 68 1 (.slice (some ⟨g, 0, none⟩) m cap) m (rvV b N m k) ∧ w.grownBy W (some g)) (fun i _ _ => m - (intOf i).toNat)
  case atStart => exact ⟨0, Nat.zero_le _, rfl, by simp, HR0.out, grownK_refl _ _⟩
  case round =>
    clear HR0 e0
    obtain ⟨k, hk, rfl, rfl, hrow, hg⟩ := hrel
    have RW := Lib.hid hrow
    have GR := Lib.hid hg
    clear hrow hg
    by_cases hlt : 2 * k + 1 < m
    · have hm65 := HM.out
      have f1 : decide ((k : Int) < (m : Int) - 1 - (k : Int)) = true := by rw [decide_eq_true_eq]; omega
      obtain ⟨j, hj⟩ : ∃ j : Nat, m - 1 - k = j := ⟨_, rfl⟩
      have em : (m : Int) - 1 - (k : Int) = (j : Int) := by omega
      rw [em] at f1 ⊢
      have f1' : decide (k < j) = true := by rw [decide_eq_true_eq]; omega
      have i1 : (k : Int) < (m : Int) := by omega
      have i2 : (j : Int) < (m : Int) := by omega
      have i3 : ¬ k = j := by omega
      have i4 : ¬ j = k := by omega
      have g1 : IntKind.i64.wrap ((k : Int) + 1) = (k : Int) + 1 := IntWalk.i64_in _ (by omega)
      have g2 : IntKind.i64.wrap ((j : Int) - 1) = (j : Int) - 1 := IntWalk.i64_in _ (by omega)
      have a0 : wr.cell? ⟨g, k, none⟩ = some (.slice (some ⟨b, k * N * 64, none⟩) N N) := by
        rw [RW.out.cellAt _ (by omega), rvV_at _ _ _ _ _ (by omega)]
        unfold rvK
        rw [if_neg (by omega)]
        rfl
      have b0 : wr.cell? ⟨g, j, none⟩ = some (.slice (some ⟨b, j * N * 64, none⟩) N N) := by
        rw [RW.out.cellAt _ (by omega), rvV_at _ _ _ _ _ (by omega)]
        unfold rvK
        rw [if_neg (by omega)]
        rfl
      obtain ⟨C, hC⟩ : ∃ C, wr.heap[g]? = some (.cells C 68 (0, 0)) := by
        rcases RW.out.2 with ⟨h, _⟩ | ⟨g', c', cur, h, _, hc, _⟩
        · simp at h
        · simp only [Value.slice.injEq, Option.some.injEq, Addr.mk.injEq, and_true, true_and] at h
          obtain ⟨rfl, _⟩ := h
          exact ⟨cur, hc⟩
      have z0 := frozen_of_row wr g k _ _ hC
      have z1 := frozen_of_row wr g j _ _ hC
      have EM := Lib.hid em
      have HLT := Lib.hid hlt
      have HJ := Lib.hid hj
      clear em hlt hj hC
      go_wp2_with fail
      go_region
      go_wp2_with fail
      go_roundw
      case rel =>
        obtain ⟨h1, h2⟩ := RW.out.stored k (.slice (some ⟨b, j * N * 64, none⟩) N N)
        obtain ⟨h3, h4⟩ := World.ownsRow.stored h1 j (.slice (some ⟨b, k * N * 64, none⟩) N N)
        have e : rvV b N m (k + 1) = ((rvV b N m k).set k (chV b N j)).set j (chV b N k) := by
          have h := rvV_succ b N m k HLT.out
          rw [HJ.out] at h
          exact h
        have hlt := HLT.out
        refine ⟨k + 1, by omega, by go_num, by have := EM.out; go_num, ?_, ?_⟩
        · rw [e]
          exact owns_below h3 (Below.refl _ _).drew
        · exact grownK_trans GR.out (grownK_trans h2 (grownK_trans h4 (grownK_below (Below.refl _ _).drew _)))
      case measure => simp [intOf]; have := HLT.out; omega
    · have f1 : decide ((k : Int) < (m : Int) - 1 - (k : Int)) = false := by rw [decide_eq_false_iff_not]; omega
      have EE : Hid (rvV b N m k = rvV b N m m) := Lib.hid (by rw [rvV_end b N m k (by omega), rvV_end b N m m (by omega)])
      go_wp2_with fail
      go_end0
      exact ⟨⟨_, rfl⟩, by have h := RW.out; rw [EE.out] at h; exact h, GR.out⟩
end Go.Proofs.Ytnhalnjdlkdnkaa

namespace Go.Proofs.Ytnhalnjdlkdnkaa
open Go.RowKit Go.BigFrame
set_option linter.unusedVariables false
set_option linter.unusedSimpArgs false
set_option maxRecDepth 20000

set_option maxHeartbeats 1600000 in
theorem growK (n : Nat) (hn : 0 < n) (hn2 : n ≤ 65536) (w : World) : Calls Try.prog 84 #[.slice none 0 0, .int .i64 (n : Int)] w fun e w' => ∃ cap, e = .returned (.slice (some ⟨w.heap.size, 0, none⟩) 0 cap) ∧ n ≤ cap ∧ w'.ownsRow w.heap.size 23 64 (.slice (some ⟨w.heap.size, 0, none⟩) 0 cap) 0 [] ∧ Below w.heap.size w w' := by
  obtain ⟨i, hi, hz, hsz, hby⟩ := tyB.hi
  have hr := Lib.run_append_nil_zeros (P := Try.prog) w 68 3 68 23 i (arr zero64) .i64 .i64 tyB.ht Try.underlying3 hi hz n (by omega) (by omega) (by omega) (by rw [hby]; omega)
  have hge := grownCap_ge w n 0 23
  have hle := grownCap_le_maxLen w n 0 23 (by unfold maxLen; omega)
  generalize hK : grownCap w n 0 23 = K at *
  obtain ⟨ZC, hZC⟩ : ∃ z, (arr zero64).cells = z := ⟨_, rfl⟩
  have ZS : ZC.size = 64 := by rw [← hZC]; exact tyB.hz
  rw [hZC] at hr
  have HO : Hid (∀ cells : Array Value, cells.size = K * 64 → (w.drew.alloc (.cells cells 23)).ownsRow w.heap.size 23 64 (.slice (some ⟨w.heap.size, 0, none⟩) 0 K) 0 []) := Lib.hid (fun cells hc => by
    exact World.ownsRow_made (w := w.drew) cells K (by show w.heap.size ≤ w.heap.size; exact Nat.le_refl _) hle hc)
  have hcells : Hid ((Builtin.zeroCells ZC n ++ Builtin.zeroCells ZC (K - n)).size = K * 64) := Lib.hid (by
    have z : ∀ k, (Builtin.zeroCells ZC k).size = k * 64 := fun k => by
      simp [Builtin.zeroCells, ZS]
    rw [Array.size_append, z, z, ← Nat.add_mul]
    congr 1
    omega)
  have HGE := Lib.hid hge
  have HLE := Lib.hid hle
  have d1 : decide (n ≤ K) = true := by rw [decide_eq_true_eq]; exact hge
  have d2 : decide (0 ≤ K) = true := by rw [decide_eq_true_eq]; omega
  have d3 : decide (0 < n) = true := by rw [decide_eq_true_eq]; exact hn
  clear hi hz hsz hby hge hle hK hZC ZS
  go_enter Try.func84, Try.ntmps84
  go_wp2_with (at_builtin; refine stop ?_)
  refine unstop (Lib.wpList_append_run _ rfl _ _ _ _ rfl _ _ rfl rfl _ _ hr ?_)
  go_wp2
  go_ret
  exact ⟨K, rfl, HGE.out, HO.out _ hcells.out, ((Below.refl _ _).drew).alloc (Nat.le_refl _) _⟩
theorem sl_cap {size n : Nat} {w : World} {a : Option Addr} {c c' : Nat} {xs : List Value} (h : SlN size w (.slice a n c) n xs) (hc : n ≤ c') : SlN size w (.slice a n c') n xs := by
  refine ⟨h.1, ?_⟩
  rcases h.2 with ⟨a', cap, e, h0⟩ | ⟨b, off, cap, e, h1, h2, h3⟩
  · exact .inl ⟨a, c', rfl, h0⟩
  · simp only [Value.slice.injEq, true_and] at e
    exact .inr ⟨b, off, c', by rw [e.1], hc, h2, h3⟩
/-- the rows so far, last first -/
def opTo (N m : Nat) (bs : List (List Int)) (k : Nat) : List (List Int) := (List.range (k * N)).map fun j => bs.getD (opSrc N m j) []
theorem opTo_len (N m : Nat) (bs : List (List Int)) (k : Nat) : (opTo N m bs k).length = k * N := by simp [opTo]
theorem opTo_full (N m : Nat) (bs : List (List Int)) (h : bs.length = m * N) : opTo N m bs m = opR N m bs := by unfold opTo opR; rw [h]
theorem opTo_succ (N m : Nat) (bs : List (List Int)) (h : bs.length = m * N) (k : Nat) (hk : k < m) : opTo N m bs (k + 1) = opTo N m bs k ++ (bs.drop ((m - 1 - k) * N)).take N := by
  unfold opTo
  rw [Nat.succ_mul, List.range_add, List.map_append, List.map_map]
  congr 1
  have hle : (m - 1 - k) * N + N ≤ bs.length := by
    rw [h, ← Nat.succ_mul]
    exact Nat.mul_le_mul_right _ (by omega)
  apply List.ext_getElem (by rw [List.length_map, List.length_range, List.length_take, List.length_drop]; omega)
  intro j h1 h2
  have hj : j < N := by simpa using h1
  obtain ⟨e1, e2⟩ := mod_at (a := k) hj
  simp only [List.getElem_map, List.getElem_range, Function.comp_apply, List.getElem_take, List.getElem_drop, opSrc]
  rw [e1, e2, getD_of]
theorem mul_le_of {k m N T : Nat} (h : m * N = T) (hk : k ≤ m) : k * N ≤ T := by rw [← h]; exact Nat.mul_le_mul_right _ hk

set_option maxHeartbeats 6400000 in
theorem concatK (base base' g m cap b c N xn : Nat) (bs : List (List Int)) (w : World) (hr : w.ownsRow base 68 1 (.slice (some ⟨g, 0, none⟩) m cap) m (rvV b N m m)) (hb : BkO base' w (.slice (some ⟨b, 0, none⟩) xn c) bs) (hl : bs.length = m * N) (h1 : 1 ≤ N) (hm1 : 1 ≤ m) (h65 : bs.length ≤ 65536) :
    Calls Try.prog 70 #[.slice (some ⟨g, 0, none⟩) m cap] w fun e w' => ∃ v, e = .returned v ∧ BkO w.heap.size w' v (opR N m bs) ∧ Below w.heap.size w w' := by
  obtain ⟨T, hT⟩ : ∃ T, m * N = T := ⟨_, rfl⟩
  have TP : 0 < T := by rw [← hT]; exact Nat.mul_pos hm1 h1
  have T65 : T ≤ 65536 := by omega
  have MT : Hid (m ≤ T) := Lib.hid (by rw [← hT]; exact Nat.le_mul_of_pos_right _ h1)
  have GR := Lib.hid (growK T TP T65 w)
  have HT := Lib.hid hT
  have HL := Lib.hid hl
  have HTP := Lib.hid (And.intro TP T65)
  have H1 := Lib.hid (And.intro h1 hm1)
  have CE : Hid (∀ k, k < m → w.cell? ⟨g, k, none⟩ = some (.slice (some ⟨b, (m - 1 - k) * N * 64, none⟩) N N)) := Lib.hid (fun k hk => by
    rw [hr.cellAt _ (by omega), rvV_at _ _ _ _ _ hk]
    unfold rvK
    rw [if_pos (by omega)]
    rfl)
  have HB := Lib.hid hb
  clear hT hl h1 hm1 TP T65 hr hb h65
  go_enter Try.func70, Try.ntmps70
  go_wp2_with fail
  go_loopw [3, 5, 11] (fun s _ i w' => ∃ k : Nat, k ≤ m ∧ i = .int .i64 k ∧ s = .int .i64 ((k * N : Nat) : Int) ∧ w = w') (fun _ _ i _ => m - (intOf i).toNat)
  case atStart => exact ⟨0, Nat.zero_le _, rfl, by simp, rfl⟩
  case round =>
    obtain ⟨k, hk, rfl, rfl, rfl⟩ := hrel
    obtain ⟨q, hq⟩ : ∃ q, k * N = q := ⟨_, rfl⟩
    have HQ := Lib.hid hq
    rw [hq]
    clear hq
    by_cases hkl : k < m
    · have hc := CE.out k hkl
      have hm65 : m ≤ 65536 := by have := MT.out; have := HTP.out; omega
      have e1 : decide ((k : Int) < (m : Int)) = true := by rw [decide_eq_true_eq]; omega
      have e2 : decide (k < m) = true := by rw [decide_eq_true_eq]; omega
      have hq1 : q + N ≤ T := by rw [← HQ.out, ← Nat.succ_mul]; exact mul_le_of HT.out hkl
      have hq2 : q + N ≤ 65536 := by have := HTP.out; omega
      have e3 : ¬ ((q : Int) + (N : Int) < 0) := by omega
      have e4 : decide ((q : Int) + (N : Int) < 0) = false := by rw [decide_eq_false_iff_not]; omega
      have g1 : IntKind.i64.wrap ((q : Int) + (N : Int)) = (q : Int) + (N : Int) := IntWalk.i64_in _ (by omega)
      have g2 : IntKind.i64.wrap ((k : Int) + 1) = (k : Int) + 1 := IntWalk.i64_in _ (by omega)
      clear hq1 hq2
      go_wp2_with fail
      go_roundw
      case rel => exact ⟨k + 1, by omega, by go_num, by rw [Nat.succ_mul, HQ.out]; go_num, by first | rfl | trivial⟩
      case measure => simp [intOf]; omega
    · obtain rfl : k = m := by omega
      have e1 : decide ((k : Int) < (k : Int)) = false := by rw [decide_eq_false_iff_not]; omega
      have HK : q = T := by rw [← HQ.out, HT.out]
      subst HK
      go_wp2_with fail
      refine GR.out.mono ?_
      rintro e w1 ⟨cp, rfl, hge, hown, hbel⟩
      have BEL := Lib.hid hbel
      have OWN := Lib.hid hown
      have HGE := Lib.hid hge
      clear hbel hown hge
      go_wp2_with fail
      go_loopw [6, 8, 27] (fun o _ i w' => ∃ j : Nat, j ≤ k ∧ i = .int .i64 j ∧ o = .slice (some ⟨w.heap.size, 0, none⟩) (j * N) cp ∧ w'.ownsRow w.heap.size 23 64 (.slice (some ⟨w.heap.size, 0, none⟩) (j * N) cp) (j * N) (fB (opTo N k bs j)) ∧ Below w.heap.size w w') (fun _ _ i _ => k - (intOf i).toNat)
      case atStart => exact ⟨0, Nat.zero_le _, rfl, by simp, by simp only [Nat.zero_mul]; rw [show opTo N k bs 0 = [] by simp [opTo]]; exact OWN.out, BEL.out⟩
      case round =>
        obtain ⟨j, hj, rfl, rfl, hown, hbel⟩ := hrel
        obtain ⟨r, hr⟩ : ∃ r, j * N = r := ⟨_, rfl⟩
        rw [hr] at hown ⊢
        have HR := Lib.hid hr
        have OW := Lib.hid hown
        have BE := Lib.hid hbel
        clear hown hbel hr
        by_cases hjl : j < k
        · have hc := cell_old BE.out (CE.out j hjl)
          have hk65 : k ≤ 65536 := by have := MT.out; have := HTP.out; omega
          have e1 : decide ((j : Int) < (k : Int)) = true := by rw [decide_eq_true_eq]; omega
          have e2 : decide (j < k) = true := by rw [decide_eq_true_eq]; omega
          have g2 : IntKind.i64.wrap ((j : Int) + 1) = (j : Int) + 1 := IntWalk.i64_in _ (by omega)
          have FIT : Hid (r + N ≤ cp) := Lib.hid (by
            have h : r + N ≤ q := by rw [← HR.out, ← Nat.succ_mul]; exact mul_le_of HT.out hjl
            have := HGE.out
            omega)
          have HJ := Lib.hid hjl
          have SRC : Hid (SlN 64 wr (.slice (some ⟨b, (k - 1 - j) * N * 64, none⟩) N N) N (fB ((bs.drop ((k - 1 - j) * N)).take N))) := Lib.hid (by
            have h := bks_sub (HB.out.old BE.out).bks ((k - 1 - j) * N) N (by rw [HL.out, ← Nat.succ_mul]; exact Nat.mul_le_mul_right _ (by omega))
            rw [Nat.zero_add] at h
            exact sl_cap h (Nat.le_refl _))
          clear hjl
          go_wp2_with (at_builtin; refine stop ?_)
          refine unstop (wpList_fit tyB rfl _ _ rfl w.heap.size w.heap.size _ cp _ rfl OW.out _ N _ rfl SRC.out (fB_one _) FIT.out ?_)
          intro w2 hown2 hg2
          have HB2 := Lib.hid (run_app_below (w0 := w) OW.out hg2 BE.out (Nat.le_refl _))
          have HO2 := Lib.hid hown2
          clear hown2 hg2
          go_wp2_with fail
          go_roundw
          case rel => exact ⟨j + 1, HJ.out, by go_num, by rw [Nat.succ_mul, HR.out], by rw [Nat.succ_mul, HR.out, opTo_succ N k bs (by rw [HL.out]) j HJ.out, fB_app]; exact HO2.out, HB2.out⟩
          case measure => simp [intOf]; have := HJ.out; omega
        · obtain rfl : j = k := by omega
          have e1 : decide ((j : Int) < (j : Int)) = false := by rw [decide_eq_false_iff_not]; omega
          have OF : Hid (BkO w.heap.size wr (.slice (some ⟨w.heap.size, 0, none⟩) r cp) (opR N j bs)) := Lib.hid (by
            have h := OW.out
            rw [← opTo_full N j bs HL.out]
            refine ⟨by rw [opTo_len, HR.out]; exact h, fun x hx => ?_⟩
            unfold opTo at hx
            rw [List.mem_map] at hx
            obtain ⟨y, hy, rfl⟩ := hx
            rw [List.mem_range] at hy
            have hlt : opSrc N j y < bs.length := by
              rw [HL.out]
              unfold opSrc
              have hN := H1.out.1
              have q1 := Nat.mod_lt y (show 0 < N by omega)
              have q2 : y / N < j := Nat.div_lt_of_lt_mul (by rw [Nat.mul_comm]; exact hy)
              obtain ⟨z, hz⟩ : ∃ z, y / N = z := ⟨_, rfl⟩
              rw [hz] at q2 ⊢
              exact mul_add_lt (by omega) q1
            rw [getD_of hlt]
            exact HB.out.all _ (List.getElem_mem hlt))
          go_wp2_with fail
          go_ret
          exact ⟨_, rfl, OF.out, BE.out⟩
end Go.Proofs.Ytnhalnjdlkdnkaa
