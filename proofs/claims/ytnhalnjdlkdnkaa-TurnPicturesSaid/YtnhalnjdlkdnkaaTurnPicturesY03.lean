/- The law's spoilt: a picture of its own memory is written over; nothing else turns. By an AI agent. The document's Turn: plain. By an AI agent. The document's Clear. By an AI agent. -/
import Derived.Test.YtnhalnjdlkdnkaaTurnPicturesY02
import Derived.Deep.OwnRows
import Derived.Test.YtnhalnjdlkdnkaaZ30
import Derived.Test.YtnhalnjdlkdnkaaZ12
namespace Go.Proofs.Ytnhalnjdlkdnkaa
open Go.RowKit Go.BigFrame
set_option linter.unusedVariables false
set_option linter.unusedSimpArgs false
set_option maxRecDepth 20000

theorem grownBy_refl (w : World) (r : Option Nat) : w.grownBy w r := ⟨rfl, rfl, rfl, Nat.le_refl _, fun _ _ _ => rfl⟩
theorem grownBy_trans {a b c : World} {r : Option Nat} (h : a.grownBy b r) (k : b.grownBy c r) : a.grownBy c r :=
  ⟨k.os.trans h.os, k.tape.trans h.tape, k.output.trans h.output, Nat.le_trans h.size k.size, fun i hi hne => (k.block i (Nat.lt_of_lt_of_le hi h.size) hne).trans (h.block i hi hne)⟩
/-- a block of n bytes and more, not frozen -/
def Rowb (w : World) (g n : Nat) : Prop := ∃ C : Array Value, w.heap[g]? = some (.cells C 5 (0, 0)) ∧ n ≤ C.size ∧ ∀ i, i < n → ∃ c : Int, C[i]? = some (.int .u8 c)
theorem Rowb.set {w : World} {g n i : Nat} (h : Rowb w g n) (c : Int) : Rowb (w.setCell ⟨g, i, none⟩ (.int .u8 c)) g n := by
  obtain ⟨C, h1, h2, h3⟩ := h
  refine ⟨_, heap_setCell_same _ _ _ _ _ _ h1, by simpa using h2, fun j hj => ?_⟩
  by_cases e : j = i
  · subst e
    exact ⟨c, by simp [show j < C.size by omega]⟩
  · obtain ⟨d, hd⟩ := h3 j hj
    exact ⟨d, by rw [Array.getElem?_setIfInBounds_ne (Ne.symm e)]; exact hd⟩
/-- a block like another: as long, of the same type; bytes are still bytes; what holds no numbers is the same -/
def LikeO (o o' : Option Obj) : Prop := ∀ (C : Array Value) (t : TypeId), o = some (.cells C t (0, 0)) → ∃ C' : Array Value, o' = some (.cells C' t (0, 0)) ∧ C'.size = C.size ∧ (t ≠ 3 → t ≠ 23 → t ≠ 5 → C' = C) ∧
  (t = 5 → ∀ (i : Nat) (c : Int), C[i]? = some (.int .u8 c) → ∃ c' : Int, C'[i]? = some (.int .u8 c'))
theorem LikeO.refl (o : Option Obj) : LikeO o o := fun C t h => ⟨C, h, rfl, fun _ _ _ => rfl, fun _ i c h => ⟨c, h⟩⟩
theorem LikeO.trans {a b c : Option Obj} (h : LikeO a b) (k : LikeO b c) : LikeO a c := fun C t e => by
  obtain ⟨C1, e1, s1, u1, b1⟩ := h C t e
  obtain ⟨C2, e2, s2, u2, b2⟩ := k C1 t e1
  refine ⟨C2, e2, s2.trans s1, fun h1 h2 h3 => (u2 h1 h2 h3).trans (u1 h1 h2 h3), fun ht i z hz => ?_⟩
  obtain ⟨z1, hz1⟩ := b1 ht i z hz
  exact b2 ht i z1 hz1
theorem LikeO.put {W : World} {g j : Nat} {C : Array Value} {t : TypeId} {u : Value} (hC : W.heap[g]? = some (.cells C t (0, 0))) (hu : t = 3 ∨ t = 23 ∨ (t = 5 ∧ ∃ c : Int, u = .int .u8 c)) : LikeO (W.heap[g]?) ((W.setCell ⟨g, j, none⟩ u).heap[g]?) := fun D t' hD => by
  rw [hC] at hD
  simp only [Option.some.injEq, Obj.cells.injEq, and_true] at hD
  obtain ⟨rfl, rfl⟩ := hD
  refine ⟨_, heap_setCell_same _ _ _ _ _ u hC, by simp, fun h1 h2 h3 => by rcases hu with h | h | ⟨h, _⟩ <;> contradiction, fun ht i z hz => ?_⟩
  by_cases e : i = j
  · subst e
    have hl := (Array.getElem?_eq_some_iff.1 hz).1
    rcases hu with h | h | ⟨_, c, rfl⟩
    · rw [h] at ht; exact absurd ht (by decide)
    · rw [h] at ht; exact absurd ht (by decide)
    · exact ⟨c, by simp [hl]⟩
  · exact ⟨z, by rw [Array.getElem?_setIfInBounds_ne (Ne.symm e)]; exact hz⟩
/-- what holds while a picture is written over -/
structure SpI (w0 w : World) (base B : Nat) (P : PicL) (q0 q1 q2 q3 pv kv : Value) (W : World) : Prop where
  box : PBox W B P q0 q1 q2 q3 pv kv
  bel : Below base w W
  hi : KeepHi w0.heap.size w W
  like : ∀ b, b < w0.heap.size → LikeO (w0.heap[b]?) (W.heap[b]?)
theorem SpI.old {w0 w : World} {base B : Nat} {P : PicL} {q0 q1 q2 q3 pv kv : Value} {W W' : World} (h : SpI w0 w base B P q0 q1 q2 q3 pv kv W) (hw : w0.heap.size ≤ w.heap.size) (hb0 : base ≤ w0.heap.size) (hb : Below W.heap.size W W') : SpI w0 w base B P q0 q1 q2 q3 pv kv W' := by
  have hs := h.hi.1
  refine ⟨h.box.old hb, h.bel.trans (hb.mono (by omega)), h.hi.trans (keepHi_below hb), fun b hbl => ?_⟩
  rw [hb.block b (by omega)]
  exact h.like b hbl
theorem SpI.put {w0 w : World} {base B : Nat} {P : PicL} {q0 q1 q2 q3 pv kv : Value} {W : World} (h : SpI w0 w base B P q0 q1 q2 q3 pv kv W) {g j : Nat} {C : Array Value} {t : TypeId} {u : Value} (hg : base ≤ g) (hgM : g < w0.heap.size) (hC : W.heap[g]? = some (.cells C t (0, 0)))
    (hu : t = 3 ∨ t = 23 ∨ (t = 5 ∧ ∃ c : Int, u = .int .u8 c)) : SpI w0 w base B P q0 q1 q2 q3 pv kv (W.setCell ⟨g, j, none⟩ u) := by
  refine ⟨heap_other h.box hC (by rcases hu with rfl | rfl | ⟨rfl, _⟩ <;> decide), below_set h.bel hg, ⟨by simpa using h.hi.1, fun b h1 h2 => ?_⟩, fun b hbl => ?_⟩
  · rw [Go.Deep.blk_setCell_other _ _ _ _ (by simp only; omega)]
    exact h.hi.2 b h1 h2
  · by_cases e : b = g
    · subst e
      exact (h.like b hbl).trans (LikeO.put hC hu)
    · rw [Go.Deep.blk_setCell_other _ _ _ _ (by simp only; omega)]
      exact h.like b hbl
theorem SpI.puts {w0 w : World} {base B : Nat} {P : PicL} {q0 q1 q2 q3 pv kv : Value} {g : Nat} (hg : base ≤ g) (hgM : g < w0.heap.size) : ∀ (vs : List Value) (o : Nat) (W : World) (C : Array Value), SpI w0 w base B P q0 q1 q2 q3 pv kv W → W.heap[g]? = some (.cells C 23 (0, 0)) → SpI w0 w base B P q0 q1 q2 q3 pv kv (W.setCells g o vs) ∧ W.grownBy (W.setCells g o vs) (some g)
  | [], o, W, C, h, _ => ⟨h, ⟨rfl, rfl, rfl, Nat.le_refl _, fun _ _ _ => rfl⟩⟩
  | v :: vs, o, W, C, h, hC => by
    obtain ⟨h1, h2⟩ := SpI.puts hg hgM vs (o + 1) (W.setCell ⟨g, o, none⟩ v) _ (h.put hg hgM hC (.inr (.inl rfl))) (heap_setCell_same _ _ _ _ _ v hC)
    exact ⟨h1, grownBy_trans (set_grown W g o v) h2⟩
theorem SpI.over {w0 w : World} {base B : Nat} {P : PicL} {q0 q1 q2 q3 pv kv : Value} {W W' : World} (h : SpI w0 w base B P q0 q1 q2 q3 pv kv W) (hw : w0.heap.size ≤ w.heap.size) {g : Nat} (hg : base ≤ g) (hgM : g < w0.heap.size) (hB : w.heap.size ≤ B) (k : W.grownBy W' (some g)) (kl : LikeO (W.heap[g]?) (W'.heap[g]?)) : SpI w0 w base B P q0 q1 q2 q3 pv kv W' := by
  have hs := h.hi.1
  refine ⟨?_, h.bel.grown k (by omega) (fun b hb => by simp only [Option.some.injEq] at hb; omega), ⟨Nat.le_trans h.hi.1 k.size, fun b h1 h2 => ?_⟩, fun b hbl => ?_⟩
  · unfold PBox
    rw [k.block B (Array.getElem?_eq_some_iff.1 h.box).1 (fun e => by simp only [Option.some.injEq] at e; omega)]
    exact h.box
  · rw [k.block b (by omega) (fun e => by simp only [Option.some.injEq] at e; omega)]
    exact h.hi.2 b h1 h2
  · by_cases e : b = g
    · subst e
      exact (h.like b hbl).trans kl
    · rw [k.block b (by omega) (fun e' => by simp only [Option.some.injEq] at e'; omega)]
      exact h.like b hbl
/-- a cell that holds no number is as it was -/
theorem SpI.cell {w0 w : World} {base B : Nat} {P : PicL} {q0 q1 q2 q3 pv kv : Value} {W : World} (h : SpI w0 w base B P q0 q1 q2 q3 pv kv W) {g j : Nat} {C : Array Value} {t : TypeId} {u : Value} (hC : w0.heap[g]? = some (.cells C t (0, 0))) (h1 : t ≠ 3) (h2 : t ≠ 23) (h3 : t ≠ 5) (hc : w0.cell? ⟨g, j, none⟩ = some u) : W.cell? ⟨g, j, none⟩ = some u := by
  obtain ⟨C', e1, _, e2, _⟩ := h.like g (Array.getElem?_eq_some_iff.1 hC).1 C t hC
  rw [cell_of_row _ _ _ _ _ _ e1, e2 h1 h2 h3]
  rw [cell_of_row _ _ _ _ _ _ hC] at hc
  exact hc
/-- an own row that is not empty -/
theorem owns_room {w : World} {base : Nat} {e : TypeId} {size : Nat} {v : Value} {n : Nat} {xs : List Value} (h : w.ownsRow base e size v n xs) (hn : 0 < n) : ∃ g c, v = .slice (some ⟨g, 0, none⟩) n c ∧ base ≤ g ∧ g < w.heap.size ∧ ∃ C : Array Value, w.heap[g]? = some (.cells C e (0, 0)) ∧ n * size ≤ C.size ∧ C.toList.take (n * size) = xs := by
  rcases h.2 with ⟨rfl, h0⟩ | ⟨g, cap, cur, rfl, hg, hc, h1, _, h2, h3⟩
  · omega
  · exact ⟨g, cap, rfl, hg, (Array.getElem?_eq_some_iff.1 hc).1, cur, hc, by rw [h2]; exact Nat.mul_le_mul_right _ h1, h3⟩
set_option maxHeartbeats 1600000 in
theorem over2_any (g n cap : Nat) (w : World) (h : Rowb w g n) (hn : n ≤ 140737488355328) :
    Calls Try.prog 43 #[.slice (some ⟨g, 0, none⟩) n cap] w fun e w' => (∃ v, e = .returned v) ∧ w.grownBy w' (some g) ∧ LikeO (w.heap[g]?) (w'.heap[g]?) := by
  have HR := Lib.hid h
  clear h
  go_enter Try.func43, Try.ntmps43
  go_wp2_with fail
  go_loopw [5] (fun i wr => ∃ k : Nat, k ≤ n ∧ i = .int .i64 k ∧ Rowb wr g n ∧ w.grownBy wr (some g) ∧ LikeO (w.heap[g]?) (wr.heap[g]?)) (fun i _ => n - (intOf i).toNat)
  case atStart => exact ⟨0, Nat.zero_le _, rfl, HR.out, grownBy_refl _ _, LikeO.refl _⟩
  case round =>
    obtain ⟨k, hk, rfl, hr, hg, hl⟩ := hrel
    have HG := Lib.hid hg
    have RB := Lib.hid hr
    have HL := Lib.hid hl
    by_cases hkn : k < n
    · have f1 : decide ((k : Int) < (n : Int)) = true := by rw [decide_eq_true_eq]; omega
      have f2 : decide (k < n) = true := by rw [decide_eq_true_eq]; exact hkn
      obtain ⟨C, h1, h2, h3⟩ := hr
      obtain ⟨c, hc⟩ := h3 k hkn
      have c1 : wr.cell? ⟨g, k, none⟩ = some (.int .u8 c) := by rw [cell_of_row _ _ _ _ _ _ h1]; exact hc
      have c2 : wr.frozen? ⟨g, k, none⟩ = false := by simp [World.frozen?, h1]
      have HC := Lib.hid h1
      clear hg h1 h2 h3 hc hl
      go_wp2_with fail
      go_roundw
      case rel => exact ⟨k + 1, by omega, by go_num, RB.out.set _, grownBy_trans HG.out (set_grown _ _ _ _), HL.out.trans (LikeO.put HC.out (.inr (.inr ⟨rfl, _, rfl⟩)))⟩
      case measure => simp [intOf]; omega
    · obtain rfl : k = n := by omega
      have f1 : decide ((k : Int) < (k : Int)) = false := by rw [decide_eq_false_iff_not]; omega
      clear hg hr hl
      go_wp2_with fail
      go_end0
      exact ⟨⟨_, rfl⟩, HG.out, HL.out⟩
theorem over_nil (c : Nat) (w : World) : Calls Try.prog 43 #[.slice none 0 c] w fun e w' => (∃ v, e = .returned v) ∧ w = w' := by
  go_enter Try.func43, Try.ntmps43
  go_wp2_with fail
  go_loopw [5] (fun i wr => i = .int .i64 0 ∧ w = wr) (fun i _ => 0)
  case atStart => exact ⟨rfl, rfl⟩
  case round =>
    obtain ⟨rfl, rfl⟩ := hrel
    go_wp2_with fail
    go_end0
    exact ⟨⟨_, rfl⟩, rfl⟩
/-- a row of numbers, in a world that is like the one it was made in -/
theorem LikeO.row {o o' : Option Obj} {C : Array Value} {t : TypeId} (h : LikeO o o') (ho : o = some (.cells C t (0, 0))) : ∃ C' : Array Value, o' = some (.cells C' t (0, 0)) ∧ C'.size = C.size := by
  obtain ⟨C', h1, h2, _⟩ := h C t ho
  exact ⟨C', h1, h2⟩
def b77 : List Int := 77 :: List.replicate 63 0
theorem b77_built : Try.prog.built 23 [(0, .int .i64 77)] = some (vIs b77).toArray := by kernel_rfl
theorem b77_info : (Try.prog.info? 23).map (·.size) = some (vIs b77).toArray.size := by kernel_rfl
theorem b77_one : (vIs b77).toArray.all (·.oneCell') = true := by kernel_rfl
/-- where there is room -/
theorem there_of {W : World} {g o n : Nat} {C : Array Value} {t : TypeId} (h : W.heap[g]? = some (.cells C t (0, 0))) (hn : o + n ≤ C.size) : W.there g o n := fun j hj => by
  refine ⟨?_, frozen_of_row W g _ _ _ h⟩
  rw [cell_of_row _ _ _ _ _ _ h, Array.getElem?_eq_getElem (by omega)]
  rfl
set_option maxHeartbeats 16000000 in
theorem spoilt_any (w0 : World) (base : Nat) (P : PicL) (q0 q1 q2 q3 pv kv : Value) (w : World) (hp : PicO base w0 P q0 q1 q2 q3 pv kv) (hS : SmallT P) (hb0 : base ≤ w0.heap.size) (hw : Below w0.heap.size w0 w) :
    Calls Try.prog 20 #[.agg (vPic P q0 q1 q2 q3 pv kv)] w fun e w' => (∃ v, e = .returned v) ∧ Below base w w' ∧ KeepHi w0.heap.size w w' := by
  have HP := Lib.hid hp
  have HS := Lib.hid hS
  have HB0 := Lib.hid hb0
  obtain ⟨b0, d0, rfl⟩ := hp.pic.q0.len
  obtain ⟨b1, d1, rfl⟩ := hp.pic.q1.len
  obtain ⟨b2, d2, rfl⟩ := hp.pic.q2.len
  obtain ⟨b3, d3, rfl⟩ := hp.pic.q3.len
  obtain ⟨ba, da, rfl, _⟩ := hp.pic.kept.len
  obtain ⟨bp, dp, rfl, _⟩ := hp.pic.parts.len
  obtain ⟨n0, hn0⟩ : ∃ z, P.q0.length = z := ⟨_, rfl⟩
  obtain ⟨n1, hn1⟩ : ∃ z, P.q1.length = z := ⟨_, rfl⟩
  obtain ⟨n2, hn2⟩ : ∃ z, P.q2.length = z := ⟨_, rfl⟩
  obtain ⟨n3, hn3⟩ : ∃ z, P.q3.length = z := ⟨_, rfl⟩
  obtain ⟨na, hna⟩ : ∃ z, P.kept.length = z := ⟨_, rfl⟩
  obtain ⟨n, hn⟩ : ∃ z, P.parts.length = z := ⟨_, rfl⟩
  rw [hn0, hn1, hn2, hn3, hna, hn] at HP ⊢
  have N10 : Hid (n ≤ 10) := Lib.hid (by rw [← hn]; exact hS.n)
  have K50 : Hid (na ≤ 50) := Lib.hid (by rw [← hna]; exact hS.k)
  have HNP := Lib.hid hn
  have HNA := Lib.hid hna
  have HWS : Hid (w0.heap.size ≤ w.heap.size) := Lib.hid hw.size
  clear hn0 hn1 hn2 hn3 hna hn hp hS
  obtain ⟨w1, hw1⟩ : ∃ w1, w.alloc (.cells (vPic P (.slice b0 n0 d0) (.slice b1 n1 d1) (.slice b2 n2 d2) (.slice b3 n3 d3) (.slice bp n dp) (.slice ba na da)) 36) = w1 := ⟨_, rfl⟩
  obtain ⟨B, hB⟩ : ∃ B, w.heap.size = B := ⟨_, rfl⟩
  have HB := Lib.hid hB
  have X1 : Hid (SpI w0 w base B P (.slice b0 n0 d0) (.slice b1 n1 d1) (.slice b2 n2 d2) (.slice b3 n3 d3) (.slice bp n dp) (.slice ba na da) w1) := Lib.hid (by
    rw [← hw1, ← hB]
    exact ⟨heap_alloc_new _ _, (Below.refl _ _).alloc (by have := hw.size; omega) _, keepHi_below ((Below.refl _ _).alloc (Nat.le_refl _) _), fun b hbl => by
      rw [((Below.refl w.heap.size w).alloc (Nat.le_refl _) _).block b (by have := hw.size; omega), hw.block b hbl]
      exact LikeO.refl _⟩)
  obtain ⟨a0, a1, a2, a3, a4, a5, a6, a7, a8⟩ := X1.out.box.cells
  unfold vPic at hw1
  clear hw hb0
  unfold vPic
  go_enter Try.func20, Try.ntmps20
  go_wp2_with fail
  go_loopw [12] (fun i W => ∃ (k : Nat), k ≤ 4 ∧ i = .int .i64 (k : Nat) ∧ SpI w0 w base B P (.slice b0 n0 d0) (.slice b1 n1 d1) (.slice b2 n2 d2) (.slice b3 n3 d3) (.slice bp n dp) (.slice ba na da) W) (fun i _ => 4 - (intOf i).toNat)
  case atStart => exact ⟨0, Nat.zero_le _, rfl, X1.out⟩
  case round =>
    obtain ⟨k, hk, rfl, hx⟩ := hrel
    have XX := Lib.hid hx
    obtain ⟨a0, a1, a2, a3, a4, a5, a6, a7, a8⟩ := hx.box.cells
    clear hx
    by_cases hk4 : k < 4
    · have f1 : decide ((k : Int) < 4) = true := by rw [decide_eq_true_eq]; omega
      have f1' : decide (k < 4) = true := by rw [decide_eq_true_eq]; omega
      have f2 : (k : Int) < 4 := by omega
      have gk : IntKind.i64.wrap ((k : Int) + 1) = (k : Int) + 1 := IntWalk.i64_in _ (by omega)
      have qi := fun W => qV_index (.slice b0 n0 d0) (.slice b1 n1 d1) (.slice b2 n2 d2) (.slice b3 n3 d3) k hk4 W
      have K4 := Lib.hid hk4
      have NOQ : Hid (NO base w0 (qV (.slice b0 n0 d0) (.slice b1 n1 d1) (.slice b2 n2 d2) (.slice b3 n3 d3) k) (qL P k)) := Lib.hid (by
        rcases (show k = 0 ∨ k = 1 ∨ k = 2 ∨ k = 3 by omega) with rfl | rfl | rfl | rfl
        · exact HP.out.q0
        · exact HP.out.q1
        · exact HP.out.q2
        · exact HP.out.q3)
      have QL := Lib.hid (HS.out.q k hk4)
      obtain ⟨m, hm⟩ : ∃ m, (qL P k).length = m := ⟨_, rfl⟩
      obtain ⟨qa, qc, hqv⟩ := owns_any NOQ.out
      have HM := Lib.hid hm
      have HQV := Lib.hid hqv
      clear hk4
      go_wp2_with fail
      have NOV : Hid (w0.ownsRow base 3 1 (.slice qa m qc) m (vIs (qL P k))) := Lib.hid (by
        have h := NOQ.out
        unfold NO at h
        rw [HQV.out, HM.out] at h
        exact h)
      clear hm hqv a0 a1 a2 a3 a4 a5 a6 a7 a8
      go_loopw [17] (fun i W => ∃ (j : Nat), j ≤ m ∧ i = .int .i64 (j : Nat) ∧ SpI w0 w base B P (.slice b0 n0 d0) (.slice b1 n1 d1) (.slice b2 n2 d2) (.slice b3 n3 d3) (.slice bp n dp) (.slice ba na da) W) (fun i _ => m - (intOf i).toNat)
      case atStart => exact ⟨0, Nat.zero_le _, rfl, XX.out⟩
      case round =>
        clear XX
        obtain ⟨j, hj, rfl, hx⟩ := hrel
        have XX := Lib.hid hx
        clear hx
        by_cases hjm : j < m
        · have l1 : decide ((j : Int) < (m : Int)) = true := by rw [decide_eq_true_eq]; omega
          have l1' : decide (j < m) = true := by rw [decide_eq_true_eq]; omega
          have l2 : (j : Int) < (m : Int) := by omega
          have gj : IntKind.i64.wrap ((j : Int) + 1) = (j : Int) + 1 := IntWalk.i64_in _ (by have := QL.out; have := HM.out; omega)
          obtain ⟨g, c, hge, hg1, hg2, C, hC, hCs, _⟩ := owns_room NOV.out (by omega)
          simp only [Value.slice.injEq] at hge
          obtain ⟨rfl, _, rfl⟩ := hge
          obtain ⟨C', hC', hs'⟩ := (XX.out.like g hg2).row hC
          have HC' := Lib.hid hC'
          have HG := Lib.hid hg1
          have HG2 := Lib.hid hg2
          obtain ⟨u, c1⟩ : ∃ u, wr.cell? ⟨g, j, none⟩ = some u := ⟨_, by rw [cell_of_row _ _ _ _ _ _ hC']; exact Array.getElem?_eq_getElem (by omega)⟩
          have c2 : wr.frozen? ⟨g, j, none⟩ = false := frozen_of_row wr g j _ _ hC'
          have HJ := Lib.hid hjm
          clear hjm hC hCs hC' hs' hg1 hg2
          go_wp2_with fail
          go_roundw
          case rel => exact ⟨j + 1, HJ.out, by go_num, XX.out.put HG.out HG2.out HC'.out (.inl rfl)⟩
          case measure => simp [intOf]; have := HJ.out; omega
        · obtain rfl : j = m := by omega
          have l1 : decide ((j : Int) < (j : Int)) = false := by rw [decide_eq_false_iff_not]; omega
          go_wp2_with fail
          go_roundw
          case rel => exact ⟨k + 1, K4.out, by go_num, XX.out⟩
          case measure => simp [intOf]; have := K4.out; omega
    · obtain rfl : k = 4 := by omega
      rw [show ((4 : Nat) : Int) = 4 from rfl]
      obtain ⟨rs, hrs, hpt⟩ := HP.out.parts
      have HRS := Lib.hid hrs
      have PT := Lib.hid hpt
      have HN : Hid (rs.length = n) := Lib.hid (by rw [← HNP.out, ← hrs]; simp)
      clear hrs hpt
      go_wp2_with fail
      clear a0 a1 a2 a3 a4 a5 a6 a7 a8
      go_loopw [28] (fun i W => ∃ (k : Nat), k ≤ n ∧ i = .int .i64 (k : Nat) ∧ SpI w0 w base B P (.slice b0 n0 d0) (.slice b1 n1 d1) (.slice b2 n2 d2) (.slice b3 n3 d3) (.slice bp n dp) (.slice ba na da) W) (fun i _ => n - (intOf i).toNat)
      case atStart => exact ⟨0, Nat.zero_le _, rfl, XX.out⟩
      case round =>
        clear XX
        obtain ⟨k, hk, rfl, hx⟩ := hrel
        have XX := Lib.hid hx
        obtain ⟨a0, a1, a2, a3, a4, a5, a6, a7, a8⟩ := hx.box.cells
        clear hx
        by_cases hkn : k < n
        · have f1 : decide ((k : Int) < (n : Int)) = true := by rw [decide_eq_true_eq]; omega
          have f1' : decide (k < n) = true := by rw [decide_eq_true_eq]; omega
          have f2 : (k : Int) < (n : Int) := by omega
          have GK := Lib.hid (step_wrap k n hkn (Nat.le_trans N10.out (by decide)))
          have hkr : k < rs.length := by rw [HN.out]; exact hkn
          obtain ⟨⟨p, x⟩, hpx⟩ : ∃ p, rs[k] = p := ⟨_, rfl⟩
          have BK := Lib.hid (PT.out.bk _ (List.getElem_mem hkr))
          have P200 : Hid (p.bs.length ≤ 200) := Lib.hid (HS.out.b p (by rw [← HRS.out]; have h := List.mem_map_of_mem (f := Prod.fst) (List.getElem_mem hkr); rw [hpx] at h; exact h))
          rw [hpx] at BK
          simp only at BK
          obtain ⟨xa, xc, rfl⟩ := BK.out.shape
          obtain ⟨xn, hxn⟩ : ∃ z, p.bs.length = z := ⟨_, rfl⟩
          have HXN := Lib.hid hxn
          rw [hxn] at BK P200
          obtain ⟨g, c, hge, hg1, hg2, C, hC, hCs, hCt⟩ := owns_room PT.out.row (by omega)
          rw [HN.out] at hge
          simp only [Value.slice.injEq] at hge
          obtain ⟨rfl, _, rfl⟩ := hge
          have pc : ∀ j, j < 7 → wr.cell? ⟨g, k * 7 + j, none⟩ = (vPart p (.slice xa xn xc))[j]? := fun j hj => by
            have h0 : w0.cell? ⟨g, k * 7 + j, none⟩ = (vPart p (.slice xa xn xc))[j]? := by
              have h := PT.out.row
              rw [HN.out] at h
              rw [h.cellAt _ (mul_add_lt hkn hj), cellsW_at vPart_len _ _ _ hkr hj, hpx, ← hxn]
            have hl : j < (vPart p (.slice xa xn xc)).length := by rw [vPart_len]; exact hj
            rw [List.getElem?_eq_getElem hl] at h0 ⊢
            exact XX.out.cell hC (by decide) (by decide) (by decide) h0
          have o0 : wr.cell? ⟨g, k * 7, none⟩ = some (.int .i64 p.id) := pc 0 (by decide)
          have o1 : wr.cell? ⟨g, k * 7 + 1, none⟩ = some (.int .i64 p.h) := pc 1 (by decide)
          have o2 : wr.cell? ⟨g, k * 7 + 2, none⟩ = some (.int .i64 p.v) := pc 2 (by decide)
          have o3 : wr.cell? ⟨g, k * 7 + 3, none⟩ = some (.int .i64 p.tq) := pc 3 (by decide)
          have o4 : wr.cell? ⟨g, k * 7 + 4, none⟩ = some (.int .i64 p.wide) := pc 4 (by decide)
          have o5 : wr.cell? ⟨g, k * 7 + 5, none⟩ = some (.int .i64 p.high) := pc 5 (by decide)
          have o6 : wr.cell? ⟨g, k * 7 + 6, none⟩ = some (.slice xa xn xc) := pc 6 (by decide)
          have KN := Lib.hid hkn
          obtain ⟨wt, hwt⟩ : ∃ wt, wr.alloc (.cells #[.int .i64 p.id, .int .i64 p.h, .int .i64 p.v, .int .i64 p.tq, .int .i64 p.wide, .int .i64 p.high, .slice xa xn xc] 70) = wt := ⟨_, rfl⟩
          have hbt : Below wr.heap.size wr wt := by rw [← hwt]; exact (Below.refl _ _).alloc (Nat.le_refl _) _
          have XT := Lib.hid (XX.out.old HWS.out HB0.out hbt)
          obtain ⟨T, hT⟩ : ∃ T, wr.heap.size = T := ⟨_, rfl⟩
          have PB1 : Hid (PtB wt T p (.slice xa xn xc)) := Lib.hid (by rw [← hwt, ← hT]; exact heap_alloc_new _ _)
          have LT : Hid (w0.heap.size ≤ T) := Lib.hid (by rw [← hT]; have := XX.out.hi.1; have := HWS.out; omega)
          have t6 := PB1.out.cells.2.2.2.2.2.2
          clear hpx hkr hxn hC hCs hCt pc hkn hbt hg1 hg2
          go_wp2_with fail
          clear hT hwt a0 a1 a2 a3 a4 a5 a6 a7 a8 o0 o1 o2 o3 o4 o5 o6 t6
          go_loopw [35] (fun i W => ∃ (j : Nat), j ≤ xn ∧ i = .int .i64 (j : Nat) ∧ SpI w0 w base B P (.slice b0 n0 d0) (.slice b1 n1 d1) (.slice b2 n2 d2) (.slice b3 n3 d3) (.slice (some ⟨g, 0, none⟩) n dp) (.slice ba na da) W ∧ PtB W T p (.slice xa xn xc)) (fun i _ => xn - (intOf i).toNat)
          case atStart => exact ⟨0, Nat.zero_le _, rfl, XT.out, PB1.out⟩
          case round =>
            clear XX XT PB1
            obtain ⟨j, hj, rfl, hx, hpb⟩ := hrel
            have XX := Lib.hid hx
            have PB := Lib.hid hpb
            clear hx hpb
            by_cases hjm : j < xn
            · have l1 : decide ((j : Int) < (xn : Int)) = true := by rw [decide_eq_true_eq]; omega
              have l1' : decide (j < xn) = true := by rw [decide_eq_true_eq]; omega
              have l2 : (j : Int) < (xn : Int) := by omega
              have gj : IntKind.i64.wrap ((j : Int) + 1) = (j : Int) + 1 := IntWalk.i64_in _ (by have := P200.out; omega)
              obtain ⟨h, c, hge, hg1, hg2, C, hC, hCs, _⟩ := owns_room BK.out.row (by rw [HXN.out]; omega)
              rw [HXN.out] at hCs hge
              simp only [Value.slice.injEq, true_and] at hge
              obtain ⟨rfl, rfl⟩ := hge
              obtain ⟨C', hC', hs'⟩ := (XX.out.like h hg2).row hC
              have TH : Hid (wr.there h (j * 64) (vIs b77).toArray.size) := Lib.hid (there_of hC' (by
                have e : (vIs b77).toArray.size = 64 := by kernel_rfl
                have := mul_add_lt hjm (show 63 < 64 by decide)
                rw [e]
                omega))
              have BL := Lib.hid b77_built
              have HI := Lib.hid b77_info
              have H1 := Lib.hid b77_one
              have PUT := Lib.hid (SpI.puts hg1 hg2 (vIs b77) (j * 64) wr C' XX.out hC')
              have NT : Hid (h ≠ T) := Lib.hid (by have := LT.out; omega)
              have t6 := PB.out.cells.2.2.2.2.2.2
              have HJ := Lib.hid hjm
              clear hC hCs hC' hs' hg1 hg2 hjm
              go_wp2_with (first | refine wpList_agg rfl _ _ rfl _ _ rfl BL.out ?_ | (refine wpList_store_mid rfl _ _ _ rfl h (j * 64) (vIs b77).toArray rfl rfl TH.out HI.out H1.out ?_; refine stop ?_))
              refine unstop ?_
              obtain ⟨W9, hW9⟩ : ∃ W9, wr.setCells h (j * 64) (vIs b77).toArray.toList = W9 := ⟨_, rfl⟩
              rw [hW9]
              have hW9' : wr.setCells h (j * 64) (vIs b77) = W9 := hW9
              have PU := PUT.out
              rw [hW9'] at PU
              have X9 := Lib.hid PU.1
              have P9 : Hid (PtB W9 T p (.slice (some ⟨h, 0, none⟩) xn xc)) := Lib.hid (by
                unfold PtB
                rw [PU.2.block T (Array.getElem?_eq_some_iff.1 PB.out).1 (fun e => by simp only [Option.some.injEq] at e; exact NT.out e.symm)]
                exact PB.out)
              clear PU PUT hW9 hW9' t6
              go_wp2_with fail
              go_roundw
              case rel => exact ⟨j + 1, HJ.out, by go_num, X9.out, P9.out⟩
              case measure => simp [intOf]; have := HJ.out; omega
            · obtain rfl : j = xn := by omega
              have l1 : decide ((j : Int) < (j : Int)) = false := by rw [decide_eq_false_iff_not]; omega
              have gk := GK.out
              go_wp2_with fail
              go_roundw
              case rel => exact ⟨k + 1, KN.out, by go_num, XX.out⟩
              case measure => simp [intOf]; have := KN.out; omega
        · obtain rfl : k = n := by omega
          have f1 : decide ((k : Int) < (k : Int)) = false := by rw [decide_eq_false_iff_not]; omega
          obtain ⟨ss, hss, hsg⟩ := HP.out.kept
          have HSS := Lib.hid hss
          have SG := Lib.hid hsg
          have HSN : Hid (ss.length = na) := Lib.hid (by rw [← HNA.out, ← hss]; simp)
          clear hss hsg
          go_wp2_with fail
          clear a0 a1 a2 a3 a4 a5 a6 a7 a8
          go_loopw [48] (fun i W => ∃ (j : Nat), j ≤ na ∧ i = .int .i64 (j : Nat) ∧ SpI w0 w base B P (.slice b0 n0 d0) (.slice b1 n1 d1) (.slice b2 n2 d2) (.slice b3 n3 d3) (.slice bp k dp) (.slice ba na da) W) (fun i _ => na - (intOf i).toNat)
          case atStart => exact ⟨0, Nat.zero_le _, rfl, XX.out⟩
          case round =>
            clear XX
            obtain ⟨j, hj, rfl, hx⟩ := hrel
            have XX := Lib.hid hx
            obtain ⟨a0, a1, a2, a3, a4, a5, a6, a7, a8⟩ := hx.box.cells
            clear hx
            by_cases hjn : j < na
            · have f1 : decide ((j : Int) < (na : Int)) = true := by rw [decide_eq_true_eq]; omega
              have f1' : decide (j < na) = true := by rw [decide_eq_true_eq]; omega
              have f2 : (j : Int) < (na : Int) := by omega
              have GK := Lib.hid (step_wrap j na hjn (Nat.le_trans K50.out (by decide)))
              have hkr : j < ss.length := by rw [HSN.out]; exact hjn
              obtain ⟨⟨s, x⟩, hpx⟩ : ∃ p, ss[j] = p := ⟨_, rfl⟩
              have OK := Lib.hid (SG.out.ok _ (List.getElem_mem hkr))
              have DT := Lib.hid (SG.out.dt _ (List.getElem_mem hkr))
              rw [hpx] at OK DT
              simp only at OK DT
              obtain ⟨xa, xc, rfl⟩ := owns_any DT.out
              obtain ⟨xn, hxn⟩ : ∃ z, s.2.length = z := ⟨_, rfl⟩
              rw [hxn] at OK DT
              obtain ⟨g, c, hge, hg1, hg2, C, hC, hCs, hCt⟩ := owns_room SG.out.row (by omega)
              rw [HSN.out] at hge
              simp only [Value.slice.injEq] at hge
              obtain ⟨rfl, _, rfl⟩ := hge
              obtain ⟨mk, hmk⟩ : ∃ z, s.1 = z := ⟨_, rfl⟩
              have pc : ∀ i, i < 2 → wr.cell? ⟨g, j * 2 + i, none⟩ = (vSeg s (.slice xa xn xc))[i]? := fun i hi => by
                have h0 : w0.cell? ⟨g, j * 2 + i, none⟩ = (vSeg s (.slice xa xn xc))[i]? := by
                  have h := SG.out.row
                  rw [HSN.out] at h
                  rw [h.cellAt _ (mul_add_lt hjn hi), cellsW_at vSeg_len _ _ _ hkr hi, hpx, ← hxn]
                have hl : i < (vSeg s (.slice xa xn xc)).length := by rw [vSeg_len]; exact hi
                rw [List.getElem?_eq_getElem hl] at h0 ⊢
                exact XX.out.cell hC (by decide) (by decide) (by decide) h0
              have o0 : wr.cell? ⟨g, j * 2, none⟩ = some (.int .i64 s.1) := pc 0 (by decide)
              have o1 : wr.cell? ⟨g, j * 2 + 1, none⟩ = some (.slice xa xn xc) := pc 1 (by decide)
              rw [hmk] at o0
              have KN := Lib.hid hjn
              obtain ⟨wt, hwt⟩ : ∃ wt, wr.alloc (.cells #[.int .i64 mk, .slice xa xn xc] 73) = wt := ⟨_, rfl⟩
              have hbt : Below wr.heap.size wr wt := by rw [← hwt]; exact (Below.refl _ _).alloc (Nat.le_refl _) _
              have XT := Lib.hid (XX.out.old HWS.out HB0.out hbt)
              obtain ⟨T, hT⟩ : ∃ T, wr.heap.size = T := ⟨_, rfl⟩
              have SB1 : wt.heap[T]? = some (.cells #[.int .i64 mk, .slice xa xn xc] 73 (0, 0)) := by rw [← hwt, ← hT]; exact heap_alloc_new _ _
              have t1 : wt.cell? ⟨T, 1, none⟩ = some (.slice xa xn xc) := by rw [cell_of_row _ _ 1 _ _ _ SB1]; rfl
              have OV : Hid (Calls Try.prog 43 #[.slice xa xn xc] wt fun e w' => (∃ v, e = .returned v) ∧ SpI w0 w base B P (.slice b0 n0 d0) (.slice b1 n1 d1) (.slice b2 n2 d2) (.slice b3 n3 d3) (.slice bp k dp) (.slice (some ⟨g, 0, none⟩) na da) w') := Lib.hid (by
                by_cases hx0 : 0 < xn
                · obtain ⟨h, c, hge, hh1, hh2, D, hD, hDs, hDt⟩ := owns_room DT.out hx0
                  simp only [Value.slice.injEq, true_and] at hge
                  obtain ⟨rfl, rfl⟩ := hge
                  obtain ⟨D', e1, e2, _, e4⟩ := XT.out.like h hh2 D _ hD
                  refine (over2_any h xn _ wt ⟨D', e1, by omega, fun i hi => ?_⟩ (by have := OK.out.2; omega)).mono ?_
                  · have hb : i < s.2.length := by omega
                    refine e4 rfl i (s.2[i].toNat : Int) ?_
                    have h1 : (D.toList.take (xn * 1))[i]? = some (.int .u8 (s.2[i].toNat : Int)) := by rw [hDt]; simp [vBs, vB, hb]
                    rw [List.getElem?_take_of_lt (by omega)] at h1
                    simpa using h1
                  · rintro e w' ⟨he, hg, hl⟩
                    exact ⟨he, XT.out.over HWS.out hh1 hh2 (by rw [HB.out]; exact Nat.le_refl _) hg hl⟩
                · obtain rfl : xn = 0 := by omega
                  rcases DT.out.2 with ⟨h1, _⟩ | ⟨h, cap, cur, h1, hh1, hD, hc1, _, hDs, hDt⟩
                  · simp only [Value.slice.injEq] at h1
                    obtain ⟨rfl, _, rfl⟩ := h1
                    refine (over_nil 0 wt).mono ?_
                    rintro e w' ⟨he, rfl⟩
                    exact ⟨he, XT.out⟩
                  · simp only [Value.slice.injEq, true_and] at h1
                    obtain ⟨rfl, rfl⟩ := h1
                    have hh2 := (Array.getElem?_eq_some_iff.1 hD).1
                    obtain ⟨D', e1, e2⟩ := (XT.out.like h hh2).row hD
                    refine (over2_any h 0 _ wt ⟨D', e1, Nat.zero_le _, fun i hi => absurd hi (Nat.not_lt_zero i)⟩ (by omega)).mono ?_
                    rintro e w' ⟨he, hg, hl⟩
                    exact ⟨he, XT.out.over HWS.out hh1 hh2 (by rw [HB.out]; exact Nat.le_refl _) hg hl⟩)
              clear hpx hkr hxn hC hCs hCt pc hjn hbt hg1 hg2 hmk SB1
              go_wp2_with fail
              refine OV.out.mono ?_
              rintro e x1 ⟨⟨v, rfl⟩, hx1⟩
              have X1 := Lib.hid hx1
              have gk := GK.out
              clear hx1 a0 a1 a2 a3 a4 a5 a6 a7 a8 o0 o1 t1 hT hwt
              go_wp2_with fail
              go_roundw
              case rel => exact ⟨j + 1, KN.out, by go_num, X1.out⟩
              case measure => simp [intOf]; have := KN.out; omega
            · obtain rfl : j = na := by omega
              have f1 : decide ((j : Int) < (j : Int)) = false := by rw [decide_eq_false_iff_not]; omega
              go_wp2_with fail
              go_end0
              exact ⟨⟨_, rfl⟩, XX.out.bel, XX.out.hi⟩
end Go.Proofs.Ytnhalnjdlkdnkaa

namespace Go.Proofs.Ytnhalnjdlkdnkaa
set_option linter.unusedVariables false
set_option linter.unusedSimpArgs false
set_option maxRecDepth 20000

/-! ## one row or column after the other -/
theorem take_map_range {α : Type} (f : Nat → α) (n k : Nat) (h : k < n) : ((List.range n).map f).take (k + 1) = ((List.range n).map f).take k ++ [f k] := by
  have hk : k < ((List.range n).map f).length := by simpa using h
  rw [List.take_succ_eq_append_getElem hk]
  simp
theorem crossL_take (l : List Int) (k : Nat) (h : k < 64) : (crossL l).take (k + 1) = (crossL l).take k ++ [l.getD (k % 8 * 8 + k / 8) 0] := by
  unfold crossL
  exact take_map_range _ 64 k h
theorem getD_at {α : Type} (l : List α) (d : α) (k : Nat) (h : k < l.length) : l.getD k d = l[k]'h := by
  rw [List.getD_eq_getElem?_getD, List.getElem?_eq_getElem h]
  rfl
theorem two_lt {i j a b : Nat} (hi : i < a) (hj : j < b) : i * b + j < a * b := by
  have h : i * b + b ≤ a * b := by rw [← Nat.succ_mul]; exact Nat.mul_le_mul_right _ hi
  omega
/-- a row of blocks crossed: the next one -/
theorem crB_take (a b : Nat) (bs : List (List Int)) (h : bs.length = a * b) (i j : Nat) (hi : i < a) (hj : j < b) (hE : j * a + i < bs.length) : (crB a b bs).take (i * b + j + 1) = (crB a b bs).take (i * b + j) ++ [blockL 4 (bs[j * a + i]'hE)] := by
  have hn : i * b + j < bs.length := by rw [h]; exact two_lt hi hj
  obtain ⟨m1, m2⟩ := mod_at (a := i) hj
  unfold crB
  rw [take_map_range _ _ _ hn, m1, m2, getD_at _ _ _ hE]
theorem crB_row (a b : Nat) (bs : List (List Int)) (i : Nat) : (crB a b bs).take (i * b + b) = (crB a b bs).take ((i + 1) * b) := by rw [Nat.succ_mul]
/-! ## where each block comes from, at last -/
def finRow (o : Bool) (b i : Nat) : Nat := if o then b - 1 - i else i
def finT (f o : Bool) : Nat := (if f then 1 else 0) + (if o then 2 else 0)
def finSrc (f o : Bool) (a b n : Nat) : Nat := finRow o b (n / a) * a + finRow f a (n % a)
def finB (f o : Bool) (a b : Nat) (bs : List (List Int)) : List (List Int) := permT bs.length (finT f o) (finSrc f o a b) bs
theorem finB_len (f o : Bool) (a b : Nat) (bs : List (List Int)) : (finB f o a b bs).length = bs.length := permT_len _ _ _ _
def finPt (f o : Bool) (x : PartL) : PartL := { x with bs := finB f o x.wide.toNat x.high.toNat x.bs }
def finP (f o : Bool) (P : PicL) : PicL := { P with parts := P.parts.map (finPt f o) }
theorem finRow_lt (o : Bool) {b i : Nat} (h : i < b) : finRow o b i < b := by
  unfold finRow
  split <;> omega
theorem finB_take (f o : Bool) (a b : Nat) (bs : List (List Int)) (h : bs.length = a * b) (i j : Nat) (hi : i < b) (hj : j < a) (hE : finRow o b i * a + finRow f a j < bs.length) :
    (finB f o a b bs).take (i * a + j + 1) = (finB f o a b bs).take (i * a + j) ++ [blockL (finT f o : Nat) (bs[finRow o b i * a + finRow f a j]'hE)] := by
  have hn : i * a + j < bs.length := by rw [h, Nat.mul_comm a]; exact two_lt hi hj
  obtain ⟨m1, m2⟩ := mod_at (a := i) hj
  unfold finB permT
  rw [take_map_range _ _ _ hn]
  unfold finSrc
  rw [m1, m2, getD_at _ _ _ hE]
theorem fin_lt {f o : Bool} {a b i j : Nat} (hi : i < b) (hj : j < a) : finRow o b i * a + finRow f a j < a * b := by
  rw [Nat.mul_comm a]
  exact two_lt (finRow_lt o hi) (finRow_lt f hj)
theorem fin_part (f o : Bool) (x : PartL) (ha : All64 x.bs) (h : x.bs.length = x.wide.toNat * x.high.toNat) : (if o then flopPt (if f then flipPt x else x) else (if f then flipPt x else x)) = finPt f o x := by
  have key : ∀ (bs : List (List Int)), bs = finB f o x.wide.toNat x.high.toNat x.bs → ({ x with bs := bs } : PartL) = finPt f o x := fun bs e => by unfold finPt; rw [e]
  cases f <;> cases o
  · show x = _
    refine Eq.trans ?_ (key x.bs ?_)
    · rfl
    · unfold finB
      refine (permT_id rfl (fun j hj => ?_) _ rfl ha).symm
      unfold finSrc finRow
      show j / x.wide.toNat * x.wide.toNat + j % x.wide.toNat = j
      rw [Nat.mul_comm]
      exact Nat.div_add_mod _ _
  · show flopPt x = _
    refine key _ ?_
    rw [opB_perm]
    rfl
  · show flipPt x = _
    refine key _ ?_
    rw [flB_perm]
    rfl
  · show flopPt (flipPt x) = _
    refine key _ ?_
    show opB x.wide.toNat x.high.toNat (flB x.wide.toNat x.bs) = _
    rw [opB_perm, flB_len, flB_perm, permT_two _ 1 2 _ _ _ (by decide) (by decide) (fun j hj => by rw [h] at hj ⊢; exact op_lt hj) ha]
    unfold finB
    refine permT_eq (by decide) (fun j hj => ?_) _
    rw [h] at hj
    obtain ⟨e1, e2⟩ := op_parts hj
    unfold flSrc
    rw [e1, e2]
    rfl
theorem fin_eq {P : PicL} (F : Fit P) (A : ∀ p ∈ P.parts, All64 p.bs) (f o : Bool) : tO o (tF f P) = finP f o P := by
  have key : ∀ ps : List PartL, ps = P.parts.map (finPt f o) → ({ P with parts := ps } : PicL) = finP f o P := fun ps e => by unfold finP; rw [e]
  have part : ∀ p ∈ P.parts, (if o then flopPt (if f then flipPt p else p) else (if f then flipPt p else p)) = finPt f o p := fun p hp => by
    obtain ⟨k, hk, rfl⟩ := List.getElem_of_mem hp
    obtain ⟨h1, h2, h3, h4⟩ := F.pt k hk
    refine fin_part f o _ (A _ hp) ?_
    have hs0 := szL_in P (k : Int)
    have hs : 0 ≤ (sizeL P (k : Int)).1 ∧ 0 ≤ (sizeL P (k : Int)).2 := by omega
    rw [← h1, ← h2] at h3 hs
    have : ((P.parts[k].bs.length : Nat) : Int) = ((P.parts[k].wide.toNat * P.parts[k].high.toNat : Nat) : Int) := by
      rw [h3, Int.natCast_mul, Int.toNat_of_nonneg hs.1, Int.toNat_of_nonneg hs.2]
    exact Int.ofNat.inj this
  cases f <;> cases o
  · refine Eq.trans ?_ (key P.parts ?_)
    · rfl
    · conv => lhs; rw [← List.map_id P.parts]
      exact List.map_congr_left fun p hp => part p hp
  · refine key _ ?_
    exact List.map_congr_left fun p hp => part p hp
  · refine key _ ?_
    exact List.map_congr_left fun p hp => part p hp
  · refine key _ ?_
    show (P.parts.map flipPt).map flopPt = _
    rw [List.map_map]
    exact List.map_congr_left fun p hp => part p hp
end Go.Proofs.Ytnhalnjdlkdnkaa

namespace Go.Proofs.Ytnhalnjdlkdnkaa
open Go.RowKit Go.BigFrame
set_option linter.unusedVariables false
set_option linter.unusedSimpArgs false
set_option maxRecDepth 20000

theorem cell_grown {w w' : World} {R : Nat} (hg : w.grownBy w' (some R)) {a : Addr} {u : Value} (h : w.cell? a = some u) (hne : a.block ≠ R) : w'.cell? a = some u := by
  rw [World.cell?_of_block (hg.block a.block (World.block_lt_of_cell? w a h) (fun e => hne (Option.some.inj e)))]
  exact h
theorem grown_more {a b c : World} {R : Nat} (h : a.grownBy b (some R)) (k : b.grownBy c (some R)) : a.grownBy c (some R) :=
  ⟨k.os.trans h.os, k.tape.trans h.tape, k.output.trans h.output, Nat.le_trans h.size k.size, fun i hi hne => (k.block i (Nat.lt_of_lt_of_le hi h.size) hne).trans (h.block i hi hne)⟩
theorem grown_same (w : World) (R : Nat) : w.grownBy w (some R) := ⟨rfl, rfl, rfl, Nat.le_refl _, fun _ _ _ => rfl⟩
theorem grown_of_below {w w' : World} (h : Below w.heap.size w w') (R : Nat) : w.grownBy w' (some R) := ⟨h.os, h.tape, h.output, h.size, fun b hb _ => h.block b hb⟩
theorem idx_facts (s y x t : Nat) (hx : x < s) (hy : y < t) (hs : s * t ≤ 65536) : (IntKind.i64.wrap ((s : Int) * (y : Int)) = ((y * s : Nat) : Int) ∧ wrap64 ((s : Int) * (y : Int)) = ((y * s : Nat) : Int)) ∧ (IntKind.i64.wrap (((y * s : Nat) : Int) + (x : Int)) = ((y * s + x : Nat) : Int) ∧ wrap64 (((y * s : Nat) : Int) + (x : Int)) = ((y * s + x : Nat) : Int)) ∧ y * s + x < s * t ∧ ((y * s + x : Nat) : Int) % (s : Int) = (x : Int) ∧ ((y * s + x : Nat) : Int) / (s : Int) = (y : Int) := by
  have h1 : y * s + x < t * s := mul_add_lt hy hx
  rw [Nat.mul_comm t] at h1
  have h2 : (s : Int) * (y : Int) = ((y * s : Nat) : Int) := by push_cast; rw [Int.mul_comm]
  have h3 : ((y * s : Nat) : Int) + (x : Int) = ((y * s + x : Nat) : Int) := by push_cast; rfl
  have h4 : y * s ≤ 1000000 := by omega
  have h5 : y * s + x ≤ 1000000 := by omega
  rw [h2, h3]
  refine ⟨⟨(wrapN _ h4).2, (wrapN _ h4).1⟩, ⟨(wrapN _ h5).2, (wrapN _ h5).1⟩, h1, ?_, ?_⟩
  · rw [← Int.natCast_emod, Nat.mul_comm, Nat.mul_add_mod, Nat.mod_eq_of_lt hx]
  · rw [← Int.natCast_ediv, Nat.mul_comm, Nat.mul_add_div (by omega), Nat.div_eq_of_lt hx, Nat.add_zero]
theorem side_le (s t L : Nat) (hL : L = s * t) (h : L ≤ 65536) (ht : 0 < t) (x : Nat) (hx : x < s) : IntKind.i64.wrap ((x : Int) + 1) = (x : Int) + 1 := (wrapZ _ (by
  have h2 : s * 1 ≤ s * t := Nat.mul_le_mul_left _ ht
  omega)).2
theorem side_le2 (s t L : Nat) (hL : L = s * t) (h : L ≤ 65536) (hs : 1 ≤ s) : t ≤ 65536 := by
  have h2 : 1 * t ≤ s * t := Nat.mul_le_mul_right _ hs
  omega
theorem nat_lt_int {a b : Nat} (h : a < b) : (a : Int) < (b : Int) := Int.ofNat_lt.2 h
set_option maxHeartbeats 8000000 in
theorem clear_any (P : PicL) (q0 q1 q2 q3 kv : Value) (g n c k gb nb cb base : Nat) (w : World) (hc : Pts w (.slice (some ⟨g, 0, none⟩) n c) P.parts) (hn : P.parts.length = n) (hk : k < n) (hl : n ≤ 1000) (hcell : w.cell? ⟨g, k * 7 + 6, none⟩ = some (.slice (some ⟨gb, 0, none⟩) nb cb))
    (hbk : BkO base w (.slice (some ⟨gb, 0, none⟩) nb cb) (partAt P (k : Int)).bs) (hfull : ((partAt P (k : Int)).bs.length : Int) = (sizeL P (k : Int)).1 * (sizeL P (k : Int)).2) (hsz : 1 ≤ (sizeL P (k : Int)).1) (h65 : (partAt P (k : Int)).bs.length ≤ 65536) (hne : g ≠ gb) :
    Calls Try.prog 65 #[.agg (vPic P q0 q1 q2 q3 (.slice (some ⟨g, 0, none⟩) n c) kv), .int .i64 (k : Nat)] w fun e w' => (∃ v, e = .returned v) ∧ BkO base w' (.slice (some ⟨gb, 0, none⟩) nb cb) (shTo (sizeL P (k : Int)).1 (ownL P (k : Int)).1 (ownL P (k : Int)).2 (partAt P (k : Int)).bs (partAt P (k : Int)).bs.length) ∧ w.grownBy w' (some gb) := by
  have HC := Lib.hid hc
  have HBK := Lib.hid hbk
  have HCE := Lib.hid hcell
  have HK := Lib.hid hk
  have HL := Lib.hid hl
  have HNP := Lib.hid hn
  have HNE := Lib.hid hne
  obtain ⟨bs, hbs⟩ : ∃ z, (partAt P (k : Int)).bs = z := ⟨_, rfl⟩
  rw [hbs] at HBK hfull h65 ⊢
  obtain ⟨w1, hw1⟩ : ∃ w1, w.alloc (.cells (vPic P q0 q1 q2 q3 (.slice (some ⟨g, 0, none⟩) n c) kv) 36) = w1 := ⟨_, rfl⟩
  have hb1 : Below w.heap.size w w1 := by rw [← hw1]; exact (Below.refl _ _).alloc (Nat.le_refl _) _
  have X1 : Hid (PBox w1 w.heap.size P q0 q1 q2 q3 (.slice (some ⟨g, 0, none⟩) n c) kv) := Lib.hid (by rw [← hw1]; exact heap_alloc_new _ _)
  have B1 := Lib.hid hb1
  have SZ := Lib.hid (refSize_any P q0 q1 q2 q3 (.slice (some ⟨g, 0, none⟩) n c) kv k w1 (HC.out.old hb1) (by rw [hn]; omega))
  have OZ := Lib.hid (fun W hW => refOwn_any P q0 q1 q2 q3 (.slice (some ⟨g, 0, none⟩) n c) kv k W (HC.out.old hW) (by rw [hn]; omega))
  have SI := szL_in P (k : Int)
  obtain ⟨sN, hsw⟩ : ∃ z : Nat, (sizeL P (k : Int)).1 = (z : Int) := ⟨_, (Int.toNat_of_nonneg (by omega)).symm⟩
  obtain ⟨tN, hsh⟩ : ∃ z : Nat, (sizeL P (k : Int)).2 = (z : Int) := ⟨_, (Int.toNat_of_nonneg (by omega)).symm⟩
  rw [hsw, hsh] at SZ hfull
  rw [hsw] at hsz ⊢
  obtain ⟨ow, how⟩ : ∃ z, (ownL P (k : Int)).1 = z := ⟨_, rfl⟩
  obtain ⟨oh, hoh⟩ : ∃ z, (ownL P (k : Int)).2 = z := ⟨_, rfl⟩
  rw [how, hoh] at OZ ⊢
  have FU : Hid (bs.length = sN * tN) := Lib.hid (by
    have h : ((sN * tN : Nat) : Int) = (sN : Int) * (tN : Int) := by push_cast; rfl
    omega)
  have S1 : Hid (1 ≤ sN) := Lib.hid (by omega)
  have L65 := Lib.hid h65
  obtain ⟨a0, a1, a2, a3, a4, a5, a6, a7, a8⟩ := X1.out.cells
  have GLT : Hid (gb < w.heap.size) := Lib.hid (HBK.out.row.lt gb rfl).2
  clear hc hbk hcell hk hl hn hne hbs hb1 hfull hsz h65 SI hsw hsh how hoh
  unfold vPic at hw1
  go_enter Try.func65, Try.ntmps65
  unfold vPic
  go_wp2_with fail
  refine SZ.out.mono ?_
  rintro e w2 ⟨rfl, hb2⟩
  have B2 : Hid (Below w.heap.size w w2) := Lib.hid (B1.out.trans (hb2.mono B1.out.size))
  have X2 := Lib.hid (X1.out.old hb2)
  clear hb2 a0 a1 a2 a3 a4 a5 a6 a7 a8 hw1 B1 X1 SZ
  obtain ⟨a0, a1, a2, a3, a4, a5, a6, a7, a8⟩ := X2.out.cells
  go_wp2_with fail
  refine (OZ.out w2 B2.out).mono ?_
  rintro e w3 ⟨rfl, hb3⟩
  have B3 : Hid (Below w.heap.size w w3) := Lib.hid (B2.out.trans (hb3.mono B2.out.size))
  have X3 := Lib.hid (X2.out.old hb3)
  have O3 : Hid (BkO base w3 (.slice (some ⟨gb, 0, none⟩) nb cb) (shTo (sN : Int) ow oh bs (0 * sN))) := Lib.hid (by rw [Nat.zero_mul, shTo_zero]; exact HBK.out.old B3.out)
  have C3 := Lib.hid (cell_old B3.out HCE.out)
  have NB : Hid (nb = bs.length) := Lib.hid (by
    obtain ⟨_, _, h⟩ := HBK.out.shape
    simp only [Value.slice.injEq] at h
    exact h.2.1)
  clear hb3 a0 a1 a2 a3 a4 a5 a6 a7 a8 B2 X2 OZ
  go_wp2_with fail
  go_loopw [8] (fun i W => ∃ y : Nat, i = .int .i64 (y : Nat) ∧ y ≤ tN ∧ BkO base W (.slice (some ⟨gb, 0, none⟩) nb cb) (shTo (sN : Int) ow oh bs (y * sN)) ∧ w3.grownBy W (some gb)) (fun i _ => tN - (intOf i).toNat)
  case atStart => exact ⟨0, rfl, Nat.zero_le _, O3.out, grown_same _ _⟩
  case round =>
    clear O3
    obtain ⟨y, rfl, hy, hbk, hgr⟩ := hrel
    have V := Lib.hid hbk
    have GR := Lib.hid hgr
    clear hbk hgr
    by_cases hyt : y < tN
    · have f1 : decide ((y : Int) < (tN : Int)) = true := by rw [decide_eq_true_eq]; omega
      have f1' : decide (y < tN) = true := by rw [decide_eq_true_eq]; omega
      have T65 : Hid (tN ≤ 65536) := Lib.hid (side_le2 sN tN bs.length FU.out L65.out S1.out)
      have gy : IntKind.i64.wrap ((y : Int) + 1) = (y : Int) + 1 := (wrapZ _ (by have := T65.out; omega)).2
      have HYT := Lib.hid hyt
      clear hyt
      go_wp2_with fail
      go_loopw [9] (fun i W => ∃ x : Nat, i = .int .i64 (x : Nat) ∧ x ≤ sN ∧ BkO base W (.slice (some ⟨gb, 0, none⟩) nb cb) (shTo (sN : Int) ow oh bs (y * sN + x)) ∧ w3.grownBy W (some gb)) (fun i _ => sN - (intOf i).toNat)
      case atStart => exact ⟨0, rfl, Nat.zero_le _, V.out, GR.out⟩
      case round =>
        clear V GR
        obtain ⟨x, rfl, hx, hbk, hgr⟩ := hrel
        have V := Lib.hid hbk
        have GR := Lib.hid hgr
        clear hbk hgr
        by_cases hxs : x < sN
        · have f2 : decide ((x : Int) < (sN : Int)) = true := by rw [decide_eq_true_eq]; omega
          have f2' : decide (x < sN) = true := by rw [decide_eq_true_eq]; omega
          obtain ⟨⟨u1, u1'⟩, ⟨u2, u2'⟩, il, im, id⟩ := idx_facts sN y x tN hxs HYT.out (by rw [← FU.out]; exact L65.out)
          obtain ⟨A, hA⟩ : ∃ z, y * sN = z := ⟨_, rfl⟩
          rw [hA] at u1 u1' u2 u2' il im id V
          obtain ⟨i, hi⟩ : ∃ z, A + x = z := ⟨_, rfl⟩
          rw [hi] at u2 u2' il im id V
          have hib : i < bs.length := by rw [FU.out]; exact il
          have gx := side_le sN tN bs.length FU.out L65.out (Nat.lt_of_le_of_lt (Nat.zero_le _) HYT.out) x hxs
          have i1 : (i : Int) < (nb : Int) := nat_lt_int (by rw [NB.out]; exact hib)
          have i2 : (k : Int) < (n : Int) := nat_lt_int HK.out
          have SHS : Hid (shTo (sN : Int) ow oh bs (i + 1) = (shTo (sN : Int) ow oh bs i).set i (shB (sN : Int) ow oh i (bs[i]'hib))) := Lib.hid (shTo_succ _ _ _ _ _ hib)
          have SHE : Hid (shB (sN : Int) ow oh i (bs[i]'hib) = bs[i]'hib → shTo (sN : Int) ow oh bs (i + 1) = shTo (sN : Int) ow oh bs i) := Lib.hid (shTo_same _ _ _ _ _ hib)
          have SB : Hid (shB (sN : Int) ow oh i (bs[i]'hib) = if ow ≤ (x : Int) ∨ oh ≤ (y : Int) then zero64 else bs[i]'hib) := Lib.hid (by unfold shB; rw [im, id])
          have TH := Lib.hid (V.out.there i (by rw [shTo_length]; exact hib))
          have HIB := Lib.hid hib
          have HXS := Lib.hid hxs
          have HII : Hid (y * sN + (x + 1) = i + 1) := Lib.hid (by rw [hA, ← hi, Nat.add_assoc])
          have BL := Lib.hid zb_built
          have HI := Lib.hid zb_info
          have H1 := Lib.hid zb_one
          have p6 := cell_grown GR.out X3.out.cells.2.2.2.2.2.2.1 (by have := GLT.out; simp only; omega)
          have s6 := cell_grown GR.out C3.out (by exact HNE.out)
          clear im id il hA hi hxs
          by_cases hcl : ow ≤ (x : Int) ∨ oh ≤ (y : Int)
          · have SS : Hid (shB (sN : Int) ow oh i (bs[i]'hib) = zero64) := Lib.hid (by rw [SB.out, if_pos hcl])
            have V10 : Hid (BkO base (wr.setCells gb (i * 64) (vIs zero64)) (.slice (some ⟨gb, 0, none⟩) nb cb) (shTo (sN : Int) ow oh bs (i + 1)) ∧ wr.grownBy (wr.setCells gb (i * 64) (vIs zero64)) (some gb)) := Lib.hid (by
              have hst := V.out.stored i (by rw [shTo_length]; exact HIB.out) blk_zero
              rw [SHS.out, SS.out]
              exact hst)
            rcases (show (decide (ow ≤ (x : Int)) = true) ∨ (decide (ow ≤ (x : Int)) = false ∧ decide (oh ≤ (y : Int)) = true) by
              by_cases h : ow ≤ (x : Int)
              · exact .inl (decide_eq_true h)
              · exact .inr ⟨decide_eq_false h, decide_eq_true (hcl.resolve_left h)⟩) with c1 | ⟨c1, c2⟩
            all_goals
              clear hcl
              go_wp2_with (first | refine wpList_agg rfl _ _ rfl _ _ rfl BL.out ?_ | (refine wpList_store_mid rfl _ _ _ rfl gb (i * 64) (vIs zero64).toArray rfl rfl TH.out HI.out H1.out ?_; refine stop ?_))
              refine unstop ?_
              obtain ⟨W9, hW9⟩ : ∃ W9, wr.setCells gb (i * 64) (vIs zero64).toArray.toList = W9 := ⟨_, rfl⟩
              rw [hW9]
              have V11 : Hid (BkO base W9 (.slice (some ⟨gb, 0, none⟩) nb cb) (shTo (sN : Int) ow oh bs (y * sN + (x + 1))) ∧ w3.grownBy W9 (some gb)) := Lib.hid (by
                have hW9' : wr.setCells gb (i * 64) (vIs zero64) = W9 := hW9
                have h := V10.out
                rw [hW9'] at h
                rw [HII.out]
                exact ⟨h.1, grown_more GR.out h.2⟩)
              clear hW9 V10
              go_wp2_with fail
              go_roundw
              case rel => exact ⟨x + 1, by go_num, HXS.out, V11.out.1, V11.out.2⟩
              case measure => simp [intOf]; have := HXS.out; omega
          · have c1 : decide (ow ≤ (x : Int)) = false := decide_eq_false (fun h => hcl (.inl h))
            have c2 : decide (oh ≤ (y : Int)) = false := decide_eq_false (fun h => hcl (.inr h))
            have V11 : Hid (BkO base wr (.slice (some ⟨gb, 0, none⟩) nb cb) (shTo (sN : Int) ow oh bs (y * sN + (x + 1)))) := Lib.hid (by
              rw [HII.out, SHE.out (by rw [SB.out, if_neg hcl])]
              exact V.out)
            clear hcl
            go_wp2_with fail
            go_roundw
            case rel => exact ⟨x + 1, by go_num, HXS.out, V11.out, GR.out⟩
            case measure => simp [intOf]; have := HXS.out; omega
        · obtain rfl : x = sN := by omega
          have f2 : decide ((x : Int) < (x : Int)) = false := by rw [decide_eq_false_iff_not]; omega
          have V11 : Hid (BkO base wr (.slice (some ⟨gb, 0, none⟩) nb cb) (shTo (x : Int) ow oh bs ((y + 1) * x))) := Lib.hid (by rw [show (y + 1) * x = y * x + x by rw [Nat.add_mul, Nat.one_mul]]; exact V.out)
          go_wp2_with fail
          go_roundw
          case rel => exact ⟨y + 1, by go_num, HYT.out, V11.out, GR.out⟩
          case measure => simp [intOf]; have := HYT.out; omega
    · obtain rfl : y = tN := by omega
      have f1 : decide ((y : Int) < (y : Int)) = false := by rw [decide_eq_false_iff_not]; omega
      have RE : Hid (BkO base wr (.slice (some ⟨gb, 0, none⟩) nb cb) (shTo (sN : Int) ow oh bs bs.length)) := Lib.hid (by rw [FU.out, Nat.mul_comm]; exact V.out)
      go_wp2_with fail
      go_end0
      exact ⟨⟨_, rfl⟩, RE.out, grown_more (grown_of_below B3.out _) GR.out⟩
end Go.Proofs.Ytnhalnjdlkdnkaa
