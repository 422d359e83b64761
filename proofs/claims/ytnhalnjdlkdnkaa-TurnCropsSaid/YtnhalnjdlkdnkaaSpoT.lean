/- The law's spoilt: a picture of its own memory is written over; nothing else turns. By an AI agent. -/
import Derived.Test.YtnhalnjdlkdnkaaCopT
import Derived.Deep.OwnRows
namespace Go.Proofs.Ytnhalnjdlkdnkaa
open Go.RowKit Go.BigFrame
set_option linter.unusedVariables false
set_option linter.unusedSimpArgs false
set_option maxRecDepth 20000

theorem grownBy_refl (w : World) (r : Option Nat) : w.grownBy w r := ⟨rfl, rfl, rfl, Nat.le_refl _, fun _ _ _ => rfl⟩
theorem grownBy_trans {a b c : World} {r : Option Nat} (h : a.grownBy b r) (k : b.grownBy c r) : a.grownBy c r :=
  ⟨k.os.trans h.os, k.tape.trans h.tape, k.output.trans h.output, Nat.le_trans h.size k.size, fun i hi hne => (k.block i (Nat.lt_of_lt_of_le hi h.size) hne).trans (h.block i hi hne)⟩
/-- a block of n bytes and more, not frozen -/
def Rowb (w : World) (g n : Nat) : Prop := ∃ C : Array Value, w.heap[g]? = some (.cells C 5 (0, 0)) ∧ n ≤ C.size ∧ ∀ i, i < n → ∃ c : Int, C[i]? = some (.int .u8 c)
theorem Rowb.set {w : World} {g n i : Nat} (h : Rowb w g n) (c : Int) : Rowb (w.setCell ⟨g, i, none⟩ (.int .u8 c)) g n := by
  obtain ⟨C, h1, h2, h3⟩ := h
  refine ⟨_, heap_setCell_same _ _ _ _ _ _ h1, by simpa using h2, fun j hj => ?_⟩
  by_cases e : j = i
  · subst e
    exact ⟨c, by simp [show j < C.size by omega]⟩
  · obtain ⟨d, hd⟩ := h3 j hj
    exact ⟨d, by rw [Array.getElem?_setIfInBounds_ne (Ne.symm e)]; exact hd⟩
/-- a block like another: as long, of the same type; bytes are still bytes; what holds no numbers is the same -/
def LikeO (o o' : Option Obj) : Prop := ∀ (C : Array Value) (t : TypeId), o = some (.cells C t (0, 0)) → ∃ C' : Array Value, o' = some (.cells C' t (0, 0)) ∧ C'.size = C.size ∧ (t ≠ 3 → t ≠ 23 → t ≠ 5 → C' = C) ∧
  (t = 5 → ∀ (i : Nat) (c : Int), C[i]? = some (.int .u8 c) → ∃ c' : Int, C'[i]? = some (.int .u8 c'))
theorem LikeO.refl (o : Option Obj) : LikeO o o := fun C t h => ⟨C, h, rfl, fun _ _ _ => rfl, fun _ i c h => ⟨c, h⟩⟩
theorem LikeO.trans {a b c : Option Obj} (h : LikeO a b) (k : LikeO b c) : LikeO a c := fun C t e => by
  obtain ⟨C1, e1, s1, u1, b1⟩ := h C t e
  obtain ⟨C2, e2, s2, u2, b2⟩ := k C1 t e1
  refine ⟨C2, e2, s2.trans s1, fun h1 h2 h3 => (u2 h1 h2 h3).trans (u1 h1 h2 h3), fun ht i z hz => ?_⟩
  obtain ⟨z1, hz1⟩ := b1 ht i z hz
  exact b2 ht i z1 hz1
theorem LikeO.put {W : World} {g j : Nat} {C : Array Value} {t : TypeId} {u : Value} (hC : W.heap[g]? = some (.cells C t (0, 0))) (hu : t = 3 ∨ t = 23 ∨ (t = 5 ∧ ∃ c : Int, u = .int .u8 c)) : LikeO (W.heap[g]?) ((W.setCell ⟨g, j, none⟩ u).heap[g]?) := fun D t' hD => by
  rw [hC] at hD
  simp only [Option.some.injEq, Obj.cells.injEq, and_true] at hD
  obtain ⟨rfl, rfl⟩ := hD
  refine ⟨_, heap_setCell_same _ _ _ _ _ u hC, by simp, fun h1 h2 h3 => by rcases hu with h | h | ⟨h, _⟩ <;> contradiction, fun ht i z hz => ?_⟩
  by_cases e : i = j
  · subst e
    have hl := (Array.getElem?_eq_some_iff.1 hz).1
    rcases hu with h | h | ⟨_, c, rfl⟩
    · rw [h] at ht; exact absurd ht (by decide)
    · rw [h] at ht; exact absurd ht (by decide)
    · exact ⟨c, by simp [hl]⟩
  · exact ⟨z, by rw [Array.getElem?_setIfInBounds_ne (Ne.symm e)]; exact hz⟩
/-- what holds while a picture is written over -/
structure SpI (w0 w : World) (base B : Nat) (P : PicL) (q0 q1 q2 q3 pv kv : Value) (W : World) : Prop where
  box : PBox W B P q0 q1 q2 q3 pv kv
  bel : Below base w W
  hi : KeepHi w0.heap.size w W
  like : ∀ b, b < w0.heap.size → LikeO (w0.heap[b]?) (W.heap[b]?)
theorem SpI.old {w0 w : World} {base B : Nat} {P : PicL} {q0 q1 q2 q3 pv kv : Value} {W W' : World} (h : SpI w0 w base B P q0 q1 q2 q3 pv kv W) (hw : w0.heap.size ≤ w.heap.size) (hb0 : base ≤ w0.heap.size) (hb : Below W.heap.size W W') : SpI w0 w base B P q0 q1 q2 q3 pv kv W' := by
  have hs := h.hi.1
  refine ⟨h.box.old hb, h.bel.trans (hb.mono (by omega)), h.hi.trans (keepHi_below hb), fun b hbl => ?_⟩
  rw [hb.block b (by omega)]
  exact h.like b hbl
theorem SpI.put {w0 w : World} {base B : Nat} {P : PicL} {q0 q1 q2 q3 pv kv : Value} {W : World} (h : SpI w0 w base B P q0 q1 q2 q3 pv kv W) {g j : Nat} {C : Array Value} {t : TypeId} {u : Value} (hg : base ≤ g) (hgM : g < w0.heap.size) (hC : W.heap[g]? = some (.cells C t (0, 0)))
    (hu : t = 3 ∨ t = 23 ∨ (t = 5 ∧ ∃ c : Int, u = .int .u8 c)) : SpI w0 w base B P q0 q1 q2 q3 pv kv (W.setCell ⟨g, j, none⟩ u) := by
  refine ⟨heap_other h.box hC (by rcases hu with rfl | rfl | ⟨rfl, _⟩ <;> decide), below_set h.bel hg, ⟨by simpa using h.hi.1, fun b h1 h2 => ?_⟩, fun b hbl => ?_⟩
  · rw [Go.Deep.blk_setCell_other _ _ _ _ (by simp only; omega)]
    exact h.hi.2 b h1 h2
  · by_cases e : b = g
    · subst e
      exact (h.like b hbl).trans (LikeO.put hC hu)
    · rw [Go.Deep.blk_setCell_other _ _ _ _ (by simp only; omega)]
      exact h.like b hbl
theorem SpI.puts {w0 w : World} {base B : Nat} {P : PicL} {q0 q1 q2 q3 pv kv : Value} {g : Nat} (hg : base ≤ g) (hgM : g < w0.heap.size) : ∀ (vs : List Value) (o : Nat) (W : World) (C : Array Value), SpI w0 w base B P q0 q1 q2 q3 pv kv W → W.heap[g]? = some (.cells C 23 (0, 0)) → SpI w0 w base B P q0 q1 q2 q3 pv kv (W.setCells g o vs) ∧ W.grownBy (W.setCells g o vs) (some g)
  | [], o, W, C, h, _ => ⟨h, ⟨rfl, rfl, rfl, Nat.le_refl _, fun _ _ _ => rfl⟩⟩
  | v :: vs, o, W, C, h, hC => by
    obtain ⟨h1, h2⟩ := SpI.puts hg hgM vs (o + 1) (W.setCell ⟨g, o, none⟩ v) _ (h.put hg hgM hC (.inr (.inl rfl))) (heap_setCell_same _ _ _ _ _ v hC)
    exact ⟨h1, grownBy_trans (set_grown W g o v) h2⟩
theorem SpI.over {w0 w : World} {base B : Nat} {P : PicL} {q0 q1 q2 q3 pv kv : Value} {W W' : World} (h : SpI w0 w base B P q0 q1 q2 q3 pv kv W) (hw : w0.heap.size ≤ w.heap.size) {g : Nat} (hg : base ≤ g) (hgM : g < w0.heap.size) (hB : w.heap.size ≤ B) (k : W.grownBy W' (some g)) (kl : LikeO (W.heap[g]?) (W'.heap[g]?)) : SpI w0 w base B P q0 q1 q2 q3 pv kv W' := by
  have hs := h.hi.1
  refine ⟨?_, h.bel.grown k (by omega) (fun b hb => by simp only [Option.some.injEq] at hb; omega), ⟨Nat.le_trans h.hi.1 k.size, fun b h1 h2 => ?_⟩, fun b hbl => ?_⟩
  · unfold PBox
    rw [k.block B (Array.getElem?_eq_some_iff.1 h.box).1 (fun e => by simp only [Option.some.injEq] at e; omega)]
    exact h.box
  · rw [k.block b (by omega) (fun e => by simp only [Option.some.injEq] at e; omega)]
    exact h.hi.2 b h1 h2
  · by_cases e : b = g
    · subst e
      exact (h.like b hbl).trans kl
    · rw [k.block b (by omega) (fun e' => by simp only [Option.some.injEq] at e'; omega)]
      exact h.like b hbl
/-- a cell that holds no number is as it was -/
theorem SpI.cell {w0 w : World} {base B : Nat} {P : PicL} {q0 q1 q2 q3 pv kv : Value} {W : World} (h : SpI w0 w base B P q0 q1 q2 q3 pv kv W) {g j : Nat} {C : Array Value} {t : TypeId} {u : Value} (hC : w0.heap[g]? = some (.cells C t (0, 0))) (h1 : t ≠ 3) (h2 : t ≠ 23) (h3 : t ≠ 5) (hc : w0.cell? ⟨g, j, none⟩ = some u) : W.cell? ⟨g, j, none⟩ = some u := by
  obtain ⟨C', e1, _, e2, _⟩ := h.like g (Array.getElem?_eq_some_iff.1 hC).1 C t hC
  rw [cell_of_row _ _ _ _ _ _ e1, e2 h1 h2 h3]
  rw [cell_of_row _ _ _ _ _ _ hC] at hc
  exact hc
/-- an own row that is not empty -/
theorem owns_room {w : World} {base : Nat} {e : TypeId} {size : Nat} {v : Value} {n : Nat} {xs : List Value} (h : w.ownsRow base e size v n xs) (hn : 0 < n) : ∃ g c, v = .slice (some ⟨g, 0, none⟩) n c ∧ base ≤ g ∧ g < w.heap.size ∧ ∃ C : Array Value, w.heap[g]? = some (.cells C e (0, 0)) ∧ n * size ≤ C.size ∧ C.toList.take (n * size) = xs := by
  rcases h.2 with ⟨rfl, h0⟩ | ⟨g, cap, cur, rfl, hg, hc, h1, _, h2, h3⟩
  · omega
  · exact ⟨g, cap, rfl, hg, (Array.getElem?_eq_some_iff.1 hc).1, cur, hc, by rw [h2]; exact Nat.mul_le_mul_right _ h1, h3⟩
set_option maxHeartbeats 1600000 in
theorem over2_any (g n cap : Nat) (w : World) (h : Rowb w g n) (hn : n ≤ 140737488355328) :
    Calls Try.prog 43 #[.slice (some ⟨g, 0, none⟩) n cap] w fun e w' => (∃ v, e = .returned v) ∧ w.grownBy w' (some g) ∧ LikeO (w.heap[g]?) (w'.heap[g]?) := by
  have HR := Lib.hid h
  clear h
  go_enter Try.func43, Try.ntmps43
  go_wp2_with fail
  go_loopw [5] (fun i wr => ∃ k : Nat, k ≤ n ∧ i = .int .i64 k ∧ Rowb wr g n ∧ w.grownBy wr (some g) ∧ LikeO (w.heap[g]?) (wr.heap[g]?)) (fun i _ => n - (intOf i).toNat)
  case atStart => exact ⟨0, Nat.zero_le _, rfl, HR.out, grownBy_refl _ _, LikeO.refl _⟩
  case round =>
    obtain ⟨k, hk, rfl, hr, hg, hl⟩ := hrel
    have HG := Lib.hid hg
    have RB := Lib.hid hr
    have HL := Lib.hid hl
    by_cases hkn : k < n
    · have f1 : decide ((k : Int) < (n : Int)) = true := by rw [decide_eq_true_eq]; omega
      have f2 : decide (k < n) = true := by rw [decide_eq_true_eq]; exact hkn
      obtain ⟨C, h1, h2, h3⟩ := hr
      obtain ⟨c, hc⟩ := h3 k hkn
      have c1 : wr.cell? ⟨g, k, none⟩ = some (.int .u8 c) := by rw [cell_of_row _ _ _ _ _ _ h1]; exact hc
      have c2 : wr.frozen? ⟨g, k, none⟩ = false := by simp [World.frozen?, h1]
      have HC := Lib.hid h1
      clear hg h1 h2 h3 hc hl
      go_wp2_with fail
      go_roundw
      case rel => exact ⟨k + 1, by omega, by go_num, RB.out.set _, grownBy_trans HG.out (set_grown _ _ _ _), HL.out.trans (LikeO.put HC.out (.inr (.inr ⟨rfl, _, rfl⟩)))⟩
      case measure => simp [intOf]; omega
    · obtain rfl : k = n := by omega
      have f1 : decide ((k : Int) < (k : Int)) = false := by rw [decide_eq_false_iff_not]; omega
      clear hg hr hl
      go_wp2_with fail
      go_end0
      exact ⟨⟨_, rfl⟩, HG.out, HL.out⟩
theorem over_nil (c : Nat) (w : World) : Calls Try.prog 43 #[.slice none 0 c] w fun e w' => (∃ v, e = .returned v) ∧ w = w' := by
  go_enter Try.func43, Try.ntmps43
  go_wp2_with fail
  go_loopw [5] (fun i wr => i = .int .i64 0 ∧ w = wr) (fun i _ => 0)
  case atStart => exact ⟨rfl, rfl⟩
  case round =>
    obtain ⟨rfl, rfl⟩ := hrel
    go_wp2_with fail
    go_end0
    exact ⟨⟨_, rfl⟩, rfl⟩
/-- a row of numbers, in a world that is like the one it was made in -/
theorem LikeO.row {o o' : Option Obj} {C : Array Value} {t : TypeId} (h : LikeO o o') (ho : o = some (.cells C t (0, 0))) : ∃ C' : Array Value, o' = some (.cells C' t (0, 0)) ∧ C'.size = C.size := by
  obtain ⟨C', h1, h2, _⟩ := h C t ho
  exact ⟨C', h1, h2⟩
def b77 : List Int := 77 :: List.replicate 63 0
theorem b77_built : Try.prog.built 23 [(0, .int .i64 77)] = some (vIs b77).toArray := by kernel_rfl
theorem b77_info : (Try.prog.info? 23).map (·.size) = some (vIs b77).toArray.size := by kernel_rfl
theorem b77_one : (vIs b77).toArray.all (·.oneCell') = true := by kernel_rfl
/-- where there is room -/
theorem there_of {W : World} {g o n : Nat} {C : Array Value} {t : TypeId} (h : W.heap[g]? = some (.cells C t (0, 0))) (hn : o + n ≤ C.size) : W.there g o n := fun j hj => by
  refine ⟨?_, frozen_of_row W g _ _ _ h⟩
  rw [cell_of_row _ _ _ _ _ _ h, Array.getElem?_eq_getElem (by omega)]
  rfl
set_option maxHeartbeats 16000000 in
theorem spoilt_any (w0 : World) (base : Nat) (P : PicL) (q0 q1 q2 q3 pv kv : Value) (w : World) (hp : PicO base w0 P q0 q1 q2 q3 pv kv) (hS : SmallT P) (hb0 : base ≤ w0.heap.size) (hw : Below w0.heap.size w0 w) :
    Calls Try.prog 20 #[.agg (vPic P q0 q1 q2 q3 pv kv)] w fun e w' => (∃ v, e = .returned v) ∧ Below base w w' ∧ KeepHi w0.heap.size w w' := by
  have HP := Lib.hid hp
  have HS := Lib.hid hS
  have HB0 := Lib.hid hb0
  obtain ⟨b0, d0, rfl⟩ := hp.pic.q0.len
  obtain ⟨b1, d1, rfl⟩ := hp.pic.q1.len
  obtain ⟨b2, d2, rfl⟩ := hp.pic.q2.len
  obtain ⟨b3, d3, rfl⟩ := hp.pic.q3.len
  obtain ⟨ba, da, rfl, _⟩ := hp.pic.kept.len
  obtain ⟨bp, dp, rfl, _⟩ := hp.pic.parts.len
  obtain ⟨n0, hn0⟩ : ∃ z, P.q0.length = z := ⟨_, rfl⟩
  obtain ⟨n1, hn1⟩ : ∃ z, P.q1.length = z := ⟨_, rfl⟩
  obtain ⟨n2, hn2⟩ : ∃ z, P.q2.length = z := ⟨_, rfl⟩
  obtain ⟨n3, hn3⟩ : ∃ z, P.q3.length = z := ⟨_, rfl⟩
  obtain ⟨na, hna⟩ : ∃ z, P.kept.length = z := ⟨_, rfl⟩
  obtain ⟨n, hn⟩ : ∃ z, P.parts.length = z := ⟨_, rfl⟩
  rw [hn0, hn1, hn2, hn3, hna, hn] at HP ⊢
  have N10 : Hid (n ≤ 10) := Lib.hid (by rw [← hn]; exact hS.n)
  have K50 : Hid (na ≤ 50) := Lib.hid (by rw [← hna]; exact hS.k)
  have HNP := Lib.hid hn
  have HNA := Lib.hid hna
  have HWS : Hid (w0.heap.size ≤ w.heap.size) := Lib.hid hw.size
  clear hn0 hn1 hn2 hn3 hna hn hp hS
  obtain ⟨w1, hw1⟩ : ∃ w1, w.alloc (.cells (vPic P (.slice b0 n0 d0) (.slice b1 n1 d1) (.slice b2 n2 d2) (.slice b3 n3 d3) (.slice bp n dp) (.slice ba na da)) 36) = w1 := ⟨_, rfl⟩
  obtain ⟨B, hB⟩ : ∃ B, w.heap.size = B := ⟨_, rfl⟩
  have HB := Lib.hid hB
  have X1 : Hid (SpI w0 w base B P (.slice b0 n0 d0) (.slice b1 n1 d1) (.slice b2 n2 d2) (.slice b3 n3 d3) (.slice bp n dp) (.slice ba na da) w1) := Lib.hid (by
    rw [← hw1, ← hB]
    exact ⟨heap_alloc_new _ _, (Below.refl _ _).alloc (by have := hw.size; omega) _, keepHi_below ((Below.refl _ _).alloc (Nat.le_refl _) _), fun b hbl => by
      rw [((Below.refl w.heap.size w).alloc (Nat.le_refl _) _).block b (by have := hw.size; omega), hw.block b hbl]
      exact LikeO.refl _⟩)
  obtain ⟨a0, a1, a2, a3, a4, a5, a6, a7, a8⟩ := X1.out.box.cells
  unfold vPic at hw1
  clear hw hb0
  unfold vPic
  go_enter Try.func20, Try.ntmps20
  go_wp2_with fail
  go_loopw [12] (fun i W => ∃ (k : Nat), k ≤ 4 ∧ i = .int .i64 (k : Nat) ∧ SpI w0 w base B P (.slice b0 n0 d0) (.slice b1 n1 d1) (.slice b2 n2 d2) (.slice b3 n3 d3) (.slice bp n dp) (.slice ba na da) W) (fun i _ => 4 - (intOf i).toNat)
  case atStart => exact ⟨0, Nat.zero_le _, rfl, X1.out⟩
  case round =>
    obtain ⟨k, hk, rfl, hx⟩ := hrel
    have XX := Lib.hid hx
    obtain ⟨a0, a1, a2, a3, a4, a5, a6, a7, a8⟩ := hx.box.cells
    clear hx
    by_cases hk4 : k < 4
    · have f1 : decide ((k : Int) < 4) = true := by rw [decide_eq_true_eq]; omega
      have f1' : decide (k < 4) = true := by rw [decide_eq_true_eq]; omega
      have f2 : (k : Int) < 4 := by omega
      have gk : IntKind.i64.wrap ((k : Int) + 1) = (k : Int) + 1 := IntWalk.i64_in _ (by omega)
      have qi := fun W => qV_index (.slice b0 n0 d0) (.slice b1 n1 d1) (.slice b2 n2 d2) (.slice b3 n3 d3) k hk4 W
      have K4 := Lib.hid hk4
      have NOQ : Hid (NO base w0 (qV (.slice b0 n0 d0) (.slice b1 n1 d1) (.slice b2 n2 d2) (.slice b3 n3 d3) k) (qL P k)) := Lib.hid (by
        rcases (show k = 0 ∨ k = 1 ∨ k = 2 ∨ k = 3 by omega) with rfl | rfl | rfl | rfl
        · exact HP.out.q0
        · exact HP.out.q1
        · exact HP.out.q2
        · exact HP.out.q3)
      have QL := Lib.hid (HS.out.q k hk4)
      obtain ⟨m, hm⟩ : ∃ m, (qL P k).length = m := ⟨_, rfl⟩
      obtain ⟨qa, qc, hqv⟩ := owns_any NOQ.out
      have HM := Lib.hid hm
      have HQV := Lib.hid hqv
      clear hk4
      go_wp2_with fail
      have NOV : Hid (w0.ownsRow base 3 1 (.slice qa m qc) m (vIs (qL P k))) := Lib.hid (by
        have h := NOQ.out
        unfold NO at h
        rw [HQV.out, HM.out] at h
        exact h)
      clear hm hqv a0 a1 a2 a3 a4 a5 a6 a7 a8
      go_loopw [17] (fun i W => ∃ (j : Nat), j ≤ m ∧ i = .int .i64 (j : Nat) ∧ SpI w0 w base B P (.slice b0 n0 d0) (.slice b1 n1 d1) (.slice b2 n2 d2) (.slice b3 n3 d3) (.slice bp n dp) (.slice ba na da) W) (fun i _ => m - (intOf i).toNat)
      case atStart => exact ⟨0, Nat.zero_le _, rfl, XX.out⟩
      case round =>
        clear XX
        obtain ⟨j, hj, rfl, hx⟩ := hrel
        have XX := Lib.hid hx
        clear hx
        by_cases hjm : j < m
        · have l1 : decide ((j : Int) < (m : Int)) = true := by rw [decide_eq_true_eq]; omega
          have l1' : decide (j < m) = true := by rw [decide_eq_true_eq]; omega
          have l2 : (j : Int) < (m : Int) := by omega
          have gj : IntKind.i64.wrap ((j : Int) + 1) = (j : Int) + 1 := IntWalk.i64_in _ (by have := QL.out; have := HM.out; omega)
          obtain ⟨g, c, hge, hg1, hg2, C, hC, hCs, _⟩ := owns_room NOV.out (by omega)
          simp only [Value.slice.injEq] at hge
          obtain ⟨rfl, _, rfl⟩ := hge
          obtain ⟨C', hC', hs'⟩ := (XX.out.like g hg2).row hC
          have HC' := Lib.hid hC'
          have HG := Lib.hid hg1
          have HG2 := Lib.hid hg2
          obtain ⟨u, c1⟩ : ∃ u, wr.cell? ⟨g, j, none⟩ = some u := ⟨_, by rw [cell_of_row _ _ _ _ _ _ hC']; exact Array.getElem?_eq_getElem (by omega)⟩
          have c2 : wr.frozen? ⟨g, j, none⟩ = false := frozen_of_row wr g j _ _ hC'
          have HJ := Lib.hid hjm
          clear hjm hC hCs hC' hs' hg1 hg2
          go_wp2_with fail
          go_roundw
          case rel => exact ⟨j + 1, HJ.out, by go_num, XX.out.put HG.out HG2.out HC'.out (.inl rfl)⟩
          case measure => simp [intOf]; have := HJ.out; omega
        · obtain rfl : j = m := by omega
          have l1 : decide ((j : Int) < (j : Int)) = false := by rw [decide_eq_false_iff_not]; omega
          go_wp2_with fail
          go_roundw
          case rel => exact ⟨k + 1, K4.out, by go_num, XX.out⟩
          case measure => simp [intOf]; have := K4.out; omega
    · obtain rfl : k = 4 := by omega
      rw [show ((4 : Nat) : Int) = 4 from rfl]
      obtain ⟨rs, hrs, hpt⟩ := HP.out.parts
      have HRS := Lib.hid hrs
      have PT := Lib.hid hpt
      have HN : Hid (rs.length = n) := Lib.hid (by rw [← HNP.out, ← hrs]; simp)
      clear hrs hpt
      go_wp2_with fail
      clear a0 a1 a2 a3 a4 a5 a6 a7 a8
      go_loopw [28] (fun i W => ∃ (k : Nat), k ≤ n ∧ i = .int .i64 (k : Nat) ∧ SpI w0 w base B P (.slice b0 n0 d0) (.slice b1 n1 d1) (.slice b2 n2 d2) (.slice b3 n3 d3) (.slice bp n dp) (.slice ba na da) W) (fun i _ => n - (intOf i).toNat)
      case atStart => exact ⟨0, Nat.zero_le _, rfl, XX.out⟩
      case round =>
        clear XX
        obtain ⟨k, hk, rfl, hx⟩ := hrel
        have XX := Lib.hid hx
        obtain ⟨a0, a1, a2, a3, a4, a5, a6, a7, a8⟩ := hx.box.cells
        clear hx
        by_cases hkn : k < n
        · have f1 : decide ((k : Int) < (n : Int)) = true := by rw [decide_eq_true_eq]; omega
          have f1' : decide (k < n) = true := by rw [decide_eq_true_eq]; omega
          have f2 : (k : Int) < (n : Int) := by omega
          have GK := Lib.hid (step_wrap k n hkn (Nat.le_trans N10.out (by decide)))
          have hkr : k < rs.length := by rw [HN.out]; exact hkn
          obtain ⟨⟨p, x⟩, hpx⟩ : ∃ p, rs[k] = p := ⟨_, rfl⟩
          have BK := Lib.hid (PT.out.bk _ (List.getElem_mem hkr))
          have P200 : Hid (p.bs.length ≤ 200) := Lib.hid (HS.out.b p (by rw [← HRS.out]; have h := List.mem_map_of_mem (f := Prod.fst) (List.getElem_mem hkr); rw [hpx] at h; exact h))
          rw [hpx] at BK
          simp only at BK
          obtain ⟨xa, xc, rfl⟩ := BK.out.shape
          obtain ⟨xn, hxn⟩ : ∃ z, p.bs.length = z := ⟨_, rfl⟩
          have HXN := Lib.hid hxn
          rw [hxn] at BK P200
          obtain ⟨g, c, hge, hg1, hg2, C, hC, hCs, hCt⟩ := owns_room PT.out.row (by omega)
          rw [HN.out] at hge
          simp only [Value.slice.injEq] at hge
          obtain ⟨rfl, _, rfl⟩ := hge
          have pc : ∀ j, j < 7 → wr.cell? ⟨g, k * 7 + j, none⟩ = (vPart p (.slice xa xn xc))[j]? := fun j hj => by
            have h0 : w0.cell? ⟨g, k * 7 + j, none⟩ = (vPart p (.slice xa xn xc))[j]? := by
              have h := PT.out.row
              rw [HN.out] at h
              rw [h.cellAt _ (mul_add_lt hkn hj), cellsW_at vPart_len _ _ _ hkr hj, hpx, ← hxn]
            have hl : j < (vPart p (.slice xa xn xc)).length := by rw [vPart_len]; exact hj
            rw [List.getElem?_eq_getElem hl] at h0 ⊢
            exact XX.out.cell hC (by decide) (by decide) (by decide) h0
          have o0 : wr.cell? ⟨g, k * 7, none⟩ = some (.int .i64 p.id) := pc 0 (by decide)
          have o1 : wr.cell? ⟨g, k * 7 + 1, none⟩ = some (.int .i64 p.h) := pc 1 (by decide)
          have o2 : wr.cell? ⟨g, k * 7 + 2, none⟩ = some (.int .i64 p.v) := pc 2 (by decide)
          have o3 : wr.cell? ⟨g, k * 7 + 3, none⟩ = some (.int .i64 p.tq) := pc 3 (by decide)
          have o4 : wr.cell? ⟨g, k * 7 + 4, none⟩ = some (.int .i64 p.wide) := pc 4 (by decide)
          have o5 : wr.cell? ⟨g, k * 7 + 5, none⟩ = some (.int .i64 p.high) := pc 5 (by decide)
          have o6 : wr.cell? ⟨g, k * 7 + 6, none⟩ = some (.slice xa xn xc) := pc 6 (by decide)
          have KN := Lib.hid hkn
          obtain ⟨wt, hwt⟩ : ∃ wt, wr.alloc (.cells #[.int .i64 p.id, .int .i64 p.h, .int .i64 p.v, .int .i64 p.tq, .int .i64 p.wide, .int .i64 p.high, .slice xa xn xc] 70) = wt := ⟨_, rfl⟩
          have hbt : Below wr.heap.size wr wt := by rw [← hwt]; exact (Below.refl _ _).alloc (Nat.le_refl _) _
          have XT := Lib.hid (XX.out.old HWS.out HB0.out hbt)
          obtain ⟨T, hT⟩ : ∃ T, wr.heap.size = T := ⟨_, rfl⟩
          have PB1 : Hid (PtB wt T p (.slice xa xn xc)) := Lib.hid (by rw [← hwt, ← hT]; exact heap_alloc_new _ _)
          have LT : Hid (w0.heap.size ≤ T) := Lib.hid (by rw [← hT]; have := XX.out.hi.1; have := HWS.out; omega)
          have t6 := PB1.out.cells.2.2.2.2.2.2
          clear hpx hkr hxn hC hCs hCt pc hkn hbt hg1 hg2
          go_wp2_with fail
          clear hT hwt a0 a1 a2 a3 a4 a5 a6 a7 a8 o0 o1 o2 o3 o4 o5 o6 t6
          go_loopw [35] (fun i W => ∃ (j : Nat), j ≤ xn ∧ i = .int .i64 (j : Nat) ∧ SpI w0 w base B P (.slice b0 n0 d0) (.slice b1 n1 d1) (.slice b2 n2 d2) (.slice b3 n3 d3) (.slice (some ⟨g, 0, none⟩) n dp) (.slice ba na da) W ∧ PtB W T p (.slice xa xn xc)) (fun i _ => xn - (intOf i).toNat)
          case atStart => exact ⟨0, Nat.zero_le _, rfl, XT.out, PB1.out⟩
          case round =>
            clear XX XT PB1
            obtain ⟨j, hj, rfl, hx, hpb⟩ := hrel
            have XX := Lib.hid hx
            have PB := Lib.hid hpb
            clear hx hpb
            by_cases hjm : j < xn
            · have l1 : decide ((j : Int) < (xn : Int)) = true := by rw [decide_eq_true_eq]; omega
              have l1' : decide (j < xn) = true := by rw [decide_eq_true_eq]; omega
              have l2 : (j : Int) < (xn : Int) := by omega
              have gj : IntKind.i64.wrap ((j : Int) + 1) = (j : Int) + 1 := IntWalk.i64_in _ (by have := P200.out; omega)
              obtain ⟨h, c, hge, hg1, hg2, C, hC, hCs, _⟩ := owns_room BK.out.row (by rw [HXN.out]; omega)
              rw [HXN.out] at hCs hge
              simp only [Value.slice.injEq, true_and] at hge
              obtain ⟨rfl, rfl⟩ := hge
              obtain ⟨C', hC', hs'⟩ := (XX.out.like h hg2).row hC
              have TH : Hid (wr.there h (j * 64) (vIs b77).toArray.size) := Lib.hid (there_of hC' (by
                have e : (vIs b77).toArray.size = 64 := by kernel_rfl
                have := mul_add_lt hjm (show 63 < 64 by decide)
                rw [e]
                omega))
              have BL := Lib.hid b77_built
              have HI := Lib.hid b77_info
              have H1 := Lib.hid b77_one
              have PUT := Lib.hid (SpI.puts hg1 hg2 (vIs b77) (j * 64) wr C' XX.out hC')
              have NT : Hid (h ≠ T) := Lib.hid (by have := LT.out; omega)
              have t6 := PB.out.cells.2.2.2.2.2.2
              have HJ := Lib.hid hjm
              clear hC hCs hC' hs' hg1 hg2 hjm
              go_wp2_with (first | refine wpList_agg rfl _ _ rfl _ _ rfl BL.out ?_ | (refine wpList_store_mid rfl _ _ _ rfl h (j * 64) (vIs b77).toArray rfl rfl TH.out HI.out H1.out ?_; refine stop ?_))
              refine unstop ?_
              obtain ⟨W9, hW9⟩ : ∃ W9, wr.setCells h (j * 64) (vIs b77).toArray.toList = W9 := ⟨_, rfl⟩
              rw [hW9]
              have hW9' : wr.setCells h (j * 64) (vIs b77) = W9 := hW9
              have PU := PUT.out
              rw [hW9'] at PU
              have X9 := Lib.hid PU.1
              have P9 : Hid (PtB W9 T p (.slice (some ⟨h, 0, none⟩) xn xc)) := Lib.hid (by
                unfold PtB
                rw [PU.2.block T (Array.getElem?_eq_some_iff.1 PB.out).1 (fun e => by simp only [Option.some.injEq] at e; exact NT.out e.symm)]
                exact PB.out)
              clear PU PUT hW9 hW9' t6
              go_wp2_with fail
              go_roundw
              case rel => exact ⟨j + 1, HJ.out, by go_num, X9.out, P9.out⟩
              case measure => simp [intOf]; have := HJ.out; omega
            · obtain rfl : j = xn := by omega
              have l1 : decide ((j : Int) < (j : Int)) = false := by rw [decide_eq_false_iff_not]; omega
              have gk := GK.out
              go_wp2_with fail
              go_roundw
              case rel => exact ⟨k + 1, KN.out, by go_num, XX.out⟩
              case measure => simp [intOf]; have := KN.out; omega
        · obtain rfl : k = n := by omega
          have f1 : decide ((k : Int) < (k : Int)) = false := by rw [decide_eq_false_iff_not]; omega
          obtain ⟨ss, hss, hsg⟩ := HP.out.kept
          have HSS := Lib.hid hss
          have SG := Lib.hid hsg
          have HSN : Hid (ss.length = na) := Lib.hid (by rw [← HNA.out, ← hss]; simp)
          clear hss hsg
          go_wp2_with fail
          clear a0 a1 a2 a3 a4 a5 a6 a7 a8
          go_loopw [48] (fun i W => ∃ (j : Nat), j ≤ na ∧ i = .int .i64 (j : Nat) ∧ SpI w0 w base B P (.slice b0 n0 d0) (.slice b1 n1 d1) (.slice b2 n2 d2) (.slice b3 n3 d3) (.slice bp k dp) (.slice ba na da) W) (fun i _ => na - (intOf i).toNat)
          case atStart => exact ⟨0, Nat.zero_le _, rfl, XX.out⟩
          case round =>
            clear XX
            obtain ⟨j, hj, rfl, hx⟩ := hrel
            have XX := Lib.hid hx
            obtain ⟨a0, a1, a2, a3, a4, a5, a6, a7, a8⟩ := hx.box.cells
            clear hx
            by_cases hjn : j < na
            · have f1 : decide ((j : Int) < (na : Int)) = true := by rw [decide_eq_true_eq]; omega
              have f1' : decide (j < na) = true := by rw [decide_eq_true_eq]; omega
              have f2 : (j : Int) < (na : Int) := by omega
              have GK := Lib.hid (step_wrap j na hjn (Nat.le_trans K50.out (by decide)))
              have hkr : j < ss.length := by rw [HSN.out]; exact hjn
              obtain ⟨⟨s, x⟩, hpx⟩ : ∃ p, ss[j] = p := ⟨_, rfl⟩
              have OK := Lib.hid (SG.out.ok _ (List.getElem_mem hkr))
              have DT := Lib.hid (SG.out.dt _ (List.getElem_mem hkr))
              rw [hpx] at OK DT
              simp only at OK DT
              obtain ⟨xa, xc, rfl⟩ := owns_any DT.out
              obtain ⟨xn, hxn⟩ : ∃ z, s.2.length = z := ⟨_, rfl⟩
              rw [hxn] at OK DT
              obtain ⟨g, c, hge, hg1, hg2, C, hC, hCs, hCt⟩ := owns_room SG.out.row (by omega)
              rw [HSN.out] at hge
              simp only [Value.slice.injEq] at hge
              obtain ⟨rfl, _, rfl⟩ := hge
              obtain ⟨mk, hmk⟩ : ∃ z, s.1 = z := ⟨_, rfl⟩
              have pc : ∀ i, i < 2 → wr.cell? ⟨g, j * 2 + i, none⟩ = (vSeg s (.slice xa xn xc))[i]? := fun i hi => by
                have h0 : w0.cell? ⟨g, j * 2 + i, none⟩ = (vSeg s (.slice xa xn xc))[i]? := by
                  have h := SG.out.row
                  rw [HSN.out] at h
                  rw [h.cellAt _ (mul_add_lt hjn hi), cellsW_at vSeg_len _ _ _ hkr hi, hpx, ← hxn]
                have hl : i < (vSeg s (.slice xa xn xc)).length := by rw [vSeg_len]; exact hi
                rw [List.getElem?_eq_getElem hl] at h0 ⊢
                exact XX.out.cell hC (by decide) (by decide) (by decide) h0
              have o0 : wr.cell? ⟨g, j * 2, none⟩ = some (.int .i64 s.1) := pc 0 (by decide)
              have o1 : wr.cell? ⟨g, j * 2 + 1, none⟩ = some (.slice xa xn xc) := pc 1 (by decide)
              rw [hmk] at o0
              have KN := Lib.hid hjn
              obtain ⟨wt, hwt⟩ : ∃ wt, wr.alloc (.cells #[.int .i64 mk, .slice xa xn xc] 73) = wt := ⟨_, rfl⟩
              have hbt : Below wr.heap.size wr wt := by rw [← hwt]; exact (Below.refl _ _).alloc (Nat.le_refl _) _
              have XT := Lib.hid (XX.out.old HWS.out HB0.out hbt)
              obtain ⟨T, hT⟩ : ∃ T, wr.heap.size = T := ⟨_, rfl⟩
              have SB1 : wt.heap[T]? = some (.cells #[.int .i64 mk, .slice xa xn xc] 73 (0, 0)) := by rw [← hwt, ← hT]; exact heap_alloc_new _ _
              have t1 : wt.cell? ⟨T, 1, none⟩ = some (.slice xa xn xc) := by rw [cell_of_row _ _ 1 _ _ _ SB1]; rfl
              have OV : Hid (Calls Try.prog 43 #[.slice xa xn xc] wt fun e w' => (∃ v, e = .returned v) ∧ SpI w0 w base B P (.slice b0 n0 d0) (.slice b1 n1 d1) (.slice b2 n2 d2) (.slice b3 n3 d3) (.slice bp k dp) (.slice (some ⟨g, 0, none⟩) na da) w') := Lib.hid (by
                by_cases hx0 : 0 < xn
                · obtain ⟨h, c, hge, hh1, hh2, D, hD, hDs, hDt⟩ := owns_room DT.out hx0
                  simp only [Value.slice.injEq, true_and] at hge
                  obtain ⟨rfl, rfl⟩ := hge
                  obtain ⟨D', e1, e2, _, e4⟩ := XT.out.like h hh2 D _ hD
                  refine (over2_any h xn _ wt ⟨D', e1, by omega, fun i hi => ?_⟩ (by have := OK.out.2; omega)).mono ?_
                  · have hb : i < s.2.length := by omega
                    refine e4 rfl i (s.2[i].toNat : Int) ?_
                    have h1 : (D.toList.take (xn * 1))[i]? = some (.int .u8 (s.2[i].toNat : Int)) := by rw [hDt]; simp [vBs, vB, hb]
                    rw [List.getElem?_take_of_lt (by omega)] at h1
                    simpa using h1
                  · rintro e w' ⟨he, hg, hl⟩
                    exact ⟨he, XT.out.over HWS.out hh1 hh2 (by rw [HB.out]; exact Nat.le_refl _) hg hl⟩
                · obtain rfl : xn = 0 := by omega
                  rcases DT.out.2 with ⟨h1, _⟩ | ⟨h, cap, cur, h1, hh1, hD, hc1, _, hDs, hDt⟩
                  · simp only [Value.slice.injEq] at h1
                    obtain ⟨rfl, _, rfl⟩ := h1
                    refine (over_nil 0 wt).mono ?_
                    rintro e w' ⟨he, rfl⟩
                    exact ⟨he, XT.out⟩
                  · simp only [Value.slice.injEq, true_and] at h1
                    obtain ⟨rfl, rfl⟩ := h1
                    have hh2 := (Array.getElem?_eq_some_iff.1 hD).1
                    obtain ⟨D', e1, e2⟩ := (XT.out.like h hh2).row hD
                    refine (over2_any h 0 _ wt ⟨D', e1, Nat.zero_le _, fun i hi => absurd hi (Nat.not_lt_zero i)⟩ (by omega)).mono ?_
                    rintro e w' ⟨he, hg, hl⟩
                    exact ⟨he, XT.out.over HWS.out hh1 hh2 (by rw [HB.out]; exact Nat.le_refl _) hg hl⟩)
              clear hpx hkr hxn hC hCs hCt pc hjn hbt hg1 hg2 hmk SB1
              go_wp2_with fail
              refine OV.out.mono ?_
              rintro e x1 ⟨⟨v, rfl⟩, hx1⟩
              have X1 := Lib.hid hx1
              have gk := GK.out
              clear hx1 a0 a1 a2 a3 a4 a5 a6 a7 a8 o0 o1 t1 hT hwt
              go_wp2_with fail
              go_roundw
              case rel => exact ⟨j + 1, KN.out, by go_num, X1.out⟩
              case measure => simp [intOf]; have := KN.out; omega
            · obtain rfl : j = na := by omega
              have f1 : decide ((j : Int) < (j : Int)) = false := by rw [decide_eq_false_iff_not]; omega
              go_wp2_with fail
              go_end0
              exact ⟨⟨_, rfl⟩, XX.out.bel, XX.out.hi⟩
end Go.Proofs.Ytnhalnjdlkdnkaa
