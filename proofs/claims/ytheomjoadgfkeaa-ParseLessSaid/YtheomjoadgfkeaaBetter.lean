/- The iterator match.Finder.better. By an AI agent. -/
import Derived.RangeFuncNested
import Derived.RangeFuncBound
import Derived.RangeFuncCalls
import Derived.RangeFuncLeaves
import Derived.Shelf.Abstract
import Derived.Shelf.RegionOpen
import Derived.OwnWalkIn
import Derived.TacticsInMore
import Derived.LoopNIn
import Derived.LoopIn
import Derived.Deep.QuietTactic
import Derived.BigQuiet
import Derived.Test.YtheomjoadgfkeaaFind
import Derived.Test.YtheomjoadgfkeaaQT
import Derived.Test.YtheomjoadgfkeaaRangeB
namespace Go.Proofs.Ytheomjoadgfkeaa
open Go.RowKit Go.Shelf
set_option linter.unusedVariables false
set_option linter.unusedSimpArgs false
attribute [local go_sem] Oper.semAt_some

theorem abides_below {β : Type} {B : Nat} {J : β → World → Prop} (h : AbidesFrom B J) {s : β} {W W' : World} (hs : J s W) (hb : Below W.heap.size W W') : J s W' :=
  h s W W' none hs ⟨hb.os, hb.tape, hb.output, hb.size, fun k hk _ => hb.block k hk⟩ (fun r e => by cases e)
/-- some blocks lie as they lay -/
def KeepB (bs : List Nat) (A B : World) : Prop := A.heap.size ≤ B.heap.size ∧ ∀ b ∈ bs, B.heap[b]? = A.heap[b]?
theorem KeepB.refl (bs : List Nat) (A : World) : KeepB bs A A := ⟨Nat.le_refl _, fun _ _ => rfl⟩
theorem KeepB.trans {bs : List Nat} {A B C : World} (h : KeepB bs A B) (k : KeepB bs B C) : KeepB bs A C := ⟨Nat.le_trans h.1 k.1, fun b hb => (k.2 b hb).trans (h.2 b hb)⟩
theorem KeepB.below {bs : List Nat} {n : Nat} {A B : World} (h : Below n A B) (hs : A.heap.size ≤ B.heap.size) (hn : ∀ b ∈ bs, b < n) : KeepB bs A B := ⟨hs, fun b hb => h.block b (hn b hb)⟩
theorem KeepB.cell {bs : List Nat} {A B : World} (h : KeepB bs A B) {b : Nat} (hb : b ∈ bs) (i : Nat) : B.cell? ⟨b, i, none⟩ = A.cell? ⟨b, i, none⟩ := World.cell?_of_block (h.2 b hb)
theorem KeepB.put {bs : List Nat} {w : World} (hn : ∀ b ∈ bs, b < w.heap.size) (W : World) (l : Nat) (o o' : Obj) (hl : w.heap.size ≤ l) (h : W.heap[l]? = some o) (_ : o.isCells = false) (_ : o.isWalk = false) : KeepB bs W (W.putObj l o') :=
  ⟨(grownBy_putObj' W l o').size, fun b hb => (grownBy_putObj' W l o').block b (by have := hn b hb; have := (Array.getElem?_eq_some_iff.1 h).1; omega) (by intro e; have := Option.some.inj e; have := hn b hb; omega)⟩
theorem KeepB.drewN (bs : List Nat) (A : World) (q : Nat) : KeepB bs A (A.drewN q) := ⟨Nat.le_refl _, fun _ _ => rfl⟩
theorem SlN.keep {size : Nat} {w w' : World} {v : Value} {n : Nat} {xs : List Value} {bs : List Nat} (h : SlN size w v n xs) (hk : KeepB bs w w') (hv : ∀ b, v.ownBlock = some b → 0 < n → b ∈ bs) : SlN size w' v n xs := by
  refine ⟨h.1, ?_⟩
  rcases h.2 with h | ⟨b, off, cap, rfl, hc, hn, hx⟩
  · exact .inl h
  · exact .inr ⟨b, off, cap, rfl, hc, hn, fun i u hu => by rw [hk.cell (hv b rfl hn)]; exact hx i u hu⟩

/-- A finder, nil or not, whose blocks are among bs. -/
def FV (bs : List Nat) (w : World) (v : Value) : Option (List UInt8) → Prop
  | none => v = .pointer none
  | some l => ∃ g tv pv, v = .pointer (some ⟨g, 0, none⟩) ∧ g ∈ bs ∧ (∀ b, tv.ownBlock = some b → 0 < l.length → b ∈ bs) ∧ (∀ b, pv.ownBlock = some b → 0 < l.length → b ∈ bs) ∧ w.heap[g]? = some (.cells #[tv, pv] 95 (0, 0)) ∧ Bs w tv l ∧ Ns w pv (prevL l)
theorem FV.keep {bs : List Nat} {w w' : World} {v : Value} {lo : Option (List UInt8)} (h : FV bs w v lo) (hk : KeepB bs w w') : FV bs w' v lo := by
  cases lo with
  | none => exact h
  | some l =>
    obtain ⟨g, tv, pv, hv, hg, ht, hp, h1, h2, h3⟩ := h
    exact ⟨g, tv, pv, hv, hg, ht, hp, by rw [hk.2 g hg]; exact h1, SlN.keep h2 hk ht, SlN.keep h3 hk (fun b hb hn => hp b hb (by simpa [prevL] using hn))⟩
theorem slN_lt {size : Nat} {w : World} {v : Value} {n : Nat} {xs : List Value} (h : SlN size w v n xs) (hs : 0 < size) (hn : 0 < n) : ∀ b, v.ownBlock = some b → b < w.heap.size := by
  intro b hb
  rcases h.2 with ⟨a, c, _, h0⟩ | ⟨b', off, cap, rfl, _, _, hx⟩
  · omega
  · have e : b' = b := by simpa [Value.ownBlock] using hb
    subst e
    have hl : 0 < xs.length := by rw [h.1]; exact Nat.mul_pos hn hs
    exact World.block_lt_of_cell? _ _ (hx 0 xs[0] (by simp [hl]))

def lenO : Option (List UInt8) → Nat
  | none => 0
  | some l => l.length
/-- the matches at a place, as they come -/
def betterL (lo : Option (List UInt8)) (p : Int) : List (Nat × Nat) := match lo with | none => [] | some l => if 0 ≤ p ∧ p < l.length then recs l p.toNat else []

set_option maxHeartbeats 800000 in
theorem len_any (bs : List Nat) (v : Value) (lo : Option (List UInt8)) (w : World) (h : FV bs w v lo) :
    Calls Try.prog 61 #[v] w fun e w' => e = .returned (.int .i64 ((lenO lo : Nat) : Int)) ∧ w = w' := by
  cases lo with
  | none =>
    obtain rfl : v = .pointer none := h
    go_enter Try.func61, Try.ntmps61
    go_wp2_with fail
    go_ret
    exact ⟨rfl, rfl⟩
  | some l =>
    obtain ⟨g, tv, pv, rfl, _, _, _, h1, h2, _⟩ := h
    obtain ⟨a, c, rfl⟩ := h2.len
    have c0 : w.cell? ⟨g, 0, none⟩ = some (.slice a l.length c) := by rw [cell_of_row _ _ 0 _ _ _ h1]; rfl
    clear h1 h2
    go_enter Try.func61, Try.ntmps61
    go_wp2_with fail
    go_ret
    exact ⟨rfl, rfl⟩

theorem quiet_addN {P : Program} {f : FuncId} {args : Array Value} {w : World} {a n : Nat} {v : Value}
    (h : Calls P f args (w.drewN (a + n)) fun e w' => e = .returned v ∧ ∃ m, w' = (w.drewN (a + n)).drewN m) :
    Calls P f args (w.drewN (a + n)) fun e w'' => e = .returned v ∧ ∃ m, w'' = w.drewN (a + m) :=
  h.mono fun _ _ ⟨he, m, hm⟩ => ⟨he, n + m, by rw [hm, World.drewN_drewN, Nat.add_assoc]⟩
abbrev encT (x : Nat × Nat) : Array Value := #[.agg #[.int .i64 (x.1 : Int), .int .i64 (x.2 : Int)]]

set_option maxRecDepth 100000 in
set_option maxHeartbeats 8000000 in
theorem better_core (n : Nat) (hn : 2 ≤ n) (b1 b2 : Nat) (bs : List Nat) (p : Int) (fv : Value) (lo : Option (List UInt8)) (w : World) (hp : -9223372036854775808 ≤ p ∧ p ≤ 9223372036854775807) (hl : lenO lo ≤ 1048576)
    (c1 : w.cell? ⟨b1, 0, none⟩ = some (.int .i64 p)) (c2 : w.cell? ⟨b2, 0, none⟩ = some fv) (m1 : b1 ∈ bs) (m2 : b2 ∈ bs) (hf : FV bs w fv lo) (hbs : ∀ b ∈ bs, b < w.heap.size)
    (ll : Nat) (J Jx : List (Nat × Nat) → World → Prop) (V : World) (hV : Below w.heap.size w V) (hJ : ∀ s X Y, J s X → V.heap.size ≤ X.heap.size → Below X.heap.size X Y → J s Y)
    (hY : ∀ pre x W1, V.heap.size ≤ W1.heap.size → J pre W1 → pre ++ [x] <+: betterL lo p → YieldAt Fence.wide (n - 1) Try.prog ll (encT x) W1 fun e W' =>
      (e = .returned (.bool true) ∧ J (pre ++ [x]) W' ∧ KeepB bs W1 W') ∨ (e = .returned (.bool false) ∧ Jx (pre ++ [x]) W')) (h0 : J [] V) :
    CallsIn Fence.wide n Try.prog 60 (#[.func (.yield ll) #[] #[]] ++ #[.pointer (some ⟨b1, 0, none⟩), .pointer (some ⟨b2, 0, none⟩)]) V fun e W' => (∃ v, e = .returned v) ∧ (J (betterL lo p) W' ∨ ∃ pre, pre <+: betterL lo p ∧ Jx pre W') := by
  have hkV : KeepB bs w V := KeepB.below hV hV.size hbs
  have d1 := cell_old hV c1
  have d2 := cell_old hV c2
  have hfV := hf.keep hkV
  have BL : Hid (∀ b ∈ bs, b < V.heap.size) := Lib.hid (fun b hb => Nat.lt_of_lt_of_le (hbs b hb) hV.size)
  have LQ : Hid (∀ q, Calls Try.prog 61 #[fv] (V.drewN q) fun e w' => e = .returned (.int .i64 ((lenO lo : Nat) : Int)) ∧ w' = V.drewN q) := Lib.hid (fun q => (len_any bs fv lo (V.drewN q) (hfV.keep (KeepB.drewN bs V q))).mono fun e w' ⟨h1, h2⟩ => ⟨h1, h2.symm⟩)
  clear c1 c2 hf hbs hkV hV
  by_cases hok : 0 ≤ p ∧ p < (lenO lo : Int)
  case neg =>
    have e0 : betterL lo p = [] := by
      unfold betterL
      cases lo with
      | none => rfl
      | some l => exact if_neg hok
    have E0 := Lib.hid e0
    have HJ := Lib.hid h0
    have HAB := Lib.hid hJ
    clear hY h0 e0 hJ hfV
    refine callsIn_wide.2 ?_
    by_cases h1 : p < 0
    · have g1 : decide (p < 0) = true := by rw [decide_eq_true_eq]; exact h1
      clear hok h1 hp
      go_enter Try.func60, Try.ntmps60
      go_wp2_with fail
      go_quiet (fail)
      go_wp2_with fail
      refine bodyPost_ret (results_none rfl _ _ _) rfl ?_
      exact ⟨⟨_, rfl⟩, .inl (by rw [E0.out]; exact HAB.out _ _ _ HJ.out (Nat.le_refl _) (below_drewN (Below.refl _ _) _))⟩
    · have g1 : decide (p < 0) = false := by rw [decide_eq_false_iff_not]; exact h1
      have g2 : decide (((lenO lo : Nat) : Int) ≤ p) = true := by rw [decide_eq_true_eq]; omega
      clear hok h1 hp
      go_enter Try.func60, Try.ntmps60
      go_wp2_with fail
      go_quiet ((go_at_call 61; exact Calls.quiet_of_same (LQ.out _)))
      go_wp2_with fail
      refine bodyPost_ret (results_none rfl _ _ _) rfl ?_
      exact ⟨⟨_, rfl⟩, .inl (by rw [E0.out]; exact HAB.out _ _ _ HJ.out (Nat.le_refl _) (below_drewN (Below.refl _ _) _))⟩
  case pos =>
    cases lo with
    | none => exact absurd hok.2 (by have := hok.1; simp [lenO]; omega)
    | some l =>
    obtain ⟨P, rfl⟩ : ∃ P : Nat, p = (P : Int) := ⟨p.toNat, by omega⟩
    obtain ⟨hp1, hp2⟩ := hok
    have hPl : P < l.length := by have : lenO (some l) = l.length := rfl; omega
    have hl2 : l.length ≤ 1048576 := hl
    have hE : betterL (some l) (P : Int) = recs l P := by
      show (if 0 ≤ (P : Int) ∧ (P : Int) < (l.length : Int) then recs l (P : Int).toNat else []) = _
      rw [if_pos ⟨hp1, by omega⟩]; rfl
    rw [hE] at hY ⊢
    have YY := Lib.hid hY
    have HJ := Lib.hid h0
    have HAB := Lib.hid hJ
    have HFV := Lib.hid hfV
    obtain ⟨g, tv, pv, rfl, hg, ht, hpv, e1, e2, e3⟩ := hfV
    have hprev : (prevL l)[P]? = some (lastK l P P) := by simp [prevL, hPl]
    obtain ⟨pa, pc, rfl, hpc⟩ := e3.read
    obtain ⟨pb, po, rfl, e5⟩ := hpc P (by simpa [prevL] using hPl)
    have e4 : V.cell? ⟨g, 1, none⟩ = some (.slice (some ⟨pb, po, none⟩) (prevL l).length pc) := by rw [cell_of_row _ _ 1 _ _ _ e1]; rfl
    rw [show (prevL l)[P]'(by simpa [prevL] using hPl) = lastK l P P from by simp [prevL]] at e5
    have pl : (prevL l).length = l.length := by simp [prevL]
    rw [pl] at e4
    have g1 : decide ((P : Int) < 0) = false := by rw [decide_eq_false_iff_not]; omega
    have g2 : decide ((l.length : Int) ≤ (P : Int)) = false := by rw [decide_eq_false_iff_not]; omega
    have g2' : decide (l.length ≤ P) = false := by rw [decide_eq_false_iff_not]; omega
    rw [show lenO (some l) = l.length from rfl] at LQ
    clear hY h0 hE hJ hp hp1 hp2 hl e1 e2 e3 hpc hprev
    obtain ⟨K0, hK0⟩ : ∃ K0, lastK l P P = K0 := ⟨_, rfl⟩
    rw [hK0] at e5
    have HK0 := Lib.hid hK0
    have PL := Lib.hid pl
    clear hK0 pl
    refine callsIn_wide.2 ?_
    go_enter Try.func60, Try.ntmps60
    go_wp2_with fail
    go_quiet ((go_at_call 61; exact Calls.quiet_of_same (LQ.out _)))
    go_wp2_with fail
    go_quiet (fail)
    go_wp2_with fail
    have D1 := Lib.hid d1
    have D2 := Lib.hid d2
    clear g1 g2 g2' d1 d2 e4 e5 LQ
    go_loopw [4, 5] (fun b k wr => ∃ m : Nat, b = .int .i64 ((bestOf (recsTo l P m) : Nat) : Int) ∧ k = .int .i64 (lastK l P (P - m)) ∧ m ≤ P ∧ m ≤ 32768 ∧ J (recsTo l P m) wr ∧ KeepB bs V wr) (fun _ k _ => (intOf k + 1).toNat)
    case atStart => exact ⟨0, rfl, by rw [Nat.sub_zero, HK0.out], Nat.zero_le _, Nat.zero_le _, HAB.out _ _ _ HJ.out (Nat.le_refl _) (below_drewN (below_drewN (Below.refl _ _) _) _), KeepB.trans (KeepB.drewN _ _ _) (KeepB.drewN _ _ _)⟩
    case round =>
      obtain ⟨m, rfl, rfl, hm, hm2, hJm, hkb⟩ := hrel
      have JM := Lib.hid hJm
      have KB := Lib.hid hkb
      have k1 := (hkb.cell m1 0).trans D1.out
      have k2 := (hkb.cell m2 0).trans D2.out
      have FW := Lib.hid (HFV.out.keep hkb)
      clear hJm hkb
      rcases lastK_spec l P (P - m) with ⟨hK, hall⟩ | ⟨K, hK, hlt, h3, hbtw⟩
      · have RE := Lib.hid (recs_none hm hm2 hall)
        rw [hK]
        clear hall hK
        go_wp2_with fail
        go_end0
        exact ⟨⟨_, rfl⟩, .inl (by rw [RE.out]; exact JM.out)⟩
      · rw [hK]
        clear hK
        by_cases hf : 32768 < P - K
        · have RE := Lib.hid (recs_far hm hm2 hlt hf hbtw)
          have f1 : decide ((P : Int) - (K : Int) ≤ 32768) = false := by rw [decide_eq_false_iff_not]; omega
          clear hbtw hf
          go_wp2_with fail
          go_end0
          exact ⟨⟨_, rfl⟩, .inl (by rw [RE.out]; exact JM.out)⟩
        · have f1 : decide ((P : Int) - (K : Int) ≤ 32768) = true := by rw [decide_eq_true_eq]; omega
          have hbg := bestOf_ge l P m
          obtain ⟨B, hB⟩ : ∃ B, bestOf (recsTo l P m) = B := ⟨_, rfl⟩
          rw [hB] at hbg ⊢
          have HB := Lib.hid hB
          have HBT := Lib.hid hbtw
          clear hB hbtw
          obtain ⟨g', tw, pw, hgg, _, htw, hpw, e1, e2, e3⟩ := FW.out
          simp only [Value.pointer.injEq, Option.some.injEq, Addr.mk.injEq, and_true] at hgg
          subst hgg
          have TX := Lib.hid e2
          obtain ⟨ta, tc, rfl, htc⟩ := e2.read
          have k3 : wr.cell? ⟨g, 0, none⟩ = some (.slice ta l.length tc) := by rw [cell_of_row _ _ 0 _ _ _ e1]; rfl
          obtain ⟨pa', pc', rfl, hpc⟩ := e3.read
          have hKl : K < l.length := by omega
          obtain ⟨pb', po', rfl, k5⟩ := hpc K (by rw [PL.out]; exact hKl)
          have k4 : wr.cell? ⟨g, 1, none⟩ = some (.slice (some ⟨pb', po', none⟩) l.length pc') := by rw [cell_of_row _ _ 1 _ _ _ e1, ← PL.out]; rfl
          have PN := Lib.hid (prev_next l P K (by omega) h3)
          have k5' : wr.cell? ⟨pb', po' + K, none⟩ = some (.int .i64 (lastK l K K)) := by rw [k5]; simp [prevL]
          obtain ⟨K', hK'⟩ : ∃ K', lastK l K K = K' := ⟨_, rfl⟩
          rw [hK'] at k5' PN
          have ML : Hid (-1 ≤ K' ∧ K' < K) := Lib.hid (by
            rcases lastK_spec l K K with ⟨h, _⟩ | ⟨q, h, hq, _⟩
            · omega
            · omega)
          have KD : decide (K < l.length) = true := by rw [decide_eq_true_eq]; exact hKl
          have s1 : IntKind.i64.wrap ((P : Int) + (B : Int)) = (P : Int) + (B : Int) := IntWalk.i64_in _ (by omega)
          have s2 : IntKind.i64.wrap ((K : Int) + (B : Int)) = (K : Int) + (B : Int) := IntWalk.i64_in _ (by omega)
          have HTC := Lib.hid htc
          clear e1 e2 e3 hpc k5 hK' htc
          by_cases hfull : B = 258 ∨ l.length ≤ P + B
          · have RE := Lib.hid (recs_full hm hm2 (by rw [HB.out]; exact hfull))
            by_cases h258 : B = 258
            · subst h258
              have i1 : ((258 : Nat) : Int) = 258 := rfl
              rw [i1] at s1 s2 ⊢
              clear hfull
              go_wp2_with fail
              go_quiet (fail)
              go_wp2_with fail
              refine bodyPost_ret (results_none rfl _ _ _) rfl ?_
              exact ⟨⟨_, rfl⟩, .inl (by rw [RE.out]; exact HAB.out _ _ _ JM.out KB.out.1 (below_drewN (Below.refl _ _) _))⟩
            · have hfull' : l.length ≤ P + B := by omega
              have i1 : ((B : Int) == 258) = false := by rw [beq_eq_false_iff_ne]; omega
              have i2 : (B == 258) = false := by rw [beq_eq_false_iff_ne]; exact h258
              have i3 : decide ((l.length : Int) ≤ (P : Int) + (B : Int)) = true := by rw [decide_eq_true_eq]; omega
              clear hfull hfull' h258
              go_wp2_with fail
              go_quiet (fail)
              go_wp2_with fail
              refine bodyPost_ret (results_none rfl _ _ _) rfl ?_
              exact ⟨⟨_, rfl⟩, .inl (by rw [RE.out]; exact HAB.out _ _ _ JM.out KB.out.1 (below_drewN (Below.refl _ _) _))⟩
          · have hB258 : ¬ B = 258 := fun h => hfull (.inl h)
            have hPB : P + B < l.length := by omega
            have hKB : K + B < l.length := by omega
            have i1 : ((B : Int) == 258) = false := by rw [beq_eq_false_iff_ne]; omega
            have i2 : (B == 258) = false := by rw [beq_eq_false_iff_ne]; exact hB258
            have i3 : decide ((l.length : Int) ≤ (P : Int) + (B : Int)) = false := by rw [decide_eq_false_iff_not]; omega
            obtain ⟨tb, tf, rfl, x1⟩ := HTC.out (K + B) hKB
            obtain ⟨tb', tf', hv', x2⟩ := HTC.out (P + B) hPB
            simp only [Option.some.injEq, Addr.mk.injEq, and_true] at hv'
            obtain ⟨rfl, rfl⟩ := hv'
            obtain ⟨x, hx, hx2⟩ : ∃ x : Nat, l[K + B].toNat = x ∧ x < 256 := ⟨_, rfl, l[K + B].toNat_lt⟩
            obtain ⟨y, hy, hy2⟩ : ∃ y : Nat, l[P + B].toNat = y ∧ y < 256 := ⟨_, rfl, l[P + B].toNat_lt⟩
            rw [hx] at x1
            rw [hy] at x2
            have hxy : (l.getD (K + B) 0 = l.getD (P + B) 0) ↔ x = y := by
              rw [← hx, ← hy, UInt8.toNat_inj]
              simp [List.getD_eq_getElem?_getD, List.getElem?_eq_getElem hKB, List.getElem?_eq_getElem hPB]
            have HXY := Lib.hid hxy
            have t1 : ((P : Int) + (B : Int)).toNat = P + B := by omega
            have t2 : ((K : Int) + (B : Int)).toNat = K + B := by omega
            have p1 : 0 ≤ (P : Int) + (B : Int) := by omega
            have p2 : 0 ≤ (K : Int) + (B : Int) := by omega
            have j1 : (P : Int) + (B : Int) < (l.length : Int) := by omega
            have j2 : (K : Int) + (B : Int) < (l.length : Int) := by omega
            clear hxy hx hy hfull
            by_cases hq : x = y
            · subst hq
              have e1 : ((x : Int) != (x : Int)) = false := by simp
              have e2 : (x != x) = false := by simp
              go_wp2_with fail
              go_quiet (fail)
              revert nq; intro qa
              go_wp2_with fail
              go_quiet (fail)
              revert nq; intro qb
              go_wp2_with fail
              have CM : Hid (∀ q, Calls Try.prog 62 #[.slice (some ⟨tb, tf, none⟩) l.length tc, .int .i64 (K : Int), .int .i64 (P : Int)] (wr.drewN q) fun e w' => e = .returned (.int .i64 (commonOf l K P : Nat)) ∧ ∃ m, w' = (wr.drewN q).drewN m) := Lib.hid (fun q => common_any _ l K P (wr.drewN q) (TX.out.drewN q) (by omega) (by omega) (by omega))
              obtain ⟨C, hC⟩ : ∃ C, commonOf l K P = C := ⟨_, rfl⟩
              rw [hC] at CM
              have hC2 : C ≤ 258 := by rw [← hC]; exact common_le _ _ _
              have HC := Lib.hid hC
              clear hC x1 x2 e1 e2 i1 i2 i3 t1 t2 p1 p2 j1 j2 s1 s2 hx2 hy2
              go_quiet ((go_at_call 62; exact quiet_addN (CM.out _)))
              revert nq; intro qc
              by_cases hBC : B < C
              · have i1 : decide ((B : Int) < (C : Int)) = true := by rw [decide_eq_true_eq]; omega
                have i2 : decide (B < C) = true := by rw [decide_eq_true_eq]; exact hBC
                have YS : Hid (recsTo l P (P - K) = recsTo l P m ++ [(C, P - K)]) := Lib.hid (by rw [recs_yes hm hlt HBT.out (by rw [HB.out, HC.out]; exact hBC), HC.out])
                have PR : Hid (recsTo l P (P - K) <+: recs l P) := Lib.hid (recs_pre l P (P - K) (by omega) (by omega))
                obtain ⟨w9, hw9⟩ : ∃ w9, ((wr.drewN qa).drewN qb).drewN qc = w9 := ⟨_, rfl⟩
                have hB9 : Below wr.heap.size wr w9 := by rw [← hw9]; exact below_drewN (below_drewN (below_drewN (Below.refl _ _) _) _) _
                have hK9 : KeepB bs wr w9 := by rw [← hw9]; exact ((KeepB.drewN _ _ _).trans (KeepB.drewN _ _ _)).trans (KeepB.drewN _ _ _)
                have k1' : w9.cell? ⟨b1, 0, none⟩ = some (.int .i64 (P : Int)) := (hK9.cell m1 0).trans k1
                obtain ⟨f1, t1, a1, y1, hy1, hR1⟩ := YY.out (recsTo l P m) (C, P - K) w9 (Nat.le_trans KB.out.1 hB9.size) (HAB.out _ _ _ JM.out KB.out.1 hB9) (by rw [← YS.out]; exact PR.out)
                dsimp only [encT] at hy1
                rw [show (((P - K : Nat)) : Int) = (P : Int) - (K : Int) from by omega] at hy1
                have RR := Lib.hid hR1
                have K9 := Lib.hid hK9
                rw [hw9]
                have K4 := Lib.hid k4
                have K5 := Lib.hid k5'
                have K2 := Lib.hid k2
                clear hBC hR1 hw9 hB9 hK9 k1 k2 k3 k4 k5'
                go_upto_region 10 with (fail)
                refine (wpIn_wide (n := n)).1 ?_
                gi_wp2_with fail
                refine ⟨fun _ => by omega, RR.out.mono ?_⟩
                rintro e W1 (⟨rfl, hJ1, hk1⟩ | ⟨rfl, hx1⟩)
                · have hkk := K9.out.trans hk1
                  have j2 := (hkk.cell m2 0).trans K2.out
                  have j4 := (hkk.cell hg 1).trans K4.out
                  have j5 := (hkk.cell (hpw pb' rfl (by omega)) (po' + K)).trans K5.out
                  have KK := Lib.hid (KB.out.trans hkk)
                  have JJ := Lib.hid hJ1
                  clear hkk hJ1 hk1 k1' hy1
                  gi_wp2_with fail
                  go_wp2_with fail
                  go_roundw
                  case rel => exact ⟨P - K, by rw [YS.out, bestOf_snoc], by rw [PN.out], by omega, by omega, by rw [YS.out]; exact JJ.out, KK.out⟩
                  case measure => simp [intOf]; have := ML.out; omega
                · have JJ := Lib.hid hx1
                  clear hx1 k1' hy1
                  gi_wp2_with fail
                  go_wp2_with fail
                  refine bodyPost_ret (results_none rfl _ _ _) rfl ?_
                  exact ⟨⟨_, rfl⟩, .inr ⟨_, by rw [← YS.out]; exact PR.out, JJ.out⟩⟩
              · have i1 : decide ((B : Int) < (C : Int)) = false := by rw [decide_eq_false_iff_not]; omega
                have i2 : decide (B < C) = false := by rw [decide_eq_false_iff_not]; exact hBC
                have NO : Hid (recsTo l P (P - K) = recsTo l P m) := Lib.hid (recs_no hm hlt HBT.out (by rw [HB.out, HC.out]; omega))
                clear hBC
                go_wp2_with fail
                go_roundw
                case rel => exact ⟨P - K, by rw [NO.out, HB.out], by rw [PN.out], by omega, by omega, by rw [NO.out]; exact HAB.out _ _ _ JM.out KB.out.1 (below_drewN (Below.refl _ _) _), KB.out.trans (KeepB.drewN _ _ _)⟩
                case measure => simp [intOf]; have := ML.out; omega
            · have e1 : ((x : Int) != (y : Int)) = true := by rw [bne_iff_ne]; omega
              have e2 : (x != y) = true := by rw [bne_iff_ne]; exact hq
              have NO : Hid (recsTo l P (P - K) = recsTo l P m) := Lib.hid (recs_no hm hlt HBT.out (by rw [HB.out]; exact common_stop (fun h => hq (HXY.out.1 h)) (by omega)))
              clear hq
              go_wp2_with fail
              go_quiet (fail)
              go_wp2_with fail
              go_quiet (fail)
              go_wp2_with fail
              go_roundw
              case rel => exact ⟨P - K, by rw [NO.out, HB.out], by rw [PN.out], by omega, by omega, by rw [NO.out]; exact HAB.out _ _ _ JM.out KB.out.1 (below_drewN (Below.refl _ _) _), KB.out.trans (KeepB.drewN _ _ _)⟩
              case measure => simp [intOf]; have := ML.out; omega

theorem better_stops (n : Nat) (hn : 2 ≤ n) (b1 b2 : Nat) (bs : List Nat) (p : Int) (fv : Value) (lo : Option (List UInt8)) (w : World) (hp : -9223372036854775808 ≤ p ∧ p ≤ 9223372036854775807) (hl : lenO lo ≤ 1048576)
    (c1 : w.cell? ⟨b1, 0, none⟩ = some (.int .i64 p)) (c2 : w.cell? ⟨b2, 0, none⟩ = some fv) (m1 : b1 ∈ bs) (m2 : b2 ∈ bs) (hf : FV bs w fv lo) (hbs : ∀ b ∈ bs, b < w.heap.size) :
    SeqStopsK Fence.wide n Try.prog 60 #[.pointer (some ⟨b1, 0, none⟩), .pointer (some ⟨b2, 0, none⟩)] encT (KeepB bs) (fun xs => xs = betterL lo p) (fun pre => pre <+: betterL lo p) (betterL lo p).length w := fun ll J Jx V hV hJ hJx hY h0 =>
  (better_core n hn b1 b2 bs p fv lo w hp hl c1 c2 m1 m2 hf hbs ll J Jx V hV (fun s X Y hs _ hb => abides_below hJ hs hb) (fun pre x W1 _ h hx => hY pre x W1 h (by have := hx.length_le; simp at this; omega)) h0).mono fun e W' ⟨h1, h2⟩ =>
    ⟨h1, h2.elim (fun h => .inl ⟨_, rfl, h⟩) .inr⟩
theorem better_seq (n : Nat) (hn : 2 ≤ n) (b1 b2 : Nat) (bs : List Nat) (p : Int) (fv : Value) (lo : Option (List UInt8)) (w : World) (hp : -9223372036854775808 ≤ p ∧ p ≤ 9223372036854775807) (hl : lenO lo ≤ 1048576)
    (c1 : w.cell? ⟨b1, 0, none⟩ = some (.int .i64 p)) (c2 : w.cell? ⟨b2, 0, none⟩ = some fv) (m1 : b1 ∈ bs) (m2 : b2 ∈ bs) (hf : FV bs w fv lo) (hbs : ∀ b ∈ bs, b < w.heap.size) :
    SeqB n Try.prog 60 #[.pointer (some ⟨b1, 0, none⟩), .pointer (some ⟨b2, 0, none⟩)] encT bs (betterL lo p) w := fun ll J Jx V hV hJ hJx hY h0 =>
  better_core n hn b1 b2 bs p fv lo w hp hl c1 c2 m1 m2 hf hbs ll J Jx V hV (fun s X Y hs hz hb => hJ s X Y hs (hb.mono hz)) (fun pre x W1 hz h hx => (hY pre x W1 hz h hx).mono fun e W' hh => hh.elim (fun ⟨a, b, c⟩ => .inl ⟨a, b, c.1, fun k hk => c.2 k (.inl hk) (Nat.lt_of_lt_of_le (Nat.lt_of_lt_of_le (hbs k hk) hV.size) hz)⟩) (fun ⟨a, b, _⟩ => .inr ⟨a, b⟩)) h0
end Go.Proofs.Ytheomjoadgfkeaa
