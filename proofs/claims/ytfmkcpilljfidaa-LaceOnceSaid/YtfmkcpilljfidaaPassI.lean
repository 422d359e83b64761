/- The iterator lace.Passes. By an AI agent. -/
import Derived.RangeFuncNested
import Derived.RangeFuncBound
import Derived.RangeFuncCalls
import Derived.RangeFuncLeaves
import Derived.Shelf.Abstract
import Derived.Shelf.RegionOpen
import Derived.OwnWalkIn
import Derived.TacticsInMore
import Derived.LoopNIn
import Derived.LoopIn
import Derived.Test.YtfmkcpilljfidaaSizeW
namespace Go.Proofs.Ytfmkcpilljfidaa
open Go.RowKit Go.Shelf
set_option linter.unusedVariables false
set_option linter.unusedSimpArgs false
attribute [local go_sem] Oper.semAt_some

/-- the passes of a laced picture, the first k looked at -/
def lacedTo (w h : Nat) (k : Nat) : List (Int × Int × Int) := (List.range k).filterMap fun p => if 0 < (sizeN p w h).1 then some ((p : Int), (((sizeN p w h).1 : Nat) : Int), (((sizeN p w h).2 : Nat) : Int)) else none
theorem lacedTo_succ (w h k : Nat) : lacedTo w h (k + 1) = lacedTo w h k ++ if 0 < (sizeN k w h).1 then [((k : Int), (((sizeN k w h).1 : Nat) : Int), (((sizeN k w h).2 : Nat) : Int))] else [] := by
  unfold lacedTo
  rw [List.range_succ, List.filterMap_append]
  by_cases e : 0 < (sizeN k w h).1 <;> simp [e]
theorem lacedTo_pre (w h k m : Nat) (hkm : k ≤ m) : lacedTo w h k <+: lacedTo w h m := by
  induction m with
  | zero => obtain rfl : k = 0 := by omega
            exact List.prefix_rfl
  | succ m ih =>
    by_cases e : k = m + 1
    · subst e; exact List.prefix_rfl
    · rw [lacedTo_succ]; exact (ih (by omega)).trans (List.prefix_append _ _)
def sideB (n : Int) : Bool := decide (1 ≤ n ∧ n ≤ 65535)
/-- the passes of a picture -/
def passesL (W H L : Int) : List (Int × Int × Int) := if sideB W = true ∧ sideB H = true ∧ (L = 0 ∨ L = 1) then (if L = 0 then [(0, W, H)] else lacedTo W.toNat H.toNat 7) else []
theorem side_any (n : Int) (w : World) : Calls Try.prog 25 #[.int .i64 n] w fun e w' => e = .returned (.bool (sideB n)) ∧ w = w' := by
  by_cases h : 1 ≤ n ∧ n ≤ 65535
  · rw [show sideB n = true from decide_eq_true h]; exact side_yes n w h
  · rw [show sideB n = false from decide_eq_false h]; exact side_no n w h
theorem abides_below {β : Type} {B : Nat} {J : β → World → Prop} (h : AbidesFrom B J) {s : β} {W W' : World} (hs : J s W) (hb : Below W.heap.size W W') : J s W' :=
  h s W W' none hs ⟨hb.os, hb.tape, hb.output, hb.size, fun k hk _ => hb.block k hk⟩ (fun r e => by cases e)

/-- some blocks lie as they lay -/
def KeepB (bs : List Nat) (A B : World) : Prop := A.heap.size ≤ B.heap.size ∧ ∀ b ∈ bs, B.heap[b]? = A.heap[b]?
theorem KeepB.refl (bs : List Nat) (A : World) : KeepB bs A A := ⟨Nat.le_refl _, fun _ _ => rfl⟩
theorem KeepB.trans {bs : List Nat} {A B C : World} (h : KeepB bs A B) (k : KeepB bs B C) : KeepB bs A C := ⟨Nat.le_trans h.1 k.1, fun b hb => (k.2 b hb).trans (h.2 b hb)⟩
theorem KeepB.below {bs : List Nat} {n : Nat} {A B : World} (h : Below n A B) (hs : A.heap.size ≤ B.heap.size) (hn : ∀ b ∈ bs, b < n) : KeepB bs A B := ⟨hs, fun b hb => h.block b (hn b hb)⟩
theorem KeepB.cell {bs : List Nat} {A B : World} (h : KeepB bs A B) {b : Nat} (hb : b ∈ bs) (i : Nat) : B.cell? ⟨b, i, none⟩ = A.cell? ⟨b, i, none⟩ := World.cell?_of_block (h.2 b hb)
theorem KeepB.put {bs : List Nat} {w : World} (hn : ∀ b ∈ bs, b < w.heap.size) (W : World) (l : Nat) (o o' : Obj) (hl : w.heap.size ≤ l) (h : W.heap[l]? = some o) (_ : o.isCells = false) (_ : o.isWalk = false) : KeepB bs W (W.putObj l o') :=
  ⟨(grownBy_putObj' W l o').size, fun b hb => (grownBy_putObj' W l o').block b (by have := hn b hb; have := (Array.getElem?_eq_some_iff.1 h).1; omega) (by intro e; have := Option.some.inj e; have := hn b hb; omega)⟩

abbrev encP (x : Int × Int × Int) : Array Value := #[.int .i64 x.1, .agg #[.int .i64 x.2.1, .int .i64 x.2.2]]

set_option maxRecDepth 100000 in
set_option maxHeartbeats 4000000 in
theorem passes_stops (n : Nat) (hn : 2 ≤ n) (b1 b2 b3 : Nat) (W H L : Int) (w : World)
    (c1 : w.cell? ⟨b1, 0, none⟩ = some (.int .i64 W)) (c2 : w.cell? ⟨b2, 0, none⟩ = some (.int .i64 H)) (c3 : w.cell? ⟨b3, 0, none⟩ = some (.int .i64 L)) :
    SeqStopsK Fence.wide n Try.prog 28 #[.pointer (some ⟨b1, 0, none⟩), .pointer (some ⟨b2, 0, none⟩), .pointer (some ⟨b3, 0, none⟩)] encP (KeepB [b1, b2, b3]) (fun xs => xs = passesL W H L) (fun pre => pre <+: passesL W H L) (passesL W H L).length w := fun l J Jx V hV hJ hJx hY h0 => by
  have d1 := cell_old hV c1
  have d2 := cell_old hV c2
  have d3 := cell_old hV c3
  have BL : Hid (∀ b ∈ [b1, b2, b3], b < V.heap.size) := Lib.hid (by
    intro b hb
    simp only [List.mem_cons, List.not_mem_nil, or_false] at hb
    rcases hb with rfl | rfl | rfl
    · exact World.block_lt_of_cell? _ _ d1
    · exact World.block_lt_of_cell? _ _ d2
    · exact World.block_lt_of_cell? _ _ d3)
  clear c1 c2 c3
  by_cases hok : sideB W = true ∧ sideB H = true ∧ (L = 0 ∨ L = 1)
  case neg =>
    have e0 : passesL W H L = [] := if_neg hok
    have HJ := Lib.hid h0
    have E0 := Lib.hid e0
    have c : sideB W = false ∨ (sideB W = true ∧ sideB H = false) ∨ (sideB W = true ∧ sideB H = true ∧ decide (L < 0) = true) ∨ (sideB W = true ∧ sideB H = true ∧ decide (L < 0) = false ∧ decide (1 < L) = true) := by
      simp only [decide_eq_true_eq, decide_eq_false_iff_not]
      cases hw : sideB W <;> cases hh : sideB H <;> simp [hw, hh] at hok ⊢
      omega
    clear hY h0 hok e0 hJ hJx
    have SW := Lib.hid (fun X => side_any W X)
    have SH := Lib.hid (fun X => side_any H X)
    rcases c with q1 | ⟨q1, q2⟩ | ⟨q1, q2, q3⟩ | ⟨q1, q2, q3, q4⟩
    · rw [q1] at SW
      clear q1
      refine callsIn_of_wp Try.func28 rfl trivial ?_ rfl
      simp only [Try.ntmps28, List.size_toArray, List.length_cons, List.length_nil, Nat.reduceAdd, Nat.reduceSub, Array.replicate_succ, Array.replicate_zero, List.push_toArray, List.append_toArray, List.nil_append, List.cons_append]
      gi_wp2_with fail
      refine ⟨trivial, fun _ => by omega, (callsIn_wide.2 (SW.out _)).mono ?_⟩; rintro e w' ⟨rfl, rfl⟩
      gi_wp2_with fail
      refine ⟨trivial, ?_⟩
      gi_wp2_with fail
      refine bodyPost_ret (results_none rfl _ _ _) rfl ?_
      exact ⟨⟨_, rfl⟩, .inl ⟨[], E0.out.symm, HJ.out⟩⟩
    · rw [q1] at SW
      rw [q2] at SH
      clear q1 q2
      refine callsIn_of_wp Try.func28 rfl trivial ?_ rfl
      simp only [Try.ntmps28, List.size_toArray, List.length_cons, List.length_nil, Nat.reduceAdd, Nat.reduceSub, Array.replicate_succ, Array.replicate_zero, List.push_toArray, List.append_toArray, List.nil_append, List.cons_append]
      gi_wp2_with fail
      refine ⟨trivial, fun _ => by omega, (callsIn_wide.2 (SW.out _)).mono ?_⟩; rintro e w' ⟨rfl, rfl⟩
      gi_wp2_with fail
      refine ⟨trivial, fun _ => by omega, (callsIn_wide.2 (SH.out _)).mono ?_⟩; rintro e w' ⟨rfl, rfl⟩
      gi_wp2_with fail
      refine bodyPost_ret (results_none rfl _ _ _) rfl ?_
      exact ⟨⟨_, rfl⟩, .inl ⟨[], E0.out.symm, HJ.out⟩⟩
    all_goals
      rw [q1] at SW
      rw [q2] at SH
      clear q1 q2
      refine callsIn_of_wp Try.func28 rfl trivial ?_ rfl
      simp only [Try.ntmps28, List.size_toArray, List.length_cons, List.length_nil, Nat.reduceAdd, Nat.reduceSub, Array.replicate_succ, Array.replicate_zero, List.push_toArray, List.append_toArray, List.nil_append, List.cons_append]
      gi_wp2_with fail
      refine ⟨trivial, fun _ => by omega, (callsIn_wide.2 (SW.out _)).mono ?_⟩; rintro e w' ⟨rfl, rfl⟩
      gi_wp2_with fail
      refine ⟨trivial, fun _ => by omega, (callsIn_wide.2 (SH.out _)).mono ?_⟩; rintro e w' ⟨rfl, rfl⟩
      gi_wp2_with fail
      refine bodyPost_ret (results_none rfl _ _ _) rfl ?_
      exact ⟨⟨_, rfl⟩, .inl ⟨[], E0.out.symm, HJ.out⟩⟩
  case pos =>
    obtain ⟨q1, q2, hL⟩ := hok
    have SW := Lib.hid (fun X => side_any W X)
    have SH := Lib.hid (fun X => side_any H X)
    rw [q1] at SW
    rw [q2] at SH
    rcases hL with rfl | rfl
    · have E0 : Hid (passesL W H 0 = [(0, W, H)]) := Lib.hid (by unfold passesL; rw [if_pos ⟨q1, q2, .inl rfl⟩, if_pos rfl])
      obtain ⟨f1, t1, a1, y1, hy1, hR1⟩ := hY [] (0, W, H) V h0 (by rw [E0.out]; simp)
      dsimp only [encP] at hy1
      have RR := Lib.hid hR1
      clear q1 q2 hY hJ hJx h0 hR1
      refine callsIn_of_wp Try.func28 rfl trivial ?_ rfl
      simp only [Try.ntmps28, List.size_toArray, List.length_cons, List.length_nil, Nat.reduceAdd, Nat.reduceSub, Array.replicate_succ, Array.replicate_zero, List.push_toArray, List.append_toArray, List.nil_append, List.cons_append]
      gi_wp2_with fail
      refine ⟨trivial, fun _ => by omega, (callsIn_wide.2 (SW.out _)).mono ?_⟩; rintro e w' ⟨rfl, rfl⟩
      gi_wp2_with fail
      refine ⟨trivial, fun _ => by omega, (callsIn_wide.2 (SH.out _)).mono ?_⟩; rintro e w' ⟨rfl, rfl⟩
      gi_wp2_with fail
      refine ⟨fun _ => by omega, RR.out.mono ?_⟩
      rintro e W1 (⟨rfl, hJ1, _⟩ | ⟨rfl, hx1⟩)
      · gi_wp2_with fail
        refine bodyPost_ret (results_none rfl _ _ _) rfl ?_
        exact ⟨⟨_, rfl⟩, .inl ⟨[(0, W, H)], E0.out.symm, hJ1⟩⟩
      · gi_wp2_with fail
        refine bodyPost_ret (results_none rfl _ _ _) rfl ?_
        exact ⟨⟨_, rfl⟩, .inr ⟨[(0, W, H)], by rw [E0.out]; exact List.prefix_rfl, hx1⟩⟩
    · obtain ⟨a, ha, rfl⟩ : ∃ a : Nat, (1 ≤ a ∧ a ≤ 65535) ∧ W = (a : Int) := ⟨W.toNat, by have := of_decide_eq_true q1; omega, by have := of_decide_eq_true q1; omega⟩
      obtain ⟨b, hb, rfl⟩ : ∃ b : Nat, (1 ≤ b ∧ b ≤ 65535) ∧ H = (b : Int) := ⟨H.toNat, by have := of_decide_eq_true q2; omega, by have := of_decide_eq_true q2; omega⟩
      have E0 : Hid (passesL (a : Int) (b : Int) 1 = lacedTo a b 7) := Lib.hid (by unfold passesL; rw [if_pos ⟨q1, q2, .inr rfl⟩, if_neg (by decide)]; rfl)
      have YY := Lib.hid hY
      have JJ := Lib.hid hJ
      have H0 := Lib.hid h0
      have HA := Lib.hid ha
      have HB := Lib.hid hb
      clear q1 q2 hY hJ hJx h0 ha hb
      refine callsIn_of_wp Try.func28 rfl trivial ?_ rfl
      simp only [Try.ntmps28, List.size_toArray, List.length_cons, List.length_nil, Nat.reduceAdd, Nat.reduceSub, Array.replicate_succ, Array.replicate_zero, List.push_toArray, List.append_toArray, List.nil_append, List.cons_append]
      gi_wp2_with fail
      refine ⟨trivial, fun _ => by omega, (callsIn_wide.2 (SW.out _)).mono ?_⟩; rintro e w' ⟨rfl, rfl⟩
      gi_wp2_with fail
      refine ⟨trivial, fun _ => by omega, (callsIn_wide.2 (SH.out _)).mono ?_⟩; rintro e w' ⟨rfl, rfl⟩
      gi_wp2_with fail
      clear SW SH
      have D1 := Lib.hid d1
      have D2 := Lib.hid d2
      clear d1 d2 d3
      gi_loopw [31] (fun i wr => ∃ k : Nat, k ≤ 7 ∧ i = .int .i64 k ∧ J (lacedTo a b k) wr ∧ KeepB [b1, b2, b3] V wr) (fun i _ => 7 - (intOf i).toNat)
      case atStart => exact ⟨0, Nat.zero_le _, rfl, H0.out, KeepB.refl _ _⟩
      case round =>
        obtain ⟨k, hk, rfl, hJs, hbl⟩ := hrel
        have HJs := Lib.hid hJs
        have HBL := Lib.hid hbl
        have d1 := (hbl.cell (b := b1) (by simp) 0).trans D1.out
        have d2 := (hbl.cell (b := b2) (by simp) 0).trans D2.out
        clear hJs hbl
        by_cases hk7 : k < 7
        · have f1 : decide ((k : Int) < 7) = true := by rw [decide_eq_true_eq]; omega
          have SZ := Lib.hid (fun X => size_in k a b hk7 X HA.out HB.out)
          have SC := Lib.hid (lacedTo_succ a b k)
          have LEN : Hid (lacedTo a b (k + 1) <+: lacedTo a b 7) := Lib.hid (lacedTo_pre a b (k + 1) 7 (by omega))
          obtain ⟨p, hp⟩ : ∃ p, (sizeN k a b).1 = p := ⟨_, rfl⟩
          obtain ⟨q, hq⟩ : ∃ q, (sizeN k a b).2 = q := ⟨_, rfl⟩
          rw [hp, hq] at SZ SC
          clear hp hq
          by_cases hp0 : 0 < p
          · rw [if_pos hp0] at SC
            have g1 : decide (0 < (p : Int)) = true := by rw [decide_eq_true_eq]; omega
            have g2 : decide (0 < p) = true := by rw [decide_eq_true_eq]; exact hp0
            gi_wp2_with fail
            refine ⟨trivial, fun _ => by omega, (callsIn_wide.2 (SZ.out _)).mono ?_⟩; rintro e w2 ⟨rfl, hb2⟩
            have J2 := Lib.hid (abides_below JJ.out HJs.out hb2)
            have B2 := Lib.hid (HBL.out.trans (KeepB.below hb2 hb2.size (fun b hb => Nat.lt_of_lt_of_le (BL.out b hb) HBL.out.1)))
            clear hb2
            obtain ⟨f1, t1, a1, y1, hy1, hR1⟩ := YY.out (lacedTo a b k) ((k : Int), (p : Int), (q : Int)) w2 J2.out (by rw [E0.out]; have h := LEN.out.length_le; rw [SC.out] at h; simp at h; omega)
            dsimp only [encP] at hy1
            have RR := Lib.hid hR1
            clear hR1
            gi_wp2_with fail
            refine ⟨fun _ => by omega, RR.out.mono ?_⟩
            rintro e W3 (⟨rfl, hJ3, hk3⟩ | ⟨rfl, hJx3⟩)
            · have J3 := Lib.hid hJ3
              have B3 := Lib.hid (B2.out.trans hk3)
              clear hJ3 hk3
              gi_wp2_with fail
              go_roundw
              case rel => exact ⟨k + 1, by omega, by go_num, by rw [SC.out]; exact J3.out, B3.out⟩
              case measure => simp [intOf]; omega
            · gi_wp2_with fail
              refine bodyPost_ret (results_none rfl _ _ _) rfl ?_
              exact ⟨⟨_, rfl⟩, .inr ⟨_, by rw [E0.out, ← SC.out]; exact LEN.out, hJx3⟩⟩
          · rw [if_neg hp0] at SC
            have g1 : decide (0 < (p : Int)) = false := by rw [decide_eq_false_iff_not]; omega
            have g2 : decide (0 < p) = false := by rw [decide_eq_false_iff_not]; exact hp0
            gi_wp2_with fail
            refine ⟨trivial, fun _ => by omega, (callsIn_wide.2 (SZ.out _)).mono ?_⟩; rintro e w2 ⟨rfl, hb2⟩
            have J2 := Lib.hid (abides_below JJ.out HJs.out hb2)
            have B2 := Lib.hid (HBL.out.trans (KeepB.below hb2 hb2.size (fun b hb => Nat.lt_of_lt_of_le (BL.out b hb) HBL.out.1)))
            clear hb2
            gi_wp2_with fail
            refine ⟨fun _ h => (by cases h), ?_⟩
            gi_wp2_with fail
            go_roundw
            case rel => exact ⟨k + 1, by omega, by go_num, by rw [SC.out, List.append_nil]; exact J2.out, B2.out⟩
            case measure => simp [intOf]; omega
        · obtain rfl : k = 7 := by omega
          gi_wp2_with fail
          go_end0
          exact ⟨⟨_, rfl⟩, .inl ⟨_, E0.out.symm, HJs.out⟩⟩
end Go.Proofs.Ytfmkcpilljfidaa
