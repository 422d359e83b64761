/- The walks of chunk.reader's word, bytes. By an AI agent. -/
import Derived.Test.YtmdbnnnaiidheaaNamed
import Derived.Test.YtmdbnnnaiidheaaTakeO
import Derived.Test.YtmdbnnnaiidheaaPre
import Derived.Test.YtmdbnnnaiidheaaQO
import Derived.BigFrame
import Derived.RegionTactic
import Derived.ChangeAlike
namespace Go.Proofs.Ytmdbnnnaiidheaa
open Go.RowKit Go.BigFrame
set_option linter.unusedVariables false
set_option linter.unusedSimpArgs false

theorem Bs.drop {w : World} {b off n cap : Nat} {l : List UInt8} (h : Bs w (.slice (some ⟨b, off, none⟩) n cap) l) (k : Nat) (hk : k ≤ l.length) : Bs w (.slice (some ⟨b, off + k, none⟩) (n - k) (cap - k)) (l.drop k) := by
  rcases h.2 with ⟨a', cap', hv, hn⟩ | ⟨b', off', cap', hv, hc, hn, hx⟩
  · simp only [Value.slice.injEq] at hv
    obtain ⟨_, rfl, _⟩ := hv
    have : l = [] := List.eq_nil_of_length_eq_zero hn
    subst this
    exact ⟨by simp [vBs], .inl ⟨some ⟨b, off + k, none⟩, cap - k, by simp, by simp⟩⟩
  · simp only [Value.slice.injEq, Option.some.injEq, Addr.mk.injEq, and_true] at hv
    obtain ⟨⟨rfl, rfl⟩, rfl, rfl⟩ := hv
    refine ⟨by simp [vBs], ?_⟩
    rw [List.length_drop]
    by_cases h0 : l.length - k = 0
    · exact .inl ⟨_, _, by rw [h0], h0⟩
    · refine .inr ⟨b, off + k, _, rfl, by omega, by omega, fun i u hu => ?_⟩
      rw [Nat.add_assoc]
      refine hx (k + i) u ?_
      simpa [vBs, List.getElem?_drop] using hu

theorem Bs.dropO {w : World} {a : Option Addr} {cap : Nat} {l : List UInt8} (h : Bs w (.slice a l.length cap) l) (n : Nat) (hn : n ≤ l.length) : Bs w (.slice (a.map (·.add n)) (l.length - n) (cap - n)) (l.drop n) := by
  rcases h.shape with ⟨a', c', hv, h0⟩ | ⟨b, off, c', hv, _⟩
  · subst h0
    simp only [List.length_nil, Nat.zero_sub, List.drop_nil]
    exact Bs.nil _ _ _
  · simp only [Value.slice.injEq] at hv
    obtain ⟨rfl, _, rfl⟩ := hv
    have := h.drop n hn
    simp only [Option.map_some, add_at]
    exact this
/-- A reader in a block of the call's own: what is left of the bytes. -/
structure Rd (w0 w : World) (R : Nat) (l : List UInt8) : Prop where
  below : Below w0.heap.size w0 w
  own : w0.heap.size ≤ R
  cell : ∃ v, w.heap[R]? = some (.cells #[v] 55 (0, 0)) ∧ Bs w0 v l
theorem Rd.ex {w0 w : World} {R : Nat} {l : List UInt8} (h : Rd w0 w R l) : ∃ a cap, w.cell? ⟨R, 0, none⟩ = some (.slice a l.length cap) ∧ w.frozen? ⟨R, 0, none⟩ = false ∧ Bs w0 (.slice a l.length cap) l ∧ R < w.heap.size := by
  obtain ⟨v, hh, hb⟩ := h.cell
  obtain ⟨a, cap, rfl⟩ := hb.len
  exact ⟨a, cap, by rw [cell_of_row w R 0 _ _ (0, 0) hh]; rfl, by simp [World.frozen?, hh], hb, (Array.getElem?_eq_some_iff.1 hh).1⟩
theorem take_short4 (v : Value) (l : List UInt8) (w : World) (hb : Bs w v l) (h : l.length < 4) :
    Calls Try.prog 48 #[v, .int .i64 4] w fun e w' => e = .returned (.tuple #[.int .i64 0, .slice none 0 0, errV 8]) ∧ w = w' := take_short v l 4 w hb (by decide) h
set_option maxHeartbeats 800000 in
theorem word_short (w0 w : World) (R : Nat) (l : List UInt8) (h : Rd w0 w R l) (hl : l.length ≤ 140737488351232) (hs : l.length < 4) :
    Calls Try.prog 36 #[.pointer (some ⟨R, 0, none⟩)] w fun e w' => e = .returned (.tuple #[.int .i64 0, errV 8]) ∧ Below w.heap.size w w' := by
  obtain ⟨a, cap, hc, hf, hb, hR⟩ := h.ex
  have BW : Hid (Bs w (.slice a l.length cap) l) := Lib.hid (hb.old h.below)
  have HS := Lib.hid hs
  have M1 : Hid ((l.length : Int) ≤ 4) := Lib.hid (by omega)
  have hcap : l.length ≤ cap := by
    rcases hb.shape with ⟨a', c', hv, h0⟩ | ⟨b, off, c', hv, hcc, _⟩
    · rw [h0]; simp
    · simp only [Value.slice.injEq] at hv; omega
  have i1 : (0 : Int) ≤ (l.length : Int) := by omega
  have i2 : (l.length : Int) ≤ (cap : Int) := by omega
  clear h hb hf
  go_enter Try.func36, Try.ntmps36
  go_wp2_with fail
  refine wp_region_qmq (fun W => W.cell? ⟨R, 0, none⟩ = some (.slice a l.length cap) ∧ Below w.heap.size w W) 11 0 (by kernel_rfl) (by kernel_rfl) ⟨hc, (Below.refl _ _).drew⟩ ?_
  simp only [List.take_succ_cons, List.take_zero, List.drop_succ_cons, List.drop_zero, Nat.reduceAdd]
  repeat
    first
    | go_big_quiet_skip
    | (go_big_quiet_want
       first
       | (go_big_quiet_op; go_big_quiet_on; try rw [if_neg (Int.not_lt.2 M1.out)])
       | (apply Exists.intro
          refine ⟨fun X hX => ?_, ?_⟩
          · obtain ⟨e1, eZ⟩ := hX
            clear eZ
            unfold Oper.quietAt
            go_simp
            first
            | exact ⟨rfl, rfl⟩
            | exact rfl
          go_big_quiet_on
          try simp only [Act.put, List.setIfInBounds_toArray, List.set_cons_zero, List.set_cons_succ]; try rw [if_neg (Int.not_lt.2 M1.out)]))
  refine wpQuiet_nil ?_
  rintro X ⟨hcX, hbX⟩
  go_wp2_with fail
  refine (take_short4 _ l _ (BW.out.old hbX) HS.out).mono ?_; rintro e w' ⟨rfl, rfl⟩
  go_wp2_with fail
  refine tail_at (tailP_one ?_)
  repeat
    first
    | go_big_quiet_skip
    | (go_big_quiet_want
       first
       | (go_big_quiet_op; go_big_quiet_on)
       | (apply Exists.intro
          refine ⟨fun X hX => ?_, ?_⟩
          · obtain rfl := hX
            unfold Oper.quietAt
            go_simp
            first
            | exact ⟨rfl, rfl⟩
            | exact rfl
          go_big_quiet_on
          try simp only [Act.put, List.setIfInBounds_toArray, List.set_cons_zero, List.set_cons_succ]))
  refine wpQuiet_nil ?_
  rintro _ rfl
  have E8 := Lib.hid (errV_some (n := 8) (by decide))
  rw [E8.out]
  go_wp2_with fail
  go_ret2
  exact ⟨rfl, hbX⟩

theorem take_good4 (v : Value) (l : List UInt8) (w : World) (hb : Bs w v l) (h : l.length = 4) :
    Calls Try.prog 48 #[v, .int .i64 4] w fun e w' => ∃ a c, e = .returned (.tuple #[.int .i64 (numL l : Int), .slice a 0 c, .nilIface]) ∧ Below w.heap.size w w' := by
  refine (take_good v l 4 w hb (by omega) (by decide) (by omega)).mono ?_
  rintro e w' ⟨v', rfl, h1, h2⟩
  obtain ⟨a, c, rfl⟩ := h1.len
  rw [List.take_of_length_le (by omega), List.length_drop, h]
  exact ⟨a, c, rfl, h2⟩
/-- the reader stands at another place -/
theorem Rd.store {w0 w : World} {R : Nat} {l r : List UInt8} {v : Value} (h : Rd w0 w R l) (hv : Bs w0 v r) : Rd w0 (w.setCell ⟨R, 0, none⟩ v) R r := by
  obtain ⟨u, hh, hb⟩ := h.cell
  refine ⟨h.below.setCell (p := ⟨R, 0, none⟩) h.own _, h.own, v, ?_, hv⟩
  simp [World.setCell, Array.getElem?_modify, hh]
theorem Rd.old {w0 w w' : World} {R : Nat} {l : List UInt8} (h : Rd w0 w R l) (hb : Below w.heap.size w w') : Rd w0 w' R l := by
  obtain ⟨v, hh, hv⟩ := h.cell
  exact ⟨h.below.trans (hb.mono h.below.size), h.own, v, by rw [hb.block _ (Array.getElem?_eq_some_iff.1 hh).1]; exact hh, hv⟩
theorem Rd.drewN {w0 w : World} {R : Nat} {l : List UInt8} (h : Rd w0 w R l) : Rd w0 w.drew R l := h.old (Below.refl _ _).drew
theorem grown_set {w w1 : World} (hb : Below w.heap.size w w1) (R i : Nat) (v : Value) : w.grownBy (w1.setCell ⟨R, i, none⟩ v) (some R) :=
  ⟨hb.os, hb.tape, hb.output, by simpa using hb.size, fun k hk hne => by
    rw [Go.Deep.blk_setCell_other _ _ _ _ (fun e => hne (by simp only at e; rw [e]))]; exact hb.block k hk⟩
theorem owns_low {w w' : World} {base : Nat} {e : TypeId} {size : Nat} {v : Value} {n : Nat} {xs : List Value} (h : w.ownsRow base e size v n xs) {R : Nat} (hg : w.grownBy w' (some R)) (hR : R < base) : w'.ownsRow base e size v n xs :=
  h.kept hg (by
    cases hv : v.ownBlock with
    | none => exact .inl rfl
    | some k => right; have := (h.lt k hv).1; intro e; simp only [Option.some.injEq] at e; omega)
set_option maxHeartbeats 1600000 in
theorem word_good (w0 w : World) (R : Nat) (l : List UInt8) (h : Rd w0 w R l) (hl : l.length ≤ 140737488351232) (hs : 4 ≤ l.length) :
    Calls Try.prog 36 #[.pointer (some ⟨R, 0, none⟩)] w fun e w' => e = .returned (.tuple #[.int .i64 (numL (l.take 4) : Int), .nilIface]) ∧ Rd w0 w' R (l.drop 4) ∧ w.grownBy w' (some R) := by
  obtain ⟨a, cap, hc, hf, hb, hR⟩ := h.ex
  have HRD := Lib.hid h
  have BB := Lib.hid hb
  have HS := Lib.hid hs
  have M1 : Hid ((if (4 : Int) < (l.length : Int) then (4 : Int) else (l.length : Int)) = 4) := Lib.hid (by split <;> omega)
  obtain ⟨b, off, rfl, hcap⟩ : ∃ b off, a = some ⟨b, off, none⟩ ∧ l.length ≤ cap := by
    rcases hb.shape with ⟨a', c', hv, h0⟩ | ⟨b, off, c', hv, hcc, _⟩
    · rw [h0] at hs; simp at hs
    · simp only [Value.slice.injEq] at hv; exact ⟨b, off, hv.1, by omega⟩
  have BT : Hid (Bs w (.slice (some ⟨b, off, none⟩) 4 cap) (l.take 4)) := Lib.hid ((hb.old h.below).take 4 hs)
  have i1 : (4 : Int) ≤ (l.length : Int) := by omega
  have i2 : (4 : Int) ≤ (cap : Int) := by omega
  have LT : Hid ((l.take 4).length = 4) := Lib.hid (by rw [List.length_take]; omega)
  clear h hb
  go_enter Try.func36, Try.ntmps36
  go_wp2_with fail
  refine wp_region_qmq (fun W => W.cell? ⟨R, 0, none⟩ = some (.slice (some ⟨b, off, none⟩) l.length cap) ∧ Below w.heap.size w W) 11 0 (by kernel_rfl) (by kernel_rfl) ⟨hc, (Below.refl _ _).drew⟩ ?_
  simp only [List.take_succ_cons, List.take_zero, List.drop_succ_cons, List.drop_zero, Nat.reduceAdd]
  repeat
    first
    | go_big_quiet_skip
    | (go_big_quiet_want
       first
       | (go_big_quiet_op; go_big_quiet_on; try rw [M1.out])
       | (apply Exists.intro
          refine ⟨fun X hX => ?_, ?_⟩
          · obtain ⟨e1, eZ⟩ := hX
            clear eZ
            unfold Oper.quietAt
            go_simp
            first
            | exact ⟨rfl, rfl⟩
            | exact rfl
          go_big_quiet_on
          try simp only [Act.put, List.setIfInBounds_toArray, List.set_cons_zero, List.set_cons_succ]; try rw [M1.out]))
  refine wpQuiet_nil ?_
  rintro X ⟨hcX, hbX⟩
  have BX := Lib.hid hbX
  go_wp2_with fail
  refine (take_good4 _ (l.take 4) _ (BT.out.old hbX) LT.out).mono ?_; rintro e w1 ⟨a1, c1, rfl, hb1⟩
  have B1 := Lib.hid hb1
  have hc1 := cell_old hb1 hcX
  have hf1 : w1.frozen? ⟨R, 0, none⟩ = false := by rw [World.frozen?_of_block (hb1.block R (by have := hbX.size; omega)), World.frozen?_of_block (hbX.block R hR)]; exact hf
  clear hcX hbX hb1 hf
  go_wp2_with fail
  refine tail_at (tailP_one ?_)
  repeat
    first
    | go_big_quiet_skip
    | (go_big_quiet_want
       first
       | (go_big_quiet_op; go_big_quiet_on)
       | (apply Exists.intro
          refine ⟨fun X hX => ?_, ?_⟩
          · obtain rfl := hX
            unfold Oper.quietAt
            go_simp
            first
            | exact ⟨rfl, rfl⟩
            | exact rfl
          go_big_quiet_on
          try simp only [Act.put, List.setIfInBounds_toArray, List.set_cons_zero, List.set_cons_succ]))
  refine wpQuiet_nil ?_
  rintro _ rfl
  go_wp2_with fail
  all_goals
    go_ret2
    refine ⟨rfl, ((HRD.out.old BX.out).old B1.out).store ?_, grown_set (BX.out.trans (B1.out.mono BX.out.size)) _ _ _⟩
  · have : l.length = 4 := by have := HS.out; omega
    rw [List.drop_of_length_le (by omega), this]
    exact Bs.nil _ _ _
  · exact BB.out.drop 4 HS.out

set_option maxHeartbeats 1600000 in
theorem bytes_short (w0 w : World) (R : Nat) (l : List UInt8) (n : Nat) (h : Rd w0 w R l) (hl : l.length ≤ 140737488351232) (hs : l.length < n) :
    Calls Try.prog 37 #[.pointer (some ⟨R, 0, none⟩), .int .i64 (n : Int)] w fun e w' => e = .returned (.tuple #[.slice none 0 0, errV 8]) ∧ Below w.heap.size w w' := by
  obtain ⟨a, cap, hc, hf, hb, hR⟩ := h.ex
  have E8 := Lib.hid (errV_some (n := 8) (by decide))
  have d1 : decide ((l.length : Int) < (n : Int)) = true := by rw [decide_eq_true_eq]; omega
  have d2 : decide (l.length < n) = true := by rw [decide_eq_true_eq]; omega
  rw [E8.out]
  have BW : Hid (Below w.heap.size w w) := Lib.hid (Below.refl _ _)
  clear h hb hs
  go_enter Try.func37, Try.ntmps37
  go_wp2_with fail
  go_ret2
  exact ⟨rfl, BW.out⟩
set_option maxHeartbeats 1600000 in
theorem bytes_good (w0 w : World) (R : Nat) (l : List UInt8) (n : Nat) (h : Rd w0 w R l) (hl : l.length ≤ 140737488351232) (hs : n ≤ l.length) :
    Calls Try.prog 37 #[.pointer (some ⟨R, 0, none⟩), .int .i64 (n : Int)] w fun e w' => ∃ v, e = .returned (.tuple #[v, .nilIface]) ∧ w'.ownsRow w.heap.size 5 1 v n (vBs (l.take n)) ∧ Rd w0 w' R (l.drop n) ∧ w.grownBy w' (some R) := by
  obtain ⟨a, cap, hc, hf, hb, hR⟩ := h.ex
  have HRD := Lib.hid h
  have BB := Lib.hid hb
  have HL := Lib.hid hl
  have d1 : decide ((l.length : Int) < (n : Int)) = false := by rw [decide_eq_false_iff_not]; omega
  have d2 : decide (l.length < n) = false := by rw [decide_eq_false_iff_not]; omega
  have BT : Hid (Bs w (.slice a n cap) (l.take n)) := Lib.hid ((hb.old h.below).take n hs)
  have hcap : l.length ≤ cap := by
    rcases hb.shape with ⟨a', c', hv, h0⟩ | ⟨b, off, c', hv, hcc, _⟩
    · rw [h0]; simp
    · simp only [Value.slice.injEq] at hv; omega
  have LT : Hid ((l.take n).length ≤ 140737488351232) := Lib.hid (by rw [List.length_take]; omega)
  have NL := Lib.hid hs
  have j1 : (n : Int) ≤ (cap : Int) := by omega
  have j2 : n ≤ cap := by omega
  have j3 : (n : Int) ≤ (l.length : Int) := by omega
  have j4 : n ≤ l.length := hs
  clear h hb hs hl
  go_enter Try.func37, Try.ntmps37
  go_wp2_with fail
  refine (clone_own _ (l.take n) _ BT.out LT.out).mono ?_; rintro e w1 ⟨v1, rfl, ho, hb1⟩
  have O1 : Hid (w1.ownsRow w.heap.size 5 1 v1 n (vBs (l.take n))) := Lib.hid (by have := NL.out; rw [List.length_take, Nat.min_eq_left this] at ho; exact ho)
  have B1 := Lib.hid hb1
  have hc1 := cell_old hb1 hc
  have hf1 : w1.frozen? ⟨R, 0, none⟩ = false := by rw [World.frozen?_of_block (hb1.block R hR)]; exact hf
  clear hc hf hb1 ho
  go_wp2_with fail
  all_goals
    go_ret2
    refine ⟨v1, rfl, owns_low O1.out (grown_set (Below.refl _ _) _ _ _) hR, (HRD.out.old B1.out).store ?_, grown_set B1.out _ _ _⟩
  · have : l.length = n := by have := NL.out; omega
    rw [List.drop_of_length_le (by omega), show l.length - n = 0 by omega]
    exact Bs.nil _ _ _
  · exact BB.out.dropO n NL.out
end Go.Proofs.Ytmdbnnnaiidheaa
