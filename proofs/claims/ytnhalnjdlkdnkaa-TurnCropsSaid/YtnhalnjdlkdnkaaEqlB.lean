/- slices.Equal of blocks. By an AI agent. -/
import Derived.Test.YtnhalnjdlkdnkaaBkO
import Derived.Test.YtnhalnjdlkdnkaaQT
import Derived.BigFrame
import Derived.BigQuiet
import Derived.Handy
namespace Go.Proofs.Ytnhalnjdlkdnkaa
open Go.RowKit Go.BigFrame
set_option linter.unusedVariables false
set_option linter.unusedSimpArgs false
set_option maxRecDepth 20000

/-- a load of many cells, quiet -/
theorem quiet_load_mid {P : Program} {o : Oper} {a : Act} {C : World → Prop} {next : Act → Prop} {ty : TypeId} {x : Operand} (ho : o.op = .load ty x) (b off : Nat) (hx : a.eval x = .pointer (some ⟨b, off, none⟩)) (cs : List Value) (d : TypeDesc)
    (hS : ∀ w, C w → w.rangeAt b off cs) (hu : P.underlying ty = some d) (hd : d.isRow = true) (hi : (P.info? ty).map (·.size) = some cs.length) (h : next (a.put o.dst (.agg cs.toArray))) : o.quiet P a C next := by
  refine ⟨.agg cs.toArray, fun w hw => ?_, h⟩
  unfold Oper.quietAt Oper.quietUpon execOp
  simp only [ho, hx, Instr.loadAt, Instr.sureAddr, Sem.run_bind, Sem.run_pure, Result.andThen_ok, run_loadVar_mid w b off ty cs d (hS w hw) hu hd hi]
  simp [hw]
theorem range_old {w w' : World} (hb : Below w.heap.size w w') {b o : Nat} {cs : List Value} (h : w.rangeAt b o cs) : w'.rangeAt b o cs := fun j v hj => cell_old hb (h j v hj)
theorem blk_info {b : List Int} (h : b.length = 64) : (Try.prog.info? 23).map (·.size) = some (vIs b).length := by rw [vIs_length, h]; kernel_rfl
/-- beginnings of two lists -/
theorem take_eq_succ {α : Type} {l m : List α} (h : l.length = m.length) (k : Nat) (hk : k < l.length) (ht : l.take k = m.take k) : l.take (k + 1) = m.take (k + 1) ↔ l[k] = m[k]'(by omega) := by
  rw [List.take_succ_eq_append_getElem hk, List.take_succ_eq_append_getElem (show k < m.length by omega), ht]
  constructor
  · intro e
    have := List.append_cancel_left e
    simpa using this
  · intro e; rw [e]
theorem ne_at {α : Type} {l m : List α} (h : l.length = m.length) (k : Nat) (hk : k < l.length) (hne : l[k] ≠ m[k]'(by omega)) : l ≠ m := by
  rintro rfl
  exact hne rfl

set_option maxHeartbeats 1600000 in
theorem eqBlocks_any (u v : Value) (l m : List (List Int)) (w : World) (hu : Bks w u l) (hv : Bks w v m) (hl : l.length ≤ 140737488355328) :
    Calls Try.prog 74 #[u, v] w fun e w' => e = .returned (.bool (decide (l = m))) ∧ Below w.heap.size w w' := by
  obtain ⟨au, ua, uc, rfl, _, hux⟩ := hu.range
  obtain ⟨av, va, vc, rfl, _, hvx⟩ := hv.range
  have AU := Lib.hid au
  have AV := Lib.hid av
  clear au av
  have HU := Lib.hid hux
  have HV := Lib.hid hvx
  have HL := Lib.hid hl
  clear hu hv hux hvx hl
  by_cases hlen : l.length = m.length
  · obtain ⟨n, hn⟩ : ∃ n, l.length = n := ⟨_, rfl⟩
    have hn2 : m.length = n := by omega
    rw [hn, hn2]
    have HN := Lib.hid hn
    have HN2 := Lib.hid hn2
    have HE := Lib.hid hlen
    have ne : ((n : Int) != (n : Int)) = false := by rw [bne_eq_false_iff_eq]
    have ne' : (n != n) = false := by rw [bne_eq_false_iff_eq]
    clear hn hn2 hlen
    go_enter Try.func74, Try.ntmps74
    go_wp2_with fail
    go_loopw [5, 13] (fun _ i W => ∃ k : Nat, k ≤ n ∧ i = .int .i64 k ∧ l.take k = m.take k ∧ Below w.heap.size w W) (fun _ i _ => n - (intOf i).toNat)
    case atStart => exact ⟨0, Nat.zero_le _, rfl, by simp, Below.refl _ _⟩
    case round =>
      obtain ⟨k, hk, rfl, ht, hb⟩ := hrel
      have HT := Lib.hid ht
      have BB := Lib.hid hb
      clear ht hb
      by_cases hkl : k < n
      · have f1 : decide ((k : Int) < (n : Int)) = true := by rw [decide_eq_true_eq]; omega
        have f1' : decide (k < n) = true := by rw [decide_eq_true_eq]; omega
        have f2 : (k : Int) < (n : Int) := by omega
        have hkl1 : k < l.length := by rw [HN.out]; exact hkl
        have hkm1 : k < m.length := by rw [HN2.out]; exact hkl
        obtain ⟨b, off, rfl, c1⟩ := HU.out k hkl1
        obtain ⟨b', off', rfl, c2⟩ := HV.out k hkm1
        have c1' := range_old BB.out c1
        have c2' := range_old BB.out c2
        have SU := Lib.hid (take_eq_succ HE.out k hkl1 HT.out)
        have NE := Lib.hid (ne_at HE.out k hkl1)
        have BXk := AU.out.at k hkl1
        have BYk := AV.out.at k hkm1
        obtain ⟨x, hx⟩ : ∃ x, l[k]'hkl1 = x := ⟨_, rfl⟩
        obtain ⟨y, hy⟩ : ∃ y, m[k]'hkm1 = y := ⟨_, rfl⟩
        rw [hx] at c1' SU NE BXk
        rw [hy] at c2' SU NE BYk
        have HIX := Lib.hid (blk_info BXk.1)
        have HIY := Lib.hid (blk_info BYk.1)
        have EQ := fun W => eq_in BXk BYk W
        unfold arr at EQ
        obtain ⟨q, hq⟩ : ∃ q, decide (x = y) = q := ⟨_, rfl⟩
        simp only [hq] at EQ
        have HQ := Lib.hid hq
        clear hq
        have BXK := Lib.hid BXk
        have BYK := Lib.hid BYk
        have gk : IntKind.i64.wrap ((k : Int) + 1) = (k : Int) + 1 := IntWalk.i64_in _ (by have := HL.out; have := HN.out; omega)
        have HKL := Lib.hid hkl
        clear c1 c2 hx hy BXk BYk
        go_wp2_with fail
        refine wp_region_q (fun X => X.rangeAt b (off + k * 64) (vIs x) ∧ X.rangeAt b' (off' + k * 64) (vIs y) ∧ Below wr.heap.size wr X) (by kernel_rfl) (by kernel_rfl) ⟨range_old (Below.refl _ _).drew c1', range_old (Below.refl _ _).drew c2', (Below.refl _ _).drew⟩ ?_
        clear c1' c2'
        repeat
          first
          | go_big_quiet_skip
          | (go_big_quiet_want
             first
             | (refine quiet_load_mid rfl b (off + k * 64) rfl (vIs x) _ (fun w hw => hw.1) Try.underlying23 rfl HIX.out ?_; go_big_quiet_on; try simp only [Act.put, List.setIfInBounds_toArray, List.set_cons_zero, List.set_cons_succ])
             | (refine quiet_load_mid rfl b' (off' + k * 64) rfl (vIs y) _ (fun w hw => hw.2.1) Try.underlying23 rfl HIY.out ?_; go_big_quiet_on; try simp only [Act.put, List.setIfInBounds_toArray, List.set_cons_zero, List.set_cons_succ])
             | (go_big_quiet_op; go_big_quiet_on)
             | (apply Exists.intro
                refine ⟨fun X hX => ?_, ?_⟩
                · clear hX
                  unfold Oper.quietAt
                  go_simp
                  first
                  | exact ⟨rfl, rfl⟩
                  | exact rfl
                go_big_quiet_on
                try simp only [Act.put, List.setIfInBounds_toArray, List.set_cons_zero, List.set_cons_succ]))
        clear EQ
        refine wpQuiet_nil ?_
        rintro Y ⟨-, -, hbY⟩
        have BY := Lib.hid (BB.out.trans (hbY.mono BB.out.size))
        clear hbY f1 f1'
        cases q with
        | true =>
          have TT := Lib.hid (SU.out.2 (of_decide_eq_true HQ.out))
          go_wp2_with fail
          go_roundw
          case rel => exact ⟨k + 1, HKL.out, by go_num, TT.out, BY.out⟩
          case measure => simp [intOf]; have := HKL.out; omega
        | false =>
          have NN := Lib.hid (decide_eq_false (NE.out (of_decide_eq_false HQ.out)))
          go_wp2_with fail
          go_ret
          exact ⟨by rw [NN.out]; rfl, BY.out⟩
      · obtain rfl : k = n := by omega
        have f1 : decide ((k : Int) < (k : Int)) = false := by rw [decide_eq_false_iff_not]; omega
        have EE : Hid (decide (l = m) = true) := Lib.hid (by
          have := HT.out
          rw [List.take_of_length_le (by rw [HN.out]; omega), List.take_of_length_le (by rw [HN2.out]; omega)] at this
          rw [this]; simp)
        go_wp2_with fail
        go_ret
        exact ⟨by rw [EE.out]; rfl, BB.out⟩
  · have ne : ((l.length : Int) != (m.length : Int)) = true := by rw [bne_iff_ne]; omega
    have ne' : (l.length != m.length) = true := by rw [bne_iff_ne]; exact hlen
    have EE := Lib.hid (show decide (l = m) = false from decide_eq_false (fun e => hlen (by rw [e])))
    clear hlen
    go_enter Try.func74, Try.ntmps74
    go_wp2_with fail
    go_ret
    exact ⟨by rw [EE.out]; rfl, Below.refl _ _⟩
end Go.Proofs.Ytnhalnjdlkdnkaa
