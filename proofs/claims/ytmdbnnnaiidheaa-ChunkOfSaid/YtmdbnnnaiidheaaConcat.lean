/- slices.Grow of nil, slices.Concat at bytes. By an AI agent. -/
import Derived.Test.YtmdbnnnaiidheaaSPut
import Derived.Lib.AppendZeros
namespace Go.Proofs.Ytmdbnnnaiidheaa
open Go.RowKit
set_option linter.unusedVariables false
set_option linter.unusedSimpArgs false

set_option maxHeartbeats 1600000 in
theorem growB (n : Nat) (hn : 0 < n) (hn2 : n ≤ 70368744177664) (w : World) : Calls Try.prog 45 #[.slice none 0 0, .int .i64 (n : Int)] w fun e w' => ∃ cap, e = .returned (.slice (some ⟨w.heap.size, 0, none⟩) 0 cap) ∧ n ≤ cap ∧ w'.ownsRow w.heap.size 5 1 (.slice (some ⟨w.heap.size, 0, none⟩) 0 cap) 0 [] ∧ Below w.heap.size w w' ∧ w.heap.size < w'.heap.size := by
  obtain ⟨i, hi, hz, hsz, hby⟩ := tyB.hi
  have hr := Lib.run_append_nil_zeros (P := Try.prog) w 22 3 22 5 i (.int .u8 0) .i64 .i64 tyB.ht Try.underlying3 hi hz n (by omega) (by omega) (by omega) (by rw [hby]; omega)
  have hge := grownCap_ge w n 0 5
  have hle := grownCap_le_maxLen w n 0 5 (by unfold maxLen; omega)
  generalize hK : grownCap w n 0 5 = K at *
  have HO : Hid (∀ cells : Array Value, cells.size = K → (w.drew.alloc (.cells cells 5)).ownsRow w.heap.size 5 1 (.slice (some ⟨w.heap.size, 0, none⟩) 0 K) 0 []) := Lib.hid (fun cells hc => by
    exact World.ownsRow_made (w := w.drew) cells K (by show w.heap.size ≤ w.heap.size; exact Nat.le_refl _) hle (by rw [hc]; omega))
  have hcells : Hid ((Builtin.zeroCells (Value.int .u8 0).cells n ++ Builtin.zeroCells (Value.int .u8 0).cells (K - n)).size = K) := Lib.hid (by
    simp [Builtin.zeroCells, Value.cells]; omega)
  have HGE := Lib.hid hge
  have HLE := Lib.hid hle
  have d1 : decide (n ≤ K) = true := by rw [decide_eq_true_eq]; exact hge
  have d2 : decide (0 ≤ K) = true := by rw [decide_eq_true_eq]; omega
  have d3 : decide (0 < n) = true := by rw [decide_eq_true_eq]; exact hn
  clear hi hz hsz hby hge hle hK
  go_enter Try.func45, Try.ntmps45
  go_wp2_with (at_builtin; refine stop ?_)
  refine unstop (Lib.wpList_append_run _ rfl _ _ _ _ rfl _ _ rfl rfl _ _ hr ?_)
  go_wp2
  go_ret
  exact ⟨K, rfl, HGE.out, HO.out _ hcells.out, ((Below.refl _ _).drew).alloc (Nat.le_refl _) _, by simp⟩

theorem flat_take (ls : List (List UInt8)) (k : Nat) (h : k < ls.length) : (ls.take (k + 1)).flatten = (ls.take k).flatten ++ ls[k] := by
  rw [List.take_succ_eq_append_getElem h, List.flatten_append]; simp
theorem flat_le (ls : List (List UInt8)) (k : Nat) : (ls.take k).flatten.length ≤ ls.flatten.length := by
  conv => rhs; rw [← List.take_append_drop k ls, List.flatten_append, List.length_append]
  omega
set_option maxHeartbeats 3200000 in
theorem concat_any (v : Value) (ls : List (List UInt8)) (w : World) (hb : Bss w v ls) (hn : ls.length ≤ 1000000) (ht : 0 < ls.flatten.length) (ht2 : ls.flatten.length ≤ 70368744177664) :
    Calls Try.prog 33 #[v] w fun e w' => ∃ v', e = .returned v' ∧ w'.ownsRow w.heap.size 5 1 v' ls.flatten.length (vBs ls.flatten) ∧ Below w.heap.size w w' := by
  obtain ⟨a, cap, rfl, hcell⟩ := hb.read
  have HC := Lib.hid hcell
  have HN := Lib.hid hn
  have HT := Lib.hid ht
  have HT2 := Lib.hid ht2
  obtain ⟨T, hT⟩ : ∃ T, ls.flatten.length = T := ⟨_, rfl⟩
  have FL : Hid (∀ k, (ls.take k).flatten.length ≤ T) := Lib.hid (fun k => by rw [← hT]; exact flat_le ls k)
  have HTT := Lib.hid hT
  have GR := Lib.hid (growB T (by rw [← hT]; exact ht) (by rw [← hT]; exact ht2) w)
  have hT1 : 0 < T := by rw [← hT]; exact ht
  have hT2 : T ≤ 70368744177664 := by rw [← hT]; exact ht2
  clear hcell hn ht ht2 hb hT
  go_enter Try.func33, Try.ntmps33
  go_wp2_with fail
  go_loopw [3, 5, 11] (fun s _ i w' => ∃ k : Nat, k ≤ ls.length ∧ i = .int .i64 k ∧ s = .int .i64 ((ls.take k).flatten.length : Nat) ∧ w = w') (fun _ _ i _ => ls.length - (intOf i).toNat)
  case atStart => exact ⟨0, Nat.zero_le _, rfl, rfl, rfl⟩
  case round =>
    obtain ⟨k, hk, rfl, rfl, rfl⟩ := hrel
    by_cases hkl : k < ls.length
    · obtain ⟨b, off, x, rfl, hc, hbx⟩ := HC.out k hkl
      have hk1 : k < 1000000 := by have := HN.out; omega
      have e1 : decide ((k : Int) < (ls.length : Int)) = true := by rw [decide_eq_true_eq]; omega
      have e2 : decide (k < ls.length) = true := by rw [decide_eq_true_eq]; omega
      have F1 := FL.out (k + 1)
      rw [flat_take ls k hkl, List.length_append] at F1
      have FT : Hid ((ls.take (k + 1)).flatten.length = (ls.take k).flatten.length + ls[k].length) := Lib.hid (by rw [flat_take ls k hkl, List.length_append])
      obtain ⟨a', c', rfl⟩ := hbx.len
      obtain ⟨p, hp⟩ : ∃ p, (ls.take k).flatten.length = p := ⟨_, rfl⟩
      obtain ⟨q, hq⟩ : ∃ q, ls[k].length = q := ⟨_, rfl⟩
      rw [hp, hq] at F1 FT
      rw [hp]
      rw [hq] at hc
      have e3 : ¬ ((p : Int) + (q : Int) < 0) := by omega
      have e4 : decide ((p : Int) + (q : Int) < 0) = false := by rw [decide_eq_false_iff_not]; omega
      clear hp hq hbx
      go_wp2_with fail
      go_roundw
      case rel => exact ⟨k + 1, by omega, by go_num, by rw [FT.out]; go_num, by first | rfl | trivial⟩
      case measure => simp [intOf]; omega
    · obtain rfl : k = ls.length := by omega
      have e1 : decide ((ls.length : Int) < (ls.length : Int)) = false := by rw [decide_eq_false_iff_not]; omega
      rw [List.take_length, HTT.out]
      go_wp2_with fail
      refine GR.out.mono ?_
      rintro e w1 ⟨cp, rfl, hge, hown, hbel, hsz⟩
      have BEL := Lib.hid hbel
      have OWN := Lib.hid hown
      have HGE := Lib.hid hge
      clear hbel hown hsz hge
      go_wp2_with fail
      go_loopw [6, 8, 27] (fun o _ i w' => ∃ k : Nat, k ≤ ls.length ∧ i = .int .i64 k ∧ o = .slice (some ⟨w.heap.size, 0, none⟩) (ls.take k).flatten.length cp ∧ w'.ownsRow w.heap.size 5 1 (.slice (some ⟨w.heap.size, 0, none⟩) (ls.take k).flatten.length cp) (ls.take k).flatten.length (vBs (ls.take k).flatten) ∧ Below w.heap.size w w') (fun _ _ i _ => ls.length - (intOf i).toNat)
      case atStart => exact ⟨0, Nat.zero_le _, rfl, rfl, OWN.out, BEL.out⟩
      case round =>
        obtain ⟨k, hk, rfl, rfl, hown, hbel⟩ := hrel
        rename_i W
        by_cases hkl : k < ls.length
        · obtain ⟨b, off, x, rfl, hc0, hbx⟩ := HC.out k hkl
          have hc := cell_old hbel hc0
          have BX := Lib.hid (hbx.old hbel)
          have OW := Lib.hid hown
          have BE := Lib.hid hbel
          have hk1 : k < 1000000 := by have := HN.out; omega
          have e1 : decide ((k : Int) < (ls.length : Int)) = true := by rw [decide_eq_true_eq]; omega
          have e2 : decide (k < ls.length) = true := by rw [decide_eq_true_eq]; omega
          have FT : Hid ((ls.take (k + 1)).flatten = (ls.take k).flatten ++ ls[k]) := Lib.hid (flat_take ls k hkl)
          have F1 : Hid ((ls.take k).flatten.length + ls[k].length ≤ cp) := Lib.hid (by
            have := FL.out (k + 1); rw [FT.out, List.length_append] at this; have := HGE.out; omega)
          obtain ⟨q, hq⟩ : ∃ q, ls[k] = q := ⟨_, rfl⟩
          rw [hq] at FT F1 BX
          clear hown hbel hc0 hbx hq
          go_wp2_with (at_builtin; refine stop ?_)
          refine unstop (wpList_fit tyB rfl _ _ rfl w.heap.size w.heap.size _ cp _ rfl OW.out _ q.length (vBs q) rfl BX.out (vBs_one q) F1.out ?_)
          intro w2 hown2 hg2
          have HB2 := Lib.hid (run_app_below (w0 := w) OW.out hg2 BE.out (Nat.le_refl _))
          have HO2 := Lib.hid hown2
          clear hown2 hg2
          go_wp2_with fail
          go_roundw
          case rel => exact ⟨k + 1, by omega, by go_num, by rw [FT.out, List.length_append, List.length_flatten, List.map_take], by rw [FT.out, List.length_append, vBs_append]; exact HO2.out, HB2.out⟩
          case measure => simp [intOf]; omega
        · obtain rfl : k = ls.length := by omega
          have e1 : decide ((ls.length : Int) < (ls.length : Int)) = false := by rw [decide_eq_false_iff_not]; omega
          rw [List.take_length] at hown ⊢
          have OW := Lib.hid hown
          have BE := Lib.hid hbel
          clear hown hbel
          go_wp2_with fail
          go_ret
          exact ⟨_, rfl, OW.out, BE.out⟩
end Go.Proofs.Ytmdbnnnaiidheaa
