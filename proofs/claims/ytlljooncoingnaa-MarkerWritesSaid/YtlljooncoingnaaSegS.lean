/- burnishref20.Same on equal items. By an AI agent. -/
import Derived.Test.YtlljooncoingnaaSegG
namespace Go.Proofs.Ytlljooncoingnaa
open Go.RowKit Go.BigFrame
set_option linter.unusedVariables false
set_option linter.unusedSimpArgs false

theorem conv_str {v : Value} {l : List UInt8} {w : World} (hb : Bs w v l) : (convert 22 9 v).run Try.prog w = .ok (.string (strOf l)) w :=
  run_str (P := Try.prog) w 22 5 9 Try.underlying22 Try.underlying5 Try.underlying9 hb
theorem Bss.old2 {w w' : World} {v : Value} {ls : List (List UInt8)} (h : Bss w v ls) (hb : Below w.heap.size w w') : Bss w' v ls := h.old hb
abbrev SameI (w : World) (b1 p1 b2 p2 : Nat) (m : Int) (d : List UInt8) (y1 y2 z1 z2 : Value) (W : World) : Prop :=
  W.cell? ⟨b1, p1, none⟩ = some (.int .i64 m) ∧ W.cell? ⟨b1, p1 + 1, none⟩ = some y1 ∧ W.cell? ⟨b1, p1 + 2, none⟩ = some z1 ∧ W.cell? ⟨b2, p2, none⟩ = some (.int .i64 m) ∧ W.cell? ⟨b2, p2 + 1, none⟩ = some y2 ∧ W.cell? ⟨b2, p2 + 2, none⟩ = some z2 ∧
  (convert 22 9 y1).run Try.prog W = .ok (.string (strOf d)) W ∧ (convert 22 9 y2).run Try.prog W = .ok (.string (strOf d)) W ∧ Below w.heap.size w W
abbrev SameV (w : World) (b1 p1 b2 p2 c1 q1 c2 q2 : Nat) (d : List UInt8) (z1 z2 y1 y2 : Value) (W : World) : Prop :=
  W.cell? ⟨b1, p1 + 2, none⟩ = some z1 ∧ W.cell? ⟨b2, p2 + 2, none⟩ = some z2 ∧ W.cell? ⟨c1, q1, none⟩ = some y1 ∧ W.cell? ⟨c2, q2, none⟩ = some y2 ∧
  (convert 22 9 y1).run Try.prog W = .ok (.string (strOf d)) W ∧ (convert 22 9 y2).run Try.prog W = .ok (.string (strOf d)) W ∧ Below w.heap.size w W
set_option maxRecDepth 20000 in
set_option maxHeartbeats 8000000 in
theorem msame_any (v1 v2 : Value) (its : List Itm) (w : World) (h1 : Its w v1 its) (h2 : Its w v2 its) (hl : its.length ≤ 140737488351232) (hi : ∀ it ∈ its, it.2.2.length ≤ 140737488351232) :
    Calls Try.prog 20 #[v1, v2] w fun e w' => e = .returned (.bool true) ∧ Below w.heap.size w w' := by
  obtain ⟨a1, c1, rfl, hc1, x1⟩ := its_at h1
  obtain ⟨a2, c2, rfl, hc2, x2⟩ := its_at h2
  have X1 := Lib.hid x1
  have X2 := Lib.hid x2
  have HI := Lib.hid hi
  clear x1 x2 h1 h2 hi
  obtain ⟨n, hn⟩ : ∃ n, its.length = n := ⟨_, rfl⟩
  have HN := Lib.hid hn
  rw [hn] at hl hc1 hc2 ⊢
  clear hn
  go_enter Try.func20, Try.ntmps20
  go_wp2_with fail
  go_loopw [5] (fun i W => ∃ k : Nat, k ≤ n ∧ i = .int .i64 k ∧ Below w.heap.size w W) (fun i _ => n - (intOf i).toNat)
  case atStart => exact ⟨0, Nat.zero_le _, rfl, Below.refl _ _⟩
  case round =>
    obtain ⟨k, hk, rfl, hbel⟩ := hrel
    have BE := Lib.hid hbel
    by_cases hkl : k < n
    · have k1 : k < its.length := by have := HN.out; omega
      obtain ⟨b1, o1, y1, z1, rfl, p1, p2, p3, p4, p5⟩ := X1.out k k1
      obtain ⟨b2, o2, y2, z2, rfl, r1, r2, r3, r4, r5⟩ := X2.out k k1
      have IL := Lib.hid (HI.out _ (List.getElem_mem k1))
      obtain ⟨⟨m, d, ivs⟩, hc⟩ : ∃ c, its[k] = c := ⟨_, rfl⟩
      rw [hc] at p1 p2 p3 r1 r2 r3 IL
      simp only at p1 p2 p3 r1 r2 r3 IL
      obtain ⟨za1, zc1, rfl, q1⟩ := p2.read
      obtain ⟨za2, zc2, rfl, q2⟩ := r2.read
      obtain ⟨nv, hnv⟩ : ∃ nv, ivs.length = nv := ⟨_, rfl⟩
      have HNV := Lib.hid hnv
      rw [hnv] at p5 r5 IL
      have Q1 := Lib.hid q1
      have Q2 := Lib.hid q2
      have CD : SameI w b1 (o1 + k * 3) b2 (o2 + k * 3) m d y1 y2 (.slice za1 nv zc1) (.slice za2 nv zc2) wr.drew := by
        have hbd : Below w.heap.size w wr.drew := hbel.drew
        exact ⟨cell_old hbd p3, cell_old hbd p4, cell_old hbd p5, cell_old hbd r3, cell_old hbd r4, cell_old hbd r5, conv_str (p1.old hbd), conv_str (r1.old hbd), hbd⟩
      have CELL : Hid (∀ W, Below w.heap.size w W → W.cell? ⟨b1, o1 + k * 3 + 2, none⟩ = some (.slice za1 nv zc1) ∧ W.cell? ⟨b2, o2 + k * 3 + 2, none⟩ = some (.slice za2 nv zc2)) := Lib.hid (fun W hW => ⟨cell_old hW p5, cell_old hW r5⟩)
      have f1 : ((k : Int) < (n : Int)) := by omega
      have f2 : decide ((k : Int) < (n : Int)) = true := by rw [decide_eq_true_eq]; omega
      have f3 : (k : Int) + 1 ≤ (n : Int) := by omega
      have s1 : ((strOf d).toList == (strOf d).toList) = true := by simp
      clear p1 p2 p3 p4 p5 r1 r2 r3 r4 r5 hc hnv q1 q2 hbel
      go_wp2_with fail
      refine wp_region_q (SameI w b1 (o1 + k * 3) b2 (o2 + k * 3) m d y1 y2 (.slice za1 nv zc1) (.slice za2 nv zc2)) (by kernel_rfl) (by kernel_rfl) CD ?_
      clear CD
      repeat
        first
        | go_big_quiet_skip
        | (go_big_quiet_want
           first
           | (go_big_quiet_op; go_big_quiet_on)
           | (apply Exists.intro
              refine ⟨fun X hX => ?_, ?_⟩
              · obtain ⟨e1, e2, e3, e4, e5, e6, e7, e8, eZ⟩ := hX
                clear eZ
                unfold Oper.quietAt
                go_simp
                first
                | exact ⟨rfl, rfl⟩
                | exact rfl
              go_big_quiet_on
              try simp only [Act.put, List.setIfInBounds_toArray, List.set_cons_zero, List.set_cons_succ]))
      refine wpQuiet_nil ?_
      rintro X ⟨-, -, -, -, -, -, -, -, hbX⟩
      have BX := Lib.hid hbX
      clear hbX
      go_wp2_with fail
      go_loopw [6] (fun i W => ∃ j : Nat, j ≤ nv ∧ i = .int .i64 j ∧ Below w.heap.size w W) (fun i _ => nv - (intOf i).toNat)
      case atStart => exact ⟨0, Nat.zero_le _, rfl, BX.out⟩
      case round =>
        obtain ⟨j, hj, rfl, hbel⟩ := hrel
        have BJ := Lib.hid hbel
        obtain ⟨u1, u2⟩ := CELL.out _ hbel
        by_cases hjl : j < nv
        · have j1 : j < ivs.length := by have := HNV.out; omega
          have hj1 : j < 140737488351232 := by have := IL.out; omega
          obtain ⟨g1, h1, w1, rfl, q1, q2⟩ := Q1.out j j1
          obtain ⟨g2, h2, w2, rfl, q3, q4⟩ := Q2.out j j1
          obtain ⟨pl, hpl⟩ : ∃ pl, ivs[j]'j1 = pl := ⟨_, rfl⟩
          rw [hpl] at q2 q4
          have CD : SameV w b1 (o1 + k * 3) b2 (o2 + k * 3) g1 (h1 + j) g2 (h2 + j) pl (.slice (some ⟨g1, h1, none⟩) nv zc1) (.slice (some ⟨g2, h2, none⟩) nv zc2) w1 w2 wr.drew := by
            have hbd : Below w.heap.size w wr.drew := hbel.drew
            exact ⟨(CELL.out _ hbd).1, (CELL.out _ hbd).2, cell_old hbd q1, cell_old hbd q3, conv_str (q2.old hbd), conv_str (q4.old hbd), hbd⟩
          have t2 : decide ((j : Int) < (nv : Int)) = true := by rw [decide_eq_true_eq]; omega
          have t3 : (j : Int) < (nv : Int) := by omega
          have s2 : ((strOf pl).toList == (strOf pl).toList) = true := by simp
          clear q1 q2 q3 q4 hpl hbel
          go_wp2_with fail
          refine wp_region_q (SameV w b1 (o1 + k * 3) b2 (o2 + k * 3) g1 (h1 + j) g2 (h2 + j) pl (.slice (some ⟨g1, h1, none⟩) nv zc1) (.slice (some ⟨g2, h2, none⟩) nv zc2) w1 w2) (by kernel_rfl) (by kernel_rfl) CD ?_
          clear CD
          repeat
            first
            | go_big_quiet_skip
            | (go_big_quiet_want
               first
               | (go_big_quiet_op; go_big_quiet_on)
               | (apply Exists.intro
                  refine ⟨fun X hX => ?_, ?_⟩
                  · obtain ⟨e1, e2, e3, e4, e5, e6, eZ⟩ := hX
                    clear eZ
                    unfold Oper.quietAt
                    go_simp
                    first
                    | exact ⟨rfl, rfl⟩
                    | exact rfl
                  go_big_quiet_on
                  try simp only [Act.put, List.setIfInBounds_toArray, List.set_cons_zero, List.set_cons_succ]))
          refine wpQuiet_nil ?_
          rintro X2 ⟨-, -, -, -, -, -, hbX⟩
          have BX2 := Lib.hid hbX
          clear hbX
          go_wp2_with fail
          go_roundw
          case rel => exact ⟨j + 1, by omega, by go_num, BX2.out⟩
          case measure => simp [intOf]; omega
        · obtain rfl : j = nv := by omega
          have t2 : decide ((j : Int) < (j : Int)) = false := by rw [decide_eq_false_iff_not]; omega
          clear hbel
          go_wp2_with fail
          go_roundw
          case rel => exact ⟨k + 1, by omega, by go_num, BJ.out⟩
          case measure => simp [intOf]; omega
    · obtain rfl : k = n := by omega
      have f2 : decide ((k : Int) < (k : Int)) = false := by rw [decide_eq_false_iff_not]; omega
      go_wp2_with fail
      go_ret
      exact ⟨rfl, BE.out⟩
end Go.Proofs.Ytlljooncoingnaa
