/- head's walk over chunks: its small parts. By an AI agent. -/
import Derived.Test.YtlgjjoglajgbeaaDoorOrdP
import Derived.Test.YtlgjjoglajgbeaaDoorCntM
import Derived.Test.YtlgjjoglajgbeaaDoorChVD
import Derived.Test.YtlgjjoglajgbeaaDoorQO
import Derived.Deep.DeepCutAuto
import Derived.Handy
namespace Go.Proofs.YtlgjjoglajgbeaaDoor
open Go.RowKit Go.BigFrame
set_option linter.unusedVariables false
set_option linter.unusedSimpArgs false

set_option maxHeartbeats 1600000 in
theorem many_any (nm : List UInt8) (w : World) : Calls Tryd.prog 30 #[.string (strOf nm)] w fun e w' => e = .returned (.bool (!onceL.contains nm)) ∧ w = w' := by
  rcases name_cases nm with ⟨hnm, e0, e1, e2, e3, e4, e5, e6, e7, e8, e9, e10, e11, e12, e13, e14⟩ | ⟨hnm, e0, e1, e2, e3, e4, e5, e6, e7, e8, e9, e10, e11, e12, e13, e14⟩ | ⟨hnm, e0, e1, e2, e3, e4, e5, e6, e7, e8, e9, e10, e11, e12, e13, e14⟩ | ⟨hnm, e0, e1, e2, e3, e4, e5, e6, e7, e8, e9, e10, e11, e12, e13, e14⟩ | ⟨hnm, e0, e1, e2, e3, e4, e5, e6, e7, e8, e9, e10, e11, e12, e13, e14⟩ | ⟨hnm, e0, e1, e2, e3, e4, e5, e6, e7, e8, e9, e10, e11, e12, e13, e14⟩ | ⟨hnm, e0, e1, e2, e3, e4, e5, e6, e7, e8, e9, e10, e11, e12, e13, e14⟩ | ⟨hnm, e0, e1, e2, e3, e4, e5, e6, e7, e8, e9, e10, e11, e12, e13, e14⟩ | ⟨hnm, e0, e1, e2, e3, e4, e5, e6, e7, e8, e9, e10, e11, e12, e13, e14⟩ | ⟨hnm, e0, e1, e2, e3, e4, e5, e6, e7, e8, e9, e10, e11, e12, e13, e14⟩ | ⟨hnm, e0, e1, e2, e3, e4, e5, e6, e7, e8, e9, e10, e11, e12, e13, e14⟩ | ⟨hnm, e0, e1, e2, e3, e4, e5, e6, e7, e8, e9, e10, e11, e12, e13, e14⟩ | ⟨hnm, e0, e1, e2, e3, e4, e5, e6, e7, e8, e9, e10, e11, e12, e13, e14⟩ | ⟨hnm, e0, e1, e2, e3, e4, e5, e6, e7, e8, e9, e10, e11, e12, e13, e14⟩ | ⟨hnm, e0, e1, e2, e3, e4, e5, e6, e7, e8, e9, e10, e11, e12, e13, e14⟩ | ⟨hnm, e0, e1, e2, e3, e4, e5, e6, e7, e8, e9, e10, e11, e12, e13, e14⟩
  all_goals
    have HNM := Lib.hid hnm
    clear hnm
  all_goals
    go_enter Tryd.func30, Tryd.ntmps30
    go_wp2
    go_ret
    refine ⟨rb ?_, rfl⟩
    first
      | (rw [HNM.out]; rfl)
      | (have h := HNM.out
         unfold namesL at h
         simp only [List.mem_cons, List.not_mem_nil, or_false, not_or] at h
         simp [onceL, h])
def SlS (w : World) (v : Value) (S : List (List UInt8)) : Prop := ∃ a cap, v = .slice a S.length cap ∧ ∀ i (h : i < S.length), ∃ b off, a = some ⟨b, off, none⟩ ∧ w.cell? ⟨b, off + i, none⟩ = some (.string (strOf S[i]))
theorem str_eq (a b : List UInt8) : ((strOf a).toList == (strOf b).toList) = decide (a = b) := by
  rw [strOf_toList, strOf_toList, beq_dec]
set_option maxHeartbeats 800000 in
theorem indexS_any (v : Value) (S : List (List UInt8)) (x : List UInt8) (w : World) (hb : SlS w v S) (hl : S.length ≤ 1048576) : Calls Tryd.prog 49 #[v, .string (strOf x)] w fun e w' => ∃ n : Int, e = .returned (.int .i64 n) ∧ (0 ≤ n ↔ x ∈ S) ∧ w = w' := by
  obtain ⟨a, cap, rfl, hcell⟩ := hb
  have HC := Lib.hid hcell
  clear hcell
  go_enter Tryd.func49, Tryd.ntmps49
  go_wp2
  go_loop [5, 8] (fun _ i => ∃ k : Nat, k ≤ S.length ∧ i = .int .i64 k ∧ x ∉ S.take k) (fun _ i => S.length - (intOf i).toNat)
  case atStart => exact ⟨0, Nat.zero_le _, rfl, by simp⟩
  case round =>
    obtain ⟨k, hk, rfl, hno⟩ := hrel
    have HNO := Lib.hid hno
    clear hno
    by_cases hkl : k < S.length
    · obtain ⟨b, off, rfl, hc⟩ := HC.out k hkl
      have hmem : Hid (x ∈ S.take (k + 1) ↔ x ∈ S.take k ∨ x = S[k]) := Lib.hid (by rw [List.take_succ_eq_append_getElem hkl, List.mem_append, List.mem_singleton])
      have hin : Hid (S[k] ∈ S) := Lib.hid (List.getElem_mem _)
      have he := str_eq x S[k]
      generalize S[k] = y at *
      by_cases hxy : x = y
      · have e1 : ((strOf x).toList == (strOf y).toList) = true := by rw [he]; exact decide_eq_true hxy
        have HXY := Lib.hid hxy
        clear hxy he
        go_wp2
        go_ret
        exact ⟨_, rfl, ⟨fun _ => HXY.out ▸ hin.out, fun _ => by omega⟩, rfl⟩
      · have e1 : ((strOf x).toList == (strOf y).toList) = false := by rw [he]; exact decide_eq_false hxy
        have HXY := Lib.hid hxy
        clear hxy he
        go_wp2
        go_round
        case rel => exact ⟨k + 1, by omega, by go_num, fun h => (hmem.out.1 h).elim HNO.out HXY.out⟩
        case measure => simp [intOf]; omega
    · obtain rfl : k = S.length := by omega
      have hno : Hid (x ∉ S) := Lib.hid (by have := HNO.out; rwa [List.take_length] at this)
      go_wp2
      go_ret
      exact ⟨-1, rfl, ⟨fun h => absurd h (by decide), fun h => absurd h hno.out⟩, rfl⟩
theorem containsS_any (v : Value) (S : List (List UInt8)) (x : List UInt8) (w : World) (hb : SlS w v S) (hl : S.length ≤ 1048576) : Calls Tryd.prog 44 #[v, .string (strOf x)] w fun e w' => e = .returned (.bool (S.contains x)) ∧ w = w' := by
  have HB := Lib.hid hb
  have HL := Lib.hid hl
  clear hb hl
  go_enter Tryd.func44, Tryd.ntmps44
  go_wp2_with fail
  refine (indexS_any v S x _ HB.out HL.out).mono ?_; rintro e w' ⟨n, rfl, hn, rfl⟩
  have HN := Lib.hid hn
  clear hn
  go_wp2
  go_ret
  refine ⟨rb ?_, rfl⟩
  have := HN.out
  rw [Bool.eq_iff_iff, decide_eq_true_eq, this]
  simp
theorem slS_known (w : World) : SlS (w.alloc (.cells #[.string ⟨#[73, 72, 68, 82]⟩, .string ⟨#[80, 76, 84, 69]⟩, .string ⟨#[73, 68, 65, 84]⟩, .string ⟨#[73, 69, 78, 68]⟩] 9)) (.slice (some ⟨w.heap.size, 0, none⟩) 4 4) knownL := by
  refine ⟨_, _, rfl, fun i hi => ⟨_, _, rfl, ?_⟩⟩
  have hi' : i < 4 := hi
  rw [Nat.zero_add, cell_of_row _ w.heap.size i _ _ (0, 0) (heap_alloc_new _ _)]
  rcases (by omega : i = 0 ∨ i = 1 ∨ i = 2 ∨ i = 3) with rfl | rfl | rfl | rfl <;> rfl
theorem known_any (nm : List UInt8) (w : World) : Calls Tryd.prog 28 #[.string (strOf nm)] w fun e w' => e = .returned (.bool (knownL.contains nm)) ∧ Below w.heap.size w w' := by
  go_enter Tryd.func28, Tryd.ntmps28
  go_wp2_with fail
  refine (containsS_any _ knownL nm _ (slS_known w) (by decide)).mono ?_; rintro e w' ⟨rfl, rfl⟩
  go_wp2_with fail
  go_ret
  exact ⟨rb (by rw [Bool.eq_iff_iff]; simp), (Below.refl _ _).alloc (Nat.le_refl _) _⟩
/-- the walk's box -/
def Wk (W : World) (B M : Nat) (x y D C L : Int) (pal : Nat) (en : Bool) : Prop :=
  W.heap[B]? = some (.cells #[.int .i64 x, .int .i64 y, .int .i64 D, .int .i64 C, .int .i64 L, .map (some M), .int .i64 (pal : Nat), .bool en] 47 (0, 0))
theorem Wk.cells {W : World} {B M : Nat} {x y D C L : Int} {pal : Nat} {en : Bool} (h : Wk W B M x y D C L pal en) :
    W.cell? ⟨B, 2, none⟩ = some (.int .i64 D) ∧ W.cell? ⟨B, 3, none⟩ = some (.int .i64 C) ∧ W.cell? ⟨B, 5, none⟩ = some (.map (some M)) ∧ W.cell? ⟨B, 6, none⟩ = some (.int .i64 (pal : Nat)) ∧ W.cell? ⟨B, 7, none⟩ = some (.bool en) :=
  ⟨by rw [cell_of_row _ _ 2 _ _ _ h]; rfl, by rw [cell_of_row _ _ 3 _ _ _ h]; rfl, by rw [cell_of_row _ _ 5 _ _ _ h]; rfl, by rw [cell_of_row _ _ 6 _ _ _ h]; rfl, by rw [cell_of_row _ _ 7 _ _ _ h]; rfl⟩
theorem Wk.old {W W' : World} {B M : Nat} {x y D C L : Int} {pal : Nat} {en : Bool} (h : Wk W B M x y D C L pal en) (hb : Below W.heap.size W W') : Wk W' B M x y D C L pal en := by
  unfold Wk; rw [hb.block B (Array.getElem?_eq_some_iff.1 h).1]; exact h
set_option maxRecDepth 20000 in
set_option maxHeartbeats 6400000 in
theorem place_any (nm : List UInt8) (w : World) (B M : Nat) (x y D C L : Int) (pal : Nat) (en : Bool) (f : List UInt8 → Nat) (n : Nat) (hw : Wk w B M x y D C L pal en) (hm : CntM w M f n) (hf : ∀ z, f z ≤ 100000) :
    Calls Tryd.prog 29 #[.pointer (some ⟨B, 0, none⟩), .string (strOf nm)] w fun e w' => e = .returned (.bool (placeB f en nm)) ∧ Below w.heap.size w w' := by
  obtain ⟨-, -, c5, -, c7⟩ := hw.cells
  have LK := Lib.hid (fun (W : World) (hb : Below w.heap.size w W) (z : List UInt8) (hz : z.length ≤ 140737488351232) => (hm.old hb).look z hz)
  have C5 := Lib.hid c5
  have C7 := Lib.hid c7
  obtain ⟨a1, h1⟩ : ∃ a, f nIDAT = a := ⟨_, rfl⟩
  obtain ⟨a2, h2⟩ : ∃ a, f nPLTE = a := ⟨_, rfl⟩
  have bd1 : a1 ≤ 100000 := by rw [← h1]; exact hf _
  obtain ⟨g1, hg1⟩ : ∃ g, decide ((0 : Int) < (a1 : Int)) = g := ⟨_, rfl⟩
  obtain ⟨g2, hg2⟩ : ∃ g, decide ((0 : Int) < (a2 : Int)) = g := ⟨_, rfl⟩
  have g1' : decide (0 < a1) = g1 := by rw [← hg1, decide_eq_decide]; omega
  have g2' : decide (0 < a2) = g2 := by rw [← hg2, decide_eq_decide]; omega
  have G1 : Hid (decide (f nIDAT = 0) = !g1) := Lib.hid (by rw [h1, ← g1', ← decide_not, decide_eq_decide]; omega)
  have G2 : Hid (decide (f nPLTE = 0) = !g2 ∧ decide (0 < f nPLTE) = g2) := Lib.hid (by rw [h2]; exact ⟨by rw [← g2', ← decide_not, decide_eq_decide]; omega, g2'⟩)
  have HF := Lib.hid hf
  have CC : Hid (w.drew.cell? ⟨B, 5, none⟩ = some (.map (some M)) ∧ (Instr.lookup 45 (.map (some M)) (.string ⟨#[73, 68, 65, 84]⟩) false).run Tryd.prog w.drew = .ok (.int .i64 (a1 : Nat)) w.drew ∧ (Instr.lookup 45 (.map (some M)) (.string ⟨#[80, 76, 84, 69]⟩) false).run Tryd.prog w.drew = .ok (.int .i64 (a2 : Nat)) w.drew ∧ Below w.heap.size w w.drew) :=
    Lib.hid ⟨cell_old (Below.refl _ _).drew c5, by rw [← h1]; exact LK.out _ (Below.refl _ _).drew nIDAT (by decide), by rw [← h2]; exact LK.out _ (Below.refl _ _).drew nPLTE (by decide), (Below.refl _ _).drew⟩
  clear c5 c7 hw hm hf h1 h2
  go_enter Tryd.func29, Tryd.ntmps29
  go_upto_region 1 with (fail)
  refine wp_region_q (fun Y => Y.cell? ⟨B, 5, none⟩ = some (.map (some M)) ∧ (Instr.lookup 45 (.map (some M)) (.string ⟨#[73, 68, 65, 84]⟩) false).run Tryd.prog Y = .ok (.int .i64 (a1 : Nat)) Y ∧ (Instr.lookup 45 (.map (some M)) (.string ⟨#[80, 76, 84, 69]⟩) false).run Tryd.prog Y = .ok (.int .i64 (a2 : Nat)) Y ∧ Below w.heap.size w Y) (by kernel_rfl) (by kernel_rfl) CC.out ?_
  clear CC
  repeat
    first
    | go_big_quiet_skip
    | (go_big_quiet_want
       first
       | (go_big_quiet_op; go_big_quiet_on)
       | (apply Exists.intro
          refine ⟨fun X hX => ?_, ?_⟩
          · obtain ⟨q1, q2, q3, eZ⟩ := hX
            clear eZ
            unfold Oper.quietAt
            go_simp
            first
            | exact ⟨rfl, rfl⟩
            | exact rfl
          go_big_quiet_on
          try simp only [Act.put, List.setIfInBounds_toArray, List.set_cons_zero, List.set_cons_succ]))
  refine wpQuiet_nil ?_
  rintro Y ⟨-, -, -, hbY⟩
  have BY := Lib.hid hbY
  have c7 := cell_old hbY C7.out
  clear hbY
  have C5x := C5
  clear hg1 hg2 g1' g2' C5 C7 bd1
  by_cases hp : nm = nPLTE
  · subst hp
    have e0 : ((strOf nPLTE).toList == [73, 72, 68, 82]) = false := by kernel_rfl
    have e1 : ((strOf nPLTE).toList == [80, 76, 84, 69]) = true := by kernel_rfl
    have c5 := cell_old BY.out C5x.out
    obtain ⟨a3, h3⟩ : ∃ a, f ntRNS = a := ⟨_, rfl⟩
    obtain ⟨a4, h4⟩ : ∃ a, f nbKGD = a := ⟨_, rfl⟩
    obtain ⟨a5, h5⟩ : ∃ a, f nhIST = a := ⟨_, rfl⟩
    have b3 : a3 ≤ 100000 := by rw [← h3]; exact HF.out _
    have b4 : a4 ≤ 100000 := by rw [← h4]; exact HF.out _
    have b5 : a5 ≤ 100000 := by rw [← h5]; exact HF.out _
    obtain ⟨t, ht⟩ : ∃ t : Nat, a3 + a4 = t := ⟨_, rfl⟩
    obtain ⟨u, hu⟩ : ∃ u : Nat, t + a5 = u := ⟨_, rfl⟩
    have s1 : IntKind.i64.wrap ((a3 : Int) + (a4 : Int)) = (t : Int) := by rw [IntWalk.i64_in _ (by omega)]; omega
    have s2 : IntKind.i64.wrap ((t : Int) + (a5 : Int)) = (u : Int) := by rw [IntWalk.i64_in _ (by omega)]; omega
    obtain ⟨g3, hg3⟩ : ∃ g, ((u : Int) == 0) = g := ⟨_, rfl⟩
    have G3 : Hid (decide (f ntRNS + f nbKGD + f nhIST = 0) = g3) := Lib.hid (by rw [h3, h4, h5, ← hg3, Bool.eq_iff_iff, decide_eq_true_eq, beq_iff_eq]; omega)
    have CC : Hid (Y.drew.cell? ⟨B, 5, none⟩ = some (.map (some M)) ∧ (Instr.lookup 45 (.map (some M)) (.string ⟨#[116, 82, 78, 83]⟩) false).run Tryd.prog Y.drew = .ok (.int .i64 (a3 : Nat)) Y.drew ∧ (Instr.lookup 45 (.map (some M)) (.string ⟨#[98, 75, 71, 68]⟩) false).run Tryd.prog Y.drew = .ok (.int .i64 (a4 : Nat)) Y.drew ∧ (Instr.lookup 45 (.map (some M)) (.string ⟨#[104, 73, 83, 84]⟩) false).run Tryd.prog Y.drew = .ok (.int .i64 (a5 : Nat)) Y.drew ∧ Below Y.heap.size Y Y.drew) :=
      Lib.hid ⟨cell_old (Below.refl _ _).drew c5, by rw [← h3]; exact LK.out _ BY.out.drew ntRNS (by decide), by rw [← h4]; exact LK.out _ BY.out.drew nbKGD (by decide), by rw [← h5]; exact LK.out _ BY.out.drew nhIST (by decide), (Below.refl _ _).drew⟩
    clear c5 c7 h3 h4 h5 b3 b4 b5 ht hu LK
    go_upto_region 6 with (fail)
    refine wp_region_q (fun Z => Z.cell? ⟨B, 5, none⟩ = some (.map (some M)) ∧ (Instr.lookup 45 (.map (some M)) (.string ⟨#[116, 82, 78, 83]⟩) false).run Tryd.prog Z = .ok (.int .i64 (a3 : Nat)) Z ∧ (Instr.lookup 45 (.map (some M)) (.string ⟨#[98, 75, 71, 68]⟩) false).run Tryd.prog Z = .ok (.int .i64 (a4 : Nat)) Z ∧ (Instr.lookup 45 (.map (some M)) (.string ⟨#[104, 73, 83, 84]⟩) false).run Tryd.prog Z = .ok (.int .i64 (a5 : Nat)) Z ∧ Below Y.heap.size Y Z) (by kernel_rfl) (by kernel_rfl) CC.out ?_
    clear CC
    cases g1
    all_goals
      repeat
        first
        | go_big_quiet_skip
        | (go_big_quiet_want
           first
           | (go_big_quiet_op; go_big_quiet_on)
           | (apply Exists.intro
              refine ⟨fun X hX => ?_, ?_⟩
              · obtain ⟨q1, q2, q3, q4, eZ⟩ := hX
                clear eZ
                unfold Oper.quietAt
                go_simp
                first
                | exact ⟨rfl, rfl⟩
                | exact rfl
              go_big_quiet_on
              try simp only [Act.put, List.setIfInBounds_toArray, List.set_cons_zero, List.set_cons_succ]))
      refine wpQuiet_nil ?_
      rintro Z ⟨-, -, -, -, hbZ⟩
      have BZ := Lib.hid hbZ
      clear hbZ
      go_wp2_with fail
      go_ret
      refine ⟨rb ?_, BY.out.trans (BZ.out.mono BY.out.size)⟩
      show _ = (decide (f nIDAT = 0) && decide (f ntRNS + f nbKGD + f nhIST = 0))
      rw [G1.out, G3.out]
      first | rfl | simp
  have HP := Lib.hid hp
  clear hp LK C5x
  rcases name_cases nm with ⟨hnm, e0, e1, e2, e3, e4, e5, e6, e7, e8, e9, e10, e11, e12, e13, e14⟩ | ⟨hnm, e0, e1, e2, e3, e4, e5, e6, e7, e8, e9, e10, e11, e12, e13, e14⟩ | ⟨hnm, e0, e1, e2, e3, e4, e5, e6, e7, e8, e9, e10, e11, e12, e13, e14⟩ | ⟨hnm, e0, e1, e2, e3, e4, e5, e6, e7, e8, e9, e10, e11, e12, e13, e14⟩ | ⟨hnm, e0, e1, e2, e3, e4, e5, e6, e7, e8, e9, e10, e11, e12, e13, e14⟩ | ⟨hnm, e0, e1, e2, e3, e4, e5, e6, e7, e8, e9, e10, e11, e12, e13, e14⟩ | ⟨hnm, e0, e1, e2, e3, e4, e5, e6, e7, e8, e9, e10, e11, e12, e13, e14⟩ | ⟨hnm, e0, e1, e2, e3, e4, e5, e6, e7, e8, e9, e10, e11, e12, e13, e14⟩ | ⟨hnm, e0, e1, e2, e3, e4, e5, e6, e7, e8, e9, e10, e11, e12, e13, e14⟩ | ⟨hnm, e0, e1, e2, e3, e4, e5, e6, e7, e8, e9, e10, e11, e12, e13, e14⟩ | ⟨hnm, e0, e1, e2, e3, e4, e5, e6, e7, e8, e9, e10, e11, e12, e13, e14⟩ | ⟨hnm, e0, e1, e2, e3, e4, e5, e6, e7, e8, e9, e10, e11, e12, e13, e14⟩ | ⟨hnm, e0, e1, e2, e3, e4, e5, e6, e7, e8, e9, e10, e11, e12, e13, e14⟩ | ⟨hnm, e0, e1, e2, e3, e4, e5, e6, e7, e8, e9, e10, e11, e12, e13, e14⟩ | ⟨hnm, e0, e1, e2, e3, e4, e5, e6, e7, e8, e9, e10, e11, e12, e13, e14⟩ | ⟨hnm, e0, e1, e2, e3, e4, e5, e6, e7, e8, e9, e10, e11, e12, e13, e14⟩
  all_goals
    have HNM := Lib.hid hnm
    clear hnm
  all_goals
    cases g1 <;> cases g2
  all_goals
    first
      | (exact absurd HNM.out HP.out)
      | (go_wp2_with fail
         go_ret
         refine ⟨rb ?_, BY.out⟩
         first
           | (rw [HNM.out]; rfl)
           | (rw [HNM.out]; exact G1.out.symm)
           | (rw [HNM.out]
              show _ = (decide (f nIDAT = 0) && decide (0 < f nPLTE))
              rw [G1.out, G2.out.2]; rfl)
           | (rw [HNM.out]
              show _ = (decide (f nIDAT = 0) && decide (f nPLTE = 0))
              rw [G1.out, G2.out.1]; rfl)
           | (have h := HNM.out
              unfold namesL at h
              simp only [List.mem_cons, List.not_mem_nil, or_false, not_or] at h
              simp [placeB, h]))
end Go.Proofs.YtlgjjoglajgbeaaDoor
