/- The walk of parse.Count. By an AI agent. -/
import Derived.Test.YtheomjoadgfkeaaCntS
import Derived.RegionTactic
import Derived.ChangeAlike
namespace Go.Proofs.Ytheomjoadgfkeaa
open Go.RowKit
set_option linter.unusedVariables false
set_option linter.unusedSimpArgs false

/-- a new row of noughts -/
theorem mk_row (n : Nat) (h : n ≤ 1000) : ∃ O : Obj, (∀ w, (Instr.makeSlice 23 (.int .i64 (n : Int)) (.int .i64 (n : Int))).run Try.prog w = .ok (.slice (some ⟨w.heap.size, 0, none⟩) n n) (w.alloc O)) ∧ ∀ w : World, (w.alloc O).rowIs w.heap.size 3 n (fun _ => .int .i64 0) :=
  ⟨.cells (madeCells #[.int .i64 0] n) 3, fun w => run_make_row' 23 3 (.int .i64 0) 8 Try.underlying23 (by kernel_rfl) rfl .i64 .i64 n (by omega) (by omega) w, fun w => World.rowIs_made w (.int .i64 0) n 3⟩
theorem cV_start (s : Int × Int → Option Nat) (ts : List (Int × Int)) (W : World) (g n : Nat) {t : TypeId} (h : W.rowIs g t n (fun _ => .int .i64 0)) (e : Nat) (he : n ≤ e) : W.rowIs g t n (cV s e ts 0) :=
  h.congr fun j hj => by unfold cV cF cntOf; rw [if_neg (by omega)]; simp
theorem cV_start1 (s : Int × Int → Option Nat) (ts : List (Int × Int)) (W : World) (g n : Nat) {t : TypeId} (h : W.rowIs g t n (fun _ => .int .i64 0)) (e : Nat) : (W.setCell ⟨g, e, none⟩ (.int .i64 1)).rowIs g t n (cV s e ts 0) :=
  (h.set e (.int .i64 1)).congr fun j hj => by unfold cV cF cntOf; by_cases hje : j = e <;> simp [hje]

theorem distSym_ex (n : Int) (w : World) : Calls Try.prog 32 #[.int .i64 n] w fun e w' => (∃ x o, e = .returned (.tuple #[.int .i64 x, .bool o])) ∧ w = w' := by
  by_cases h : n < 1 ∨ 32768 < n
  · exact (distSym_no n w h).mono fun e w' ⟨h1, h2⟩ => ⟨⟨_, _, h1⟩, h2⟩
  · obtain ⟨m, rfl⟩ : ∃ m : Nat, n = (m : Int) := ⟨n.toNat, by omega⟩
    exact (distSym_yes m w (by omega)).mono fun e w' ⟨h1, h2⟩ => ⟨⟨_, _, h1⟩, h2⟩

set_option maxRecDepth 8000 in
set_option maxHeartbeats 6400000 in
theorem count_any (v : Value) (ts : List (Int × Int)) (w : World) (hb : Tk w v ts) (hl : ts.length ≤ 3000) :
    Calls Try.prog 8 #[v] w fun e w' => ∃ g1 g2, e = .returned (.tuple #[.slice (some ⟨g1, 0, none⟩) 286 286, .slice (some ⟨g2, 0, none⟩) 30 30]) ∧
      w'.rowIs g1 3 286 (cV symL 256 ts ts.length) ∧ w'.rowIs g2 3 30 (cV symD 30 ts ts.length) ∧ Below w.heap.size w w' := by
  obtain ⟨a, cap, rfl, hcell⟩ := hb
  have HC := Lib.hid hcell
  clear hcell
  obtain ⟨O1, m1, r1⟩ := mk_row 286 (by decide)
  obtain ⟨O2, m2, r2⟩ := mk_row 30 (by decide)
  have M1 : ∀ w, (Instr.makeSlice 23 (.int .i64 286) (.int .i64 286)).run Try.prog w = .ok (.slice (some ⟨w.heap.size, 0, none⟩) 286 286) (w.alloc O1) := m1
  have M2 : ∀ w, (Instr.makeSlice 23 (.int .i64 30) (.int .i64 30)).run Try.prog w = .ok (.slice (some ⟨w.heap.size, 0, none⟩) 30 30) (w.alloc O2) := m2
  have R1 := Lib.hid r1
  have R2 := Lib.hid r2
  clear m1 m2 r1 r2
  go_enter Try.func8, Try.ntmps8
  go_wp2_with fail
  go_region
  all_goals first
  | (
    obtain ⟨W1, hW1⟩ : ∃ W, ((w.alloc O2).alloc O1).drew = W := ⟨_, rfl⟩
    rw [hW1]
    have ra : W1.rowIs (w.heap.size + 1) 3 286 (fun _ => .int .i64 0) := by rw [← hW1]; have := R1.out (w.alloc O2); rw [World.size_alloc] at this; exact this.drew
    have rb : W1.rowIs w.heap.size 3 30 (fun _ => .int .i64 0) := by rw [← hW1]; exact ((R2.out w).alloc _).drew
    have bb : Below w.heap.size w W1 := by rw [← hW1]; exact (((Below.refl _ _).alloc (Nat.le_refl _) _).alloc (by simp) _).drew
    obtain ⟨gA, hgA⟩ : ∃ g, w.heap.size + 1 = g := ⟨_, rfl⟩
    obtain ⟨gB, hgB⟩ : ∃ g, w.heap.size = g := ⟨_, rfl⟩
    rw [hgA] at ra
    rw [hgB] at rb
    rw [hgA, hgB]
    have RA := Lib.hid ra
    have RB := Lib.hid rb
    have BB := Lib.hid bb
    have LA : Hid (w.heap.size ≤ gA) := Lib.hid (by omega)
    have LB : Hid (w.heap.size ≤ gB) := Lib.hid (by omega)
    have NE : Hid (gA ≠ gB) := Lib.hid (by omega)
    clear hW1 ra rb bb hgA hgB M1 M2 R1 R2)
  | (
    obtain ⟨W1, hW1⟩ : ∃ W, ((w.alloc O1).alloc O2).drew = W := ⟨_, rfl⟩
    rw [hW1]
    have rb : W1.rowIs (w.heap.size + 1) 3 30 (fun _ => .int .i64 0) := by rw [← hW1]; have := R2.out (w.alloc O1); rw [World.size_alloc] at this; exact this.drew
    have ra : W1.rowIs w.heap.size 3 286 (fun _ => .int .i64 0) := by rw [← hW1]; exact ((R1.out w).alloc _).drew
    have bb : Below w.heap.size w W1 := by rw [← hW1]; exact (((Below.refl _ _).alloc (Nat.le_refl _) _).alloc (by simp) _).drew
    obtain ⟨gB, hgB⟩ : ∃ g, w.heap.size + 1 = g := ⟨_, rfl⟩
    obtain ⟨gA, hgA⟩ : ∃ g, w.heap.size = g := ⟨_, rfl⟩
    rw [hgA] at ra
    rw [hgB] at rb
    rw [hgB, hgA]
    have RA := Lib.hid ra
    have RB := Lib.hid rb
    have BB := Lib.hid bb
    have LA : Hid (w.heap.size ≤ gA) := Lib.hid (by omega)
    have LB : Hid (w.heap.size ≤ gB) := Lib.hid (by omega)
    have NE : Hid (gA ≠ gB) := Lib.hid (by omega)
    clear hW1 ra rb bb hgA hgB M1 M2 R1 R2)
  all_goals
    have c0 := RA.out.cell (i := 256) (by decide)
    have c1 := RA.out.frozen 256
    go_wp2_with fail
    clear c0 c1
    go_loopw [18] (fun i w' => ∃ k : Nat, k ≤ ts.length ∧ i = .int .i64 k ∧ w'.rowIs gA 3 286 (cV symL 256 ts k) ∧ w'.rowIs gB 3 30 (cV symD 30 ts k) ∧ Below w.heap.size w w') (fun i _ => ts.length - (intOf i).toNat)
    case atStart => exact ⟨0, Nat.zero_le _, rfl, cV_start1 symL ts _ _ _ RA.out 256, cV_start symD ts _ _ _ (RB.out.setOther (Ne.symm NE.out) _) 30 (by decide), BB.out.setCell LA.out _⟩
    case round =>
      obtain ⟨k, hk, rfl, hra, hrb, hbl⟩ := hrel
      have HA := Lib.hid hra
      have HB := Lib.hid hrb
      have BL := Lib.hid hbl
      clear hra hrb hbl RA RB BB
      have hk3 : k ≤ 3000 := by omega
      by_cases hkl : k < ts.length
      · have f1 : decide ((k : Int) < (ts.length : Int)) = true := by rw [decide_eq_true_eq]; omega
        have f2 : decide (k < ts.length) = true := by rw [decide_eq_true_eq]; omega
        obtain ⟨b, off, rfl, hc1, hc2⟩ := HC.out k hkl
        have hc1' := cell_old BL.out hc1
        have hc2' := cell_old BL.out hc2
        clear hc1 hc2
        obtain ⟨ta, tb, htk⟩ : ∃ ta tb, ts[k] = (ta, tb) := ⟨_, _, rfl⟩
        rw [htk] at hc1' hc2'
        have TK := Lib.hid htk
        clear htk
        have nA : ¬ gA = wr.heap.size := Nat.ne_of_lt HA.out.lt
        have nA' : ¬ wr.heap.size = gA := Ne.symm nA
        have nB : ¬ gB = wr.heap.size := Nat.ne_of_lt HB.out.lt
        have nB' : ¬ wr.heap.size = gB := Ne.symm nB
        have RN : Hid (symL ts[k] = none → symD ts[k] = none → ∀ V, Below wr.heap.size wr V → V.rowIs gA 3 286 (cV symL 256 ts (k + 1)) ∧ V.rowIs gB 3 30 (cV symD 30 ts (k + 1)) ∧ Below w.heap.size w V) := Lib.hid (fun e1 e2 V hV =>
          ⟨row_none symL 256 ts k hkl e1 (HA.out.of_block (hV.block _ HA.out.lt)), row_none symD 30 ts k hkl e2 (HB.out.of_block (hV.block _ HB.out.lt)), BL.out.trans (hV.mono BL.out.size)⟩)
        rcases tok_cases ta tb with ⟨rfl, h1, h2, s1, s2⟩ | ⟨rfl, h1, s1, s2⟩ | ⟨h1, h2, s1, s2⟩ | ⟨h1, h2, h3, h4, s1, s2⟩ | ⟨h1, h2, h3, h4, s1, s2⟩
        · obtain ⟨m, rfl⟩ : ∃ m : Nat, tb = (m : Int) := ⟨tb.toNat, by omega⟩
          have hm : m < 256 := by omega
          have g1 : decide (0 ≤ (m : Int)) = true := by rw [decide_eq_true_eq]; omega
          have g2 : decide ((m : Int) < 256) = true := by rw [decide_eq_true_eq]; omega
          have g3 : (m : Int) < 286 := by omega
          have hc := HA.out.cell (i := m) (by omega)
          have hcl := cF_le symL 256 ts k m
          have ST : Hid (((wr.alloc (Obj.cells #[.int .i64 0, .int .i64 (m : Int)] 27)).setCell ⟨gA, m, none⟩ (.int .i64 (((cF symL 256 ts k m : Nat) : Int) + 1))).rowIs gA 3 286 (cV symL 256 ts (k + 1))) := Lib.hid (row_some symL 256 ts k hkl (by rw [TK.out, s1]; rfl) (HA.out.alloc _))
          have SB : Hid (symD ts[k] = none) := Lib.hid (by rw [TK.out, s2])
          unfold cV at hc
          obtain ⟨c, hcc⟩ : ∃ c, cF symL 256 ts k m = c := ⟨_, rfl⟩
          rw [hcc] at hc hcl ST
          have hcA := cell_old ((Below.refl _ wr).alloc (Nat.le_refl _) (Obj.cells #[.int .i64 0, .int .i64 (m : Int)] 27)) hc
          have hfA := (HA.out.alloc (Obj.cells #[.int .i64 0, .int .i64 (m : Int)] 27)).frozen m
          clear hcc hc h1 h2 s1 s2
          go_wp2_with fail
          refine (lengthSym_no 0 _ (by decide)).mono ?_; rintro e w2 ⟨rfl, rfl⟩
          go_wp2_with fail
          refine (distSym_ex _ _).mono ?_; rintro e w2 ⟨⟨x, o, rfl⟩, rfl⟩
          go_wp2_with fail
          go_roundw
          case rel => exact ⟨k + 1, by omega, by go_num, ST.out, row_none symD 30 ts k hkl SB.out ((HB.out.alloc _).setOther (Ne.symm NE.out) _), (BL.out.alloc BL.out.size _).setCell LA.out _⟩
          case measure => simp [intOf]; omega
        · have NL : Hid (symL ts[k] = none) := Lib.hid (by rw [TK.out, s1])
          have ND : Hid (symD ts[k] = none) := Lib.hid (by rw [TK.out, s2])
          have c : (decide (0 ≤ tb) = false) ∨ (decide (0 ≤ tb) = true ∧ decide (tb < 256) = false) := by simp only [decide_eq_true_eq, decide_eq_false_iff_not]; omega
          clear h1 s1 s2
          rcases c with c1 | ⟨c1, c2⟩
          all_goals
            go_wp2_with fail
            refine (lengthSym_no 0 _ (by decide)).mono ?_; rintro e w2 ⟨rfl, rfl⟩
            go_wp2_with fail
            refine (distSym_ex _ _).mono ?_; rintro e w2 ⟨⟨x, o, rfl⟩, rfl⟩
            go_wp2_with fail
            go_roundw
            case rel => obtain ⟨q1, q2, q3⟩ := RN.out NL.out ND.out _ ((Below.refl _ _).alloc (Nat.le_refl _) _); exact ⟨k + 1, by omega, by go_num, q1, q2, q3⟩
            case measure => simp [intOf]; omega
        · have NL : Hid (symL ts[k] = none) := Lib.hid (by rw [TK.out, s1])
          have ND : Hid (symD ts[k] = none) := Lib.hid (by rw [TK.out, s2])
          have c1 : (ta == 0) = false := by rw [beq_eq_false_iff_ne]; exact h1
          have LN := Lib.hid (fun W => lengthSym_no ta W h2)
          clear h1 h2 s1 s2
          go_wp2_with fail
          refine (LN.out _).mono ?_; rintro e w2 ⟨rfl, rfl⟩
          go_wp2_with fail
          refine (distSym_ex _ _).mono ?_; rintro e w2 ⟨⟨x, o, rfl⟩, rfl⟩
          go_wp2_with fail
          go_roundw
          case rel => obtain ⟨q1, q2, q3⟩ := RN.out NL.out ND.out _ ((Below.refl _ _).alloc (Nat.le_refl _) _); exact ⟨k + 1, by omega, by go_num, q1, q2, q3⟩
          case measure => simp [intOf]; omega
        · have NL : Hid (symL ts[k] = none) := Lib.hid (by rw [TK.out, s1])
          have ND : Hid (symD ts[k] = none) := Lib.hid (by rw [TK.out, s2])
          have c1 : (ta == 0) = false := by rw [beq_eq_false_iff_ne]; exact h1
          obtain ⟨p, rfl⟩ : ∃ p : Nat, ta = (p : Int) := ⟨ta.toNat, by omega⟩
          have LN := Lib.hid (fun W => lengthSym_yes p W (by omega))
          have DN := Lib.hid (fun W => distSym_no tb W h4)
          clear h1 h2 h3 h4 s1 s2
          go_wp2_with fail
          refine (LN.out _).mono ?_; rintro e w2 ⟨rfl, rfl⟩
          go_wp2_with fail
          refine (DN.out _).mono ?_; rintro e w2 ⟨rfl, rfl⟩
          go_wp2_with fail
          go_roundw
          case rel => obtain ⟨q1, q2, q3⟩ := RN.out NL.out ND.out _ ((Below.refl _ _).alloc (Nat.le_refl _) _); exact ⟨k + 1, by omega, by go_num, q1, q2, q3⟩
          case measure => simp [intOf]; omega
        · have c1 : (ta == 0) = false := by rw [beq_eq_false_iff_ne]; omega
          obtain ⟨p, rfl⟩ : ∃ p : Nat, ta = (p : Int) := ⟨ta.toNat, by omega⟩
          obtain ⟨q, rfl⟩ : ∃ q : Nat, tb = (q : Int) := ⟨tb.toNat, by omega⟩
          obtain ⟨m, hm⟩ : ∃ m, 257 + symN lensN p = m := ⟨_, rfl⟩
          obtain ⟨n, hn⟩ : ∃ n, 0 + symN distsN q = n := ⟨_, rfl⟩
          have m1 : m < 286 := by have := lens_lt p (by omega); omega
          have n1 : n < 30 := by have := dists_lt q (by omega); omega
          have LN := Lib.hid (fun W => lengthSym_yes p W (by omega))
          have DN := Lib.hid (fun W => distSym_yes q W (by omega))
          rw [hm] at LN
          rw [hn] at DN
          have S1 : symL ts[k] = some m := by rw [TK.out, s1, ← hm]; rfl
          have S2 : symD ts[k] = some n := by rw [TK.out, s2, ← hn]; rfl
          have g3 : (m : Int) < 286 := by omega
          have g4 : (n : Int) < 30 := by omega
          have hc := HA.out.cell (i := m) m1
          have hd := HB.out.cell (i := n) n1
          have hcl := cF_le symL 256 ts k m
          have hdl := cF_le symD 30 ts k n
          obtain ⟨O, hO⟩ : ∃ O, Obj.cells #[.int .i64 (p : Int), .int .i64 (q : Int)] 27 = O := ⟨_, rfl⟩
          have ra1 := row_some symL 256 ts k hkl S1 (HA.out.alloc O)
          have rb1 := (HB.out.alloc O).setOther (a := ⟨gA, m, none⟩) (Ne.symm NE.out) (.int .i64 (((cF symL 256 ts k m : Nat) : Int) + 1))
          have rb2 := row_some symD 30 ts k hkl S2 rb1
          have ra2 := ra1.setOther (a := ⟨gB, n, none⟩) NE.out (.int .i64 (((cF symD 30 ts k n : Nat) : Int) + 1))
          have bb2 := ((BL.out.alloc BL.out.size O).setCell (p := ⟨gA, m, none⟩) LA.out (.int .i64 (((cF symL 256 ts k m : Nat) : Int) + 1))).setCell (p := ⟨gB, n, none⟩) LB.out (.int .i64 (((cF symD 30 ts k n : Nat) : Int) + 1))
          have hdB := rb1.cell (i := n) n1
          have hfB := rb1.frozen n
          have hcA := cell_old ((Below.refl _ wr).alloc (Nat.le_refl _) O) hc
          have hfA := (HA.out.alloc O).frozen m
          unfold cV at hcA hdB
          obtain ⟨c, hcc⟩ : ∃ c, cF symL 256 ts k m = c := ⟨_, rfl⟩
          obtain ⟨d, hdd⟩ : ∃ c, cF symD 30 ts k n = c := ⟨_, rfl⟩
          rw [← hO] at ra2 rb2 bb2 hdB hfB hcA hfA
          rw [hcc] at hcA hcl ra2 rb2 bb2 hdB hfB
          rw [hdd] at hdB hdl ra2 rb2 bb2
          have RA2 := Lib.hid ra2
          have RB2 := Lib.hid rb2
          have BB2 := Lib.hid bb2
          clear hcc hdd hc hd ra1 rb1 ra2 rb2 bb2 hm hn h1 h2 h3 h4 s1 s2 S1 S2 hO RN
          go_wp2_with fail
          refine (LN.out _).mono ?_; rintro e w2 ⟨rfl, rfl⟩
          go_wp2_with fail
          refine (DN.out _).mono ?_; rintro e w2 ⟨rfl, rfl⟩
          go_wp2_with fail
          go_roundw
          case rel => exact ⟨k + 1, by omega, by go_num, RA2.out, RB2.out, BB2.out⟩
          case measure => simp [intOf]; omega
      · obtain rfl : k = ts.length := by omega
        go_wp2_with fail
        go_ret2
        exact ⟨gA, gB, rfl, HA.out, HB.out, BL.out⟩
end Go.Proofs.Ytheomjoadgfkeaa
