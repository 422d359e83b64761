/- ParseCounts: the law's walk. By an AI agent. -/
import Derived.Test.YtheomjoadgfkeaaCntW
import Derived.Test.YtheomjoadgfkeaaSame
namespace Go.Proofs.Ytheomjoadgfkeaa
open Go.RowKit
set_option linter.unusedVariables false
set_option linter.unusedSimpArgs false

theorem symL_good (a b : Int) (h : goodT a b = false) : symL (a, b) = none ∧ symD (a, b) = none := by simp [symL, symD, h]
theorem good_cases (a b : Int) : (goodT a b = false ∧ symL (a, b) = none ∧ symD (a, b) = none) ∨
    (∃ m : Nat, m < 256 ∧ a = 0 ∧ b = (m : Int) ∧ goodT a b = true ∧ symL (a, b) = some m ∧ symD (a, b) = none) ∨
    (∃ p q m n : Nat, 3 ≤ p ∧ p ≤ 258 ∧ 1 ≤ q ∧ q ≤ 32768 ∧ a = (p : Int) ∧ b = (q : Int) ∧ goodT a b = true ∧ 257 + symN lensN p = m ∧ 0 + symN distsN q = n ∧ m < 286 ∧ n < 30 ∧ symL (a, b) = some m ∧ symD (a, b) = some n) := by
  by_cases hg : goodT a b = true
  · rcases tok_cases a b with ⟨rfl, h1, h2, s1, s2⟩ | ⟨rfl, h1, s1, s2⟩ | ⟨h1, h2, s1, s2⟩ | ⟨h1, h2, h3, h4, s1, s2⟩ | ⟨h1, h2, h3, h4, s1, s2⟩
    · exact .inr (.inl ⟨b.toNat, by omega, rfl, by omega, hg, s1, s2⟩)
    · unfold goodT at hg; simp at hg; omega
    · unfold goodT at hg; rw [if_neg h1] at hg; simp at hg; omega
    · unfold goodT at hg; rw [if_neg h1] at hg; simp at hg; omega
    · exact .inr (.inr ⟨a.toNat, b.toNat, _, _, by omega, by omega, by omega, by omega, by omega, by omega, hg, rfl, rfl, by have := lens_lt a.toNat (by omega); omega, by have := dists_lt b.toNat (by omega); omega, s1, s2⟩)
  · exact .inl ⟨by simpa using hg, symL_good a b (by simpa using hg)⟩

theorem ints_yes (v v2 : Value) (l : List Int) (w : World) (hb : Ns w v l) (hb2 : Ns w v2 l) (hl : l.length ≤ 140737488355328) :
    Calls Try.prog 12 #[v, v2] w fun e w' => e = .returned (.bool true) ∧ ∃ q, w' = w.drewN q := by
  have h := ints_any v v2 l l w hb hb2 hl hl
  rw [decide_eq_true rfl] at h
  exact h

set_option maxRecDepth 8000 in
set_option maxHeartbeats 6400000 in
theorem counts_any (v : Value) (ts : List (Int × Int)) (w : World) (hb : Tk w v ts) (hlen : ts.length ≤ 140737488351232) :
    Calls Try.prog 3 #[v] w fun e w' => e = .returned (.bool true) ∧ Below w.heap.size w w' := by
  obtain ⟨a, cap, rfl, hcell⟩ := id hb
  by_cases hl : 3000 < ts.length
  · have f1 : decide ((3000 : Int) < (ts.length : Int)) = true := by rw [decide_eq_true_eq]; omega
    have f2 : decide (3000 < ts.length) = true := by rw [decide_eq_true_eq]; omega
    clear hcell hb hl
    go_enter Try.func3, Try.ntmps3
    go_wp2_with fail
    go_ret
    exact ⟨rfl, Below.refl _ _⟩
  have f1 : decide ((3000 : Int) < (ts.length : Int)) = false := by rw [decide_eq_false_iff_not]; omega
  have f2 : decide (3000 < ts.length) = false := by rw [decide_eq_false_iff_not]; omega
  have CN := Lib.hid (count_any _ ts w hb (by omega))
  have HC := Lib.hid hcell
  clear hcell
  have hl3 : ts.length ≤ 3000 := by omega
  clear hb hl hlen
  go_enter Try.func3, Try.ntmps3
  go_wp2_with fail
  refine CN.out.mono ?_; rintro e w0 ⟨q1, q2, rfl, hq1, hq2, hb0⟩
  have N1 := Lib.hid (cL_ns symL 256 ts hq1 (by decide))
  have N2 := Lib.hid (cL_ns symD 30 ts hq2 (by decide))
  have B0 := Lib.hid hb0
  clear hq1 hq2 hb0 f1 f2
  obtain ⟨O1, m1, r1⟩ := mk_row 286 (by decide)
  obtain ⟨O2, m2, r2⟩ := mk_row 30 (by decide)
  have M1 : ∀ w, (Instr.makeSlice 23 (.int .i64 286) (.int .i64 286)).run Try.prog w = .ok (.slice (some ⟨w.heap.size, 0, none⟩) 286 286) (w.alloc O1) := m1
  have M2 : ∀ w, (Instr.makeSlice 23 (.int .i64 30) (.int .i64 30)).run Try.prog w = .ok (.slice (some ⟨w.heap.size, 0, none⟩) 30 30) (w.alloc O2) := m2
  have R1 := Lib.hid r1
  have R2 := Lib.hid r2
  clear m1 m2 r1 r2
  go_wp2_with fail
  go_region
  all_goals first
  | (
    obtain ⟨W1, hW1⟩ : ∃ W, ((w0.alloc O2).alloc O1).drew = W := ⟨_, rfl⟩
    rw [hW1]
    have ra : W1.rowIs (w0.heap.size + 1) 3 286 (fun _ => .int .i64 0) := by rw [← hW1]; have := R1.out (w0.alloc O2); rw [World.size_alloc] at this; exact this.drew
    have rb : W1.rowIs w0.heap.size 3 30 (fun _ => .int .i64 0) := by rw [← hW1]; exact ((R2.out w0).alloc _).drew
    have bb : Below w0.heap.size w0 W1 := by rw [← hW1]; exact (((Below.refl _ _).alloc (Nat.le_refl _) _).alloc (by simp) _).drew
    obtain ⟨gA, hgA⟩ : ∃ g, w0.heap.size + 1 = g := ⟨_, rfl⟩
    obtain ⟨gB, hgB⟩ : ∃ g, w0.heap.size = g := ⟨_, rfl⟩
    rw [hgA] at ra
    rw [hgB] at rb
    rw [hgA, hgB]
    have RA := Lib.hid ra
    have RB := Lib.hid rb
    have BB := Lib.hid bb
    have LA : Hid (w0.heap.size ≤ gA) := Lib.hid (by omega)
    have LB : Hid (w0.heap.size ≤ gB) := Lib.hid (by omega)
    have NE : Hid (gA ≠ gB) := Lib.hid (by omega)
    clear hW1 ra rb bb hgA hgB M1 M2 R1 R2)
  | (
    obtain ⟨W1, hW1⟩ : ∃ W, ((w0.alloc O1).alloc O2).drew = W := ⟨_, rfl⟩
    rw [hW1]
    have rb : W1.rowIs (w0.heap.size + 1) 3 30 (fun _ => .int .i64 0) := by rw [← hW1]; have := R2.out (w0.alloc O1); rw [World.size_alloc] at this; exact this.drew
    have ra : W1.rowIs w0.heap.size 3 286 (fun _ => .int .i64 0) := by rw [← hW1]; exact ((R1.out w0).alloc _).drew
    have bb : Below w0.heap.size w0 W1 := by rw [← hW1]; exact (((Below.refl _ _).alloc (Nat.le_refl _) _).alloc (by simp) _).drew
    obtain ⟨gB, hgB⟩ : ∃ g, w0.heap.size + 1 = g := ⟨_, rfl⟩
    obtain ⟨gA, hgA⟩ : ∃ g, w0.heap.size = g := ⟨_, rfl⟩
    rw [hgA] at ra
    rw [hgB] at rb
    rw [hgB, hgA]
    have RA := Lib.hid ra
    have RB := Lib.hid rb
    have BB := Lib.hid bb
    have LA : Hid (w0.heap.size ≤ gA) := Lib.hid (by omega)
    have LB : Hid (w0.heap.size ≤ gB) := Lib.hid (by omega)
    have NE : Hid (gA ≠ gB) := Lib.hid (by omega)
    clear hW1 ra rb bb hgA hgB M1 M2 R1 R2)
  all_goals
    have c0 := RA.out.cell (i := 256) (by decide)
    have c1 := RA.out.frozen 256
    go_wp2_with fail
    clear c0 c1
    go_loopw [31] (fun i w' => ∃ k : Nat, k ≤ ts.length ∧ i = .int .i64 k ∧ w'.rowIs gA 3 286 (cV symL 256 ts k) ∧ w'.rowIs gB 3 30 (cV symD 30 ts k) ∧ Below w0.heap.size w0 w') (fun i _ => ts.length - (intOf i).toNat)
    case atStart => exact ⟨0, Nat.zero_le _, rfl, cV_start1 symL ts _ _ _ RA.out 256, cV_start symD ts _ _ _ (RB.out.setOther (Ne.symm NE.out) _) 30 (by decide), BB.out.setCell LA.out _⟩
    case round =>
      obtain ⟨k, hk, rfl, hra, hrb, hbl⟩ := hrel
      have HA := Lib.hid hra
      have HB := Lib.hid hrb
      have BL := Lib.hid hbl
      clear hra hrb hbl RA RB BB
      have hk3 : k ≤ 3000 := by omega
      by_cases hkl : k < ts.length
      · have f1 : decide ((k : Int) < (ts.length : Int)) = true := by rw [decide_eq_true_eq]; omega
        have f2 : decide (k < ts.length) = true := by rw [decide_eq_true_eq]; omega
        obtain ⟨b, off, rfl, hc1, hc2⟩ := HC.out k hkl
        have hc1' := cell_old BL.out (cell_old B0.out hc1)
        have hc2' := cell_old BL.out (cell_old B0.out hc2)
        clear hc1 hc2
        obtain ⟨ta, tb, htk⟩ : ∃ ta tb, ts[k] = (ta, tb) := ⟨_, _, rfl⟩
        rw [htk] at hc1' hc2'
        have TK := Lib.hid htk
        clear htk
        have RN : Hid (symL ts[k] = none → symD ts[k] = none → ∀ V, Below wr.heap.size wr V → V.rowIs gA 3 286 (cV symL 256 ts (k + 1)) ∧ V.rowIs gB 3 30 (cV symD 30 ts (k + 1)) ∧ Below w0.heap.size w0 V) := Lib.hid (fun e1 e2 V hV =>
          ⟨row_none symL 256 ts k hkl e1 (HA.out.of_block (hV.block _ HA.out.lt)), row_none symD 30 ts k hkl e2 (HB.out.of_block (hV.block _ HB.out.lt)), BL.out.trans (hV.mono BL.out.size)⟩)
        have GD := Lib.hid (fun W => goodT_any ta tb W)
        rcases good_cases ta tb with ⟨hg, s1, s2⟩ | ⟨m, hm, rfl, rfl, hg, s1, s2⟩ | ⟨p, q, m, n, p1, p2, q3, q4, rfl, rfl, hg, hm, hn, m1, n1, s1, s2⟩
        · rw [hg] at GD
          have NL : Hid (symL ts[k] = none) := Lib.hid (by rw [TK.out, s1])
          have ND : Hid (symD ts[k] = none) := Lib.hid (by rw [TK.out, s2])
          clear s1 s2 hg
          go_wp2_with fail
          refine (GD.out _).mono ?_; rintro e w2 ⟨rfl, hb2⟩
          have B2 := Lib.hid hb2
          clear hb2
          go_wp2_with fail
          go_roundw
          case rel => obtain ⟨q1, q2, q3⟩ := RN.out NL.out ND.out _ (((Below.refl _ _).alloc (Nat.le_refl _) _).trans (B2.out.mono (by simp))); exact ⟨k + 1, by omega, by go_num, q1, q2, q3⟩
          case measure => simp [intOf]; omega
        · rw [hg] at GD
          have S1 : Hid (symL ts[k] = some m) := Lib.hid (by rw [TK.out, s1])
          have S2 : Hid (symD ts[k] = none) := Lib.hid (by rw [TK.out, s2])
          clear s1 s2 hg RN
          have g3 : (m : Int) < 286 := by omega
          go_wp2_with fail
          refine (GD.out _).mono ?_; rintro e w2 ⟨rfl, hb2⟩
          have hz : ∀ i u, (#[Value.int .i64 0, .int .i64 (m : Int)] : Array Value)[i]? = some u → w2.cell? ⟨wr.heap.size, i, none⟩ = some u := fun i u hu => cell_old hb2 (by rw [cell_of_row _ _ i _ _ (0, 0) (heap_alloc_new wr _)]; exact hu)
          have t0 := hz 0 _ rfl
          have t1 := hz 1 _ rfl
          have b2 : Below wr.heap.size wr w2 := ((Below.refl _ _).alloc (Nat.le_refl _) _).trans (hb2.mono (by simp))
          have ha2 := HA.out.of_block (b2.block _ HA.out.lt)
          have hb2' := HB.out.of_block (b2.block _ HB.out.lt)
          have BB2 := Lib.hid ((BL.out.trans (b2.mono BL.out.size)).setCell (p := ⟨gA, m, none⟩) LA.out (.int .i64 (((cF symL 256 ts k m : Nat) : Int) + 1)))
          have ST := Lib.hid (row_some symL 256 ts k hkl S1.out ha2)
          have SB := Lib.hid (row_none symD 30 ts k hkl S2.out (hb2'.setOther (a := ⟨gA, m, none⟩) (Ne.symm NE.out) (.int .i64 (((cF symL 256 ts k m : Nat) : Int) + 1))))
          have hcA := ha2.cell (i := m) (by omega)
          have hfA := ha2.frozen m
          have hcl := cF_le symL 256 ts k m
          unfold cV at hcA
          obtain ⟨c, hcc⟩ : ∃ c, cF symL 256 ts k m = c := ⟨_, rfl⟩
          rw [hcc] at hcA hcl ST SB BB2
          clear hcc hb2 hz b2 ha2 hb2'
          go_wp2_with fail
          go_roundw
          case rel => exact ⟨k + 1, by omega, by go_num, ST.out, SB.out, BB2.out⟩
          case measure => simp [intOf]; omega
        · rw [hg] at GD
          have S1 : Hid (symL ts[k] = some m) := Lib.hid (by rw [TK.out, s1])
          have S2 : Hid (symD ts[k] = some n) := Lib.hid (by rw [TK.out, s2])
          have LN := Lib.hid (fun W => refLength_any p W p1 (by omega))
          have DN := Lib.hid (fun W => refDist_any q W q3 (by omega))
          rw [hm] at LN
          have hn' : symN distsN q = n := by rw [← hn, Nat.zero_add]
          rw [hn'] at DN
          have e1 : ((p : Int) == 0) = false := by rw [beq_eq_false_iff_ne]; omega
          have e2 : (p == 0) = false := by rw [beq_eq_false_iff_ne]; omega
          have g3 : (m : Int) < 286 := by omega
          have g4 : (n : Int) < 30 := by omega
          have M1 := Lib.hid m1
          have N1' := Lib.hid n1
          clear s1 s2 hg RN hm hn hn' p1 p2 q3 q4 m1 n1
          go_wp2_with fail
          refine (GD.out _).mono ?_; rintro e w2 ⟨rfl, hb2⟩
          have hz : ∀ i u, (#[Value.int .i64 (p : Int), .int .i64 (q : Int)] : Array Value)[i]? = some u → w2.cell? ⟨wr.heap.size, i, none⟩ = some u := fun i u hu => cell_old hb2 (by rw [cell_of_row _ _ i _ _ (0, 0) (heap_alloc_new wr _)]; exact hu)
          have t0 := hz 0 _ rfl
          have T1 : Hid (w2.cell? ⟨wr.heap.size, 1, none⟩ = some (.int .i64 (q : Int))) := Lib.hid (hz 1 _ rfl)
          have b2 : Below wr.heap.size wr w2 := ((Below.refl _ _).alloc (Nat.le_refl _) _).trans (hb2.mono (by simp))
          have B2 := Lib.hid b2
          have SZ : Hid (wr.heap.size < w2.heap.size) := Lib.hid (by have := hb2.size; simp at this; omega)
          clear hz b2 hb2
          go_wp2_with fail
          refine (LN.out _).mono ?_; rintro e w3 ⟨rfl, hb3⟩
          clear t0
          have t1 := cell_old hb3 T1.out
          have b3 : Below wr.heap.size wr w3 := B2.out.trans (hb3.mono B2.out.size)
          have ha3 := HA.out.of_block (b3.block _ HA.out.lt)
          have hb3' := HB.out.of_block (b3.block _ HB.out.lt)
          have nA : gA ≠ wr.heap.size := Nat.ne_of_lt HA.out.lt
          have t1' : (w3.setCell ⟨gA, m, none⟩ (.int .i64 (((cF symL 256 ts k m : Nat) : Int) + 1))).cell? ⟨wr.heap.size, 1, none⟩ = some (.int .i64 (q : Int)) := by
            rw [← t1]; exact World.cell?_of_block (Go.Deep.blk_setCell_other _ _ _ _ (Ne.symm nA))
          have ra := row_some symL 256 ts k hkl S1.out ha3
          have rb := hb3'.setOther (a := ⟨gA, m, none⟩) (Ne.symm NE.out) (.int .i64 (((cF symL 256 ts k m : Nat) : Int) + 1))
          have bb := (BL.out.trans (b3.mono BL.out.size)).setCell (p := ⟨gA, m, none⟩) LA.out (.int .i64 (((cF symL 256 ts k m : Nat) : Int) + 1))
          have hcA := ha3.cell (i := m) M1.out
          have hfA := ha3.frozen m
          have hcl := cF_le symL 256 ts k m
          unfold cV at hcA
          obtain ⟨c, hcc⟩ : ∃ c, cF symL 256 ts k m = c := ⟨_, rfl⟩
          rw [hcc] at hcA hcl ra rb bb t1'
          have RA := Lib.hid ra
          have RB := Lib.hid rb
          have BB := Lib.hid bb
          have T1' := Lib.hid t1'
          have NA := Lib.hid nA
          clear hcc hb3 ha3 hb3' ra rb bb b3 t1 nA
          go_wp2_with fail
          refine (DN.out _).mono ?_; rintro e w4 ⟨rfl, hb4⟩
          clear t1' hcA hfA
          have ha4 := RA.out.of_block (hb4.block _ RA.out.lt)
          have hb4' := RB.out.of_block (hb4.block _ RB.out.lt)
          have rb := row_some symD 30 ts k hkl S2.out hb4'
          have ra := ha4.setOther (a := ⟨gB, n, none⟩) NE.out (.int .i64 (((cF symD 30 ts k n : Nat) : Int) + 1))
          have bb := (BB.out.trans (hb4.mono BB.out.size)).setCell (p := ⟨gB, n, none⟩) LB.out (.int .i64 (((cF symD 30 ts k n : Nat) : Int) + 1))
          have hcB := hb4'.cell (i := n) N1'.out
          have hfB := hb4'.frozen n
          have hdl := cF_le symD 30 ts k n
          unfold cV at hcB
          obtain ⟨d, hdd⟩ : ∃ c, cF symD 30 ts k n = c := ⟨_, rfl⟩
          rw [hdd] at hcB hdl ra rb bb
          have RA2 := Lib.hid ra
          have RB2 := Lib.hid rb
          have BB2 := Lib.hid bb
          clear hdd hb4 ha4 hb4' ra rb bb
          go_wp2_with fail
          go_roundw
          case rel => exact ⟨k + 1, by omega, by go_num, RA2.out, RB2.out, BB2.out⟩
          case measure => simp [intOf]; omega
      · obtain rfl : k = ts.length := by omega
        have n3 := Lib.hid (cL_ns symL 256 ts HA.out (by decide))
        have n4 := Lib.hid (cL_ns symD 30 ts HB.out (by decide))
        have n1 := Lib.hid (Ns.old N1.out BL.out)
        have n2 := Lib.hid (Ns.old N2.out BL.out)
        have IA := Lib.hid (ints_yes _ _ _ _ n1.out n3.out (by simp [cL]))
        have IB := Lib.hid (fun q => ints_yes _ _ _ _ (n2.out.drewN q) (n4.out.drewN q) (by simp [cL]))
        clear hkl
        go_wp2_with fail
        refine IA.out.mono ?_; rintro e w2 ⟨rfl, q, rfl⟩
        go_wp2_with fail
        refine (IB.out q).mono ?_; rintro e w2 ⟨rfl, q2, rfl⟩
        go_wp2_with fail
        go_ret
        exact ⟨rfl, below_drewN (B0.out.trans (BL.out.mono B0.out.size)) (q + q2)⟩
end Go.Proofs.Ytheomjoadgfkeaa
