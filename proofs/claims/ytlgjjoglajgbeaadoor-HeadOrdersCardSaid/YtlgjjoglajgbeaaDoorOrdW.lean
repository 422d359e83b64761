/- The document's wrong: what is wrong at a place. By an AI agent. -/
import Derived.Test.YtlgjjoglajgbeaaDoorOrdI
import Derived.Test.YtlgjjoglajgbeaaDoorWkM
namespace Go.Proofs.YtlgjjoglajgbeaaDoor
open Go.RowKit Go.BigFrame
set_option linter.unusedVariables false
set_option linter.unusedSimpArgs false

theorem in_once (nm : List UInt8) (w : World) (hn : nm.length ≤ 100) : Calls Tryd.prog 19 #[.string (strOf nm), .string ⟨#[73, 72, 68, 82, 80, 76, 84, 69, 116, 82, 78, 83, 98, 75, 71, 68, 104, 73, 83, 84, 99, 72, 82, 77, 103, 65, 77, 65, 105, 67, 67, 80, 115, 66, 73, 84, 115, 82, 71, 66, 112, 72, 89, 115, 116, 73, 77, 69]⟩] w fun e w' => e = .returned (.bool (onceL.contains nm)) ∧ w = w' := by
  have h := in_any nm onceL w (by unfold fourL; decide) (by decide) (by omega)
  have e : strOf onceL.flatten = ⟨#[73, 72, 68, 82, 80, 76, 84, 69, 116, 82, 78, 83, 98, 75, 71, 68, 104, 73, 83, 84, 99, 72, 82, 77, 103, 65, 77, 65, 105, 67, 67, 80, 115, 66, 73, 84, 115, 82, 71, 66, 112, 72, 89, 115, 116, 73, 77, 69]⟩ := by kernel_rfl
  rw [e] at h
  exact h
theorem in_early (nm : List UInt8) (w : World) (hn : nm.length ≤ 100) : Calls Tryd.prog 19 #[.string (strOf nm), .string ⟨#[80, 76, 84, 69, 116, 82, 78, 83, 98, 75, 71, 68, 104, 73, 83, 84, 99, 72, 82, 77, 103, 65, 77, 65, 105, 67, 67, 80, 115, 66, 73, 84, 115, 82, 71, 66, 112, 72, 89, 115, 115, 80, 76, 84]⟩] w fun e w' => e = .returned (.bool (earlyL.contains nm)) ∧ w = w' := by
  have h := in_any nm earlyL w (by unfold fourL; decide) (by decide) (by omega)
  have e : strOf earlyL.flatten = ⟨#[80, 76, 84, 69, 116, 82, 78, 83, 98, 75, 71, 68, 104, 73, 83, 84, 99, 72, 82, 77, 103, 65, 77, 65, 105, 67, 67, 80, 115, 66, 73, 84, 115, 82, 71, 66, 112, 72, 89, 115, 115, 80, 76, 84]⟩ := by kernel_rfl
  rw [e] at h
  exact h
theorem in_colors (nm : List UInt8) (w : World) (hn : nm.length ≤ 100) : Calls Tryd.prog 19 #[.string (strOf nm), .string ⟨#[99, 72, 82, 77, 103, 65, 77, 65, 105, 67, 67, 80, 115, 66, 73, 84, 115, 82, 71, 66]⟩] w fun e w' => e = .returned (.bool (colorsL.contains nm)) ∧ w = w' := by
  have h := in_any nm colorsL w (by unfold fourL; decide) (by decide) (by omega)
  have e : strOf colorsL.flatten = ⟨#[99, 72, 82, 77, 103, 65, 77, 65, 105, 67, 67, 80, 115, 66, 73, 84, 115, 82, 71, 66]⟩ := by kernel_rfl
  rw [e] at h
  exact h
theorem in_known (nm : List UInt8) (w : World) (hn : nm.length ≤ 100) : Calls Tryd.prog 19 #[.string (strOf nm), .string ⟨#[73, 72, 68, 82, 80, 76, 84, 69, 73, 68, 65, 84, 73, 69, 78, 68]⟩] w fun e w' => e = .returned (.bool (knownL.contains nm)) ∧ w = w' := by
  have h := in_any nm knownL w (by unfold fourL; decide) (by decide) (by omega)
  have e : strOf knownL.flatten = ⟨#[73, 72, 68, 82, 80, 76, 84, 69, 73, 68, 65, 84, 73, 69, 78, 68]⟩ := by kernel_rfl
  rw [e] at h
  exact h
theorem before_one (a : Option Addr) (cp : Nat) (cs : List Chk) (n : Nat) (nm : List UInt8) (w : World) (hb : Cks w (.slice a cs.length cp) cs) (hn : n ≤ cs.length) (hl : cs.length ≤ 1000) (h4 : nm.length = 4) (hnm : ∀ c ∈ cs, c.1.length ≤ 100) :
    Calls Tryd.prog 21 #[.slice a cs.length cp, .int .i64 (n : Nat), .string (strOf nm)] w fun e w' => e = .returned (.int .i64 ((cnt1 nm (cs.take n) : Nat) : Int)) ∧ w = w' := by
  have h := before_any a cp cs n [nm] w hb hn hl (by intro s hs; simp at hs; subst hs; exact h4) (by simp) hnm
  have e : [nm].flatten = nm := by simp
  rw [e, cntL_one] at h
  exact h
theorem before_three (a : Option Addr) (cp : Nat) (cs : List Chk) (n : Nat) (w : World) (hb : Cks w (.slice a cs.length cp) cs) (hn : n ≤ cs.length) (hl : cs.length ≤ 1000) (hnm : ∀ c ∈ cs, c.1.length ≤ 100) :
    Calls Tryd.prog 21 #[.slice a cs.length cp, .int .i64 (n : Nat), .string ⟨#[116, 82, 78, 83, 98, 75, 71, 68, 104, 73, 83, 84]⟩] w fun e w' => e = .returned (.int .i64 ((cntL [ntRNS, nbKGD, nhIST] (cs.take n) : Nat) : Int)) ∧ w = w' := by
  have h := before_any a cp cs n [ntRNS, nbKGD, nhIST] w hb hn hl (by unfold fourL; decide) (by decide) hnm
  have e : strOf [ntRNS, nbKGD, nhIST].flatten = ⟨#[116, 82, 78, 83, 98, 75, 71, 68, 104, 73, 83, 84]⟩ := by kernel_rfl
  rw [e] at h
  exact h
theorem heap_low {w w' : World} {B : Nat} {o : Obj} (h : w.heap[B]? = some o) (hb : Below w.heap.size w w') : w'.heap[B]? = some o := by
  rw [hb.block B (Array.getElem?_eq_some_iff.1 h).1]; exact h
theorem posB (m : Nat) {b : Bool} (h : decide (0 < m) = b) : decide ((0 : Int) < (m : Int)) = b := by rw [← h, decide_eq_decide]; omega
theorem neB (r : Nat) {g : Bool} (h : decide (r ≠ 0) = g) : ((r : Int) != 0) = g ∧ (r != 0) = g := by
  subst h
  by_cases h : r = 0
  · subst h; exact ⟨rfl, rfl⟩
  · exact ⟨by rw [decide_eq_true h, bne_iff_ne]; omega, by rw [decide_eq_true h, bne_iff_ne]; exact h⟩
theorem byteFacts (x0 x1 i2 : Nat) (h0 : x0 < 256) (h1 : x1 < 256) (hi : i2 ≤ 6) : ∃ z : Nat, z = 256 * x0 + x1 ∧ IntKind.i64.wrap (x0 : Int) = (x0 : Int) ∧ IntKind.i64.wrap (x1 : Int) = (x1 : Int) ∧ IntKind.i64.wrap (256 * (x0 : Int)) = 256 * (x0 : Int) ∧ IntKind.i64.wrap (256 * (x0 : Int) + (x1 : Int)) = (z : Int) ∧ IntKind.i64.wrap ((i2 : Int) + 1) = (i2 : Int) + 1 ∧ IntKind.i64.wrap ((i2 : Int) + 2) = (i2 : Int) + 2 :=
  ⟨_, rfl, IntWalk.i64_in _ (by omega), IntWalk.i64_in _ (by omega), IntWalk.i64_in _ (by omega), by rw [IntWalk.i64_in _ (by omega)]; omega, IntWalk.i64_in _ (by omega), IntWalk.i64_in _ (by omega)⟩
theorem geB (p z : Nat) {g : Bool} (h : decide (z < p) = g) : decide ((p : Int) ≤ (z : Int)) = !g ∧ decide (p ≤ z) = !g := by
  subst h
  by_cases h : z < p
  · rw [decide_eq_true h]; exact ⟨decide_eq_false (by omega), decide_eq_false (by omega)⟩
  · rw [decide_eq_false h]; exact ⟨decide_eq_true (by omega), decide_eq_true (by omega)⟩
theorem plteFacts (k n r : Nat) (kl : k ≤ 2000) (hn : k / 3 = n) (hr : k % 3 = r) : (k : Int).tdiv 3 = (n : Int) ∧ (k : Int).tmod 3 = (r : Int) ∧ wrap64 (n : Int) = (n : Int) ∧ wrap64 (r : Int) = (r : Int) ∧ IntKind.i64.wrap (n : Int) = (n : Int) ∧ IntKind.i64.wrap (r : Int) = (r : Int) :=
  ⟨by rw [Int.tdiv_eq_ediv_of_nonneg (by omega)]; omega, by rw [Int.tmod_eq_emod_of_nonneg (by omega)]; omega, IntWalk.wrap64_in _ (by omega), IntWalk.wrap64_in _ (by omega), IntWalk.i64_in _ (by omega), IntWalk.i64_in _ (by omega)⟩
theorem neB' (k n : Nat) (h : k ≠ n) : ((k : Int) != (n : Int)) = true ∧ (k != n) = true := ⟨by rw [bne_iff_ne]; omega, by rw [bne_iff_ne]; exact h⟩
theorem ltB (n m : Nat) {g : Bool} (h : decide (n < m) = g) : decide ((n : Int) < (m : Int)) = g := by rw [← h, decide_eq_decide]; omega
set_option maxRecDepth 20000 in
set_option maxHeartbeats 16000000 in
theorem wrong_any (a : Option Addr) (cp : Nat) (cs : List Chk) (i : Nat) (x y D C L : Int) (w : World) (hb : Cks w (.slice a cs.length cp) cs) (hi : i < cs.length) (h1 : 1 ≤ i) (hl : cs.length ≤ 900) (h4 : ∀ c ∈ cs, c.1.length = 4) (hd : ∀ c ∈ cs, c.2.length ≤ 2000) (hD : D ∈ depthsL C) :
    Calls Tryd.prog 20 #[headV x y D C L, .slice a cs.length cp, .int .i64 (i : Nat)] w fun e w' => e = .returned (.bool (wrongB C D (cs.take i) cs[i])) ∧ Below w.heap.size w w' := by
  have CB := Lib.hid hb
  obtain ⟨a0, c0', hv, hx⟩ := hb
  cases hv
  obtain ⟨b, o, v, rfl, c0, c1, hbx⟩ := hx i hi
  obtain ⟨a', c', rfl⟩ := hbx.len
  have n4 := h4 _ (List.getElem_mem hi)
  have dl := hd _ (List.getElem_mem hi)
  obtain ⟨⟨nm, d⟩, hc⟩ : ∃ c, cs[i] = c := ⟨_, rfl⟩
  rw [hc] at c0 c1 hbx n4 dl ⊢
  simp only at c0 c1 hbx n4 dl
  obtain ⟨pre, hpre⟩ : ∃ p, cs.take i = p := ⟨_, rfl⟩
  have HNM : Hid (∀ c ∈ cs, c.1.length ≤ 100) := Lib.hid (fun c hc => by have := h4 c hc; omega)
  have BE := Lib.hid (fun (W : World) (hW : Below w.heap.size w W) (z : List UInt8) (hz : z.length = 4) => before_one _ cp cs i z W (CB.out.old hW) (by omega) (by omega) hz HNM.out)
  have B3 := Lib.hid (fun (W : World) (hW : Below w.heap.size w W) => before_three _ cp cs i W (CB.out.old hW) (by omega) (by omega) HNM.out)
  have EN := Lib.hid (fun (W : World) (hW : Below w.heap.size w W) => entries_any _ cp cs i W (CB.out.old hW) (by omega) (by omega) hd)
  rw [hpre] at BE B3 EN ⊢
  obtain ⟨w1, hw1⟩ : ∃ w1, (w.alloc (.cells #[.int .i64 x, .int .i64 y, .int .i64 D, .int .i64 C, .int .i64 L] 29)).alloc (.cells #[.string (strOf nm), .slice a' d.length c'] 26) = w1 := ⟨_, rfl⟩
  have b1 : Below w.heap.size w w1 := by rw [← hw1]; exact ((Below.refl _ _).alloc (Nat.le_refl _) _).alloc (by simp) _
  have hx1 : w1.heap[w.heap.size]? = some (.cells #[.int .i64 x, .int .i64 y, .int .i64 D, .int .i64 C, .int .i64 L] 29 (0, 0)) := by
    rw [← hw1]; exact heap_low (heap_alloc_new _ _) ((Below.refl _ _).alloc (Nat.le_refl _) _)
  have cx : w1.heap[w.heap.size + 1]? = some (.cells #[.string (strOf nm), .slice a' d.length c'] 26 (0, 0)) := by
    rw [← hw1]
    have h := heap_alloc_new (w.alloc (.cells #[.int .i64 x, .int .i64 y, .int .i64 D, .int .i64 C, .int .i64 L] 29)) (.cells #[.string (strOf nm), .slice a' d.length c'] 26)
    rw [World.size_alloc] at h
    exact h
  obtain ⟨k0, k1, k2, k3, k4⟩ := box_of hx1
  have x0 : w1.cell? ⟨w.heap.size + 1, 0, none⟩ = some (.string (strOf nm)) := by rw [cell_of_row _ _ 0 _ _ _ cx]; rfl
  have x1 : w1.cell? ⟨w.heap.size + 1, 1, none⟩ = some (.slice a' d.length c') := by rw [cell_of_row _ _ 1 _ _ _ cx]; rfl
  have B1 := Lib.hid b1
  have DB := Lib.hid (hbx.old b1)
  have q0 := cell_old ((Below.refl w.heap.size w).alloc (Nat.le_refl _) (.cells #[.int .i64 x, .int .i64 y, .int .i64 D, .int .i64 C, .int .i64 L] 29)) c0
  have q1 := cell_old ((Below.refl w.heap.size w).alloc (Nat.le_refl _) (.cells #[.int .i64 x, .int .i64 y, .int .i64 D, .int .i64 C, .int .i64 L] 29)) c1
  have il : (i : Int) < (cs.length : Int) := by omega
  have DL := Lib.hid dl
  have N4 := Lib.hid n4
  have HD := Lib.hid hD
  have HI1 := Lib.hid (show 1 ≤ i ∧ i < cs.length ∧ cs.length ≤ 900 from ⟨h1, hi, hl⟩)
  have LAST : Hid (∀ h : i - 1 < cs.length, (pre.getLastD ([], [])).1 = (cs[i - 1]'h).1) := Lib.hid (fun h => by
    have hi2 : i - 1 + 1 = i := by omega
    have e : pre = cs.take (i - 1) ++ [cs[i - 1]'h] := by rw [← hpre, ← List.take_succ_eq_append_getElem h, hi2]
    have h2 : ∀ (l : List Chk) (c : Chk), (l ++ [c]).getLastD ([], []) = c := fun l c => by simp
    rw [e, h2])
  have HXS := Lib.hid hx
  have hlw : w.heap.size + 2 ≤ w1.heap.size := by rw [← hw1]; simp
  obtain ⟨t1, ht1⟩ : ∃ t, onceL.contains nm = t := ⟨_, rfl⟩
  obtain ⟨t2, ht2⟩ : ∃ t, earlyL.contains nm = t := ⟨_, rfl⟩
  obtain ⟨t3, ht3⟩ : ∃ t, colorsL.contains nm = t := ⟨_, rfl⟩
  obtain ⟨u1, hu1⟩ : ∃ t, decide (0 < cnt1 nm pre) = t := ⟨_, rfl⟩
  obtain ⟨u2, hu2⟩ : ∃ t, decide (0 < cnt1 nIDAT pre) = t := ⟨_, rfl⟩
  obtain ⟨u3, hu3⟩ : ∃ t, decide (0 < cnt1 nPLTE pre) = t := ⟨_, rfl⟩
  have WB : Hid (wrongB C D pre (nm, d) = ((t1 && u1) || (t2 && u2) || (t3 && u3) || (if nm = nPLTE then decide (0 < cntL [ntRNS, nbKGD, nhIST] pre) || plteBad C D d
      else if nm = nIDAT then u2 && decide ((pre.getLastD ([], [])).1 ≠ nIDAT)
      else if nm = nhIST then decide (cnt1 nPLTE pre = 0)
      else if nm = ntRNS then trnsBad C D (entriesN pre) d
      else false))) := Lib.hid (by
    have h : wrongB C D pre (nm, d) = ((onceL.contains nm && decide (0 < cnt1 nm pre)) || (earlyL.contains nm && decide (0 < cnt1 nIDAT pre)) || (colorsL.contains nm && decide (0 < cnt1 nPLTE pre)) || (if nm = nPLTE then decide (0 < cntL [ntRNS, nbKGD, nhIST] pre) || plteBad C D d
      else if nm = nIDAT then decide (0 < cnt1 nIDAT pre) && decide ((pre.getLastD ([], [])).1 ≠ nIDAT)
      else if nm = nhIST then decide (cnt1 nPLTE pre = 0)
      else if nm = ntRNS then trnsBad C D (entriesN pre) d
      else false)) := rfl
    rw [ht1, ht2, ht3, hu1, hu2, hu3] at h
    exact h)
  have I1 := Lib.hid (in_once nm w1 (by omega))
  have I2 := Lib.hid (in_early nm w1 (by omega))
  have I3 := Lib.hid (in_colors nm w1 (by omega))
  rw [ht1] at I1
  rw [ht2] at I2
  rw [ht3] at I3
  have P1 := Lib.hid (BE.out w1 B1.out nm n4)
  have P2 := Lib.hid (BE.out w1 B1.out nIDAT (by decide))
  have P3 := Lib.hid (BE.out w1 B1.out nPLTE (by decide))
  obtain ⟨m1, hm1⟩ : ∃ m, cnt1 nm pre = m := ⟨_, rfl⟩
  obtain ⟨m2, hm2⟩ : ∃ m, cnt1 nIDAT pre = m := ⟨_, rfl⟩
  obtain ⟨m3, hm3⟩ : ∃ m, cnt1 nPLTE pre = m := ⟨_, rfl⟩
  rw [hm1] at P1 hu1
  rw [hm2] at P2 hu2
  rw [hm3] at P3 hu3 WB
  have v1 := posB m1 hu1
  have v2 := posB m2 hu2
  have v3 := posB m3 hu3
  clear hm1 hm2 hm3 ht1 ht2 ht3 hc hpre hbx c0 c1 hx1 cx b1 dl n4 hD h1 hi hl h4 hd hx
  unfold headV
  go_enter Tryd.func20, Tryd.ntmps20
  go_upto_region 2 with (fail)
  clear hw1 q0 q1
  go_cut [26] from 16 to 26 (fun c wx => c = .bool (t1 && u1) ∧ w1 = wx)
  case first =>
    cases t1 <;> cases u1
    all_goals
      go_wp2_with fail
      refine I1.out.mono ?_; rintro e w' ⟨rfl, rfl⟩
      go_wp2_with fail
      first
        | (refine P1.out.mono ?_; rintro e w' ⟨rfl, rfl⟩
           go_wp2_with fail
           go_meet
           exact ⟨rfl, rfl⟩)
        | (go_meet
           exact ⟨rfl, rfl⟩)
  case rest =>
  obtain ⟨rfl, rfl⟩ := hcut
  obtain ⟨s1, hs1⟩ : ∃ q, (t1 && u1) = q := ⟨_, rfl⟩
  rw [hs1] at WB ⊢
  cases s1 with
  | true =>
    have RE : Hid (wrongB C D pre (nm, d) = true) := Lib.hid (by rw [WB.out]; simp)
    go_wp2_with fail
    go_ret
    exact ⟨rb RE.out.symm, B1.out⟩
  | false =>
  clear hs1 I1 P1 v1
  go_wp2_with fail
  refine P2.out.mono ?_; rintro e w' ⟨rfl, rfl⟩
  go_upto_region 5 with (fail)
  go_cut [36] from 30 to 36 (fun c wx => c = .bool (t2 && u2) ∧ w1 = wx)
  case first =>
    cases t2 <;> cases u2
    all_goals
      go_wp2_with fail
      refine I2.out.mono ?_; rintro e w' ⟨rfl, rfl⟩
      go_wp2_with fail
      go_meet
      exact ⟨rfl, rfl⟩
  case rest =>
  obtain ⟨rfl, rfl⟩ := hcut
  obtain ⟨s2, hs2⟩ : ∃ q, (t2 && u2) = q := ⟨_, rfl⟩
  rw [hs2] at WB ⊢
  cases s2 with
  | true =>
    have RE : Hid (wrongB C D pre (nm, d) = true) := Lib.hid (by rw [WB.out]; simp)
    go_wp2_with fail
    go_ret
    exact ⟨rb RE.out.symm, B1.out⟩
  | false =>
  clear hs2 I2
  go_upto_region 7 with (fail)
  go_cut [45] from 37 to 45 (fun c wx => c = .bool (t3 && u3) ∧ w1 = wx)
  case first =>
    cases t3 <;> cases u3
    all_goals
      go_wp2_with fail
      refine I3.out.mono ?_; rintro e w' ⟨rfl, rfl⟩
      go_wp2_with fail
      first
        | (refine P3.out.mono ?_; rintro e w' ⟨rfl, rfl⟩
           go_wp2_with fail
           go_meet
           exact ⟨rfl, rfl⟩)
        | (go_meet
           exact ⟨rfl, rfl⟩)
  case rest =>
  obtain ⟨rfl, rfl⟩ := hcut
  obtain ⟨s3, hs3⟩ : ∃ q, (t3 && u3) = q := ⟨_, rfl⟩
  rw [hs3] at WB ⊢
  cases s3 with
  | true =>
    have RE : Hid (wrongB C D pre (nm, d) = true) := Lib.hid (by rw [WB.out]; simp)
    go_wp2_with fail
    go_ret
    exact ⟨rb RE.out.symm, B1.out⟩
  | false =>
  clear hs3 I3
  have WX : Hid (wrongB C D pre (nm, d) = (if nm = nPLTE then decide (0 < cntL [ntRNS, nbKGD, nhIST] pre) || plteBad C D d
      else if nm = nIDAT then u2 && decide ((pre.getLastD ([], [])).1 ≠ nIDAT)
      else if nm = nhIST then decide (m3 = 0)
      else if nm = ntRNS then trnsBad C D (entriesN pre) d
      else false)) := Lib.hid (by rw [WB.out]; rfl)
  clear WB
  by_cases hP : nm = nPLTE
  · skip
    -- PLTE
    have z1 : ((strOf nm).toList == [80, 76, 84, 69]) = true := by rw [hP]; kernel_rfl
    obtain ⟨dd, rfl, hdd⟩ := okD_of HD.out
    obtain ⟨k, hk⟩ : ∃ k, d.length = k := ⟨_, rfl⟩
    have kl : k ≤ 2000 := by rw [← hk]; exact DL.out
    obtain ⟨n, hn⟩ : ∃ n, k / 3 = n := ⟨_, rfl⟩
    obtain ⟨r, hr⟩ : ∃ r, k % 3 = r := ⟨_, rfl⟩
    obtain ⟨t1', t2', t3', t4', t5', t6'⟩ := plteFacts k n r kl hn hr
    have BB := Lib.hid (B3.out w1 B1.out)
    obtain ⟨m, hm⟩ : ∃ m, cntL [ntRNS, nbKGD, nhIST] pre = m := ⟨_, rfl⟩
    rw [hm] at BB
    obtain ⟨g0, hg0⟩ : ∃ g, decide (0 < m) = g := ⟨_, rfl⟩
    have g0' := posB m hg0
    obtain ⟨g1, hg1⟩ : ∃ g, decide (r ≠ 0) = g := ⟨_, rfl⟩
    obtain ⟨g1', g1''⟩ := neB r hg1
    obtain ⟨g2, hg2⟩ : ∃ g, decide (n < 1) = g := ⟨_, rfl⟩
    have g2' : decide ((n : Int) < 1) = g2 := ltB n 1 hg2
    obtain ⟨g3, hg3⟩ : ∃ g, decide (256 < n) = g := ⟨_, rfl⟩
    have g3' : decide ((256 : Int) < (n : Int)) = g3 := ltB 256 n hg3
    have RE : Hid (wrongB C (dd : Int) pre (nm, d) = (g0 || (g1 || g2 || g3 || decide (C = 0) || decide (C = 4) || (decide (C = 3) && decide (2 ^ dd < n))))) := Lib.hid (by
      rw [WX.out, if_pos hP, hm, hg0]
      unfold plteBad
      rw [hk, hn, hr, hg1, hg2, hg3]
      simp)
    have HC : Hid (C = 0 ∨ C = 4 ∨ C = 3 ∨ C = 2 ∨ C = 6) := Lib.hid (by
      have hD := HD.out
      unfold depthsL at hD
      split at hD
      · omega
      · split at hD
        · omega
        · split at hD
          · omega
          · simp at hD)
    have PW := Lib.hid (power_any dd w1 (by unfold okD at hdd; omega))
    rw [hk] at x1
    clear hP hk kl hn hr hm hg1 WX hdd
    go_upto_region 12 with (fail)
    go_cut [72] from 54 to 72 (fun c wx => c = .bool (g0 || g1 || g2 || g3) ∧ w1 = wx)
    case first =>
      go_wp2_with fail
      refine BB.out.mono ?_; rintro e w' ⟨rfl, rfl⟩
      cases g0 <;> cases g1 <;> cases g2 <;> cases g3
      all_goals
        go_wp2_with fail
        go_meet
        exact ⟨rfl, rfl⟩
    case rest =>
    obtain ⟨rfl, rfl⟩ := hcut
    obtain ⟨gg, hgg⟩ : ∃ q, (g0 || g1 || g2 || g3) = q := ⟨_, rfl⟩
    rw [hgg]
    have RE2 : Hid (wrongB C (dd : Int) pre (nm, d) = (gg || decide (C = 0) || decide (C = 4) || (decide (C = 3) && decide (2 ^ dd < n)))) := Lib.hid (by rw [RE.out, ← hgg]; simp [Bool.or_assoc])
    clear hgg RE g0' g1' g1'' g2' g3' hg0 hg2 hg3
    cases gg with
    | true =>
      go_wp2_with fail
      go_ret
      exact ⟨rb (by rw [RE2.out]; rfl), B1.out⟩
    | false =>
    obtain ⟨p, hp⟩ : ∃ p, 2 ^ dd = p := ⟨_, rfl⟩
    obtain ⟨g4, hg4⟩ : ∃ g, decide (p < n) = g := ⟨_, rfl⟩
    have g4' : decide ((p : Int) < (n : Int)) = g4 := ltB p n hg4
    rw [hp] at PW RE2
    rw [hg4] at RE2
    clear hp
    rcases HC.out with rfl | rfl | rfl | rfl | rfl
    · go_wp2_with fail
      go_ret
      exact ⟨rb (by rw [RE2.out]; rfl), B1.out⟩
    · go_wp2_with fail
      go_ret
      exact ⟨rb (by rw [RE2.out]; rfl), B1.out⟩
    · go_wp2_with fail
      refine PW.out.mono ?_; rintro e w' ⟨rfl, rfl⟩
      cases g4
      all_goals
        go_wp2_with fail
        go_ret
        exact ⟨rb (by rw [RE2.out]; rfl), B1.out⟩
    · go_wp2_with fail
      go_ret
      exact ⟨rb (by rw [RE2.out]; rfl), B1.out⟩
    · go_wp2_with fail
      go_ret
      exact ⟨rb (by rw [RE2.out]; rfl), B1.out⟩
  by_cases hI : nm = nIDAT
  · have z1 : ((strOf nm).toList == [80, 76, 84, 69]) = false := by rw [hI]; kernel_rfl
    have z2 : ((strOf nm).toList == [73, 68, 65, 84]) = true := by rw [hI]; kernel_rfl
    have hil : i - 1 < cs.length := by have := HI1.out; omega
    obtain ⟨b', o', xv, he, l0, l1, -⟩ := HXS.out (i - 1) hil
    cases he
    have l0' := cell_old B1.out l0
    obtain ⟨j, hj⟩ : ∃ j, i - 1 = j := ⟨_, rfl⟩
    have hij : i = j + 1 := by have := HI1.out; omega
    have LA := LAST.out hil
    obtain ⟨nl, hnl⟩ : ∃ q, (cs[i - 1]'hil).1 = q := ⟨_, rfl⟩
    rw [hnl] at l0' LA
    rw [hj] at l0'
    obtain ⟨I, hII⟩ : ∃ I, decide (nl = nIDAT) = I := ⟨_, rfl⟩
    have y1 : ((strOf nl).toList == [73, 68, 65, 84]) = I := by rw [strOf_toList, ← hII, beq_dec]; rfl
    have y2 : ((strOf nl).toList != [73, 68, 65, 84]) = !I := by rw [← y1]; rfl
    have gj : IntKind.i64.wrap ((i : Int) - 1) = (j : Int) := by rw [IntWalk.i64_in _ (by have := HI1.out; omega)]; omega
    have jl : (j : Int) < (cs.length : Int) := by omega
    have RE : Hid (wrongB C D pre (nm, d) = (u2 && !I)) := Lib.hid (by rw [WX.out, if_neg hP, if_pos hI, LA, ← hII, ← decide_not])
    clear hP hI l0 l1 hII hnl LA hj hil WX hij
    cases u2 <;> cases I
    all_goals
      go_wp2_with fail
      go_ret
      exact ⟨rb RE.out.symm, B1.out⟩
  by_cases hH : nm = nhIST
  · have z1 : ((strOf nm).toList == [80, 76, 84, 69]) = false := by rw [hH]; kernel_rfl
    have z2 : ((strOf nm).toList == [73, 68, 65, 84]) = false := by rw [hH]; kernel_rfl
    have z3 : ((strOf nm).toList == [104, 73, 83, 84]) = true := by rw [hH]; kernel_rfl
    obtain ⟨g, hg⟩ : ∃ g, ((m3 : Int) == 0) = g := ⟨_, rfl⟩
    have hg' : (m3 == 0) = g := by rw [← hg, Bool.eq_iff_iff, beq_iff_eq, beq_iff_eq]; omega
    have RE : Hid (wrongB C D pre (nm, d) = g) := Lib.hid (by rw [WX.out, if_neg hP, if_neg hI, if_pos hH, ← hg', Bool.eq_iff_iff, decide_eq_true_eq, beq_iff_eq])
    clear hP hI hH WX
    go_wp2_with fail
    refine P3.out.mono ?_; rintro e w' ⟨rfl, rfl⟩
    go_wp2_with fail
    go_ret
    exact ⟨rb RE.out.symm, B1.out⟩
  by_cases hT : nm = ntRNS
  · have z1 : ((strOf nm).toList == [80, 76, 84, 69]) = false := by rw [hT]; kernel_rfl
    have z2 : ((strOf nm).toList == [73, 68, 65, 84]) = false := by rw [hT]; kernel_rfl
    have z3 : ((strOf nm).toList == [104, 73, 83, 84]) = false := by rw [hT]; kernel_rfl
    have z4 : ((strOf nm).toList == [116, 82, 78, 83]) = true := by rw [hT]; kernel_rfl
    obtain ⟨dd, rfl, hdd⟩ := okD_of HD.out
    have RE : Hid (wrongB C (dd : Int) pre (nm, d) = trnsBad C (dd : Int) (entriesN pre) d) := Lib.hid (by rw [WX.out, if_neg hP, if_neg hI, if_neg hH, if_pos hT])
    have HC : Hid (C = 0 ∨ C = 4 ∨ C = 3 ∨ C = 2 ∨ C = 6) := Lib.hid (by
      have hD := HD.out
      unfold depthsL at hD
      split at hD
      · omega
      · split at hD
        · omega
        · split at hD
          · omega
          · simp at hD)
    have EE := Lib.hid (EN.out w1 B1.out)
    obtain ⟨pal, hpal⟩ : ∃ q, entriesN pre = q := ⟨_, rfl⟩
    rw [hpal] at EE RE
    obtain ⟨k, hk⟩ : ∃ k, d.length = k := ⟨_, rfl⟩
    have HK := Lib.hid hk
    rw [hk] at x1
    have HDD : Hid (dd ≤ 16) := Lib.hid (by unfold okD at hdd; omega)
    clear hP hI hH hT WX hpal hk hdd
    rcases HC.out with rfl | rfl | rfl | rfl | rfl
    · by_cases hk2 : k = 2
      rotate_left
      · have e1 : ((k : Int) != 2) = true := (neB' k 2 hk2).1
        have e1' : (k != 2) = true := (neB' k 2 hk2).2
        have RE2 : Hid (wrongB 0 (dd : Int) pre (nm, d) = true) := Lib.hid (by
          rw [RE.out]; unfold trnsBad; rw [if_neg (by decide), HK.out, decide_eq_true hk2]; simp)
        clear hk2
        go_wp2_with fail
        go_ret
        exact ⟨rb RE2.out.symm, B1.out⟩
      subst hk2
      have RE2 : Hid (wrongB 0 (dd : Int) pre (nm, d) = !keysTo dd d 1) := Lib.hid (by
        rw [RE.out, keysTo_bad dd d 1 HK.out, Bool.not_not]
        unfold trnsBad
        rw [if_neg (by decide), HK.out]
        simp)
      obtain ⟨b2, o2, rfl, hcl⟩ : ∃ b2 o2, a' = some ⟨b2, o2, none⟩ ∧ ∀ i (h : i < d.length), w1.cell? ⟨b2, o2 + i, none⟩ = some (.int .u8 ((d[i].toNat : Nat) : Int)) := by
        rcases DB.out.shape with ⟨a3, c3, hv3, h0⟩ | ⟨b2, o2, c3, hv3, _, _, h3⟩
        · have := HK.out; rw [h0] at this; simp at this
        · cases hv3; exact ⟨b2, o2, rfl, h3⟩
      have CL := Lib.hid hcl
      have X1 := Lib.hid x1
      have K2 := Lib.hid k2
      clear hcl RE
      go_wp2_with fail
      go_loopw [11] (fun i W => ∃ j : Nat, i = .int .i64 ((2 * j : Nat) : Int) ∧ j ≤ 1 ∧ keysTo dd d j = true ∧ Below w1.heap.size w1 W) (fun i _ => 2 * 1 + 2 - (intOf i).toNat)
      case atStart => exact ⟨0, rfl, Nat.zero_le _, rfl, Below.refl _ _⟩
      case round =>
        obtain ⟨j, rfl, hj, hkt, hbw⟩ := hrel
        have BW := Lib.hid hbw
        have BR : Hid (Below w.heap.size w wr) := Lib.hid (B1.out.trans (hbw.mono B1.out.size))
        clear hbw
        by_cases hjm : j < 1
        · have h0 : 2 * j < d.length := by rw [HK.out]; omega
          have h1 : 2 * j + 1 < d.length := by rw [HK.out]; omega
          have c0 := cell_old BW.out (CL.out (2 * j) h0)
          have c1 := cell_old BW.out (CL.out (2 * j + 1) h1)
          have y1 := cell_old BW.out X1.out
          have y2 := cell_old BW.out K2.out
          obtain ⟨x0, hx0⟩ : ∃ q, (d[2 * j]'h0).toNat = q := ⟨_, rfl⟩
          obtain ⟨x1', hx1⟩ : ∃ q, (d[2 * j + 1]'h1).toNat = q := ⟨_, rfl⟩
          have KT := keysTo_at dd d j h0 h1 hx0 hx1 hkt
          have bb : x0 < 256 ∧ x1' < 256 := ⟨by rw [← hx0]; exact (d[2 * j]'h0).toNat_lt, by rw [← hx1]; exact (d[2 * j + 1]'h1).toNat_lt⟩
          rw [hx0] at c0
          rw [hx1] at c1
          obtain ⟨i2, hi2⟩ : ∃ q, 2 * j = q := ⟨_, rfl⟩
          have HI2 := Lib.hid hi2
          rw [hi2] at c0 c1 ⊢
          obtain ⟨z, hz, gx0, gx1, gm, gz, gi, gi2⟩ := byteFacts x0 x1' i2 bb.1 bb.2 (by omega)
          rw [← hz] at KT
          obtain ⟨g, hg⟩ : ∃ g, decide (z < 2 ^ dd) = g := ⟨_, rfl⟩
          rw [hg] at KT
          obtain ⟨p, hp⟩ : ∃ p, 2 ^ dd = p := ⟨_, rfl⟩
          rw [hp] at hg
          obtain ⟨gg, gg'⟩ := geB p z hg
          have il1 : (i2 : Int) < 2 := by omega
          obtain ⟨i3, hi3⟩ : ∃ q, i2 + 1 = q := ⟨_, rfl⟩
          rw [hi3] at c1
          have gi3 : IntKind.i64.wrap ((i2 : Int) + 1) = (i3 : Int) := by rw [gi]; omega
          have il2 : (i3 : Int) < 2 := by omega
          have f1 : decide ((i2 : Int) < 2) = true := decide_eq_true il1
          have f2 : decide (i2 < 2) = true := decide_eq_true (by omega)
          have HKT := Lib.hid KT
          have HJM := Lib.hid hjm
          have PA : Hid (∀ Y, (Y.cell? ⟨w.heap.size + 1, 1, none⟩ = some (.slice (some ⟨b2, o2, none⟩) 2 c') ∧ Y.cell? ⟨b2, o2 + i2, none⟩ = some (.int .u8 (x0 : Int)) ∧ Y.cell? ⟨b2, o2 + i3, none⟩ = some (.int .u8 (x1' : Int)) ∧ Y.cell? ⟨w.heap.size, 2, none⟩ = some (.int .i64 (dd : Int)) ∧ Below wr.heap.size wr Y) → Calls Tryd.prog 36 #[.int .i64 (dd : Int)] Y fun e w' => e = .returned (.int .i64 (p : Int)) ∧ (w'.cell? ⟨w.heap.size + 1, 1, none⟩ = some (.slice (some ⟨b2, o2, none⟩) 2 c') ∧ w'.cell? ⟨b2, o2 + i2, none⟩ = some (.int .u8 (x0 : Int)) ∧ w'.cell? ⟨b2, o2 + i3, none⟩ = some (.int .u8 (x1' : Int)) ∧ w'.cell? ⟨w.heap.size, 2, none⟩ = some (.int .i64 (dd : Int)) ∧ Below wr.heap.size wr w')) := Lib.hid (fun Y hY => by
            refine (power_any dd Y HDD.out).mono ?_
            rintro e w' ⟨rfl, rfl⟩
            rw [hp]
            exact ⟨rfl, hY⟩)
          clear hx0 hx1 hkt bb hi2 hz hg hp KT hjm h0 h1 gi hi3
          go_upto_region 28 with (fail)
          refine wp_region_q (fun Y => Y.cell? ⟨w.heap.size + 1, 1, none⟩ = some (.slice (some ⟨b2, o2, none⟩) 2 c') ∧ Y.cell? ⟨b2, o2 + i2, none⟩ = some (.int .u8 (x0 : Int)) ∧ Y.cell? ⟨b2, o2 + i3, none⟩ = some (.int .u8 (x1' : Int)) ∧ Y.cell? ⟨w.heap.size, 2, none⟩ = some (.int .i64 (dd : Int)) ∧ Below wr.heap.size wr Y) (by kernel_rfl) (by kernel_rfl) ⟨cell_old (Below.refl _ _).drew y1, cell_old (Below.refl _ _).drew c0, cell_old (Below.refl _ _).drew c1, cell_old (Below.refl _ _).drew y2, (Below.refl _ _).drew⟩ ?_
          clear y1 y2 c0 c1
          repeat
            first
            | go_big_quiet_skip
            | (go_big_quiet_want
               first
               | (go_big_quiet_op; go_big_quiet_on)
               | (apply Exists.intro
                  refine ⟨fun X hX => ?_, ?_⟩
                  · have hXX := Lib.hid hX
                    obtain ⟨q0, q1, q2, q3, eZ⟩ := hX
                    clear eZ
                    unfold Oper.quietAt
                    go_simp
                    first
                    | (go_at_call 36; exact PA.out _ hXX.out)
                    | exact ⟨rfl, hXX.out⟩
                    | exact ⟨rfl, rfl⟩
                    | exact rfl
                  go_big_quiet_on
                  try simp only [Act.put, List.setIfInBounds_toArray, List.set_cons_zero, List.set_cons_succ]))
          refine wpQuiet_nil ?_
          rintro Y ⟨-, -, -, -, hbY⟩
          have BY : Hid (Below w1.heap.size w1 Y) := Lib.hid (BW.out.trans (hbY.mono BW.out.size))
          clear hbY
          cases g
          · have RF : Hid (wrongB 0 (dd : Int) pre (nm, d) = true) := Lib.hid (by rw [RE2.out, keysTo_false dd d (j + 1) 1 HKT.out HJM.out]; rfl)
            go_wp2_with fail
            go_ret
            exact ⟨rb RF.out.symm, B1.out.trans (BY.out.mono B1.out.size)⟩
          · go_wp2_with fail
            go_roundw
            case rel => exact ⟨j + 1, by rw [show ((2 * (j + 1) : Nat) : Int) = (i2 : Int) + 2 by have := HI2.out; omega], HJM.out, HKT.out, BY.out⟩
            case measure => simp [intOf]; have := HI2.out; have := HJM.out; omega
        · obtain rfl : j = 1 := by omega
          have RF : Hid (wrongB 0 (dd : Int) pre (nm, d) = false) := Lib.hid (by rw [RE2.out, hkt]; rfl)
          clear hkt
          go_wp2_with fail
          go_ret
          exact ⟨rb RF.out.symm, B1.out.trans (BW.out.mono B1.out.size)⟩
    · have RE2 : Hid (wrongB 4 (dd : Int) pre (nm, d) = true) := Lib.hid (by rw [RE.out]; unfold trnsBad; rw [if_neg (by decide)]; simp)
      go_wp2_with fail
      go_ret
      exact ⟨rb RE2.out.symm, B1.out⟩
    · obtain ⟨g1, hg1⟩ : ∃ g, decide (k < 1) = g := ⟨_, rfl⟩
      have g1' : decide ((k : Int) < 1) = g1 := ltB k 1 hg1
      obtain ⟨g2, hg2⟩ : ∃ g, decide (pal < k) = g := ⟨_, rfl⟩
      have g2' : decide ((pal : Int) < (k : Int)) = g2 := ltB pal k hg2
      have RE2 : Hid (wrongB 3 (dd : Int) pre (nm, d) = (g1 || g2)) := Lib.hid (by rw [RE.out]; unfold trnsBad; rw [if_pos rfl, HK.out, hg1, hg2])
      clear RE
      cases g1
      · go_wp2_with fail
        refine EE.out.mono ?_; rintro e w' ⟨rfl, rfl⟩
        cases g2
        all_goals
          go_wp2_with fail
          go_ret
          exact ⟨rb RE2.out.symm, B1.out⟩
      · go_wp2_with fail
        go_ret
        exact ⟨rb (by rw [RE2.out]; rfl), B1.out⟩
    · by_cases hk2 : k = 6
      rotate_left
      · have e1 : ((k : Int) != 6) = true := (neB' k 6 hk2).1
        have e1' : (k != 6) = true := (neB' k 6 hk2).2
        have RE2 : Hid (wrongB 2 (dd : Int) pre (nm, d) = true) := Lib.hid (by
          rw [RE.out]; unfold trnsBad; rw [if_neg (by decide), HK.out, decide_eq_true hk2]; simp)
        clear hk2
        go_wp2_with fail
        go_ret
        exact ⟨rb RE2.out.symm, B1.out⟩
      subst hk2
      have RE2 : Hid (wrongB 2 (dd : Int) pre (nm, d) = !keysTo dd d 3) := Lib.hid (by
        rw [RE.out, keysTo_bad dd d 3 HK.out, Bool.not_not]
        unfold trnsBad
        rw [if_neg (by decide), HK.out]
        simp)
      obtain ⟨b2, o2, rfl, hcl⟩ : ∃ b2 o2, a' = some ⟨b2, o2, none⟩ ∧ ∀ i (h : i < d.length), w1.cell? ⟨b2, o2 + i, none⟩ = some (.int .u8 ((d[i].toNat : Nat) : Int)) := by
        rcases DB.out.shape with ⟨a3, c3, hv3, h0⟩ | ⟨b2, o2, c3, hv3, _, _, h3⟩
        · have := HK.out; rw [h0] at this; simp at this
        · cases hv3; exact ⟨b2, o2, rfl, h3⟩
      have CL := Lib.hid hcl
      have X1 := Lib.hid x1
      have K2 := Lib.hid k2
      clear hcl RE
      go_wp2_with fail
      go_loopw [11] (fun i W => ∃ j : Nat, i = .int .i64 ((2 * j : Nat) : Int) ∧ j ≤ 3 ∧ keysTo dd d j = true ∧ Below w1.heap.size w1 W) (fun i _ => 2 * 3 + 2 - (intOf i).toNat)
      case atStart => exact ⟨0, rfl, Nat.zero_le _, rfl, Below.refl _ _⟩
      case round =>
        obtain ⟨j, rfl, hj, hkt, hbw⟩ := hrel
        have BW := Lib.hid hbw
        have BR : Hid (Below w.heap.size w wr) := Lib.hid (B1.out.trans (hbw.mono B1.out.size))
        clear hbw
        by_cases hjm : j < 3
        · have h0 : 2 * j < d.length := by rw [HK.out]; omega
          have h1 : 2 * j + 1 < d.length := by rw [HK.out]; omega
          have c0 := cell_old BW.out (CL.out (2 * j) h0)
          have c1 := cell_old BW.out (CL.out (2 * j + 1) h1)
          have y1 := cell_old BW.out X1.out
          have y2 := cell_old BW.out K2.out
          obtain ⟨x0, hx0⟩ : ∃ q, (d[2 * j]'h0).toNat = q := ⟨_, rfl⟩
          obtain ⟨x1', hx1⟩ : ∃ q, (d[2 * j + 1]'h1).toNat = q := ⟨_, rfl⟩
          have KT := keysTo_at dd d j h0 h1 hx0 hx1 hkt
          have bb : x0 < 256 ∧ x1' < 256 := ⟨by rw [← hx0]; exact (d[2 * j]'h0).toNat_lt, by rw [← hx1]; exact (d[2 * j + 1]'h1).toNat_lt⟩
          rw [hx0] at c0
          rw [hx1] at c1
          obtain ⟨i2, hi2⟩ : ∃ q, 2 * j = q := ⟨_, rfl⟩
          have HI2 := Lib.hid hi2
          rw [hi2] at c0 c1 ⊢
          obtain ⟨z, hz, gx0, gx1, gm, gz, gi, gi2⟩ := byteFacts x0 x1' i2 bb.1 bb.2 (by omega)
          rw [← hz] at KT
          obtain ⟨g, hg⟩ : ∃ g, decide (z < 2 ^ dd) = g := ⟨_, rfl⟩
          rw [hg] at KT
          obtain ⟨p, hp⟩ : ∃ p, 2 ^ dd = p := ⟨_, rfl⟩
          rw [hp] at hg
          obtain ⟨gg, gg'⟩ := geB p z hg
          have il1 : (i2 : Int) < 6 := by omega
          obtain ⟨i3, hi3⟩ : ∃ q, i2 + 1 = q := ⟨_, rfl⟩
          rw [hi3] at c1
          have gi3 : IntKind.i64.wrap ((i2 : Int) + 1) = (i3 : Int) := by rw [gi]; omega
          have il2 : (i3 : Int) < 6 := by omega
          have f1 : decide ((i2 : Int) < 6) = true := decide_eq_true il1
          have f2 : decide (i2 < 6) = true := decide_eq_true (by omega)
          have HKT := Lib.hid KT
          have HJM := Lib.hid hjm
          have PA : Hid (∀ Y, (Y.cell? ⟨w.heap.size + 1, 1, none⟩ = some (.slice (some ⟨b2, o2, none⟩) 6 c') ∧ Y.cell? ⟨b2, o2 + i2, none⟩ = some (.int .u8 (x0 : Int)) ∧ Y.cell? ⟨b2, o2 + i3, none⟩ = some (.int .u8 (x1' : Int)) ∧ Y.cell? ⟨w.heap.size, 2, none⟩ = some (.int .i64 (dd : Int)) ∧ Below wr.heap.size wr Y) → Calls Tryd.prog 36 #[.int .i64 (dd : Int)] Y fun e w' => e = .returned (.int .i64 (p : Int)) ∧ (w'.cell? ⟨w.heap.size + 1, 1, none⟩ = some (.slice (some ⟨b2, o2, none⟩) 6 c') ∧ w'.cell? ⟨b2, o2 + i2, none⟩ = some (.int .u8 (x0 : Int)) ∧ w'.cell? ⟨b2, o2 + i3, none⟩ = some (.int .u8 (x1' : Int)) ∧ w'.cell? ⟨w.heap.size, 2, none⟩ = some (.int .i64 (dd : Int)) ∧ Below wr.heap.size wr w')) := Lib.hid (fun Y hY => by
            refine (power_any dd Y HDD.out).mono ?_
            rintro e w' ⟨rfl, rfl⟩
            rw [hp]
            exact ⟨rfl, hY⟩)
          clear hx0 hx1 hkt bb hi2 hz hg hp KT hjm h0 h1 gi hi3
          go_upto_region 28 with (fail)
          refine wp_region_q (fun Y => Y.cell? ⟨w.heap.size + 1, 1, none⟩ = some (.slice (some ⟨b2, o2, none⟩) 6 c') ∧ Y.cell? ⟨b2, o2 + i2, none⟩ = some (.int .u8 (x0 : Int)) ∧ Y.cell? ⟨b2, o2 + i3, none⟩ = some (.int .u8 (x1' : Int)) ∧ Y.cell? ⟨w.heap.size, 2, none⟩ = some (.int .i64 (dd : Int)) ∧ Below wr.heap.size wr Y) (by kernel_rfl) (by kernel_rfl) ⟨cell_old (Below.refl _ _).drew y1, cell_old (Below.refl _ _).drew c0, cell_old (Below.refl _ _).drew c1, cell_old (Below.refl _ _).drew y2, (Below.refl _ _).drew⟩ ?_
          clear y1 y2 c0 c1
          repeat
            first
            | go_big_quiet_skip
            | (go_big_quiet_want
               first
               | (go_big_quiet_op; go_big_quiet_on)
               | (apply Exists.intro
                  refine ⟨fun X hX => ?_, ?_⟩
                  · have hXX := Lib.hid hX
                    obtain ⟨q0, q1, q2, q3, eZ⟩ := hX
                    clear eZ
                    unfold Oper.quietAt
                    go_simp
                    first
                    | (go_at_call 36; exact PA.out _ hXX.out)
                    | exact ⟨rfl, hXX.out⟩
                    | exact ⟨rfl, rfl⟩
                    | exact rfl
                  go_big_quiet_on
                  try simp only [Act.put, List.setIfInBounds_toArray, List.set_cons_zero, List.set_cons_succ]))
          refine wpQuiet_nil ?_
          rintro Y ⟨-, -, -, -, hbY⟩
          have BY : Hid (Below w1.heap.size w1 Y) := Lib.hid (BW.out.trans (hbY.mono BW.out.size))
          clear hbY
          cases g
          · have RF : Hid (wrongB 2 (dd : Int) pre (nm, d) = true) := Lib.hid (by rw [RE2.out, keysTo_false dd d (j + 1) 3 HKT.out HJM.out]; rfl)
            go_wp2_with fail
            go_ret
            exact ⟨rb RF.out.symm, B1.out.trans (BY.out.mono B1.out.size)⟩
          · go_wp2_with fail
            go_roundw
            case rel => exact ⟨j + 1, by rw [show ((2 * (j + 1) : Nat) : Int) = (i2 : Int) + 2 by have := HI2.out; omega], HJM.out, HKT.out, BY.out⟩
            case measure => simp [intOf]; have := HI2.out; have := HJM.out; omega
        · obtain rfl : j = 3 := by omega
          have RF : Hid (wrongB 2 (dd : Int) pre (nm, d) = false) := Lib.hid (by rw [RE2.out, hkt]; rfl)
          clear hkt
          go_wp2_with fail
          go_ret
          exact ⟨rb RF.out.symm, B1.out.trans (BW.out.mono B1.out.size)⟩
    · have RE2 : Hid (wrongB 6 (dd : Int) pre (nm, d) = true) := Lib.hid (by rw [RE.out]; unfold trnsBad; rw [if_neg (by decide)]; simp)
      go_wp2_with fail
      go_ret
      exact ⟨rb RE2.out.symm, B1.out⟩
  have z1 : ((strOf nm).toList == [80, 76, 84, 69]) = false := by rw [strOf_toList, beq_eq_false_iff_ne]; exact hP
  have z2 : ((strOf nm).toList == [73, 68, 65, 84]) = false := by rw [strOf_toList, beq_eq_false_iff_ne]; exact hI
  have z3 : ((strOf nm).toList == [104, 73, 83, 84]) = false := by rw [strOf_toList, beq_eq_false_iff_ne]; exact hH
  have z4 : ((strOf nm).toList == [116, 82, 78, 83]) = false := by rw [strOf_toList, beq_eq_false_iff_ne]; exact hT
  have RE : Hid (wrongB C D pre (nm, d) = false) := Lib.hid (by rw [WX.out, if_neg hP, if_neg hI, if_neg hH, if_neg hT])
  clear hP hI hH hT
  go_wp2_with fail
  go_ret
  exact ⟨rb RE.out.symm, B1.out⟩
end Go.Proofs.YtlgjjoglajgbeaaDoor
