/- HeadOrders: the law's walk. By an AI agent. -/
import Derived.Test.YtlgjjoglajgbeaaDoorAliveH
import Derived.Test.YtlgjjoglajgbeaaDoorRefO
import Derived.Test.YtlgjjoglajgbeaaDoorBytesO
import Derived.Deep.RegionLawGrows
import Derived.Deep.DeepCutAuto
namespace Go.Proofs.YtlgjjoglajgbeaaDoor
open Go.RowKit Go.BigFrame
set_option linter.unusedVariables false
set_option linter.unusedSimpArgs false

def measL (L : Nat) (v : Value) : Nat := L - (intOf v).toNat
theorem owns_len {w : World} {base : Nat} {e : TypeId} {size : Nat} {v : Value} {n : Nat} {xs : List Value} (h : w.ownsRow base e size v n xs) : ∃ a c, v = .slice a n c := by
  rcases (sl_of_owns h).2 with ⟨a, c, hv, h0⟩ | ⟨b, off, c, hv, _⟩
  · exact ⟨a, c, by rw [hv, h0]⟩
  · exact ⟨_, c, hv⟩
theorem resB_of {w : World} {B : Nat} {u v : Value} (h : w.heap[B]? = some (.cells #[u, v] 26 (0, 0))) : w.cell? ⟨B, 0, none⟩ = some u ∧ w.cell? ⟨B, 1, none⟩ = some v ∧ w.frozen? ⟨B, 0, none⟩ = false ∧ w.frozen? ⟨B, 1, none⟩ = false :=
  ⟨by rw [cell_of_row _ _ 0 _ _ _ h]; rfl, by rw [cell_of_row _ _ 1 _ _ _ h]; rfl, frozen_of_row _ _ 0 _ _ h, frozen_of_row _ _ 1 _ _ h⟩
theorem orderV_cases (cs : List Chk) : ∃ a b c d e : Int, orderV cs = .agg #[.int .i64 a, .int .i64 b, .int .i64 c, .int .i64 d, .int .i64 e] := by
  unfold orderV takeV headV
  split
  · split
    · exact ⟨_, _, _, _, _, rfl⟩
    · exact ⟨_, _, _, _, _, rfl⟩
  · exact ⟨_, _, _, _, _, rfl⟩
def okS (c : Chk) : Bool := !decide (2000 < c.2.length) && !decide (100 < c.1.length)
theorem sixty (k : Nat) {g : Bool} (h : decide (60 < k + 1) = g) : decide ((60 : Int) < (k : Int) + 1) = g := by rw [← h, decide_eq_decide]; omega
theorem two_thousand (k : Nat) {g : Bool} (h : decide (2000 < k) = g) : decide ((2000 : Int) < (k : Int)) = g := by rw [← h, decide_eq_decide]; omega
theorem hundred (k : Nat) {g : Bool} (h : decide (100 < k) = g) : decide ((100 : Int) < (k : Int)) = g := by rw [← h, decide_eq_decide]; omega
theorem owns_cap {w : World} {base : Nat} {e : TypeId} {size : Nat} {a : Option Addr} {n cap : Nat} {xs : List Value} (h : w.ownsRow base e size (.slice a n cap) n xs) : n ≤ cap := by
  rcases (sl_of_owns h).2 with ⟨a', cap', hv, h0⟩ | ⟨b, off, cap', hv, hc, _, _⟩
  · omega
  · simp only [Value.slice.injEq] at hv; omega
set_option maxRecDepth 20000 in
set_option maxHeartbeats 12800000 in
theorem lawOrders_any (v : Value) (ls : List Chk) (w : World) (hc : Cks w v ls) (hcl : ls.length ≤ 140737488351232) (hcn : ∀ c ∈ ls, c.1.length ≤ 140737488351232) (hcd : ∀ c ∈ ls, c.2.length ≤ 140737488351232) (ht : TabP w) :
    Calls Tryd.prog 3 #[v] w fun e w' => e = .returned (.bool true) ∧ Below w.heap.size w w' := by
  have TB := Lib.hid ht
  have HC := Lib.hid hc
  have HCL := Lib.hid hcl
  have HCN := Lib.hid hcn
  have HCD := Lib.hid hcd
  obtain ⟨av, cv, rfl, hx⟩ := hc
  have HX := Lib.hid hx
  clear hcl hcn hcd hx ht
  go_enter Tryd.func3, Tryd.ntmps3
  go_wp2_with fail
  refine (alive_any _ TB.out).mono ?_; rintro e w1 ⟨rfl, hb1⟩
  have B1 := Lib.hid hb1
  clear hb1
  go_wp2_with fail
  go_loopw [3, 19] (fun n i W => ∃ k : Nat, n = .int .i64 (k : Nat) ∧ i = .int .i64 (k : Nat) ∧ k ≤ ls.length ∧ k ≤ 60 ∧ (∀ j, j < k → (h : j < ls.length) → okS ls[j] = true) ∧ Below w.heap.size w W) (fun _ i _ => measL ls.length i)
  case atStart => exact ⟨0, rfl, rfl, Nat.zero_le _, Nat.zero_le _, fun j h => absurd h (Nat.not_lt_zero j), B1.out⟩
  case round =>
    obtain ⟨k, rfl, rfl, hk, hk60, hok, hbel⟩ := hrel
    have OK := Lib.hid hok
    have BE := Lib.hid hbel
    have K60 := Lib.hid hk60
    clear hok
    by_cases hkl : k < ls.length
    · obtain ⟨b, off, x, rfl, hc0, hc1, hbx⟩ := HX.out k hkl
      have p0 := cell_old hbel hc0
      have p1 := cell_old hbel hc1
      have e1 : decide ((k : Int) < (ls.length : Int)) = true := by rw [decide_eq_true_eq]; omega
      have e2 : decide (k < ls.length) = true := by rw [decide_eq_true_eq]; omega
      obtain ⟨⟨nm, dt⟩, hcc⟩ : ∃ c, ls[k] = c := ⟨_, rfl⟩
      have NL := Lib.hid (HCN.out _ (List.getElem_mem hkl))
      have OKK : Hid (∀ h : k < ls.length, okS (ls[k]'h) = okS (nm, dt)) := Lib.hid (fun h => by rw [← hcc])
      rw [hcc] at p0 hbx NL
      simp only at p0 hbx NL
      obtain ⟨a', c', rfl⟩ := hbx.len
      have nsz : (strOf nm).size = nm.length := strOf_size nm
      obtain ⟨n, hn⟩ : ∃ n, dt.length = n := ⟨_, rfl⟩
      obtain ⟨m, hm⟩ : ∃ m, nm.length = m := ⟨_, rfl⟩
      rw [hn] at p1
      rw [hm] at nsz
      obtain ⟨X, hX⟩ : ∃ X, wr.alloc (.cells #[.string (strOf nm), .slice a' n c'] 26) = X := ⟨_, rfl⟩
      obtain ⟨B, hB⟩ : ∃ B, wr.heap.size = B := ⟨_, rfl⟩
      have BX : Hid (Below w.heap.size w X) := Lib.hid (by rw [← hX]; exact hbel.alloc hbel.size _)
      obtain ⟨r0, r1, _, _⟩ := resB_of (show X.heap[B]? = some (.cells #[.string (strOf nm), .slice a' n c'] 26 (0, 0)) by rw [← hX, ← hB]; exact heap_alloc_new _ _)
      obtain ⟨g1, hg1⟩ : ∃ g, decide (60 < k + 1) = g := ⟨_, rfl⟩
      obtain ⟨g2, hg2⟩ : ∃ g, decide (2000 < n) = g := ⟨_, rfl⟩
      obtain ⟨g3, hg3⟩ : ∃ g, decide (100 < m) = g := ⟨_, rfl⟩
      have gk : IntKind.i64.wrap ((k : Int) + 1) = (k : Int) + 1 := IntWalk.i64_in _ (by omega)
      have s1 := sixty k hg1
      have s2 := two_thousand n hg2
      have s3 := hundred m hg3
      have OKE : Hid (okS (nm, dt) = (!g2 && !g3)) := Lib.hid (by rw [← hg2, ← hg3, ← hn, ← hm]; rfl)
      have G1 := Lib.hid hg1
      have HKL := Lib.hid hkl
      clear hc0 hc1 hbx hcc hn hm hbel hk60 hkl
      go_upto_region 8 with (fail)
      clear p0 p1 e1 e2 hX hB
      go_cut [38] from 25 to 38 (fun c wx => c = .bool (g1 || g2 || g3) ∧ X = wx)
      case first =>
        cases g1 <;> cases g2 <;> cases g3
        all_goals
          go_wp2_with fail
          go_meet
          exact ⟨rfl, rfl⟩
      case rest =>
      obtain ⟨rfl, rfl⟩ := hcut
      obtain ⟨fl, hfl⟩ : ∃ q, (g1 || g2 || g3) = q := ⟨_, rfl⟩
      rw [hfl]
      clear s1 s2 s3 hg1 hg2 hg3
      cases fl with
      | true =>
        clear hfl
        go_wp2_with fail
        go_ret
        exact ⟨rfl, BX.out⟩
      | false =>
      simp only [Bool.or_eq_false_iff] at hfl
      obtain ⟨⟨rfl, rfl⟩, rfl⟩ := hfl
      have K61 : Hid (k + 1 ≤ 60) := Lib.hid (by have h := of_decide_eq_false G1.out; omega)
      go_wp2_with fail
      go_roundw
      case rel =>
        refine ⟨k + 1, by go_num, by go_num, HKL.out, K61.out, fun j hj h => ?_, BX.out⟩
        by_cases e : j = k
        · subst e; rw [OKK.out h, OKE.out]; rfl
        · exact OK.out j (by omega) h
      case measure => simp [measL, intOf]; have := HKL.out; omega
    · obtain rfl : k = ls.length := by omega
      have e1 : decide ((ls.length : Int) < (ls.length : Int)) = false := by rw [decide_eq_false_iff_not]; omega
      have SP : Hid (True ∧ True ∧ (∀ c ∈ ls, c.2.length ≤ 140737488351232) ∧ ls.length ≤ 60 ∧ (∀ c ∈ ls, c.2.length ≤ 2000) ∧ ∀ c ∈ ls, c.1.length ≤ 100) := Lib.hid (by
        have hall : ∀ c ∈ ls, okS c = true := fun c hc => by
          obtain ⟨i, hi, rfl⟩ := List.getElem_of_mem hc
          exact OK.out i hi hi
        refine ⟨trivial, trivial, HCD.out, hk60, fun c hc => ?_, fun c hc => ?_⟩
        · have := hall c hc; unfold okS at this; simp only [Bool.and_eq_true, Bool.not_eq_true', decide_eq_false_iff_not] at this; omega
        · have := hall c hc; unfold okS at this; simp only [Bool.and_eq_true, Bool.not_eq_true', decide_eq_false_iff_not] at this; omega)
      have hl60 : ls.length ≤ 60 := hk60
      have B2 := Lib.hid hbel
      have HS2 : Hid (w.heap.size ≤ wr.heap.size) := Lib.hid hbel.size
      clear hbel hk60 hk
      obtain ⟨w2, hw2⟩ : ∃ w2, wr = w2 := ⟨_, rfl⟩
      subst hw2
      go_wp2_with fail
      go_loopw [6, 43] (fun o i W => CRel w.heap.size ls w o i W) (fun _ i _ => measL ls.length i)
      case atStart => exact ⟨[], rfl, rfl, Nat.zero_le _, ⟨World.ownsRow_lit (size := 2) _ #[] 0 HS2.out (by unfold maxLen; omega) rfl, fun p hp => by simp at hp⟩, B2.out.alloc B2.out.size _⟩
      case round =>
        obtain ⟨ps, rfl, hps, hpl, hcp, hbel⟩ := hrel
        have CP := Lib.hid hcp
        have BE := Lib.hid hbel
        have PS := Lib.hid hps
        obtain ⟨j, hj⟩ : ∃ j, ps.length = j := ⟨_, rfl⟩
        rw [hj] at PS hpl ⊢
        have HJ := Lib.hid hj
        clear hj
        by_cases hjl : j < ls.length
        · obtain ⟨b, off, x, rfl, hc0, hc1, hbx⟩ := HX.out j hjl
          have p0 := cell_old hbel hc0
          have p1 := cell_old hbel hc1
          have e1 : decide ((j : Int) < (ls.length : Int)) = true := by rw [decide_eq_true_eq]; omega
          have e2 : decide (j < ls.length) = true := by rw [decide_eq_true_eq]; omega
          obtain ⟨⟨nm, dt⟩, hcc⟩ : ∃ c, ls[j] = c := ⟨_, rfl⟩
          have LC := Lib.hid (show ls.take (j + 1) = ls.take j ++ [(nm, dt)] by rw [List.take_succ_eq_append_getElem hjl, hcc])
          have DL := Lib.hid (SP.out.2.2.1 _ (List.getElem_mem hjl))
          rw [hcc] at p0 hbx DL
          simp only at p0 hbx DL
          obtain ⟨a', c', rfl⟩ := hbx.len
          obtain ⟨n, hn⟩ : ∃ n, dt.length = n := ⟨_, rfl⟩
          rw [hn] at p1 hbx
          obtain ⟨X, hX⟩ : ∃ X, wr.alloc (.cells #[.string (strOf nm), .slice a' n c'] 26) = X := ⟨_, rfl⟩
          obtain ⟨B, hB⟩ : ∃ B, wr.heap.size = B := ⟨_, rfl⟩
          have HXX : Hid (X.heap[B]? = some (.cells #[.string (strOf nm), .slice a' n c'] 26 (0, 0))) := Lib.hid (by rw [← hX, ← hB]; exact heap_alloc_new _ _)
          have BX : Hid (Below w.heap.size w X) := Lib.hid (by rw [← hX]; exact hbel.alloc hbel.size _)
          have CX : Hid (CpV w.heap.size X u6 ps) := Lib.hid (by rw [← hX]; exact hcp.old ((Below.refl _ _).alloc (Nat.le_refl _) _))
          have KEEP : Hid (∀ W, Below X.heap.size X W → W.cell? ⟨B, 0, none⟩ = some (.string (strOf nm)) ∧ W.cell? ⟨B, 1, none⟩ = some (.slice a' n c')) := Lib.hid (fun W hW => let r := resB_of (heap_low HXX.out hW); ⟨r.1, r.2.1⟩)
          have DX : Hid (Bs X (.slice a' n c') dt) := Lib.hid (by have := hbx.old BX.out; exact this)
          have HL2 : Hid (j + 1 ≤ 1000000) := Lib.hid (by have := hl60; omega)
          clear hc0 hc1 hbx hcp hbel hps hcc hn
          have hpn : ps.length ≤ 1000000 := by have := HJ.out; have := hl60; omega
          go_upto_region 15 with (fail)
          obtain ⟨y0, y1⟩ := KEEP.out _ (Below.refl X.heap.size X).drew
          go_region_law ((first | (refine step_app tyC rfl _ _ rfl w.heap.size _ _ (cellsP ps) rfl (owns_below (by assumption) ((Below.refl _ _).alloc (Nat.le_refl _) _)) _ 1 _ rfl (sl_two _ _ _) (one_two _ _ _ _) (by omega) (by omega) (Nat.le_trans (by assumption) (by simp)) ?_; intro v5 w5 hown5 hg5) | (go_simp; go_at_call 5; refine (copy_any _ dt _ ((DX.out.old (Below.refl X.heap.size X).drew)) DL.out).mono ?_; rintro e w4 ⟨v4, rfl, hc4, hb4, hz4⟩; have hb4' : Below X.heap.size X w4 := (Below.refl X.heap.size X).drew.trans (hb4.mono (Nat.le_refl _)); obtain ⟨z0, z1⟩ := KEEP.out _ hb4'; have hw4 : w.heap.size ≤ w4.heap.size := Nat.le_trans BX.out.size hb4'.size; have ho4 := owns_below CX.out.row hb4'; have hb4w : Below w.heap.size w w4 := BX.out.trans (hb4'.mono BX.out.size); have cx4 : Hid (CpV w.heap.size w4 u6 ps) := Lib.hid (CX.out.old hb4'); obtain ⟨hv4, hg4⟩ := hc4; subst hv4; have hc5 : Hid (Cp w4 (.slice (some ⟨X.heap.size, 0, none⟩) dt.length (dt.length + 2)) X.heap.size dt) := Lib.hid ⟨rfl, hg4⟩)))
          all_goals
            have H5 := Lib.hid hown5
            have G5 := Lib.hid hg5
            have B4 := Lib.hid hb4w
            have O4 := Lib.hid ho4
            clear hown5 hg5 hb4w ho4 hg4 hb4 hb4' hw4 hz4
            go_wp2_with fail
            go_roundw
            case rel =>
              refine ⟨ps ++ [((nm, dt), .slice (some ⟨X.heap.size, 0, none⟩) dt.length (dt.length + 2))], ?_, ?_, ?_, ?_, ?_⟩
              · rw [List.length_append, HJ.out]; exact vi (by simp)
              · rw [List.map_append, List.length_append, HJ.out, PS.out]; exact LC.out.symm
              · rw [List.length_append, HJ.out]; exact hjl
              · exact CpV.snoc (p := ((nm, dt), .slice (some ⟨X.heap.size, 0, none⟩) dt.length (dt.length + 2))) (cx4.out.old ((Below.refl _ _).alloc (Nat.le_refl _) _)) (hc5.out.old ((Below.refl _ _).alloc (Nat.le_refl _) _)) G5.out H5.out
              · exact run_app_below (w0 := w) (owns_below O4.out ((Below.refl _ _).alloc (Nat.le_refl _) _)) G5.out (B4.out.alloc B4.out.size _) (Nat.le_refl _)
            case measure => simp [measL, intOf]; omega
        · obtain rfl : j = ls.length := by omega
          have e1 : decide ((ls.length : Int) < (ls.length : Int)) = false := by rw [decide_eq_false_iff_not]; omega
          have PM : Hid (ps.map (·.1) = ls) := Lib.hid (by rw [PS.out, List.take_length])
          have CK := Lib.hid (show Cks wr u6 ls by have := CP.out.bs; rwa [PM.out] at this)
          have hrow := CP.out.row
          rw [HJ.out] at hrow
          obtain ⟨a3, c3, rfl⟩ := owns_len hrow
          have CAP := Lib.hid (owns_cap hrow)
          clear hcp hbel hps hrow PS
          obtain ⟨x0, x1, x2, x3, x4, hXV⟩ := orderV_cases ls
          have OA := Lib.hid (order_any _ c3 ls wr CK.out CAP.out (by have := SP.out.2.2.2.1; omega) SP.out.2.2.2.2.2 SP.out.2.2.2.2.1 (TB.out.old BE.out))
          have RA := Lib.hid (fun Wz (hz : Below w.heap.size w Wz) => refOrder_any _ _ ls Wz (HC.out.old hz) (by have := SP.out.2.2.2.1; omega) SP.out.2.2.2.2.2 SP.out.2.2.2.2.1)
          rw [hXV] at OA RA
          obtain ⟨oc, hoc⟩ : ∃ q, orderC ls = q := ⟨_, rfl⟩
          rw [hoc] at OA RA
          have HI : Hid ((Tryd.prog.info? 29).map (·.size) = some 5) := Lib.hid (by kernel_rfl)
          have H1 : Hid (∀ a0 a1 a2 a3 a4 : Int, (#[.int .i64 a0, .int .i64 a1, .int .i64 a2, .int .i64 a3, .int .i64 a4] : Array Value).all (·.oneCell') = true) := Lib.hid (fun a0 a1 a2 a3 a4 => by kernel_rfl)
          have FIN : Hid (∀ (W : World) (a0 a1 a2 a3 a4 : Int), Below w.heap.size w W → (W.alloc (.cells #[.int .i64 0, .int .i64 0, .int .i64 0, .int .i64 0, .int .i64 0] 29)).heap[W.heap.size]? = some (.cells #[.int .i64 0, .int .i64 0, .int .i64 0, .int .i64 0, .int .i64 0] 29 (0, 0)) ∧
              ∀ w5, (W.alloc (.cells #[.int .i64 0, .int .i64 0, .int .i64 0, .int .i64 0, .int .i64 0] 29)).setRow W.heap.size #[.int .i64 a0, .int .i64 a1, .int .i64 a2, .int .i64 a3, .int .i64 a4] = w5 →
              w5.heap[W.heap.size]? = some (.cells #[.int .i64 a0, .int .i64 a1, .int .i64 a2, .int .i64 a3, .int .i64 a4] 29 (0, 0)) ∧ Below w.heap.size w w5 ∧ Below W.heap.size W w5) := Lib.hid (fun W a0 a1 a2 a3 a4 hB => ⟨heap_alloc_new _ _, by
                rintro w5 rfl
                exact ⟨setRow_heap _ _ _ _ _ _ (heap_alloc_new _ _), below_setRow (hB.alloc hB.size _) hB.size _, below_setRow ((Below.refl _ _).alloc (Nat.le_refl _) _) (Nat.le_refl _) _⟩⟩)
          clear hXV hoc CK
          go_wp2_with fail
          refine OA.out.mono ?_
          rintro e w4 ⟨rfl, hb4⟩
          have L4 := Lib.hid (BE.out.trans (hb4.mono BE.out.size))
          have C4' := Lib.hid (CP.out.old hb4)
          clear hb4
          go_wp2_with (refine wpList_store_row rfl _ _ _ rfl w4.heap.size #[.int .i64 x0, .int .i64 x1, .int .i64 x2, .int .i64 x3, .int .i64 x4] rfl rfl 29 _ (FIN.out w4 0 0 0 0 0 L4.out).1 HI.out rfl (H1.out x0 x1 x2 x3 x4) ?_)
          obtain ⟨w5, hw5⟩ : ∃ w5, (w4.alloc (.cells #[.int .i64 0, .int .i64 0, .int .i64 0, .int .i64 0, .int .i64 0] 29)).setRow w4.heap.size #[.int .i64 x0, .int .i64 x1, .int .i64 x2, .int .i64 x3, .int .i64 x4] = w5 := ⟨_, rfl⟩
          rw [hw5]
          obtain ⟨hx5, hl5, hm5⟩ := (FIN.out w4 x0 x1 x2 x3 x4 L4.out).2 w5 hw5
          have X5 := Lib.hid hx5
          have L5 := Lib.hid hl5
          have C5' := Lib.hid (C4'.out.old hm5)
          clear hw5 hx5 hl5 hm5
          go_wp2_with fail
          refine (RA.out _ L5.out).mono ?_; rintro e w6 ⟨rfl, hb6⟩
          have X6 : Hid (w6.heap[w4.heap.size]? = some (.cells #[.int .i64 x0, .int .i64 x1, .int .i64 x2, .int .i64 x3, .int .i64 x4] 29 (0, 0))) := Lib.hid (heap_low X5.out hb6)
          have L6 := Lib.hid (L5.out.trans (hb6.mono L5.out.size))
          have C6' := Lib.hid (C5'.out.old hb6)
          clear hb6
          go_wp2_with (refine wpList_store_row rfl _ _ _ rfl w6.heap.size #[.int .i64 x0, .int .i64 x1, .int .i64 x2, .int .i64 x3, .int .i64 x4] rfl rfl 29 _ (FIN.out w6 0 0 0 0 0 L6.out).1 HI.out rfl (H1.out x0 x1 x2 x3 x4) ?_; refine stop ?_)
          refine unstop ?_
          obtain ⟨w7, hw7⟩ : ∃ w7, (w6.alloc (.cells #[.int .i64 0, .int .i64 0, .int .i64 0, .int .i64 0, .int .i64 0] 29)).setRow w6.heap.size #[.int .i64 x0, .int .i64 x1, .int .i64 x2, .int .i64 x3, .int .i64 x4] = w7 := ⟨_, rfl⟩
          rw [hw7]
          obtain ⟨hx7, hl7, hm7⟩ := (FIN.out w6 x0 x1 x2 x3 x4 L6.out).2 w7 hw7
          have X7 := Lib.hid hx7
          have Y7 : Hid (w7.heap[w4.heap.size]? = some (.cells #[.int .i64 x0, .int .i64 x1, .int .i64 x2, .int .i64 x3, .int .i64 x4] 29 (0, 0))) := Lib.hid (heap_low X6.out hm7)
          have B4 := Lib.hid hl7
          have C4 := Lib.hid (C6'.out.old hm7)
          have HS4 : Hid (w.heap.size ≤ w7.heap.size) := Lib.hid B4.out.size
          obtain ⟨T1, hT1⟩ : ∃ T, w4.heap.size = T := ⟨_, rfl⟩
          obtain ⟨T2, hT2⟩ : ∃ T, w6.heap.size = T := ⟨_, rfl⟩
          rw [hT1] at Y7 ⊢
          rw [hT2] at X7 ⊢
          clear hw7 hx7 hl7 hm7 OA RA FIN L4 C4' X5 L5 C5' X6 L6 C6' hT1 hT2 BE
          go_wp2_with fail
          go_loopw [69] (fun i W => ∃ k : Nat, i = .int .i64 (k : Nat) ∧ k ≤ ls.length ∧ Below w7.heap.size w7 W) (fun i _ => measL ls.length i)
          case atStart => exact ⟨0, rfl, Nat.zero_le _, Below.refl _ _⟩
          case round =>
            obtain ⟨k, rfl, hkl, hbel⟩ := hrel
            have BL := Lib.hid hbel
            by_cases hk : k < ls.length
            · obtain ⟨b, off, x, rfl, hc0, hc1, hbx⟩ := HX.out k hk
              have hW : Below w.heap.size w wr := B4.out.trans (hbel.mono HS4.out)
              have p0 := cell_old hW hc0
              have p1 := cell_old hW hc1
              have hkp : k < ps.length := by rw [HJ.out]; exact hk
              obtain ⟨b3, o3, d3, g, hv3, q0, q1, hcp⟩ := (C4.out.old hbel).at k hkp
              have hpk : ps[k].1 = ls[k] := by
                have h1 := congrArg (fun l : List Chk => l[k]?) PM.out
                simp only [List.getElem?_map, List.getElem?_eq_getElem hkp, List.getElem?_eq_getElem hk, Option.map_some, Option.some.injEq] at h1
                exact h1
              simp only [Value.slice.injEq] at hv3
              obtain ⟨rfl, _, rfl⟩ := hv3
              rw [hpk] at q0 hcp
              obtain ⟨y, hy⟩ : ∃ y, ps[k].2 = y := ⟨_, rfl⟩
              rw [hy] at q1 hcp
              obtain ⟨⟨nm, dt⟩, hcc⟩ : ∃ c, ls[k] = c := ⟨_, rfl⟩
              have DL := Lib.hid (SP.out.2.2.1 _ (List.getElem_mem hk))
              rw [hcc] at p0 q0 hcp hbx DL
              simp only at p0 q0 hcp hbx DL
              have BX : Hid (Bs wr x dt) := Lib.hid (hbx.old hW)
              have CX := Lib.hid hcp
              obtain ⟨hyv, _⟩ := hcp
              subst hyv
              have e1 : decide ((k : Int) < (ls.length : Int)) = true := by rw [decide_eq_true_eq]; omega
              have e2 : decide (k < ls.length) = true := by rw [decide_eq_true_eq]; omega
              obtain ⟨a', c', rfl⟩ := hbx.len
              obtain ⟨X, hX⟩ : ∃ X, wr.alloc (.cells #[.string (strOf nm), .slice (some ⟨g, 0, none⟩) dt.length (dt.length + 2)] 26) = X := ⟨_, rfl⟩
              obtain ⟨B, hB⟩ : ∃ B, wr.heap.size = B := ⟨_, rfl⟩
              have HXX : Hid (X.heap[B]? = some (.cells #[.string (strOf nm), .slice (some ⟨g, 0, none⟩) dt.length (dt.length + 2)] 26 (0, 0))) := Lib.hid (by rw [← hX, ← hB]; exact heap_alloc_new _ _)
              have bx : Below wr.heap.size wr X := by rw [← hX]; exact (Below.refl _ _).alloc (Nat.le_refl _) _
              obtain ⟨r0, r1, _, _⟩ := resB_of HXX.out
              have p0' := cell_old bx p0
              have p1' := cell_old bx p1
              have KQ : Hid (∀ q, Calls Tryd.prog 8 #[.slice (some ⟨g, 0, none⟩) dt.length (dt.length + 2), .slice a' dt.length c'] (X.drewN q) fun e w' => e = .returned (.bool true) ∧ w' = X.drewN q) := Lib.hid (fun q => (kept_any _ _ g dt _ (CX.out.old (below_drewN bx q)) (BX.out.old (below_drewN bx q)) DL.out).mono fun e w' ⟨h1, h2⟩ => ⟨h1, h2.symm⟩)
              have BX4 : Hid (Below w7.heap.size w7 X) := Lib.hid (BL.out.trans (bx.mono BL.out.size))
              clear hc0 hc1 hbx hbel hpk hy hcc hW bx
              go_upto_region 22 with (fail)
              go_quiet ((go_at_call 8; exact Calls.quiet_of_same (KQ.out _)))
              go_wp2_with fail
              go_roundw
              case rel => exact ⟨k + 1, by go_num, by omega, below_drewN BX4.out _⟩
              case measure => simp [measL, intOf]; omega
            · obtain rfl : k = ls.length := by omega
              have e1 : decide ((ls.length : Int) < (ls.length : Int)) = false := by rw [decide_eq_false_iff_not]; omega
              have B5 : Hid (Below w.heap.size w wr) := Lib.hid (B4.out.trans (hbel.mono HS4.out))
              obtain ⟨k0, k1, k2, k3, k4⟩ := box_of (heap_low Y7.out hbel)
              obtain ⟨m0, m1, m2, m3, m4⟩ := box_of (heap_low X7.out hbel)
              clear hbel
              go_wp2_with fail
              refine (num_any oc _).mono ?_; rintro e w11 ⟨rfl, rfl⟩
              go_wp2_with fail
              go_ret
              exact ⟨rfl, B5.out⟩
end Go.Proofs.YtlgjjoglajgbeaaDoor
