/- ChunkWrites: the law's walk. By an AI agent. -/
import Derived.Test.YtmdbnnnaiidheaaLawC4
import Derived.Deep.RegionLawGrows
namespace Go.Proofs.Ytmdbnnnaiidheaa
open Go.RowKit Go.BigFrame
set_option linter.unusedVariables false
set_option linter.unusedSimpArgs false

theorem step_app {P : Program} {w : World} {ops : Array Oper} {o : Oper} {a : Act} {K : Act → World → Prop} {Q : Exit → Act → World → Prop} {E : Prop} {t e : TypeId} {z : Value} {size bytes : Nat} (T : ElemTy P t e z size bytes) (hgd : o.guard = none) (s x : Operand)
    (ho : o.op = .call { callee := .builtin .append, args := #[s, x], argTypes := #[t, t] }) (base : Nat)
    (v : Value) (n : Nat) (xs : List Value) (hs : a.eval s = v) (hown : w.ownsRow base e size v n xs) (src : Value) (m : Nat) (news : List Value) (hx : a.eval x = src) (hsrc : SlN size w src m news) (h1 : ∀ u ∈ news, u.oneCell' = true)
    (hbytes : (n + m) * bytes ≤ 140737488355328) (h63 : n + m ≤ 140737488355328) (hbase : base ≤ w.heap.size)
    (h : ∀ v' w', w'.ownsRow base e size v' (n + m) (xs ++ news) → w.grownBy w' v.ownBlock → K (a.put o.dst v') w') :
    if Region.wanted o (yielded ops a.tmps) = true then Oper.wp P o a w K Q else E := by
  have hw : Region.wanted o (yielded ops a.tmps) = true := by simp [Region.wanted, hgd]
  rw [if_pos hw]
  obtain ⟨v', w', hr, h2, h3, h4⟩ := run_app (P := P) w T o.type base v n xs hown src m news hsrc h1 hbytes h63 hbase
  unfold Oper.wp execOp
  simp only [ho, resolve, invoke, builtin, Sem.run_bind, Sem.run_pure, Result.andThen_ok, List.map_toArray, List.map_cons, List.map_nil, hs, hx, hr]
  exact h v' w' h2 h3

/-! ## a list of copies -/
structure CpV (base : Nat) (w : World) (v : Value) (ps : List ChP) : Prop where
  row : w.ownsRow base 39 2 v ps.length (cellsP ps)
  data : ∀ p ∈ ps, ∃ g, Cp w p.2 g p.1.2
theorem Cp.grown {w w' : World} {u v : Value} {g base n : Nat} {l : List UInt8} {xs : List Value} (h : Cp w u g l) (ho : w.ownsRow base 39 2 v n xs) (hg : w.grownBy w' v.ownBlock) : Cp w' u g l := by
  refine ⟨h.1, ?_⟩
  rw [hg.block g (Array.getElem?_eq_some_iff.1 h.2).1 ?_]
  · exact h.2
  · rcases ho.2 with ⟨rfl, _⟩ | ⟨g', cap', cur', rfl, _, hg', _⟩
    · simp [Value.ownBlock]
    · intro e
      simp only [Value.ownBlock, Option.some.injEq] at e
      subst e
      have := h.2
      rw [hg'] at this
      simp only [Option.some.injEq, Obj.cells.injEq] at this
      exact absurd this.2.1 (by decide)
theorem CpV.old {base : Nat} {w w' : World} {v : Value} {ps : List ChP} (h : CpV base w v ps) (hb : Below w.heap.size w w') : CpV base w' v ps :=
  ⟨owns_below h.row hb, fun p hp => let ⟨g, hc⟩ := h.data p hp; ⟨g, hc.old hb⟩⟩
theorem CpV.snoc {base : Nat} {w w' : World} {v v' : Value} {ps : List ChP} {p : ChP} {g : Nat} (h : CpV base w v ps) (hp : Cp w p.2 g p.1.2) (hg : w.grownBy w' v.ownBlock) (ho : w'.ownsRow base 39 2 v' (ps.length + 1) (cellsP ps ++ [.string (strOf p.1.1), p.2])) : CpV base w' v' (ps ++ [p]) := by
  refine ⟨by rw [List.length_append, cellsP_snoc]; exact ho, fun q hq => ?_⟩
  rw [List.mem_append] at hq
  rcases hq with hq | hq
  · obtain ⟨g', hc⟩ := h.data q hq
    exact ⟨g', hc.grown h.row hg⟩
  · have : q = p := by simpa using hq
    subst this
    exact ⟨g, hp.grown h.row hg⟩
theorem CpV.bs {base : Nat} {w : World} {v : Value} {ps : List ChP} (h : CpV base w v ps) : Cks w v (ps.map (·.1)) := by
  have h1 := sl_of_owns h.row
  rcases h1.2 with ⟨a, cap, rfl, h0⟩ | ⟨b, off, cap, rfl, hc, hn, hx⟩
  · have : ps = [] := List.eq_nil_of_length_eq_zero h0
    subst this
    exact ⟨a, cap, rfl, fun i hi => absurd hi (Nat.not_lt_zero i)⟩
  · refine ⟨some ⟨b, off, none⟩, cap, by simp, fun i hi => ?_⟩
    have hi' : i < ps.length := by simpa using hi
    obtain ⟨e1, e2⟩ := cellsP_at ps i hi'
    refine ⟨b, off, ps[i].2, rfl, ?_, ?_, ?_⟩
    · rw [hx _ _ e1]; simp
    · rw [Nat.add_assoc, hx _ _ e2]
    · obtain ⟨g, hc⟩ := h.data ps[i] (List.getElem_mem _)
      simpa using hc.bs
theorem CpV.at {base : Nat} {w : World} {v : Value} {ps : List ChP} (h : CpV base w v ps) (i : Nat) (hi : i < ps.length) : ∃ b off cap g, v = .slice (some ⟨b, off, none⟩) ps.length cap ∧ w.cell? ⟨b, off + i * 2, none⟩ = some (.string (strOf ps[i].1.1)) ∧ w.cell? ⟨b, off + i * 2 + 1, none⟩ = some ps[i].2 ∧ Cp w ps[i].2 g ps[i].1.2 := by
  have h1 := sl_of_owns h.row
  rcases h1.2 with ⟨a, cap, rfl, h0⟩ | ⟨b, off, cap, rfl, hc, hn, hx⟩
  · omega
  · obtain ⟨e1, e2⟩ := cellsP_at ps i hi
    obtain ⟨g, hc⟩ := h.data ps[i] (List.getElem_mem _)
    exact ⟨b, off, cap, g, rfl, by rw [hx _ _ e1], by rw [Nat.add_assoc, hx _ _ e2], hc⟩
theorem sl_two {w : World} (u v : Value) (e : TypeId) : SlN 2 (w.alloc (.cells #[u, v] e)) (.slice (some ⟨w.heap.size, 0, none⟩) 1 1) 1 [u, v] := by
  have h := World.ownsRow_lit (base := 0) (e := e) (size := 2) w #[u, v] 1 (Nat.zero_le _) (by unfold maxLen; omega) (by simp)
  exact sl_of_owns h
theorem one_two (s : List UInt8) (b : Nat) (n c : Nat) : ∀ u ∈ [Value.string (strOf s), .slice (some ⟨b, 0, none⟩) n c], u.oneCell' = true := by
  intro u hu; simp at hu; rcases hu with rfl | rfl <;> rfl
def CRel (base : Nat) (ls : List Chk) (w0 : World) (o i : Value) (W : World) : Prop :=
  ∃ ps : List ChP, i = .int .i64 (ps.length : Nat) ∧ ps.map (·.1) = ls.take ps.length ∧ ps.length ≤ ls.length ∧ CpV base W o ps ∧ Below base w0 W
set_option maxRecDepth 20000 in
set_option maxHeartbeats 6400000 in
theorem lawWrites_any (v : Value) (ls : List Chk) (w : World) (hc : Cks w v ls) (hcl : ls.length ≤ 140737488351232) (hcn : ∀ c ∈ ls, c.1.length ≤ 140737488351232) (hcd : ∀ c ∈ ls, c.2.length ≤ 140737488351232) :
    Calls Try.prog 4 #[v] w fun e w' => e = .returned (.bool true) ∧ Below w.heap.size w w' := by
  have HC := Lib.hid hc
  have LG := Lib.hid (fun W hW => large_any v ls W (hc.old hW) hcl hcn hcd)
  obtain ⟨av, cv, rfl, hx⟩ := hc
  have HX := Lib.hid hx
  clear hcl hcn hcd hx
  go_enter Try.func4, Try.ntmps4
  go_wp2_with fail
  refine (alive_any _).mono ?_; rintro e w1 ⟨rfl, hb1⟩
  have B1 := Lib.hid hb1
  clear hb1
  go_wp2_with fail
  refine (LG.out _ B1.out).mono ?_; rintro e w2 ⟨rfl, hb2⟩
  have B2 := Lib.hid (B1.out.trans (hb2.mono B1.out.size))
  clear hb2
  rcases hlg : largeB ls with _ | _
  rotate_left
  · clear hlg
    go_wp2_with fail
    go_ret
    exact ⟨rfl, B2.out⟩
  have SP := Lib.hid (small_parts hlg)
  clear hlg
  go_wp2_with fail
  have HS2 : Hid (w.heap.size ≤ w2.heap.size) := Lib.hid B2.out.size
  have hl6 : ls.length ≤ 1000000 := SP.out.1
  go_loopw [3, 17] (fun o i W => CRel w.heap.size ls w o i W) (fun _ i _ => measL ls.length i)
  case atStart => exact ⟨[], rfl, rfl, Nat.zero_le _, ⟨World.ownsRow_lit (size := 2) w2 #[] 0 HS2.out (by unfold maxLen; omega) rfl, fun p hp => by simp at hp⟩, B2.out.alloc B2.out.size _⟩
  case round =>
    obtain ⟨ps, rfl, hps, hpl, hcp, hbel⟩ := hrel
    have CP := Lib.hid hcp
    have BE := Lib.hid hbel
    have PS := Lib.hid hps
    obtain ⟨j, hj⟩ : ∃ j, ps.length = j := ⟨_, rfl⟩
    rw [hj] at PS hpl ⊢
    have HJ := Lib.hid hj
    clear hj
    by_cases hjl : j < ls.length
    · obtain ⟨b, off, x, rfl, hc0, hc1, hbx⟩ := HX.out j hjl
      have p0 := cell_old hbel hc0
      have p1 := cell_old hbel hc1
      have e1 : decide ((j : Int) < (ls.length : Int)) = true := by rw [decide_eq_true_eq]; omega
      have e2 : decide (j < ls.length) = true := by rw [decide_eq_true_eq]; omega
      obtain ⟨⟨nm, dt⟩, hcc⟩ : ∃ c, ls[j] = c := ⟨_, rfl⟩
      have LC := Lib.hid (show ls.take (j + 1) = ls.take j ++ [(nm, dt)] by rw [List.take_succ_eq_append_getElem hjl, hcc])
      have DL := Lib.hid (SP.out.2.2.1 _ (List.getElem_mem hjl))
      rw [hcc] at p0 hbx DL
      simp only at p0 hbx DL
      obtain ⟨a', c', rfl⟩ := hbx.len
      obtain ⟨n, hn⟩ : ∃ n, dt.length = n := ⟨_, rfl⟩
      rw [hn] at p1 hbx
      obtain ⟨X, hX⟩ : ∃ X, wr.alloc (.cells #[.string (strOf nm), .slice a' n c'] 39) = X := ⟨_, rfl⟩
      obtain ⟨B, hB⟩ : ∃ B, wr.heap.size = B := ⟨_, rfl⟩
      have HXX : Hid (X.heap[B]? = some (.cells #[.string (strOf nm), .slice a' n c'] 39 (0, 0))) := Lib.hid (by rw [← hX, ← hB]; exact heap_alloc_new _ _)
      have BX : Hid (Below w.heap.size w X) := Lib.hid (by rw [← hX]; exact hbel.alloc hbel.size _)
      have CX : Hid (CpV w.heap.size X u3 ps) := Lib.hid (by rw [← hX]; exact hcp.old ((Below.refl _ _).alloc (Nat.le_refl _) _))
      have KEEP : Hid (∀ W, Below X.heap.size X W → W.cell? ⟨B, 0, none⟩ = some (.string (strOf nm)) ∧ W.cell? ⟨B, 1, none⟩ = some (.slice a' n c')) := Lib.hid (fun W hW => let r := resB_of (heap_low HXX.out hW); ⟨r.1, r.2.1⟩)
      have DX : Hid (Bs X (.slice a' n c') dt) := Lib.hid (by have := hbx.old BX.out; exact this)
      have HL2 : Hid (j + 1 ≤ 1000000) := Lib.hid (by omega)
      clear hc0 hc1 hbx hcp hbel hps hcc hn
      have hpn : ps.length ≤ 1000000 := by have := HJ.out; omega
      go_upto_region 9 with (fail)
      obtain ⟨y0, y1⟩ := KEEP.out _ (Below.refl X.heap.size X).drew
      go_region_law ((first | (refine step_app tyC rfl _ _ rfl w.heap.size _ _ (cellsP ps) rfl (owns_below (by assumption) ((Below.refl _ _).alloc (Nat.le_refl _) _)) _ 1 _ rfl (sl_two _ _ _) (one_two _ _ _ _) (by omega) (by omega) (Nat.le_trans (by assumption) (by simp)) ?_; intro v5 w5 hown5 hg5) | (go_simp; go_at_call 10; refine (copy_any _ dt _ ((DX.out.old (Below.refl X.heap.size X).drew)) DL.out).mono ?_; rintro e w4 ⟨v4, rfl, hc4, hb4, hz4⟩; have hb4' : Below X.heap.size X w4 := (Below.refl X.heap.size X).drew.trans (hb4.mono (Nat.le_refl _)); obtain ⟨z0, z1⟩ := KEEP.out _ hb4'; have hw4 : w.heap.size ≤ w4.heap.size := Nat.le_trans BX.out.size hb4'.size; have ho4 := owns_below CX.out.row hb4'; have hb4w : Below w.heap.size w w4 := BX.out.trans (hb4'.mono BX.out.size); have cx4 : Hid (CpV w.heap.size w4 u3 ps) := Lib.hid (CX.out.old hb4'); obtain ⟨hv4, hg4⟩ := hc4; subst hv4; have hc5 : Hid (Cp w4 (.slice (some ⟨X.heap.size, 0, none⟩) dt.length (dt.length + 2)) X.heap.size dt) := Lib.hid ⟨rfl, hg4⟩)))
      all_goals
        have H5 := Lib.hid hown5
        have G5 := Lib.hid hg5
        have B4 := Lib.hid hb4w
        have O4 := Lib.hid ho4
        clear hown5 hg5 hb4w ho4 hg4 hb4 hb4' hw4 hz4
        go_wp2_with fail
        go_roundw
        case rel =>
          refine ⟨ps ++ [((nm, dt), .slice (some ⟨X.heap.size, 0, none⟩) dt.length (dt.length + 2))], ?_, ?_, ?_, ?_, ?_⟩
          · rw [List.length_append, HJ.out]; exact vi (by simp)
          · rw [List.map_append, List.length_append, HJ.out, PS.out]; exact LC.out.symm
          · rw [List.length_append, HJ.out]; exact hjl
          · exact CpV.snoc (p := ((nm, dt), .slice (some ⟨X.heap.size, 0, none⟩) dt.length (dt.length + 2))) (cx4.out.old ((Below.refl _ _).alloc (Nat.le_refl _) _)) (hc5.out.old ((Below.refl _ _).alloc (Nat.le_refl _) _)) G5.out H5.out
          · exact run_app_below (w0 := w) (owns_below O4.out ((Below.refl _ _).alloc (Nat.le_refl _) _)) G5.out (B4.out.alloc B4.out.size _) (Nat.le_refl _)
        case measure => simp [measL, intOf]; omega
    · obtain rfl : j = ls.length := by omega
      have e1 : decide ((ls.length : Int) < (ls.length : Int)) = false := by rw [decide_eq_false_iff_not]; omega
      have PM : Hid (ps.map (·.1) = ls) := Lib.hid (by rw [PS.out, List.take_length])
      have CK := Lib.hid (show Cks wr u3 ls by have := CP.out.bs; rwa [PM.out] at this)
      have hrow := CP.out.row
      rw [HJ.out] at hrow
      obtain ⟨a3, c3, rfl⟩ := owns_len hrow
      clear hcp hbel hps hrow PS
      go_wp2_with fail
      refine (write_any _ ls _ CK.out SP.out.1 SP.out.2.1 SP.out.2.2.1).mono ?_
      rintro e w4 ⟨v4, rfl, hv4, hb4⟩
      have V4 := Lib.hid hv4
      have B4 : Hid (Below w.heap.size w w4) := Lib.hid (BE.out.trans (hb4.mono BE.out.size))
      have C4 := Lib.hid (CP.out.old hb4)
      have HS4 : Hid (w.heap.size ≤ w4.heap.size) := Lib.hid B4.out.size
      obtain ⟨E, hE⟩ : ∃ E, errV ((writeC ls : Nat) : Int) = E := ⟨_, rfl⟩
      rw [hE]
      have HE := Lib.hid hE
      clear hv4 hb4 hE CP CK
      go_wp2_with fail
      go_loopw [38] (fun i W => ∃ k : Nat, i = .int .i64 (k : Nat) ∧ k ≤ ls.length ∧ Below w4.heap.size w4 W) (fun i _ => measL ls.length i)
      case atStart => exact ⟨0, rfl, Nat.zero_le _, Below.refl _ _⟩
      case round =>
        obtain ⟨k, rfl, hkl, hbel⟩ := hrel
        have BL := Lib.hid hbel
        by_cases hk : k < ls.length
        · obtain ⟨b, off, x, rfl, hc0, hc1, hbx⟩ := HX.out k hk
          have hW : Below w.heap.size w wr := B4.out.trans (hbel.mono HS4.out)
          have p0 := cell_old hW hc0
          have p1 := cell_old hW hc1
          have hkp : k < ps.length := by rw [HJ.out]; exact hk
          obtain ⟨b3, o3, d3, g, hv3, q0, q1, hcp⟩ := (C4.out.old hbel).at k hkp
          have hpk : ps[k].1 = ls[k] := by
            have h1 := congrArg (fun l : List Chk => l[k]?) PM.out
            simp only [List.getElem?_map, List.getElem?_eq_getElem hkp, List.getElem?_eq_getElem hk, Option.map_some, Option.some.injEq] at h1
            exact h1
          simp only [Value.slice.injEq] at hv3
          obtain ⟨rfl, _, rfl⟩ := hv3
          rw [hpk] at q0 hcp
          obtain ⟨y, hy⟩ : ∃ y, ps[k].2 = y := ⟨_, rfl⟩
          rw [hy] at q1 hcp
          obtain ⟨⟨nm, dt⟩, hcc⟩ : ∃ c, ls[k] = c := ⟨_, rfl⟩
          have DL := Lib.hid (SP.out.2.2.1 _ (List.getElem_mem hk))
          rw [hcc] at p0 q0 hcp hbx DL
          simp only at p0 q0 hcp hbx DL
          have BX : Hid (Bs wr x dt) := Lib.hid (hbx.old hW)
          have CX := Lib.hid hcp
          obtain ⟨hyv, _⟩ := hcp
          subst hyv
          have e1 : decide ((k : Int) < (ls.length : Int)) = true := by rw [decide_eq_true_eq]; omega
          have e2 : decide (k < ls.length) = true := by rw [decide_eq_true_eq]; omega
          obtain ⟨a', c', rfl⟩ := hbx.len
          obtain ⟨X, hX⟩ : ∃ X, wr.alloc (.cells #[.string (strOf nm), .slice (some ⟨g, 0, none⟩) dt.length (dt.length + 2)] 39) = X := ⟨_, rfl⟩
          obtain ⟨B, hB⟩ : ∃ B, wr.heap.size = B := ⟨_, rfl⟩
          have HXX : Hid (X.heap[B]? = some (.cells #[.string (strOf nm), .slice (some ⟨g, 0, none⟩) dt.length (dt.length + 2)] 39 (0, 0))) := Lib.hid (by rw [← hX, ← hB]; exact heap_alloc_new _ _)
          have bx : Below wr.heap.size wr X := by rw [← hX]; exact (Below.refl _ _).alloc (Nat.le_refl _) _
          obtain ⟨r0, r1, _, _⟩ := resB_of HXX.out
          have p0' := cell_old bx p0
          have p1' := cell_old bx p1
          have KQ : Hid (∀ q, Calls Try.prog 15 #[.slice (some ⟨g, 0, none⟩) dt.length (dt.length + 2), .slice a' dt.length c'] (X.drewN q) fun e w' => e = .returned (.bool true) ∧ w' = X.drewN q) := Lib.hid (fun q => (kept_any _ _ g dt _ (CX.out.old (below_drewN bx q)) (BX.out.old (below_drewN bx q)) DL.out).mono fun e w' ⟨h1, h2⟩ => ⟨h1, h2.symm⟩)
          have BX4 : Hid (Below w4.heap.size w4 X) := Lib.hid (BL.out.trans (bx.mono BL.out.size))
          clear hc0 hc1 hbx hbel hpk hy hcc hW bx
          go_upto_region 15 with (fail)
          go_quiet ((go_at_call 15; exact Calls.quiet_of_same (KQ.out _)))
          go_wp2_with fail
          go_roundw
          case rel => exact ⟨k + 1, by go_num, by omega, below_drewN BX4.out _⟩
          case measure => simp [measL, intOf]; omega
        · obtain rfl : k = ls.length := by omega
          have e1 : decide ((ls.length : Int) < (ls.length : Int)) = false := by rw [decide_eq_false_iff_not]; omega
          have B5 : Hid (Below w.heap.size w wr) := Lib.hid (B4.out.trans (hbel.mono HS4.out))
          have V5 := Lib.hid (V4.out.old hbel)
          have SZ := Lib.hid (small_size SP.out.2.2.2)
          clear hbel
          go_wp2_with fail
          refine (refGood_any _ ls _ (HC.out.old B5.out) SP.out.1 SP.out.2.1).mono ?_; rintro e w6 ⟨rfl, rfl⟩
          rcases hg : goodL ls with _ | _
          · have W6 : writeC ls = 6 := by unfold writeC; rw [hg]; rfl
            have V6 := V5.out
            rw [W6, if_neg (by decide)] at V6
            have HE6 := HE.out
            rw [W6] at HE6
            obtain ⟨a6, c6, rfl⟩ := V6.len
            rw [List.length_nil]
            subst HE6
            clear hg W6 V6 V5 V4 HE
            go_wp2_with fail
            refine (is_any 6 6 _).mono ?_; rintro e w7 ⟨rfl, rfl⟩
            go_wp2_with fail
            go_ret
            exact ⟨rfl, B5.out⟩
          · have W6 : writeC ls = 0 := by unfold writeC; rw [hg, if_neg (by simp), if_neg (by have := SZ.out; omega)]
            have V6 := V5.out
            rw [W6, if_pos rfl] at V6
            have HE6 := HE.out
            rw [W6] at HE6
            have E0 : E = .nilIface := HE6.symm
            subst E0
            have V7 := Lib.hid V6
            have GD := Lib.hid hg
            obtain ⟨a6, c6, rfl⟩ := V6.len
            obtain ⟨n6, hn6⟩ : ∃ n, (writeL ls).length = n := ⟨_, rfl⟩
            rw [hn6] at V7 ⊢
            have WL := Lib.hid (writeL_size hg SZ.out)
            clear hg W6 V6 V5 V4 HE HE6 hn6
            go_wp2_with fail
            refine (refWrite_any _ ls _ (HC.out.old B5.out) SP.out.1 (good_named GD.out) (fun c hc => by have := sizeW_mem SZ.out c hc; omega) (by rw [WL.out]; have := SZ.out; omega)).mono ?_
            rintro e w8 ⟨v8, rfl, o8, hb8⟩
            have B8 := Lib.hid (B5.out.trans (hb8.mono B5.out.size))
            have V8 := Lib.hid (V7.out.old hb8)
            have O8 : Hid (Bs w8 v8 (writeL ls)) := Lib.hid (sl_of_owns o8)
            clear o8 hb8
            go_wp2_with fail
            refine (same_yes _ _ (writeL ls) _ V8.out O8.out).mono ?_; rintro e w9 ⟨rfl, rfl⟩
            go_wp2_with fail
            go_ret
            exact ⟨rfl, B8.out⟩
end Go.Proofs.Ytmdbnnnaiidheaa
