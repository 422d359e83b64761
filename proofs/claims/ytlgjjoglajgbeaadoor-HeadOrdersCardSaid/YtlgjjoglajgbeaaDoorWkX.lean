/- head's walk over chunks: a step (next). By an AI agent. -/
import Derived.Test.YtlgjjoglajgbeaaDoorWkM
import Derived.Test.YtlgjjoglajgbeaaDoorCrit
namespace Go.Proofs.YtlgjjoglajgbeaaDoor
open Go.RowKit Go.BigFrame
set_option linter.unusedVariables false
set_option linter.unusedSimpArgs false

def nextC (C D : Int) (f : List UInt8 → Nat) (pal : Nat) (en : Bool) (nm d : List UInt8) : Int :=
  if criticalB nm && !knownL.contains nm then 3 else if badW C D f pal en (nm, d) then 2 else 0
def palN (nm d : List UInt8) (pal : Nat) : Nat := if nm = nPLTE then d.length / 3 else pal
def enN (f : List UInt8 → Nat) (en : Bool) (nm : List UInt8) : Bool := en || (decide (0 < f nIDAT) && decide (nm ≠ nIDAT))
/-- what the drawn region reads -/
def NxC (w2 : World) (BX B M : Nat) (nm : List UInt8) (v : Value) (k : Nat) (Y : World) : Prop :=
  Y.cell? ⟨BX, 0, none⟩ = some (.string (strOf nm)) ∧ Y.cell? ⟨BX, 1, none⟩ = some v ∧ Y.cell? ⟨B, 5, none⟩ = some (.map (some M)) ∧ (Instr.lookup 45 (.map (some M)) (.string (strOf nm)) false).run Tryd.prog Y = .ok (.int .i64 (k : Nat)) Y ∧ Below w2.heap.size w2 Y
theorem wk_byte {w : World} {B M : Nat} {x y D C L : Int} {pal : Nat} {en : Bool} (h : Wk w B M x y D C L pal en) (i : Nat) (z : Int) : w.cell? ⟨B, i, none⟩ ≠ some (.int .u8 z) := by
  rw [cell_of_row _ _ i _ _ _ h]
  rcases (by omega : i = 0 ∨ i = 1 ∨ i = 2 ∨ i = 3 ∨ i = 4 ∨ i = 5 ∨ i = 6 ∨ i = 7 ∨ 8 ≤ i) with rfl | rfl | rfl | rfl | rfl | rfl | rfl | rfl | hi
  all_goals
    first
      | (simp; done)
      | (rw [Array.getElem?_eq_none (by simpa using hi)]; simp)
theorem map_cell {w : World} {M : Nat} {f : List UInt8 → Nat} {n : Nat} (h : CntM w M f n) (i : Nat) (u : Value) : w.cell? ⟨M, i, none⟩ ≠ some u := by
  obtain ⟨D, ⟨es, clock, h1, _⟩, _⟩ := h
  unfold World.cell?
  rw [h1]
  simp
theorem bs_keep {w w' : World} {v : Value} {d : List UInt8} {B M : Nat} {x y D C L : Int} {pal : Nat} {en : Bool} {f : List UInt8 → Nat} {n : Nat} (hb : Bs w v d) (hw : Wk w B M x y D C L pal en) (hm : CntM w M f n)
    (hk : ∀ z, z < w.heap.size → z ≠ B → z ≠ M → w'.heap[z]? = w.heap[z]?) : Bs w' v d := by
  refine ⟨hb.1, ?_⟩
  rcases hb.2 with h | ⟨b, off, cap, hv, hc, hn, hx⟩
  · exact .inl h
  · refine .inr ⟨b, off, cap, hv, hc, hn, fun i u hu => ?_⟩
    have h1 := hx i u hu
    obtain ⟨z, rfl⟩ : ∃ z, u = .int .u8 z := by
      unfold vBs at hu
      rw [List.getElem?_map] at hu
      rcases hd : d[i]? with _ | q
      · rw [hd] at hu; cases hu
      · rw [hd] at hu
        exact ⟨_, (Option.some.inj hu).symm⟩
    have hlt := World.block_lt_of_cell? _ _ h1
    rw [World.cell?_of_block (hk b hlt (fun e => wk_byte hw (off + i) z (e ▸ h1)) (fun e => map_cell hm (off + i) _ (e ▸ h1)))]
    exact h1
set_option maxRecDepth 20000 in
set_option maxHeartbeats 16000000 in
theorem next_any (nm d : List UInt8) (v : Value) (w : World) (B M : Nat) (x y D C L : Int) (pal : Nat) (en : Bool) (f : List UInt8 → Nat) (n : Nat) (hw : Wk w B M x y D C L pal en) (hm : CntM w M f n) (hMB : M < B) (hf : ∀ z, f z ≤ 1000) (hn : n ≤ 1000)
    (hb : Bs w v d) (hd : d.length ≤ 2000) (hl : nm.length ≤ 100) (hD : D ∈ depthsL C) (ht : TabP w) :
    Calls Tryd.prog 15 #[.pointer (some ⟨B, 0, none⟩), .agg #[.string (strOf nm), v]] w fun e w' =>
      e = .returned (errV (nextC C D f pal en nm d)) ∧ Below M w w' ∧ (nextC C D f pal en nm d = 0 → Wk w' B M x y D C L (palN nm d pal) (enN f en nm) ∧ CntM w' M (fun z => if z = nm then f z + 1 else f z) (n + 1)) := by
  obtain ⟨a, c, rfl⟩ := hb.len
  have hBlt : B < w.heap.size := (Array.getElem?_eq_some_iff.1 hw).1
  obtain ⟨w1, hw1⟩ : ∃ w1, w.alloc (.cells #[.string (strOf nm), .slice a d.length c] 26) = w1 := ⟨_, rfl⟩
  have b1 : Below w.heap.size w w1 := by rw [← hw1]; exact (Below.refl _ _).alloc (Nat.le_refl _) _
  have bx : w1.heap[w.heap.size]? = some (.cells #[.string (strOf nm), .slice a d.length c] 26 (0, 0)) := by rw [← hw1]; exact heap_alloc_new _ _
  have BX := Lib.hid bx
  have B1 := Lib.hid b1
  have W1 := Lib.hid (hw.old b1)
  have M1 := Lib.hid (hm.old b1)
  have D1 := Lib.hid (hb.old b1)
  have T1 := Lib.hid (ht.old b1)
  have HL := Lib.hid hl
  have HF := Lib.hid hf
  have HN := Lib.hid hn
  have HDL := Lib.hid hd
  have HD := Lib.hid hD
  have x0 : w1.cell? ⟨w.heap.size, 0, none⟩ = some (.string (strOf nm)) := by rw [cell_of_row _ _ 0 _ _ _ bx]; rfl
  clear hw hm hb ht b1 bx hl hf hn hd hD
  obtain ⟨cr, hcr⟩ : ∃ q, criticalB nm = q := ⟨_, rfl⟩
  obtain ⟨kn, hkn⟩ : ∃ q, knownL.contains nm = q := ⟨_, rfl⟩
  have CK : Hid (criticalB nm = cr ∧ knownL.contains nm = kn) := Lib.hid ⟨hcr, hkn⟩
  clear hcr hkn
  go_enter Tryd.func15, Tryd.ntmps15
  go_upto_region 1 with (fail)
  clear hw1
  go_cut [13] from 5 to 13 (fun c wx => c = .bool (cr && !kn) ∧ Below w1.heap.size w1 wx)
  case first =>
    go_wp2_with fail
    refine (critical_any nm w1 (by have := HL.out; omega) T1.out).mono ?_; rintro e w2 ⟨rfl, hb2⟩
    have x0' := cell_old hb2 x0
    have KN := Lib.hid (known_any nm w2)
    rw [CK.out.1]
    rw [CK.out.2] at KN
    have B2 := Lib.hid hb2
    clear hb2
    cases cr with
    | true =>
      go_wp2_with fail
      refine KN.out.mono ?_; rintro e w3 ⟨rfl, hb3⟩
      go_wp2_with fail
      go_meet
      exact ⟨rfl, B2.out.trans (hb3.mono B2.out.size)⟩
    | false =>
      go_wp2_with fail
      go_meet
      exact ⟨rfl, B2.out⟩
  case rest =>
  obtain ⟨rfl, hb3⟩ := hcut
  obtain ⟨wz, rfl⟩ : ∃ z, z = wc := ⟨_, rfl⟩
  obtain ⟨k3, hk3⟩ : ∃ q, (cr && !kn) = q := ⟨_, rfl⟩
  rw [hk3]
  have K3 : Hid ((criticalB nm && !knownL.contains nm) = k3) := Lib.hid (by rw [CK.out.1, CK.out.2]; exact hk3)
  have B3 : Hid (Below w.heap.size w wz) := Lib.hid (B1.out.trans (hb3.mono B1.out.size))
  have W3 := Lib.hid (W1.out.old hb3)
  have M3 := Lib.hid (M1.out.old hb3)
  have D3 := Lib.hid (D1.out.old hb3)
  have X3 : Hid (wz.heap[w.heap.size]? = some (.cells #[.string (strOf nm), .slice a d.length c] 26 (0, 0))) := Lib.hid (by rw [hb3.block _ (Array.getElem?_eq_some_iff.1 BX.out).1]; exact BX.out)
  have HLT := Lib.hid hBlt
  clear hb3 hk3 x0 W1 M1 D1 BX B1 T1 CK
  cases k3 with
  | true =>
    have RE : Hid (nextC C D f pal en nm d = 3) := Lib.hid (by unfold nextC; rw [K3.out]; rfl)
    go_wp2_with fail
    go_ret
    exact ⟨by rw [RE.out]; rfl, B3.out.mono (by omega), fun h => by rw [RE.out] at h; exact absurd h (by decide)⟩
  | false =>
  have NE : Hid (nextC C D f pal en nm d = if badW C D f pal en (nm, d) then 2 else 0) := Lib.hid (by unfold nextC; rw [K3.out]; rfl)
  clear K3
  obtain ⟨k, hk⟩ : ∃ k, f nm = k := ⟨_, rfl⟩
  obtain ⟨pb, hpb⟩ : ∃ q, placeB f en nm = q := ⟨_, rfl⟩
  obtain ⟨sg, hsg⟩ : ∃ q, decide (0 < f nm) = q := ⟨_, rfl⟩
  obtain ⟨ob, hob⟩ : ∃ q, onceL.contains nm = q := ⟨_, rfl⟩
  have s1 : decide ((0 : Int) < (k : Int)) = sg := by rw [← hsg, hk, decide_eq_decide]; omega
  have s2 : decide (0 < k) = sg := by rw [← hsg, hk]
  have BW : Hid (badW C D f pal en (nm, d) = (!pb || (sg && ob) || (decide (nm = nPLTE) && plteBad C D d) || (decide (nm = ntRNS) && trnsBad C D pal d))) := Lib.hid (by unfold badW; simp only; rw [hpb, hsg, hob])
  have NX : Hid (∀ Y, Below wz.heap.size wz Y → NxC wz w.heap.size B M nm (.slice a d.length c) k Y) := Lib.hid (fun Y hY => by
    refine ⟨cell_old hY (by rw [cell_of_row _ _ 0 _ _ _ X3.out]; rfl), cell_old hY (by rw [cell_of_row _ _ 1 _ _ _ X3.out]; rfl), (W3.out.old hY).cells.2.2.1, ?_, hY⟩
    rw [← hk]
    exact (M3.out.old hY).look nm (by have := HL.out; omega))
  have PA : Hid (∀ Y, NxC wz w.heap.size B M nm (.slice a d.length c) k Y → Calls Tryd.prog 29 #[.pointer (some ⟨B, 0, none⟩), .string (strOf nm)] Y fun e w' => e = .returned (.bool pb) ∧ NxC wz w.heap.size B M nm (.slice a d.length c) k w') := Lib.hid (fun Y hY => by
    refine (place_any nm Y B M x y D C L pal en f n (W3.out.old hY.2.2.2.2) (M3.out.old hY.2.2.2.2) (fun z => Nat.le_trans (HF.out z) (by decide))).mono ?_
    rintro e w' ⟨rfl, h⟩
    rw [hpb]
    exact ⟨rfl, NX.out _ (hY.2.2.2.2.trans (h.mono hY.2.2.2.2.size))⟩)
  have MA : Hid (∀ Y, NxC wz w.heap.size B M nm (.slice a d.length c) k Y → Calls Tryd.prog 30 #[.string (strOf nm)] Y fun e w' => e = .returned (.bool (!ob)) ∧ NxC wz w.heap.size B M nm (.slice a d.length c) k w') := Lib.hid (fun Y hY => by
    refine (many_any nm Y).mono ?_
    rintro e w' ⟨rfl, rfl⟩
    rw [hob]
    exact ⟨rfl, hY⟩)
  have CC := Lib.hid (NX.out wz.drew (Below.refl _ _).drew)
  have KK : Hid (f nm = k) := Lib.hid hk
  have PBH : Hid (placeB f en nm = pb) := Lib.hid hpb
  clear hk hpb hsg hob hBlt
  go_upto_region 3 with (fail)
  go_cut [35] from 15 to 35 (fun c wx => c = .bool (!pb || (sg && ob)) ∧ Below wz.heap.size wz wx)
  case first =>
    cases pb <;> cases sg <;> cases ob
    all_goals
      refine wp_region_q (NxC wz w.heap.size B M nm (.slice a d.length c) k) (by kernel_rfl) (by kernel_rfl) CC.out ?_
      repeat
        first
        | go_big_quiet_skip
        | (go_big_quiet_want
           first
           | (go_big_quiet_op; go_big_quiet_on)
           | (apply Exists.intro
              refine ⟨fun X hX => ?_, ?_⟩
              · have hXX := Lib.hid hX
                obtain ⟨q0, q1, q2, q3, eZ⟩ := hX
                clear eZ
                unfold Oper.quietAt
                go_simp
                first
                | (go_at_call 29; exact PA.out _ hXX.out)
                | (go_at_call 30; exact MA.out _ hXX.out)
                | exact ⟨rfl, hXX.out⟩
                | exact ⟨rfl, rfl⟩
                | exact rfl
              go_big_quiet_on
              try simp only [Act.put, List.setIfInBounds_toArray, List.set_cons_zero, List.set_cons_succ]))
      refine wpQuiet_nil ?_
      rintro Y hY
      have hbY := Lib.hid hY.2.2.2.2
      clear hY
      go_wp2_with fail
      go_meet
      exact ⟨rfl, hbY.out⟩
  case rest =>
  obtain ⟨rfl, hb5⟩ := hcut
  obtain ⟨w5, rfl⟩ : ∃ z, z = wc := ⟨_, rfl⟩
  obtain ⟨k4, hk4⟩ : ∃ q, (!pb || (sg && ob)) = q := ⟨_, rfl⟩
  rw [hk4]
  rw [hk4] at BW
  have B5 : Hid (Below w.heap.size w w5) := Lib.hid (B3.out.trans (hb5.mono B3.out.size))
  have W5 := Lib.hid (W3.out.old hb5)
  have M5 := Lib.hid (M3.out.old hb5)
  have D5 := Lib.hid (D3.out.old hb5)
  have X5 : Hid (w5.heap[w.heap.size]? = some (.cells #[.string (strOf nm), .slice a d.length c] 26 (0, 0))) := Lib.hid (by rw [hb5.block _ (Array.getElem?_eq_some_iff.1 X3.out).1]; exact X3.out)
  clear hb5 hk4 W3 M3 D3 X3 B3 NX PA MA CC s1 s2
  cases k4 with
  | true =>
    have RE : Hid (nextC C D f pal en nm d = 2) := Lib.hid (by rw [NE.out, BW.out]; rfl)
    go_wp2_with fail
    go_ret
    exact ⟨by rw [RE.out]; rfl, B5.out.mono (by have := HLT.out; omega), fun h => by rw [RE.out] at h; exact absurd h (by decide)⟩
  | false =>
  obtain ⟨a1, h1⟩ : ∃ a, f nIDAT = a := ⟨_, rfl⟩
  obtain ⟨G, hG⟩ : ∃ g, decide (0 < f nIDAT) = g := ⟨_, rfl⟩
  have g1 : decide ((0 : Int) < (a1 : Int)) = G := by rw [← hG, h1, decide_eq_decide]; omega
  have g1' : decide (0 < a1) = G := by rw [← hG, h1]
  obtain ⟨iI, hI⟩ : ∃ g, decide (nm = nIDAT) = g := ⟨_, rfl⟩
  have e2 : ((strOf nm).toList == [73, 68, 65, 84]) = iI := by rw [← hI, strOf_toList, beq_dec]; rfl
  have e2n : ((strOf nm).toList != [73, 68, 65, 84]) = !iI := by rw [← e2]; rfl
  have EN : Hid (enN f en nm = (en || (G && !iI))) := Lib.hid (by unfold enN; rw [hG, ← hI]; simp)
  obtain ⟨-, -, c5, -, c7⟩ := W5.out.cells
  have f7 := W5.out.frozen 7
  have lk : (Instr.lookup 45 (.map (some M)) (.string ⟨#[73, 68, 65, 84]⟩) false).run Tryd.prog w5 = .ok (.int .i64 (a1 : Nat)) w5 := by rw [← h1]; exact M5.out.look nIDAT (by decide)
  have x0 : w5.cell? ⟨w.heap.size, 0, none⟩ = some (.string (strOf nm)) := by rw [cell_of_row _ _ 0 _ _ _ X5.out]; rfl
  clear h1 hG hI
  go_upto_region 5 with (fail)
  go_cut [] from 37 to 56 (fun wx => wx = w5.setCell ⟨B, 7, none⟩ (.bool (en || (G && !iI))))
  case first =>
    cases en <;> cases G <;> cases iI
    all_goals
      go_wp2_with fail
      go_meet
      rfl
  case rest =>
  have hne : w.heap.size ≠ B := by have := HLT.out; omega
  have W6 : Hid (Wk wc B M x y D C L pal (enN f en nm)) := Lib.hid (by rw [hcut, ← EN.out]; exact W5.out.ended _)
  have q6 : ∀ z, z ≠ B → wc.heap[z]? = w5.heap[z]? := fun z hz => by rw [hcut]; exact Go.Deep.blk_setCell_other _ _ _ _ hz
  have S6 : Hid (wc.heap.size = w5.heap.size) := Lib.hid (by rw [hcut]; simp)
  have M6 : Hid (CntM wc M f n) := Lib.hid (M5.out.same (q6 M (by omega)))
  have X6 : Hid (wc.heap[w.heap.size]? = some (.cells #[.string (strOf nm), .slice a d.length c] 26 (0, 0))) := Lib.hid (by rw [q6 _ hne]; exact X5.out)
  have B6 : Hid (Below M w wc) := Lib.hid (by rw [hcut]; exact (B5.out.mono (by have := HLT.out; omega)).setCell (p := ⟨B, 7, none⟩) (by simp only; omega) _)
  have D6 : Hid (w5.heap.size = wc.heap.size ∧ ∀ z, z ≠ B → wc.heap[z]? = w5.heap[z]?) := Lib.hid ⟨S6.out.symm, q6⟩
  have DK : Hid (∀ w', (∀ z, z < w5.heap.size → z ≠ B → z ≠ M → w'.heap[z]? = w5.heap[z]?) → Bs w' (.slice a d.length c) d) := Lib.hid (fun w' h => bs_keep D5.out W5.out M5.out h)
  clear hcut q6 W5 M5 X5 B5 c5 c7 f7 lk x0 g1 g1'
  have x0 : wc.cell? ⟨w.heap.size, 0, none⟩ = some (.string (strOf nm)) := by rw [cell_of_row _ _ 0 _ _ _ X6.out]; rfl
  have c5 := W6.out.cells.2.2.1
  have hk1 : k ≤ 1000 := by rw [← KK.out]; exact HF.out nm
  have gk : IntKind.i64.wrap ((k : Int) + 1) = (k : Int) + 1 := IntWalk.i64_in _ (by omega)
  have LK : Hid ((Instr.lookup 45 (.map (some M)) (.string (strOf nm)) false).run Tryd.prog wc.drew = .ok (.int .i64 (k : Nat)) wc.drew) := Lib.hid (by rw [← KK.out]; exact (M6.out.old (Below.refl _ _).drew).look nm (by have := HL.out; omega))
  clear hk1
  go_upto_region 6 with (fail)
  refine wp_region_qt (fun Y => Y.cell? ⟨w.heap.size, 0, none⟩ = some (.string (strOf nm)) ∧ Y.cell? ⟨B, 5, none⟩ = some (.map (some M)) ∧ (Instr.lookup 45 (.map (some M)) (.string (strOf nm)) false).run Tryd.prog Y = .ok (.int .i64 (k : Nat)) Y ∧ Below wc.heap.size wc Y) 8 (by kernel_rfl) (by kernel_rfl) ⟨cell_old (Below.refl _ _).drew x0, cell_old (Below.refl _ _).drew c5, LK.out, (Below.refl _ _).drew⟩ ?_
  simp only [List.take_succ_cons, List.take_zero, List.drop_succ_cons, List.drop_zero]
  clear x0 c5 LK
  repeat
    first
    | go_big_quiet_skip
    | (go_big_quiet_want
       first
       | (go_big_quiet_op; go_big_quiet_on)
       | (apply Exists.intro
          refine ⟨fun X hX => ?_, ?_⟩
          · obtain ⟨q1, q2, q3, eZ⟩ := hX
            clear eZ
            unfold Oper.quietAt
            go_simp
            first
            | exact ⟨rfl, rfl⟩
            | exact rfl
          go_big_quiet_on
          try simp only [Act.put, List.setIfInBounds_toArray, List.set_cons_zero, List.set_cons_succ]))
  refine wpQuiet_nil ?_
  rintro Y ⟨-, -, -, hbY⟩
  obtain ⟨w8, hup, hM8, hg8⟩ := (M6.out.old hbY).add (by have := HN.out; omega) nm (by have := HL.out; omega) (by have := HF.out nm; omega)
  rw [KK.out] at hup
  have hgb : ∀ z, z < wc.heap.size → z ≠ M → w8.heap[z]? = wc.heap[z]? := fun z hz hne => (hg8.block z (by have := hbY.size; omega) (fun e => hne (Option.some.inj e))).trans (hbY.block z hz)
  have W8 : Hid (Wk w8 B M x y D C L pal (enN f en nm)) := Lib.hid (by unfold Wk; rw [hgb B (Array.getElem?_eq_some_iff.1 W6.out).1 (by omega)]; exact W6.out)
  have M8 := Lib.hid hM8
  have X8 : Hid (w8.heap[w.heap.size]? = some (.cells #[.string (strOf nm), .slice a d.length c] 26 (0, 0))) := Lib.hid (by rw [hgb _ (Array.getElem?_eq_some_iff.1 X6.out).1 (by have := HLT.out; omega)]; exact X6.out)
  have B8 : Hid (Below M w w8) := Lib.hid ((B6.out.trans (hbY.mono (by have := M6.out.lt; omega))).grown hg8 (by have := M6.out.lt; have := hbY.size; omega) fun z hz => by cases hz; exact Nat.le_refl _)
  have D8 : Hid (Bs w8 (.slice a d.length c) d) := Lib.hid (DK.out w8 fun z hz h1 h2 => (hgb z (by have := D6.out.1; omega) h2).trans (D6.out.2 z h1))
  clear hbY hM8 hg8 hgb W6 M6 X6 B6 DK D6 D5
  have x0 : w8.cell? ⟨w.heap.size, 0, none⟩ = some (.string (strOf nm)) := by rw [cell_of_row _ _ 0 _ _ _ X8.out]; rfl
  have x1 : w8.cell? ⟨w.heap.size, 1, none⟩ = some (.slice a d.length c) := by rw [cell_of_row _ _ 1 _ _ _ X8.out]; rfl
  clear e2 e2n
  by_cases hP : nm = nPLTE
  · have e1 : ((strOf nm).toList == [80, 76, 84, 69]) = true := by rw [hP]; kernel_rfl
    have e3 : ((strOf nm).toList == [116, 82, 78, 83]) = false := by rw [hP]; kernel_rfl
    have BV : Hid (badW C D f pal en (nm, d) = plteBad C D d) := Lib.hid (by rw [BW.out, hP]; simp [nPLTE, ntRNS])
    have PN : Hid (palN nm d pal = d.length / 3) := Lib.hid (by unfold palN; rw [if_pos hP])
    clear hP BW
    go_wp2_with fail
    refine (plte_any _ d w8 B M x y D C L pal _ W8.out D8.out HDL.out HD.out).mono ?_; rintro e w9 ⟨rfl, hw9⟩
    have W9 : Hid (Wk w9 B M x y D C L (d.length / 3) (enN f en nm)) := Lib.hid (by rw [hw9]; exact W8.out.pal _)
    have M9 : Hid (CntM w9 M (fun z => if z = nm then f z + 1 else f z) (n + 1)) := Lib.hid (M8.out.same (by rw [hw9]; exact Go.Deep.blk_setCell_other _ _ _ _ (by simp only; omega)))
    have B9 : Hid (Below M w w9) := Lib.hid (by rw [hw9]; exact B8.out.setCell (p := ⟨B, 6, none⟩) (by simp only; omega) _)
    have y0 : w9.cell? ⟨w.heap.size, 0, none⟩ = some (.string (strOf nm)) := by
      rw [hw9, World.cell?_of_block (Go.Deep.blk_setCell_other _ _ _ _ (by simp only; have := HLT.out; omega))]
      exact x0
    rcases hpb : plteBad C D d with _ | _
    · have RE : Hid (nextC C D f pal en nm d = 0) := Lib.hid (by rw [NE.out, BV.out, hpb]; rfl)
      clear hpb hw9 hup
      go_wp2_with fail
      go_ret
      exact ⟨by rw [RE.out]; rfl, B9.out, fun _ => ⟨by rw [PN.out]; exact W9.out, M9.out⟩⟩
    · have RE : Hid (nextC C D f pal en nm d = 2) := Lib.hid (by rw [NE.out, BV.out, hpb]; rfl)
      clear hpb hw9 hup
      go_wp2_with fail
      go_ret
      exact ⟨by rw [RE.out]; rfl, B9.out, fun h => by rw [RE.out] at h; exact absurd h (by decide)⟩
  by_cases hT : nm = ntRNS
  · have e1 : ((strOf nm).toList == [80, 76, 84, 69]) = false := by rw [hT]; kernel_rfl
    have e3 : ((strOf nm).toList == [116, 82, 78, 83]) = true := by rw [hT]; kernel_rfl
    have BV : Hid (badW C D f pal en (nm, d) = trnsBad C D pal d) := Lib.hid (by rw [BW.out, hT]; simp [nPLTE, ntRNS])
    have PN : Hid (palN nm d pal = pal) := Lib.hid (by unfold palN; rw [if_neg hP])
    clear hP hT BW
    go_wp2_with fail
    refine (trns_any _ d w8 B M x y D C L pal _ W8.out D8.out HDL.out HD.out).mono ?_; rintro e w9 ⟨rfl, hb9⟩
    have W9 := Lib.hid (W8.out.old hb9)
    have M9 := Lib.hid (M8.out.old hb9)
    have B9 : Hid (Below M w w9) := Lib.hid (B8.out.trans (hb9.mono (by have := M8.out.lt; omega)))
    rcases hpb : trnsBad C D pal d with _ | _
    · have RE : Hid (nextC C D f pal en nm d = 0) := Lib.hid (by rw [NE.out, BV.out, hpb]; rfl)
      clear hpb hb9 hup
      go_wp2_with fail
      go_ret
      exact ⟨by rw [RE.out]; rfl, B9.out, fun _ => ⟨by rw [PN.out]; exact W9.out, M9.out⟩⟩
    · have RE : Hid (nextC C D f pal en nm d = 2) := Lib.hid (by rw [NE.out, BV.out, hpb]; rfl)
      clear hpb hb9 hup
      go_wp2_with fail
      go_ret
      exact ⟨by rw [RE.out]; rfl, B9.out, fun h => by rw [RE.out] at h; exact absurd h (by decide)⟩
  have e1 : ((strOf nm).toList == [80, 76, 84, 69]) = false := by rw [strOf_toList, beq_eq_false_iff_ne]; exact hP
  have e3 : ((strOf nm).toList == [116, 82, 78, 83]) = false := by rw [strOf_toList, beq_eq_false_iff_ne]; exact hT
  have RE : Hid (nextC C D f pal en nm d = 0) := Lib.hid (by rw [NE.out, BW.out]; simp [hP, hT])
  have PN : Hid (palN nm d pal = pal) := Lib.hid (by unfold palN; rw [if_neg hP])
  clear hP hT BW
  go_wp2_with fail
  go_ret
  exact ⟨by rw [RE.out]; rfl, B8.out, fun _ => ⟨by rw [PN.out]; exact W8.out, M8.out⟩⟩
end Go.Proofs.YtlgjjoglajgbeaaDoor
