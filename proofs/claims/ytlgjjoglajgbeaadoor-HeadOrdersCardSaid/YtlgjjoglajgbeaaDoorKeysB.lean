/- head.keys: are bytes numbers of two bytes each that a depth has? By an AI agent. -/
import Derived.Test.YtlgjjoglajgbeaaDoorChunkIB
import Derived.Test.YtlgjjoglajgbeaaDoorOrdP
import Derived.Test.YtlgjjoglajgbeaaDoorHead
namespace Go.Proofs.YtlgjjoglajgbeaaDoor
open Go.RowKit Go.BigFrame
set_option linter.unusedVariables false
set_option linter.unusedSimpArgs false
attribute [local go_sem] Oper.semAt_some

def okD (D : Nat) : Prop := D = 1 ∨ D = 2 ∨ D = 4 ∨ D = 8 ∨ D = 16
theorem shr_depth (z D : Nat) (h : okD D) (w : World) : (Op.shift .shr .i64 (z : Int) .i64 (D : Int)).run Tryd.prog w = .ok (.int .i64 ((z / 2 ^ D : Nat) : Int)) w := by
  have h0 : D ≤ 16 := by unfold okD at h; omega
  have h1 : ¬ ((D : Int) < 0) := by omega
  have h2 : min ((D : Nat) : Int).toNat IntKind.i64.bits = D := by
    show min ((D : Nat) : Int).toNat 64 = D
    rw [Int.toNat_natCast]; omega
  have h3 : (z : Int).fdiv (2 ^ D) = ((z / 2 ^ D : Nat) : Int) := by
    have h4 : (2 : Int) ^ D = ((2 ^ D : Nat) : Int) := by simp
    rw [h4, Int.fdiv_eq_ediv_of_nonneg _ (Int.natCast_nonneg _)]
    rfl
  unfold Op.shift
  rw [if_neg h1]
  simp only [h2, h3]
  rfl
theorem or_bytes (x y : Nat) (hx : x < 256) (hy : y < 256) : bits .or .i64 ((x : Int) * 256) (y : Int) = ((256 * x + y : Nat) : Int) := by
  have h := glue64 x y 8 (by omega) (by omega)
  rw [show ((x * 2 ^ 8 : Nat) : Int) = (x : Int) * 256 by omega, show x * 2 ^ 8 + y = 256 * x + y by omega] at h
  exact h
def keysTo (D : Nat) (l : List UInt8) (k : Nat) : Bool := (List.range k).all fun j => decide (256 * (l.getD (2 * j) 0).toNat + (l.getD (2 * j + 1) 0).toNat < 2 ^ D)
theorem keysTo_succ (D : Nat) (l : List UInt8) (k : Nat) : keysTo D l (k + 1) = (keysTo D l k && decide (256 * (l.getD (2 * k) 0).toNat + (l.getD (2 * k + 1) 0).toNat < 2 ^ D)) := by
  unfold keysTo
  rw [List.range_succ, List.all_append]; simp
theorem keysTo_at (D : Nat) (l : List UInt8) (q : Nat) (h0 : 2 * q < l.length) (h1 : 2 * q + 1 < l.length) {x0 x1 : Nat} (e0 : (l[2 * q]'h0).toNat = x0) (e1 : (l[2 * q + 1]'h1).toNat = x1) (hk : keysTo D l q = true) : keysTo D l (q + 1) = decide (256 * x0 + x1 < 2 ^ D) := by
  have a0 : l.getD (2 * q) 0 = l[2 * q]'h0 := by simp [h0]
  have a1 : l.getD (2 * q + 1) 0 = l[2 * q + 1]'h1 := by simp [h1]
  rw [keysTo_succ, hk, Bool.true_and, a0, a1, e0, e1]
theorem keysTo_bad (D : Nat) (l : List UInt8) (m : Nat) (h : l.length = 2 * m) : keysTo D l m = !keysBad D l := by
  unfold keysTo keysBad
  rw [show (l.length + 1) / 2 = m by omega, Bool.eq_iff_iff]
  simp
theorem keysTo_false (D : Nat) (l : List UInt8) (k m : Nat) (h : keysTo D l k = false) (hk : k ≤ m) : keysTo D l m = false := by
  unfold keysTo at *
  rw [List.all_eq_false] at *
  obtain ⟨x, hx, h⟩ := h
  exact ⟨x, List.mem_range.2 (by have := List.mem_range.1 hx; omega), h⟩
set_option maxRecDepth 100000 in
set_option maxHeartbeats 8000000 in
theorem keys_any (v : Value) (l : List UInt8) (m D : Nat) (w : World) (hb : Bs w v l) (hm : m = 1 ∨ m = 3) (hD : okD D) (hl : l.length ≤ 140737488351232) :
    Calls Tryd.prog 45 #[v, .int .i64 (m : Nat), .int .i64 (D : Nat)] w fun e w' => e = .returned (.bool (decide (l.length = 2 * m) && !keysBad D l)) ∧ Below w.heap.size w w' := by
  obtain ⟨va, vc, rfl⟩ := hb.len
  have HB := Lib.hid hb
  have HM := Lib.hid hm
  have HD := Lib.hid hD
  have p2 : IntKind.i64.wrap (2 * (m : Int)) = ((2 * m : Nat) : Int) := by rw [IntWalk.i64_in _ (by omega)]; omega
  have p2' : wrap64 (2 * (m : Int)) = ((2 * m : Nat) : Int) := by rw [IntWalk.wrap64_in _ (by omega)]; omega
  obtain ⟨mm, hmm⟩ : ∃ q, 2 * m = q := ⟨_, rfl⟩
  rw [hmm] at p2 p2'
  have HMM := Lib.hid hmm
  clear hb hm hD hmm
  obtain ⟨w1, hw1⟩ : ∃ w1, (w.alloc (.cells #[.int .i64 (D : Nat)] 3)).alloc (.cells #[.bool false] 4) = w1 := ⟨_, rfl⟩
  have b1 : Below w.heap.size w w1 := by rw [← hw1]; exact ((Below.refl _ _).alloc (Nat.le_refl _) _).alloc (by simp) _
  have s1 : w1.heap.size = w.heap.size + 2 := by rw [← hw1]; simp
  have DB : Hid (Boxed w1 w.heap.size 3 (.int .i64 (D : Nat))) := Lib.hid (by rw [← hw1]; exact (Boxed.new _ _ _).alloc _)
  have RB : Hid (Boxed w1 (w.heap.size + 1) 4 (.bool false)) := Lib.hid (by
    rw [← hw1]
    have h := Boxed.new (w.alloc (.cells #[.int .i64 (D : Nat)] 3)) 4 (.bool false)
    rw [World.size_alloc] at h
    exact h)
  have B1 := Lib.hid b1
  have S1 := Lib.hid s1
  have y1 := RB.out.cell
  have y2 := RB.out.frozen
  clear b1 s1
  refine (callsIn_wide (n := 6)).1 ?_
  refine callsIn_of_wp_marks Tryd.func45 rfl trivial ?_ rfl
  simp only [Tryd.ntmps45, List.size_toArray, List.length_cons, List.length_nil, Nat.reduceAdd, Nat.reduceSub, Array.replicate_succ, Array.replicate_zero, List.push_toArray, List.append_toArray, List.nil_append, List.cons_append]
  refine wpIn_wide.2 ?_
  by_cases hlen : l.length = mm
  rotate_left
  · have e1 : ((l.length : Int) != (mm : Int)) = true := by rw [bne_iff_ne]; omega
    have e2 : (l.length != mm) = true := by rw [bne_iff_ne]; exact hlen
    have RE : Hid ((decide (l.length = 2 * m) && !keysBad D l) = false) := Lib.hid (by rw [HMM.out, decide_eq_false hlen]; rfl)
    have RET : Hid (Below w.heap.size w (w1.setCell ⟨w.heap.size + 1, 0, none⟩ (.bool false)) ∧ (w1.setCell ⟨w.heap.size + 1, 0, none⟩ (.bool false)).cell? ⟨w.heap.size + 1, 0, none⟩ = some (.bool false)) := Lib.hid ⟨B1.out.setCell (p := ⟨w.heap.size + 1, 0, none⟩) (by simp only; omega) _, (Boxed.set (.bool false) RB.out).cell⟩
    clear hlen
    go_wp2_with fail
    have r := RET.out.2
    exact ⟨.bool false, by simp [results, Tryd.f45, go_sem, r], by rw [RE.out], RET.out.1⟩
  have e1 : ((l.length : Int) != (mm : Int)) = false := by rw [bne_eq_false_iff_eq]; omega
  have e2 : (l.length != mm) = false := by rw [bne_eq_false_iff_eq]; exact hlen
  obtain ⟨b, o, hbo, hcv, hcell⟩ : ∃ b o, va = some ⟨b, o, none⟩ ∧ l.length ≤ vc ∧ ∀ i (h : i < l.length), w.cell? ⟨b, o + i, none⟩ = some (.int .u8 ((l[i].toNat : Nat) : Int)) := by
    rcases HB.out.shape with ⟨a', c', hv, h0⟩ | ⟨b, o, c', hv, h1, h2, h3⟩
    · subst h0; have := HM.out; have := HMM.out; simp at hlen; omega
    · cases hv; exact ⟨b, o, rfl, h1, h3⟩
  subst hbo
  have CE := Lib.hid hcell
  have LN := Lib.hid (hlen.trans HMM.out.symm)
  clear hcell hlen
  go_wp2_with fail
  refine (chunkB_any _ _ _ 2 w1 (by decide)).mono ?_
  rintro e w2 ⟨rfl, hw2⟩
  rw [S1.out]
  have s2 : w2.heap.size = w.heap.size + 4 := by rw [hw2]; simp [S1.out]
  have b2 : Below w1.heap.size w1 w2 := by rw [hw2]; exact ((Below.refl _ _).alloc (Nat.le_refl _) _).alloc (by simp) _
  have X1 : Hid (Boxed w2 (w.heap.size + 2) 24 (.slice (some ⟨b, o, none⟩) (m * 2) vc)) := Lib.hid (by
    rw [hw2, ← S1.out, show m * 2 = l.length from by have := LN.out; omega]
    exact (Boxed.new _ _ _).alloc _)
  have X2 : Hid (Boxed w2 (w.heap.size + 3) 3 (.int .i64 ((2 : Nat) : Int))) := Lib.hid (by
    rw [hw2]
    have h := Boxed.new (w1.alloc (.cells #[.slice (some ⟨b, o, none⟩) l.length vc] 24)) 3 (.int .i64 ((2 : Nat) : Int))
    rw [World.size_alloc, S1.out] at h
    exact h)
  have D2 : Hid (Boxed w2 w.heap.size 3 (.int .i64 (D : Nat))) := Lib.hid (boxed_below DB.out b2)
  have R2 : Hid (Boxed w2 (w.heap.size + 1) 4 (.bool false)) := Lib.hid (boxed_below RB.out b2)
  have B2 : Hid (Below w.heap.size w w2) := Lib.hid (B1.out.trans (b2.mono B1.out.size))
  have CW : Hid (∀ i (h : i < l.length), w2.cell? ⟨b, o + i, none⟩ = some (.int .u8 ((l[i].toNat : Nat) : Int)) ∧ b < w2.heap.size) := Lib.hid (fun i h => by
    have hc := cell_old B2.out (CE.out i h)
    exact ⟨hc, World.block_lt_of_cell? _ _ hc⟩)
  have CAP := Lib.hid hcv
  have S2 := Lib.hid s2
  have MB : Hid (m ≤ 3) := Lib.hid (by have := HM.out; omega)
  clear b2 hw2 y1 y2 e1 e2 p2 p2' hcv DB RB B1 S1 CE HB hw1 w1
  go_wp2_with fail
  have hbs : ∀ z ∈ [w.heap.size + 2, w.heap.size + 3], z < w2.heap.size := fun z hz => by
    simp only [List.mem_cons, List.not_mem_nil, or_false] at hz; omega
  refine wpIn_wide.1 (rangeU (n := 6) (by omega) (gf := 52) (lb := #[.pointer (some ⟨w.heap.size + 2, 0, none⟩), .pointer (some ⟨w.heap.size + 3, 0, none⟩)]) rfl (enters_of Tryd.func52 (by kernel_rfl) rfl)
    (chunkB_seq (6 - 1) (w.heap.size + 2) (w.heap.size + 3) [w.heap.size + 2, w.heap.size + 3] b o 2 m vc w2 (by decide) (by have := MB.out; omega) (by decide) X1.out X2.out (by simp) (by simp) (by have := CAP.out; have := LN.out; omega)) (Below.refl _ _) (fun _ => rfl) hbs
    (fun pre V => keysTo D l pre.length = true ∧ (∀ z, z < w2.heap.size → V.heap[z]? = w2.heap[z]?) ∧ w2.heap.size ≤ V.heap.size ∧ Below w.heap.size w V) (fun c pre V => c = .ret ∧ keysBad D l = true ∧ Boxed V (w.heap.size + 1) 4 (.bool false) ∧ Below w.heap.size w V)
    (fun s X Y h hb => ⟨h.1, fun z hz => (hb.block z (by omega)).trans (h.2.1 z hz), Nat.le_trans h.2.2.1 hb.size, h.2.2.2.trans (hb.mono (by omega))⟩)
    (fun c s X Y h hb => ⟨h.1, h.2.1, boxed_low h.2.2.1 hb (by omega), h.2.2.2.trans (hb.mono (by omega))⟩) ⟨rfl, fun z hz => rfl, Nat.le_refl _, B2.out⟩ ?round ?done ?stop)
  case round =>
    rintro ll pre x X hl hlX hloop ⟨hkt, hlow, hsz, hbel⟩ ⟨hqm, hx⟩
    obtain ⟨q, hq⟩ : ∃ q, pre.length = q := ⟨_, rfl⟩
    rw [hq] at hkt hqm hx
    subst hx
    have hl1 : 2 * q < l.length := by have := LN.out; omega
    have hl2 : 2 * q + 1 < l.length := by have := LN.out; omega
    obtain ⟨x0, hx0⟩ : ∃ z, l[2 * q].toNat = z := ⟨_, rfl⟩
    obtain ⟨x1, hx1⟩ : ∃ z, l[2 * q + 1].toNat = z := ⟨_, rfl⟩
    have hb0 : x0 < 256 := by rw [← hx0]; exact l[2 * q].toNat_lt
    have hb1 : x1 < 256 := by rw [← hx1]; exact l[2 * q + 1].toNat_lt
    have KS := keysTo_at D l q hl1 hl2 hx0 hx1 hkt
    have c0 := (CW.out (2 * q) hl1).1
    have c1 := (CW.out (2 * q + 1) hl2).1
    have hbl := (CW.out (2 * q) hl1).2
    rw [hx0] at c0
    rw [hx1] at c1
    obtain ⟨z, hz⟩ : ∃ z, 256 * x0 + x1 = z := ⟨_, rfl⟩
    have ob := or_bytes x0 x1 hb0 hb1
    rw [hz] at KS ob
    have g1 : IntKind.i64.wrap ((x0 : Int) * 256) = (x0 : Int) * 256 := IntWalk.i64_in _ (by omega)
    have wx0 : IntKind.i64.wrap (x0 : Int) = (x0 : Int) := IntWalk.i64_in _ (by omega)
    have wx1 : IntKind.i64.wrap (x1 : Int) = (x1 : Int) := IntWalk.i64_in _ (by omega)
    obtain ⟨t, ht⟩ : ∃ t, z / 2 ^ D = t := ⟨_, rfl⟩
    have sh : (z : Int) / 2 ^ min D 64 = (t : Int) := by
      have h0 : D ≤ 16 := by have := HD.out; unfold okD at this; omega
      rw [Nat.min_eq_left (by omega), ← ht]
      simp
    have KT : Hid (keysTo D l (q + 1) = decide (t = 0)) := Lib.hid (by
      rw [KS, decide_eq_decide, ← ht, Nat.div_eq_zero_iff]
      have : 0 < 2 ^ D := Nat.two_pow_pos D
      omega)
    have eo : o + q * 2 = o + 2 * q := by omega
    rw [eo]
    have HLP := Lib.hid hloop
    have HLW := Lib.hid hlow
    have HSZ := Lib.hid hsz
    have HBE := Lib.hid hbel
    have HQ := Lib.hid hq
    have HQM := Lib.hid hqm
    clear hkt hlow hsz hbel hloop hq hqm KS hx0 hx1 hz ht hl1 hl2 hb0 hb1
    gi_wp2
    refine ⟨KeepsFrom.refl _ _, fun V hV => ?_⟩
    have HV := Lib.hid hV
    have LV : Hid (∀ z, z < w2.heap.size → V.heap[z]? = w2.heap[z]?) := Lib.hid (fun z hz => (hV.block z (by omega)).trans (HLW.out z hz))
    have v0 : V.cell? ⟨b, o + 2 * q, none⟩ = some (.int .u8 (x0 : Int)) := by rw [World.cell?_of_block (LV.out b hbl)]; exact c0
    have v1 : V.cell? ⟨b, o + (2 * q + 1), none⟩ = some (.int .u8 (x1 : Int)) := by rw [World.cell?_of_block (LV.out b hbl)]; exact c1
    have v2 : V.cell? ⟨w.heap.size, 0, none⟩ = some (.int .i64 (D : Nat)) := by rw [World.cell?_of_block (LV.out w.heap.size (by omega))]; exact D2.out.cell
    rw [← Nat.add_assoc] at v1
    clear hV c0 c1
    gi_wp2_with fail
    refine wpIn_region_q (fun Y => Y.cell? ⟨b, o + 2 * q, none⟩ = some (.int .u8 (x0 : Int)) ∧ Y.cell? ⟨b, o + 2 * q + 1, none⟩ = some (.int .u8 (x1 : Int)) ∧ Y.cell? ⟨w.heap.size, 0, none⟩ = some (.int .i64 (D : Nat)) ∧ Below V.heap.size V Y) (by kernel_rfl) (by kernel_rfl) (by kernel_rfl) (fun _ _ h => h) ⟨cell_old (Below.refl _ _).drew v0, cell_old (Below.refl _ _).drew v1, cell_old (Below.refl _ _).drew v2, (Below.refl _ _).drew⟩ ?_
    clear v0 v1 v2
    repeat
      first
      | go_big_quiet_skip
      | (go_big_quiet_want
         first
         | (go_big_quiet_op; go_big_quiet_on)
         | (apply Exists.intro
            refine ⟨fun X hX => ?_, ?_⟩
            · obtain ⟨q1, q2, q3, eZ⟩ := hX
              clear eZ
              unfold Oper.quietAt
              go_simp
              first
              | exact ⟨rfl, rfl⟩
              | exact rfl
            go_big_quiet_on
            try simp only [Act.put, List.setIfInBounds_toArray, List.set_cons_zero, List.set_cons_succ]))
    refine wpQuiet_nil ?_
    rintro Y ⟨-, -, -, hbY⟩
    have BY := Lib.hid hbY
    have SY : Hid (w2.heap.size ≤ Y.heap.size) := Lib.hid (Nat.le_trans (by have h := HV.out.size; have := HSZ.out; omega) hbY.size)
    have LY : Hid (∀ z, z < w2.heap.size → Y.heap[z]? = w2.heap[z]?) := Lib.hid (fun z hz => (hbY.block z (by have h := HV.out.size; have := HSZ.out; omega)).trans (LV.out z hz))
    have BW : Hid (Below w.heap.size w Y) := Lib.hid ((HBE.out.trans (HV.out.below (by omega))).trans (hbY.mono (by have h := HV.out.size; have := HSZ.out; omega)))
    have KU : Hid (KeepU [w.heap.size + 2, w.heap.size + 3] (w2.heap.size + 2) X Y) := Lib.hid (by
      refine KeepU.trans ⟨by have h := HV.out.size; omega, fun z hz hlt => HV.out.block z ?_⟩ (KeepU.below hbY)
      rcases hz with hz | hz
      · have := hbs z hz; omega
      · omega)
    have KF : Hid (KeepsFrom w2.heap.size V Y) := Lib.hid (keepsFrom_below hbY)
    clear hbY g1 ob sh eo wx0 wx1
    by_cases ht0 : t = 0
    · subst ht0
      have KT2 : Hid (keysTo D l (q + 1) = true) := Lib.hid (by rw [KT.out]; rfl)
      clear s2
      gi_wp2_with fail
      refine ⟨KF.out, KU.out, ?_, LY.out, SY.out, BW.out⟩
      rw [List.length_append, HQ.out]
      exact KT2.out
    · have z1 : ((t : Int) != 0) = true := by rw [bne_iff_ne]; omega
      have z2 : (t != 0) = true := by rw [bne_iff_ne]; exact ht0
      have KB : Hid (keysBad D l = true) := Lib.hid (by
        have h1 : keysTo D l (q + 1) = false := by rw [KT.out]; exact decide_eq_false ht0
        have h2 := keysTo_false D l (q + 1) m h1 HQM.out
        have h3 := keysTo_bad D l m LN.out
        rw [h2] at h3
        simpa using h3.symm)
      have RY : Boxed Y (w.heap.size + 1) 4 (.bool false) := (LY.out _ (by omega)).trans R2.out
      have y1 := RY.cell
      have y2 := RY.frozen
      have RS := Lib.hid (Boxed.set (.bool false) RY)
      have BS := Lib.hid (BW.out.setCell (p := ⟨w.heap.size + 1, 0, none⟩) (by simp only; omega) (.bool false))
      have KF2 := Lib.hid (KF.out.trans (keepsFrom_set (B := w2.heap.size) Y ⟨w.heap.size + 1, 0, none⟩ (.bool false)))
      have KU2 : Hid (KeepU [w.heap.size + 2, w.heap.size + 3] (w2.heap.size + 2) X (Y.setCell ⟨w.heap.size + 1, 0, none⟩ (.bool false))) := Lib.hid (KU.out.trans ⟨by simp, fun z hz hlt => Go.Deep.blk_setCell_other _ _ _ _ (by
        simp only
        rcases hz with hz | hz
        · simp only [List.mem_cons, List.not_mem_nil, or_false] at hz; omega
        · omega)⟩)
      clear ht0 RY s2
      gi_wp2_with fail
      exact ⟨KF2.out, KU2.out, rfl, KB.out, RS.out, BS.out⟩
  case done =>
    rintro E pre X hE hEX hfin ⟨hkt, hlow, hsz, hbel⟩ hK
    have hfin' : pre.length = m := hfin
    rw [hfin'] at hkt
    have RB : Boxed X (w.heap.size + 1) 4 (.bool false) := (hlow _ (by omega)).trans R2.out
    have y1 := RB.cell
    have y2 := RB.frozen
    have RE : Hid ((decide (l.length = 2 * m) && !keysBad D l) = true) := Lib.hid (by rw [decide_eq_true LN.out, ← keysTo_bad D l m LN.out, hkt]; rfl)
    have RS := Lib.hid (Boxed.set (.bool true) RB)
    have BS := Lib.hid (hbel.setCell (p := ⟨w.heap.size + 1, 0, none⟩) (by simp only; omega) (.bool true))
    have K2 : Hid ((X.setCell ⟨w.heap.size + 1, 0, none⟩ (.bool true)).heap[E]? = some (.deferred (some []))) := Lib.hid ((KeepsOthers.setCell _ _ _).same E _ hK rfl)
    clear hkt hlow hsz hbel hK hfin hfin' RB
    go_wp2_with fail
    obtain ⟨Y, hY⟩ : ∃ Y, X.setCell ⟨w.heap.size + 1, 0, none⟩ (.bool true) = Y := ⟨_, rfl⟩
    rw [hY] at RS BS K2 ⊢
    have r2 : (Y.putObj E (.deferred none)).cell? ⟨w.heap.size + 1, 0, none⟩ = some (.bool true) := Boxed.cell (t := 4) ((World.putObj_heap_other (by omega)).trans RS.out)
    refine ⟨by simp, .inl ⟨_, _, rfl, run_takeDeferred K2.out, ?_⟩⟩
    refine ⟨.bool true, by simp [results, Tryd.f45, go_sem, r2], by rw [RE.out], ?_⟩
    exact BS.out.trans ((sameBut_put _ _ _).below (by omega))
  case stop =>
    rintro E c pre X hE hEX ⟨rfl, hkb, RB, hbel⟩ hK
    have RE : Hid ((decide (l.length = 2 * m) && !keysBad D l) = false) := Lib.hid (by rw [hkb]; simp)
    have RS := Lib.hid RB
    have BS := Lib.hid hbel
    have K2 := Lib.hid hK
    clear hkb RB hbel hK
    refine wpIn_ret ?_
    go_wp2_with fail
    have r2 : (X.putObj E (.deferred none)).cell? ⟨w.heap.size + 1, 0, none⟩ = some (.bool false) := Boxed.cell (t := 4) ((World.putObj_heap_other (by omega)).trans RS.out)
    refine ⟨by simp, .inl ⟨_, _, rfl, run_takeDeferred K2.out, ?_⟩⟩
    refine ⟨.bool false, by simp [results, Tryd.f45, go_sem, r2], by rw [RE.out], ?_⟩
    exact BS.out.trans ((sameBut_put _ _ _).below (by omega))
end Go.Proofs.YtlgjjoglajgbeaaDoor
