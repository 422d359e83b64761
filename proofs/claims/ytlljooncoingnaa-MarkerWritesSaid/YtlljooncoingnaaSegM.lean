/- burnishlaw20.items: the program's items, of their own memory. By an AI agent. -/
import Derived.Test.YtlljooncoingnaaSegW
namespace Go.Proofs.Ytlljooncoingnaa
open Go.RowKit Go.BigFrame
set_option linter.unusedVariables false
set_option linter.unusedSimpArgs false

theorem Cp.owns {w : World} {v : Value} {g base : Nat} {l : List UInt8} (h : Cp w v g l) (hb : base ≤ g) (hl : l.length ≤ 140737488351232) : w.ownsRow base 5 1 v l.length (vBs l) := by
  obtain ⟨rfl, hg⟩ := h
  exact ⟨by simp [vBs], .inr ⟨g, l.length + 2, _, rfl, hb, hg, by omega, by unfold maxLen; omega, by simp [vBs], by simp [vBs]⟩⟩
theorem copyO_any (v : Value) (l : List UInt8) (w : World) (hb : Bs w v l) (hl : l.length ≤ 140737488351232) :
    Calls Try.prog 14 #[v] w fun e w' => ∃ a c, e = .returned (.slice a l.length c) ∧ w'.ownsRow w.heap.size 5 1 (.slice a l.length c) l.length (vBs l) ∧ Below w.heap.size w w' := by
  refine (copy_any v l w hb hl).mono ?_
  rintro e w' ⟨v', rfl, hc, hb', _⟩
  have ho := hc.owns (Nat.le_refl _) hl
  obtain ⟨a, c, rfl⟩ := owns_len ho
  exact ⟨a, c, rfl, ho, hb'⟩
theorem row_ne2 {w : World} {base B : Nat} {v : Value} {s n : Nat} {xs : List Value} {C : Array Value} {e ty : TypeId} {fr : Nat × Nat} (h : w.ownsRow base e s v n xs) (hb : w.heap[B]? = some (.cells C ty fr)) (ht : ty ≠ e) : v.ownBlock ≠ some B := by
  intro hj
  rcases h.2 with ⟨h1, _⟩ | ⟨g, cap, cur, h1, _, h2, _⟩
  · rw [h1] at hj; simp [Value.ownBlock] at hj
  · rw [h1] at hj
    simp only [Value.ownBlock, Option.some.injEq] at hj
    subst hj
    rw [hb] at h2
    simp only [Option.some.injEq, Obj.cells.injEq] at h2
    exact ht h2.2.1
theorem IvV.other {base B : Nat} {w w' : World} {v : Value} {ps : List BvP} {C : Array Value} {ty : TypeId} {fr : Nat × Nat} (h : IvV base w v ps) (hg : w.grownBy w' (some B)) (hb : w.heap[B]? = some (.cells C ty fr)) (h1 : ty ≠ 22) (h2 : ty ≠ 5) : IvV base w' v ps :=
  ⟨h.row.kept hg (.inr (row_ne2 h.row hb h1)), fun p hp => (h.data p hp).kept hg (.inr (row_ne2 (h.data p hp) hb h2))⟩
theorem set3 {w : World} {B : Nat} {u0 u1 u2 : Value} {ty : TypeId} (v0 v1 v2 : Value) (h : w.heap[B]? = some (.cells #[u0, u1, u2] ty (0, 0))) :
    (((w.setCell ⟨B, 0, none⟩ v0).setCell ⟨B, 1, none⟩ v1).setCell ⟨B, 2, none⟩ v2).heap[B]? = some (.cells #[v0, v1, v2] ty (0, 0)) ∧ w.grownBy (((w.setCell ⟨B, 0, none⟩ v0).setCell ⟨B, 1, none⟩ v1).setCell ⟨B, 2, none⟩ v2) (some B) :=
  ⟨by simp [World.setCell, Array.getElem?_modify, h], grown_trans (grown_trans (grown_set (Below.refl _ _) _ _ _) (grown_set (Below.refl _ _) _ _ _)) (grown_set (Below.refl _ _) _ _ _)⟩
theorem relA {w X w5 : World} {m : Int} {d : List UInt8} {a5 : Option Addr} {c5 b0 : Nat} (hs : w.heap.size ≤ X.heap.size) (hb : Below X.heap.size X w5) (hb0 : X.heap.size ≤ b0) (ho : w5.ownsRow b0 5 1 (.slice a5 d.length c5) d.length (vBs d)) :
    X.heap.size ≤ w5.heap.size ∧ (w5.alloc (.cells #[.int .i64 m, .slice a5 d.length c5, .slice none 0 0] 58)).heap[w5.heap.size]? = some (.cells #[.int .i64 m, .slice a5 d.length c5, .slice none 0 0] 58 (0, 0)) ∧
    (w5.alloc (.cells #[.int .i64 m, .slice a5 d.length c5, .slice none 0 0] 58)).ownsRow w.heap.size 5 1 (.slice a5 d.length c5) d.length (vBs d) ∧ Below X.heap.size X (w5.alloc (.cells #[.int .i64 m, .slice a5 d.length c5, .slice none 0 0] 58)) :=
  ⟨hb.size, heap_alloc_new _ _, (World.ownsRow.mono ho (Nat.le_trans hs hb0)).alloc _, hb.alloc hb.size _⟩
theorem relB {w X w5 : World} {m : Int} {d : List UInt8} {a5 : Option Addr} {c5 b0 : Nat} {u0 u1 u2 : Value} (hs : w.heap.size ≤ X.heap.size) (hb : Below X.heap.size X w5) (hz : w5.heap[X.heap.size]? = some (.cells #[u0, u1, u2] 58 (0, 0))) (hb0 : X.heap.size ≤ b0) (ho : w5.ownsRow b0 5 1 (.slice a5 d.length c5) d.length (vBs d)) :
    X.heap.size ≤ X.heap.size ∧ (((w5.setCell ⟨X.heap.size, 0, none⟩ (.int .i64 m)).setCell ⟨X.heap.size, 1, none⟩ (.slice a5 d.length c5)).setCell ⟨X.heap.size, 2, none⟩ (.slice none 0 0)).heap[X.heap.size]? = some (.cells #[.int .i64 m, .slice a5 d.length c5, .slice none 0 0] 58 (0, 0)) ∧
    (((w5.setCell ⟨X.heap.size, 0, none⟩ (.int .i64 m)).setCell ⟨X.heap.size, 1, none⟩ (.slice a5 d.length c5)).setCell ⟨X.heap.size, 2, none⟩ (.slice none 0 0)).ownsRow w.heap.size 5 1 (.slice a5 d.length c5) d.length (vBs d) ∧
    Below X.heap.size X (((w5.setCell ⟨X.heap.size, 0, none⟩ (.int .i64 m)).setCell ⟨X.heap.size, 1, none⟩ (.slice a5 d.length c5)).setCell ⟨X.heap.size, 2, none⟩ (.slice none 0 0)) := by
  have s3 := set3 (.int .i64 m) (.slice a5 d.length c5) (.slice none 0 0) hz
  have ho' := World.ownsRow.mono ho (Nat.le_trans hs hb0)
  exact ⟨Nat.le_refl _, s3.1, ho'.kept s3.2 (.inr (row_ne2 ho' hz (by decide))), ((hb.setCell (p := ⟨X.heap.size, 0, none⟩) (Nat.le_refl _) _).setCell (p := ⟨X.heap.size, 1, none⟩) (Nat.le_refl _) _).setCell (p := ⟨X.heap.size, 2, none⟩) (Nat.le_refl _) _⟩
set_option maxRecDepth 20000 in
set_option maxHeartbeats 8000000 in
theorem items_any (v : Value) (its : List Itm) (w : World) (hb : Its w v its) (hl : its.length ≤ 10000) (hd : ∀ it ∈ its, it.2.1.length ≤ 140737488351232) (hv : ∀ it ∈ its, it.2.2.length ≤ 10000) (hp : ∀ it ∈ its, ∀ p ∈ it.2.2, p.length ≤ 140737488351232) :
    Calls Try.prog 23 #[v] w fun e w' => ∃ v' xs, e = .returned v' ∧ ItV 58 w.heap.size w' v' xs ∧ xs.map ItP.it = its ∧ Below w.heap.size w w' := by
  obtain ⟨a0, c0, rfl, hc0, hx⟩ := its_at hb
  have HX := Lib.hid hx
  have HD := Lib.hid hd
  have HV := Lib.hid hv
  have HP := Lib.hid hp
  have HL := Lib.hid hl
  clear hx hb hd hv hp hl
  go_enter Try.func23, Try.ntmps23
  go_wp2_with fail
  go_loopw [3, 12] (fun u i W => ∃ (k : Nat) (xs : List ItP), k ≤ its.length ∧ i = .int .i64 k ∧ xs.length = k ∧ xs.map ItP.it = its.take k ∧ ItV 58 w.heap.size W u xs ∧ Below w.heap.size w W) (fun _ i _ => its.length - (intOf i).toNat)
  case atStart => exact ⟨0, [], Nat.zero_le _, rfl, rfl, rfl, ⟨World.ownsRow_lit (size := 3) w #[] 0 (Nat.le_refl _) (by unfold maxLen; omega) rfl, fun p hp => by simp at hp, fun p hp => by simp at hp⟩, (Below.refl _ _).alloc (Nat.le_refl _) _⟩
  case round =>
    obtain ⟨k, xs, hk, rfl, hxl, hxm, hi, hbel⟩ := hrel
    have BE := Lib.hid hbel
    have IJ := Lib.hid hi
    have XL := Lib.hid hxl
    have XM := Lib.hid hxm
    obtain ⟨u0, uc, rfl⟩ := owns_len hi.row
    rw [hxl]
    by_cases hkl : k < its.length
    · have k1 : k < 10000 := by have := HL.out; omega
      obtain ⟨b, off, dv, iv, rfl, p1, p2, p3, p4, p5⟩ := HX.out k hkl
      obtain ⟨da, dc, rfl⟩ := p1.len
      obtain ⟨va, vc, rfl, hiv⟩ := p2.read
      have HIV := Lib.hid hiv
      have q3 := cell_old hbel p3
      have q4 := cell_old hbel p4
      have q5 := cell_old hbel p5
      have DL := Lib.hid (HD.out _ (List.getElem_mem hkl))
      have VL := Lib.hid (HV.out _ (List.getElem_mem hkl))
      have PL := Lib.hid (HP.out _ (List.getElem_mem hkl))
      have DB := Lib.hid (p1.old hbel)
      have TK := Lib.hid (List.take_succ_eq_append_getElem hkl)
      obtain ⟨⟨m, d, ivs⟩, hc⟩ : ∃ c, its[k] = c := ⟨_, rfl⟩
      rw [hc] at q3 q4 q5 DL VL PL DB HIV TK
      simp only at q3 q4 q5 DL VL PL DB HIV
      have e1 : decide ((k : Int) < (its.length : Int)) = true := by rw [decide_eq_true_eq]; omega
      have e2 : decide (k < its.length) = true := by rw [decide_eq_true_eq]; omega
      have SW : Hid (w.heap.size ≤ wr.heap.size) := Lib.hid hbel.size
      obtain ⟨dn, hdn⟩ : ∃ n, d.length = n := ⟨_, rfl⟩
      obtain ⟨vn, hvn⟩ : ∃ n, ivs.length = n := ⟨_, rfl⟩
      have HDN := Lib.hid hdn
      have HVN := Lib.hid hvn
      rw [hdn] at q4 DB
      rw [hvn] at q5
      obtain ⟨X, hX⟩ : ∃ X, wr.alloc (.cells #[.int .i64 m, .slice da dn dc, .slice va vn vc] 47) = X := ⟨_, rfl⟩
      obtain ⟨Bx, hBx⟩ : ∃ B, wr.heap.size = B := ⟨_, rfl⟩
      have NX : Hid (X.heap[Bx]? = some (.cells #[.int .i64 m, .slice da dn dc, .slice va vn vc] 47 (0, 0))) := Lib.hid (by rw [← hX, ← hBx]; exact heap_alloc_new _ _)
      have XB : Hid (Below wr.heap.size wr X) := Lib.hid (by rw [← hX]; exact (Below.refl _ _).alloc (Nat.le_refl _) _)
      obtain ⟨z0, z1, z2, _⟩ := boxR_of NX.out
      clear p1 p2 p3 p4 p5 hc hi hbel hiv hdn hvn hxl hxm
      go_wp2_with fail
      go_cut [6] from 16 to 22 (fun t wx => ∃ (B : Nat) (a5 : Option Addr) (c5 : Nat), t = .pointer (some ⟨B, 0, none⟩) ∧ X.heap.size ≤ B ∧ wx.heap[B]? = some (.cells #[.int .i64 m, .slice a5 d.length c5, .slice none 0 0] 58 (0, 0)) ∧ wx.ownsRow w.heap.size 5 1 (.slice a5 d.length c5) d.length (vBs d) ∧ Below X.heap.size X wx)
      case first =>
        have SX : Hid (w.heap.size ≤ X.heap.size) := Lib.hid (Nat.le_trans SW.out XB.out.size)
        have KX : Hid (∀ W, Below X.heap.size X W → W.cell? ⟨Bx, 0, none⟩ = some (.int .i64 m) ∧ W.cell? ⟨Bx, 1, none⟩ = some (.slice da dn dc)) := Lib.hid (fun W hW => let r := boxR_of (heap_low NX.out hW); ⟨r.1, r.2.1⟩)
        have DX : Hid (∀ W, Below X.heap.size X W → Bs W (.slice da dn dc) d) := Lib.hid (fun W hW => by have := DB.out; rw [← HDN.out] at this; have h2 := this.old (XB.out.trans (hW.mono XB.out.size)); rw [HDN.out] at h2; exact h2)
        have z7 : ∀ O, (X.alloc O).cell? ⟨Bx, 0, none⟩ = some (.int .i64 m) := fun O => (KX.out _ ((Below.refl _ _).alloc (Nat.le_refl _) O)).1
        have z8 : ∀ O, (X.alloc O).cell? ⟨Bx, 1, none⟩ = some (.slice da dn dc) := fun O => (KX.out _ ((Below.refl _ _).alloc (Nat.le_refl _) O)).2
        go_region_law (((go_simp; go_at_call 14; first | (refine (copyO_any _ d _ (DX.out _ (Below.refl _ X).drew) DL.out).mono ?_; rintro e w5 ⟨a5, c5, rfl, ho5, hb5⟩; have hb5' : Below X.heap.size X w5 := (Below.refl _ X).drew.trans (hb5.mono (Nat.le_refl _)); obtain ⟨y0, y1⟩ := KX.out _ hb5'; have y5 : ∀ O, (w5.alloc O).cell? ⟨Bx, 0, none⟩ = some (.int .i64 m) := fun O => (KX.out _ (hb5'.alloc hb5'.size O)).1) | (refine (copyO_any _ d _ (DX.out _ ((Below.refl _ X).alloc (Nat.le_refl _) (.cells #[.int .i64 0, .slice none 0 0, .slice none 0 0] 58)).drew) DL.out).mono ?_; rintro e w5 ⟨a5, c5, rfl, ho5, hb5⟩; have hb5' : Below X.heap.size X w5 := ((Below.refl _ X).alloc (Nat.le_refl _) _).drew.trans (hb5.mono (by simp)); obtain ⟨y0, y1⟩ := KX.out _ hb5'; have y5 : ∀ O, (w5.alloc O).cell? ⟨Bx, 0, none⟩ = some (.int .i64 m) := fun O => (KX.out _ (hb5'.alloc hb5'.size O)).1; have hbz : w5.heap[X.heap.size]? = some (.cells #[.int .i64 0, .slice none 0 0, .slice none 0 0] 58 (0, 0)) := heap_low (w := (X.alloc (.cells #[.int .i64 0, .slice none 0 0, .slice none 0 0] 58)).drew) (heap_alloc_new X (.cells #[.int .i64 0, .slice none 0 0, .slice none 0 0] 58)) hb5; obtain ⟨t0, t1, t2, t3, t4, t5⟩ := box3_of hbz))))
        all_goals
          have HO5 := Lib.hid ho5
          have HB5 := Lib.hid hb5'
          first
          | (have HBZ := Lib.hid hbz
             clear ho5 hb5 hb5' y0 y1 y5 z7 z8 hX hBx z0 z1 z2 q3 q4 q5 hbz t0 t1 t2 t3 t4 t5
             go_wp2_with fail
             go_meet
             exact ⟨_, a5, c5, rfl, relB SX.out HB5.out HBZ.out (by simp) HO5.out⟩)
          | (clear ho5 hb5 hb5' y0 y1 y5 z7 z8 hX hBx z0 z1 z2 q3 q4 q5
             go_wp2_with fail
             go_meet
             exact ⟨_, a5, c5, rfl, relA SX.out HB5.out (Nat.le_refl _) HO5.out⟩)
      case rest =>
        obtain ⟨B, a5, c5, rfl, hBX, hbx, od, bx⟩ := hcut
        have NB := Lib.hid hbx
        have OD := Lib.hid od
        have BXW := Lib.hid bx
        have HBX := Lib.hid hBX
        have SX : Hid (w.heap.size ≤ X.heap.size) := Lib.hid (Nat.le_trans SW.out XB.out.size)
        obtain ⟨zz0, zz1, zz2, _⟩ := boxR_of (heap_low NX.out bx)
        clear z0 z1 z2 hbx od bx hX hBx hBX
        rw [HDN.out] at NB OD
        have IJX := Lib.hid (IJ.out.old XB.out)
        have B0 := Lib.hid (BE.out.trans (XB.out.mono BE.out.size))
        have NT : Hid (its.take (k + 1) = its.take k ++ [(m, d, ivs)]) := Lib.hid TK.out
        go_wp2_with fail
        go_loopw [26] (fun i W => ∃ (j : Nat) (ps : List BvP) (iv : Value), j ≤ vn ∧ i = .int .i64 (j : Int) ∧ ps.length = j ∧ ps.map (·.1) = ivs.take j ∧ W.heap[B]? = some (.cells #[.int .i64 m, .slice a5 dn c5, iv] 58 (0, 0)) ∧ IvV X.heap.size W iv ps ∧ W.ownsRow w.heap.size 5 1 (.slice a5 dn c5) dn (vBs d) ∧ Below X.heap.size X W) (fun i _ => vn - (intOf i).toNat)
        case atStart => exact ⟨0, [], .slice none 0 0, Nat.zero_le _, rfl, rfl, rfl, NB.out, IvV.nil _ _, OD.out, BXW.out⟩
        case round =>
          obtain ⟨j, ps, iv, hj, rfl, hpl, hpm, hbx, hiv, hod, hb2⟩ := hrel
          obtain ⟨ai, ci, rfl⟩ := owns_len hiv.row
          have BX2 := Lib.hid hbx
          have IV2 := Lib.hid hiv
          have OD2 := Lib.hid hod
          have W2 := Lib.hid hb2
          have PSL := Lib.hid hpl
          have PSM := Lib.hid hpm
          have WW : Hid (Below w.heap.size w wr) := Lib.hid (B0.out.trans (hb2.mono B0.out.size))
          obtain ⟨z0, z1, z2, z3, z4, z5⟩ := box3_of hbx
          by_cases hjl : j < vn
          · have jl : j < ivs.length := by have := HVN.out; omega
            have jm : j < 10000 := by have := VL.out; have := HVN.out; omega
            obtain ⟨pb, po, x, rfl, r1, r2⟩ := HIV.out j jl
            have TJ := Lib.hid (show ivs.take (j + 1) = ivs.take j ++ [ivs[j]] from List.take_succ_eq_append_getElem jl)
            have PP := Lib.hid (PL.out _ (List.getElem_mem jl))
            obtain ⟨pl, hpl2⟩ : ∃ pl, ivs[j]'jl = pl := ⟨_, rfl⟩
            rw [hpl2] at TJ r2 PP
            obtain ⟨pa, pc, rfl⟩ := r2.len
            have s1 := cell_old WW.out r1
            have PB := Lib.hid (r2.old WW.out.drew)
            have e3 : decide ((j : Int) < (vn : Int)) = true := by rw [decide_eq_true_eq]; omega
            have e4 : decide (j < vn) = true := by rw [decide_eq_true_eq]; omega
            have m4 : ps.length ≤ 10000 := by omega
            have m5 : X.heap.size ≤ wr.heap.size := hb2.size
            have KEEP : Hid (∀ W, Below wr.heap.size wr W → W.cell? ⟨B, 2, none⟩ = some (.slice ai ps.length ci) ∧ W.frozen? ⟨B, 2, none⟩ = false) := Lib.hid (fun W hW => let r := box3_of (heap_low BX2.out hW); ⟨r.2.2.1, r.2.2.2.2.2⟩)
            have KEEP2 : Hid (∀ (W : World) (O : Obj) (W' : World), Below wr.heap.size wr W → W.ownsRow X.heap.size 22 1 (.slice ai ps.length ci) ps.length (valsP ps) → (W.alloc O).grownBy W' (Value.slice ai ps.length ci).ownBlock → W'.heap[B]? = some (.cells #[.int .i64 m, .slice a5 dn c5, .slice ai ps.length ci] 58 (0, 0)) ∧ W'.cell? ⟨B, 2, none⟩ = some (.slice ai ps.length ci) ∧ W'.frozen? ⟨B, 2, none⟩ = false) := Lib.hid (fun W O W' hW ho hg => by
              have h1 := heap_low BX2.out hW
              have h2 : (W.alloc O).heap[B]? = _ := heap_low h1 ((Below.refl _ _).alloc (Nat.le_refl _) O)
              have h3 := hg.block B (Array.getElem?_eq_some_iff.1 h2).1 (fun e => row_ne2 (ho.alloc O) h2 (by decide) e.symm)
              rw [h2] at h3
              have r := box3_of h3
              exact ⟨h3, r.2.2.1, r.2.2.2.2.2⟩)
            clear hpl hpm hbx hiv hod hb2 hpl2 r1 r2 z0 z1 z3 z4 zz0 zz1 zz2
            go_upto_region 9 with (fail)
            go_region_law ((first | (refine step_app tyS rfl _ _ rfl X.heap.size _ ps.length (valsP ps) rfl (owns_below (by assumption) ((Below.refl _ _).alloc (Nat.le_refl _) _)) _ 1 _ rfl (sl_heap (heap_alloc_new _ _) rfl (Nat.le_refl _)) (by intro u hu; simp at hu; subst hu; rfl) (by omega) (by omega) (Nat.le_trans (by assumption) (by simp)) ?_; intro v5 w5 hown5 hg5; obtain ⟨y0, y1, y2⟩ := KEEP2.out _ _ _ (by assumption) (by assumption) hg5; obtain ⟨a6, c6, hv6⟩ := owns_len hown5; subst hv6) | (go_simp; go_at_call 14; refine (copyO_any _ pl _ PB.out PP.out).mono ?_; rintro e w4 ⟨a4, c4, rfl, ho4, hb4⟩; have hb4' : Below wr.heap.size wr w4 := (Below.refl wr.heap.size wr).drew.trans (hb4.mono (Nat.le_refl _)); obtain ⟨t0, t1⟩ := KEEP.out _ hb4'; have t5 : ∀ O, (w4.alloc O).cell? ⟨B, 2, none⟩ = some (.slice ai ps.length ci) := fun O => (KEEP.out _ (hb4'.alloc hb4'.size O)).1; have hw4 : X.heap.size ≤ w4.heap.size := Nat.le_trans m5 hb4'.size; have hr4 := owns_below IV2.out.row hb4')))
            all_goals
              have H5 := Lib.hid hown5
              have G5 := Lib.hid hg5
              have Y0 := Lib.hid y0
              have O4 := Lib.hid (World.ownsRow.mono ho4 m5)
              have B4 := Lib.hid hb4'
              have I4 := Lib.hid (IV2.out.old hb4')
              clear hown5 hg5 y0 y1 y2 ho4 hb4 hb4' t0 t1 t5 hw4 hr4
              have AL := (Below.refl w4.heap.size w4).alloc (Nat.le_refl _) (.cells #[.slice a4 pl.length c4] 22)
              have OI := I4.out.old AL
              have DV := (owns_below (owns_below OD2.out B4.out) AL).kept G5.out (own_ne (owns_below (owns_below OD2.out B4.out) AL) OI.row (by decide))
              have SG := grown_set (v := .slice a6 (ps.length + 1) c6) (i := 2) (R := B) (Below.refl w5.heap.size w5)
              have F1 : Hid ((w5.setCell ⟨B, 2, none⟩ (.slice a6 (ps.length + 1) c6)).heap[B]? = some (.cells #[.int .i64 m, .slice a5 dn c5, .slice a6 (ps.length + 1) c6] 58 (0, 0))) := Lib.hid (by simp [World.setCell, Array.getElem?_modify, Y0.out])
              have F2 := Lib.hid ((IvV.snoc (p := (pl, .slice a4 pl.length c4)) OI (owns_below O4.out AL) G5.out H5.out).other SG Y0.out (by decide) (by decide))
              have F3 := Lib.hid (DV.kept SG (.inr (row_ne2 DV Y0.out (by decide))))
              have F4 : Hid (Below X.heap.size X (w5.setCell ⟨B, 2, none⟩ (.slice a6 (ps.length + 1) c6))) := Lib.hid (by
                have h1 := W2.out.trans (B4.out.mono W2.out.size)
                have h2 := h1.alloc h1.size (.cells #[.slice a4 pl.length c4] 22)
                have h3 := h2.grown G5.out h2.size (fun k hk => (OI.row.lt k hk).1)
                exact h3.setCell (p := ⟨B, 2, none⟩) HBX.out _)
              clear AL OI DV SG z2 z5 m4 m5 s1
              go_wp2_with fail
              go_roundw
              case rel => exact ⟨j + 1, ps ++ [(pl, .slice a4 pl.length c4)], .slice a6 (ps.length + 1) c6, by omega, by go_num, by rw [List.length_append, PSL.out]; rfl, by rw [List.map_append, PSM.out, TJ.out]; rfl, F1.out, F2.out, F3.out, F4.out⟩
              case measure => simp [intOf]; omega
          · obtain rfl : j = vn := by omega
            have e3 : decide ((j : Int) < (j : Int)) = false := by rw [decide_eq_false_iff_not]; omega
            have PSV : Hid (ps.map (·.1) = ivs) := Lib.hid (by rw [PSM.out, ← HVN.out, List.take_length])
            have VX := Lib.hid (IV2.out.mono SX.out)
            have IX := Lib.hid (IJX.out.old hb2)
            clear hpl hpm hbx hiv hod hb2 zz0 zz1 zz2
            go_wp2_with (at_builtin; refine stop ?_)
            have WB2 : Below wr.heap.size wr (wr.alloc (.cells #[.int .i64 m, .slice a5 dn c5, .slice ai ps.length ci] 58)) := (Below.refl _ _).alloc (Nat.le_refl _) _
            have IZ := IX.out.old WB2
            have DZ : (wr.alloc (.cells #[.int .i64 m, .slice a5 dn c5, .slice ai ps.length ci] 58)).ownsRow w.heap.size 5 1 (.slice a5 dn c5) d.length (vBs d) := by rw [HDN.out]; exact owns_below OD2.out WB2
            have VZ := VX.out.old WB2
            have hrow := IZ.row
            rw [XL.out] at hrow
            refine unstop (wpList_app tyM rfl _ _ rfl w.heap.size (.slice u0 k uc) k (cellsI xs) rfl hrow (.slice (some ⟨wr.heap.size, 0, none⟩) 1 1) 1 [.int .i64 m, .slice a5 dn c5, .slice ai ps.length ci] rfl (sl_lit3 wr [.int .i64 m, .slice a5 dn c5, .slice ai ps.length ci] 58 1 rfl (by omega)) (by intro u hu; simp at hu; rcases hu with rfl | rfl | rfl <;> rfl) (by omega) (by omega) (by have := WW.out.size; simp; omega) ?_)
            intro v8 w8 o8 g8 _
            have B8 : Hid (Below w.heap.size w w8) := Lib.hid (run_app_below hrow g8 (WW.out.trans (WB2.mono WW.out.size)) (Nat.le_refl _))
            have hu0 : (Value.slice u0 xs.length uc).ownBlock = (Value.slice u0 k uc).ownBlock := by cases u0 <;> rfl
            rw [← hu0] at g8
            have I8 := Lib.hid (ItV.snoc (x := ⟨m, (d, .slice a5 dn c5), .slice ai ps.length ci, ps⟩) IZ DZ VZ g8 (by rw [XL.out]; exact o8) (by decide) (by decide))
            obtain ⟨a8, c8, rfl⟩ := owns_len o8
            clear IZ DZ VZ WB2 o8 g8 hrow hu0
            go_wp2_with fail
            go_roundw
            case rel => exact ⟨k + 1, xs ++ [⟨m, (d, .slice a5 dn c5), .slice ai ps.length ci, ps⟩], by omega, by go_num, by rw [List.length_append, XL.out]; rfl, by rw [List.map_append, XM.out, NT.out]; simp [ItP.it, PSV.out], I8.out, B8.out⟩
            case measure => simp [intOf]; omega
    · obtain rfl : k = its.length := by omega
      have e1 : decide ((its.length : Int) < (its.length : Int)) = false := by rw [decide_eq_false_iff_not]; omega
      rw [List.take_length] at XM
      clear hi hbel hxl hxm
      go_wp2_with fail
      go_ret
      exact ⟨_, xs, rfl, by rw [← XL.out]; exact IJ.out, XM.out, BE.out⟩
end Go.Proofs.Ytlljooncoingnaa
