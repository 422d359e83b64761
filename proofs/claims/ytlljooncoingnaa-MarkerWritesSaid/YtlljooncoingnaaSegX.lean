/- burnishref20.Good, Write. By an AI agent. -/
import Derived.Test.YtlljooncoingnaaSegL
namespace Go.Proofs.Ytlljooncoingnaa
open Go.RowKit Go.BigFrame
set_option linter.unusedVariables false
set_option linter.unusedSimpArgs false

theorem goodI_ref (m : Int) (d : List UInt8) (ivs : List (List UInt8)) : goodI (m, d, ivs) = (markedB m && !(m == 217) && !decide (65533 < d.length) && (if m == 218 then decide (1 ≤ ivs.length) && decide (ivs.length ≤ 65536) else decide (ivs.length = 0))) := by
  unfold goodI markedB
  simp only
  rw [Bool.eq_iff_iff]
  by_cases h : m = 218
  · have e : (m == 218) = true := by rw [beq_iff_eq]; exact h
    rw [e]
    simp only [if_pos h, if_true, Bool.and_eq_true, Bool.or_eq_true, decide_eq_true_eq, Bool.not_eq_true', beq_eq_false_iff_ne, decide_eq_false_iff_not]
    constructor
    · rintro ⟨⟨⟨h1, h2⟩, h3⟩, h4⟩; exact ⟨⟨⟨h1, h2⟩, by omega⟩, h4⟩
    · rintro ⟨⟨⟨h1, h2⟩, h3⟩, h4⟩; exact ⟨⟨⟨h1, h2⟩, by omega⟩, h4⟩
  · have e : (m == 218) = false := by rw [beq_eq_false_iff_ne]; exact h
    rw [e]
    simp only [if_neg h, Bool.false_eq_true, if_false, Bool.and_eq_true, Bool.or_eq_true, decide_eq_true_eq, Bool.not_eq_true', beq_eq_false_iff_ne, decide_eq_false_iff_not]
    constructor
    · rintro ⟨⟨⟨h1, h2⟩, h3⟩, h4⟩; exact ⟨⟨⟨h1, h2⟩, by omega⟩, h4⟩
    · rintro ⟨⟨⟨h1, h2⟩, h3⟩, h4⟩; exact ⟨⟨⟨h1, h2⟩, by omega⟩, h4⟩
set_option maxRecDepth 20000 in
set_option maxHeartbeats 3200000 in
theorem refGood_any (m : Int) (d : List UInt8) (ivs : List (List UInt8)) (da va : Option Addr) (dc vc : Nat) (w : World) (hd : d.length ≤ 140737488351232) (hv : ivs.length ≤ 140737488351232) :
    Calls Try.prog 25 #[.agg #[.int .i64 m, .slice da d.length dc, .slice va ivs.length vc]] w fun e w' => e = .returned (.bool (goodI (m, d, ivs))) ∧ Below w.heap.size w w' := by
  have GI := Lib.hid (goodI_ref m d ivs)
  obtain ⟨n, hn⟩ : ∃ n, d.length = n := ⟨_, rfl⟩
  obtain ⟨k, hk⟩ : ∃ k, ivs.length = k := ⟨_, rfl⟩
  rw [hn, hk] at GI
  rw [hn, hk]
  have BL : Hid (∀ O, Below w.heap.size w (w.alloc O)) := Lib.hid (fun O => (Below.refl _ w).alloc (Nat.le_refl _) O)
  clear hn hk hd hv
  have D1 : Hid (decide ((65533 : Int) < (n : Int)) = decide (65533 < n)) := Lib.hid (by rw [decide_eq_decide]; omega)
  have D2 : Hid (decide ((1 : Int) ≤ (k : Int)) = decide (1 ≤ k)) := Lib.hid (by rw [decide_eq_decide]; omega)
  have D3 : Hid (decide ((k : Int) ≤ (65536 : Int)) = decide (k ≤ 65536)) := Lib.hid (by rw [decide_eq_decide]; omega)
  have D4 : Hid (((k : Int) == 0) = decide (k = 0)) := Lib.hid (by rw [Bool.eq_iff_iff, beq_iff_eq, decide_eq_true_eq]; omega)
  rcases hM : markedB m with _ | _
  · have G : Hid (goodI (m, d, ivs) = false) := Lib.hid (by rw [GI.out, hM]; rfl)
    go_enter Try.func25, Try.ntmps25
    go_wp2_with fail
    refine (refMarked_any m _).mono ?_; rintro e w3 ⟨rfl, rfl⟩
    rw [hM]
    go_wp2_with fail
    go_ret
    exact ⟨rb G.out.symm, BL.out _⟩
  rcases h7 : (m == 217) with _ | _
  rotate_left
  · have G : Hid (goodI (m, d, ivs) = false) := Lib.hid (by rw [GI.out, hM, h7]; rfl)
    go_enter Try.func25, Try.ntmps25
    go_wp2_with fail
    refine (refMarked_any m _).mono ?_; rintro e w3 ⟨rfl, rfl⟩
    rw [hM]
    go_wp2_with fail
    go_ret
    exact ⟨rb G.out.symm, BL.out _⟩
  rcases hL : decide (65533 < n) with _ | _
  rotate_left
  · have G : Hid (goodI (m, d, ivs) = false) := Lib.hid (by rw [GI.out, hM, h7, hL]; rfl)
    have hL2 : decide ((65533 : Int) < (n : Int)) = true := by rw [D1.out]; exact hL
    go_enter Try.func25, Try.ntmps25
    go_wp2_with fail
    refine (refMarked_any m _).mono ?_; rintro e w3 ⟨rfl, rfl⟩
    rw [hM]
    go_wp2_with fail
    go_ret
    exact ⟨rb G.out.symm, BL.out _⟩
  have hL2 : decide ((65533 : Int) < (n : Int)) = false := by rw [D1.out]; exact hL
  rcases h8 : (m == 218) with _ | _
  · have G : Hid (goodI (m, d, ivs) = decide (k = 0)) := Lib.hid (by rw [GI.out, hM, h7, hL, h8]; rfl)
    have hK2 := D4.out
    go_enter Try.func25, Try.ntmps25
    go_wp2_with fail
    refine (refMarked_any m _).mono ?_; rintro e w3 ⟨rfl, rfl⟩
    rw [hM]
    go_wp2_with fail
    go_ret
    refine ⟨rb ?_, BL.out _⟩
    rw [G.out]
  · rcases hK : decide (1 ≤ k) with _ | _ <;> rcases hB : decide (k ≤ 65536) with _ | _
    all_goals
      obtain ⟨g, hg⟩ : ∃ g, goodI (m, d, ivs) = g := ⟨_, rfl⟩
      have G : Hid (goodI (m, d, ivs) = g) := Lib.hid hg
      rw [GI.out, hM, h7, hL, h8, hK, hB] at hg
      have hK2 := D2.out
      have hB2 := D3.out
      rw [hK] at hK2
      rw [hB] at hB2
      rw [G.out]
      subst hg
      go_enter Try.func25, Try.ntmps25
      go_wp2_with fail
      refine (refMarked_any m _).mono ?_; rintro e w3 ⟨rfl, rfl⟩
      rw [hM]
      go_wp2_with fail
      go_ret
      exact ⟨rfl, BL.out _⟩
theorem number_lit2 (t : Nat) (w : World) (ht : t < 65536) : Calls Try.prog 40 #[.int .i64 2, .int .i64 (t : Int)] w fun e w' => ∃ a c, e = .returned (.tuple #[.slice a 2 c, .int .i64 0]) ∧ w'.ownsRow w.heap.size 5 1 (.slice a 2 c) 2 (vBs (putL 2 t)) ∧ Below w.heap.size w w' := by
  refine (number_good 2 t w (by decide) ht).mono ?_
  rintro e w' ⟨v, rfl, _, ho, hb⟩
  obtain ⟨a, c, rfl⟩ := owns_len ho
  exact ⟨a, c, rfl, ho, hb⟩
set_option maxRecDepth 20000 in
set_option maxHeartbeats 8000000 in
theorem refWrite_any (v : Value) (its : List Itm) (w : World) (hb : Its w v its) (hl : its.length ≤ 1000000) (hg : its.all goodI = true) (hs : (writeS its).length ≤ 1048576) :
    Calls Try.prog 28 #[v] w fun e w' => ∃ v', e = .returned v' ∧ Bs w' v' (writeS its) ∧ Below w.heap.size w w' := by
  obtain ⟨a0, c0, rfl, hc0, hx⟩ := its_at hb
  have HX := Lib.hid hx
  have HL := Lib.hid hl
  have GA := Lib.hid hg
  have HW := Lib.hid hs
  clear hx hb hl hg hs
  go_enter Try.func28, Try.ntmps28
  go_wp2_with fail
  go_loopw [3, 4] (fun u i W => ∃ k : Nat, k ≤ its.length ∧ i = .int .i64 k ∧ W.ownsRow w.heap.size 5 1 u (outK its k).length (vBs (outK its k)) ∧ Below w.heap.size w W) (fun _ i _ => its.length - (intOf i).toNat)
  case atStart =>
    have h0 : outK its 0 = [255, 216] := by simp [outK]
    exact ⟨0, Nat.zero_le _, rfl, by rw [h0]; exact World.ownsRow_lit (size := 1) w #[.int .u8 255, .int .u8 216] 2 (Nat.le_refl _) (by unfold maxLen; omega) rfl, (Below.refl _ _).alloc (Nat.le_refl _) _⟩
  case round =>
    obtain ⟨k, hk, rfl, hown, hbel⟩ := hrel
    have BK := Lib.hid hbel
    have OK := Lib.hid hown
    obtain ⟨ua, uc, rfl⟩ := owns_len hown
    have OL := Lib.hid (outK_le its k)
    by_cases hkl : k < its.length
    · have k1 : k < 1000000 := by have := HL.out; omega
      obtain ⟨b, off, dv, iv, rfl, p1, p2, p3, p4, p5⟩ := HX.out k hkl
      obtain ⟨da, dc, rfl⟩ := p1.len
      obtain ⟨va, vc, rfl, hiv⟩ := p2.read
      have HIV := Lib.hid hiv
      have GG := Lib.hid (good_parts (List.all_eq_true.1 GA.out _ (List.getElem_mem hkl)))
      have OS := Lib.hid (outK_succ its k hkl)
      have OL2 := Lib.hid (outK_le its (k + 1))
      have DB := Lib.hid p1
      obtain ⟨⟨m, d, ivs⟩, hc⟩ : ∃ c, its[k] = c := ⟨_, rfl⟩
      rw [hc] at p3 p4 p5 GG OS DB HIV
      simp only at p3 p4 p5 GG DB HIV
      have e1 : decide ((k : Int) < (its.length : Int)) = true := by rw [decide_eq_true_eq]; omega
      have e2 : decide (k < its.length) = true := by rw [decide_eq_true_eq]; omega
      obtain ⟨dn, hdn⟩ : ∃ n, d.length = n := ⟨_, rfl⟩
      obtain ⟨vn, hvn⟩ : ∃ n, ivs.length = n := ⟨_, rfl⟩
      have HDN := Lib.hid hdn
      have HVN := Lib.hid hvn
      rw [hdn] at p4
      rw [hvn] at p5
      have CC : Hid (∀ W, Below w.heap.size w W → W.cell? ⟨b, off + k * 3, none⟩ = some (.int .i64 m) ∧ W.cell? ⟨b, off + k * 3 + 1, none⟩ = some (.slice da dn dc) ∧ W.cell? ⟨b, off + k * 3 + 2, none⟩ = some (.slice va vn vc)) := Lib.hid (fun W hW => ⟨cell_old hW p3, cell_old hW p4, cell_old hW p5⟩)
      obtain ⟨t, ht⟩ : ∃ t, 2 + dn = t := ⟨_, rfl⟩
      have HT := Lib.hid ht
      have DN5 : Hid (dn ≤ 65533) := Lib.hid (by have := GG.out.2.2.2.2.1; omega)
      have T6 : Hid (t < 65536) := Lib.hid (by have := DN5.out; omega)
      have F1 : Hid (wrap64 (2 + (dn : Int)) = (t : Int)) := Lib.hid (by rw [IntWalk.wrap64_in _ (by have := DN5.out; omega)]; omega)
      obtain ⟨o, ho⟩ : ∃ o, outK its k = o := ⟨_, rfl⟩
      obtain ⟨ch, hch⟩ : ∃ c, UInt8.ofNat m.toNat = c := ⟨_, rfl⟩
      have hcm : ((ch.toNat : Nat) : Int) = m := by rw [← hch]; exact byte_back m (by have := GG.out.1; omega) (by have := GG.out.2.1; omega)
      have HCM := Lib.hid hcm
      rw [ho] at OK OS OL ⊢
      have OS2 : Hid (outK its (k + 1) = o ++ [255, ch] ++ putL 2 t ++ d ++ ivsL 0 ivs) := Lib.hid (by rw [OS.out]; unfold itemL; simp only; rw [hch, HDN.out, HT.out]; simp)
      have LEN : Hid (o.length + 4 + dn + (ivsL 0 ivs).length ≤ 1048576) := Lib.hid (by
        have h1 := OL2.out; have h2 := HW.out
        rw [OS2.out] at h1
        simp only [List.length_append, List.length_cons, List.length_nil, putL_length, HDN.out] at h1
        omega)
      obtain ⟨z0, z1, z2⟩ := CC.out _ hbel
      have f1 := F1.out
      clear p1 p2 p3 p4 p5 hc hown hbel hdn hvn ht hiv ho hch hcm
      go_wp2_with fail
      refine (number_lit2 t _ T6.out).mono ?_; rintro e w3 ⟨a3, c3, rfl, o3, hb3⟩
      have B3 := Lib.hid (BK.out.trans (hb3.mono BK.out.size))
      have O3 := Lib.hid o3
      have R3 := Lib.hid (owns_below OK.out hb3)
      have ULT : Hid (∀ j, (Value.slice ua o.length uc).ownBlock = some j → j < wr.heap.size) := Lib.hid (fun j hj => (OK.out.lt j hj).2)
      obtain ⟨z0, z1, z2⟩ := CC.out _ B3.out
      clear o3 hb3 f1
      go_wp2_with (at_builtin; refine stop ?_)
      refine unstop (wpList_app tyB rfl _ _ rfl w.heap.size (.slice ua o.length uc) o.length (vBs o) rfl (R3.out.alloc _) (.slice (some ⟨w3.heap.size, 0, none⟩) 2 2) 2 [.int .u8 255, .int .u8 (m % 256)] rfl (sl_heap (heap_alloc_new _ _) rfl (Nat.le_refl _)) (by intro u hu; simp at hu; rcases hu with rfl | rfl <;> rfl) (by have := LEN.out; omega) (by have := LEN.out; omega) (by have := B3.out.size; simp; omega) ?_)
      intro v4 w4 o4 g4 _
      have B4 := Lib.hid (run_app_below (R3.out.alloc _) g4 (B3.out.alloc B3.out.size _) (Nat.le_refl _))
      have M256 : m % 256 = m := by have h1 := GG.out.1; have h2 := GG.out.2.1; omega
      have o4' : w4.ownsRow w.heap.size 5 1 v4 (o ++ [255, ch]).length (vBs (o ++ [255, ch])) := by
        rw [M256, ← HCM.out] at o4
        simpa [vBs, vB] using o4
      have N4 : Hid (w4.ownsRow wr.heap.size 5 1 (.slice a3 2 c3) 2 (vBs (putL 2 t))) := Lib.hid ((O3.out.alloc _).kept g4 (by
        cases hv : (Value.slice a3 2 c3).ownBlock with
        | none => exact .inl rfl
        | some z =>
          right
          intro e
          have h1 := (O3.out.lt z hv).1
          have h2 := ULT.out z e.symm
          omega))
      clear o4 g4 M256
      obtain ⟨o2, ho2⟩ : ∃ o2, o ++ [255, ch] = o2 := ⟨_, rfl⟩
      have OL3 : Hid (o2.length = o.length + 2) := Lib.hid (by rw [← ho2]; simp)
      rw [ho2] at o4' OS2
      obtain ⟨a4, c4, rfl⟩ := owns_len o4'
      have O4 := Lib.hid o4'
      obtain ⟨z0, z1, z2⟩ := CC.out _ B4.out
      have n2 : (o2.length + 2) * 1 ≤ 140737488355328 := by have := LEN.out; have := OL3.out; omega
      have n3 : (o2.length + 2 + dn) * 1 ≤ 140737488355328 := by have := LEN.out; have := OL3.out; omega
      clear o4' ho2
      go_upto_region 7 with (fail)
      go_cut [3] from 35 to 43 (fun u wx => wx.ownsRow w.heap.size 5 1 u (o2.length + 2 + dn) (vBs (o2 ++ putL 2 t ++ d)) ∧ Below w.heap.size w wx)
      case first =>
        have DB2 : Hid (∀ W, Below w.heap.size w W → SlN 1 W (.slice da dn dc) dn (vBs d)) := Lib.hid (fun W hW => by have := DB.out.old hW; unfold Bs at this; rw [HDN.out] at this; exact this)
        have R4 : Hid (w4.drew.ownsRow w.heap.size 5 1 (.slice a4 o2.length c4) o2.length (vBs o2)) := Lib.hid (owns_below O4.out (Below.refl _ _).drew)
        have N5 : Hid (SlN 1 w4.drew (.slice a3 2 c3) 2 (vBs (putL 2 t))) := Lib.hid (sl_of_owns (owns_below N4.out (Below.refl _ _).drew))
        go_region_law ((first | (refine step_app tyB rfl _ _ rfl w.heap.size _ o2.length (vBs o2) rfl R4.out _ 2 (vBs (putL 2 t)) rfl N5.out (vBs_one _) n2 (by omega) (by have := B4.out.size; exact this) ?_; intro v6 w6 hown6 hg6; have hw6 := run_app_below R4.out hg6 B4.out.drew (Nat.le_refl _); obtain ⟨y0, y1, y2⟩ := CC.out _ hw6; obtain ⟨a6, c6, hv6⟩ := owns_len hown6; subst hv6; have H6 := Lib.hid hown6; have W6 := Lib.hid hw6; clear hown6 hg6 hw6) | (refine step_app tyB rfl _ _ rfl w.heap.size _ (o2.length + 2) _ rfl H6.out _ dn (vBs d) rfl (DB2.out _ W6.out) (vBs_one _) n3 (by omega) W6.out.size ?_; intro v7 w7 hown7 hg7; have hw7 := run_app_below H6.out hg7 W6.out (Nat.le_refl _); obtain ⟨a7, c7, hv7⟩ := owns_len hown7; subst hv7; have H7 := Lib.hid hown7; have W7 := Lib.hid hw7; clear hown7 hg7 hw7)))
        all_goals
          go_wp2_with fail
          go_meet
          refine ⟨?_, W7.out⟩
          have := H7.out
          simpa [vBs, vB] using this
      case rest =>
        obtain ⟨ou, hbe⟩ := hcut
        obtain ⟨a7, c7, hv7⟩ := owns_len ou
        subst hv7
        obtain ⟨q, hq⟩ : ∃ q, o2 ++ putL 2 t ++ d = q := ⟨_, rfl⟩
        have ql : q.length = o2.length + 2 + dn := by rw [← hq]; simp [putL_length, HDN.out]; omega
        rw [hq, ← ql] at ou
        rw [← ql]
        rw [hq] at OS2
        have QL := Lib.hid ql
        have OU := Lib.hid ou
        have BQ := Lib.hid hbe
        have VNL : Hid (vn ≤ 1048577) := Lib.hid (by have := (ivsL_len ivs 0).1; have := LEN.out; have := HVN.out; omega)
        clear ou hbe hq ql n2 n3 z0 z1 z2
        go_wp2_with fail
        go_loopw [3, 7] (fun u i W => ∃ j : Nat, j ≤ vn ∧ i = .int .i64 j ∧ W.ownsRow w.heap.size 5 1 u (q ++ ivsL 0 (ivs.take j)).length (vBs (q ++ ivsL 0 (ivs.take j))) ∧ Below w.heap.size w W) (fun _ i _ => vn - (intOf i).toNat)
        case atStart => exact ⟨0, Nat.zero_le _, rfl, by simpa [ivsL] using OU.out, BQ.out⟩
        case round =>
          obtain ⟨j, hj, rfl, hown, hbel⟩ := hrel
          have RJ := Lib.hid hown
          have BJ := Lib.hid hbel
          have SJ : Hid (w.heap.size ≤ wr.heap.size) := Lib.hid hbel.size
          obtain ⟨z0, z1, z2⟩ := CC.out _ hbel
          by_cases hjl : j < vn
          · have jl : j < ivs.length := by have := HVN.out; omega
            have jm : j < 1048577 := by have := VNL.out; omega
            obtain ⟨pb, po, x, rfl, r1, r2⟩ := HIV.out j jl
            have TK := Lib.hid (ivsL_take ivs j jl)
            have TL := Lib.hid (ivsL_take_le ivs (j + 1))
            obtain ⟨pl, hpl⟩ : ∃ pl, ivs[j]'jl = pl := ⟨_, rfl⟩
            rw [hpl] at TK r2
            obtain ⟨pa, pc, rfl⟩ := r2.len
            have PB := Lib.hid r2
            have S1 := Lib.hid r1
            have SL := Lib.hid (stuffL_len pl)
            obtain ⟨e, he⟩ : ∃ e, q ++ ivsL 0 (ivs.take j) = e := ⟨_, rfl⟩
            have TK2 : Hid (q ++ ivsL 0 (ivs.take (j + 1)) = e ++ ((if 0 < j then [255, UInt8.ofNat (208 + (j - 1) % 8)] else []) ++ stuffL pl)) := Lib.hid (by rw [TK.out, ← he]; simp)
            have LN2 : Hid ((q ++ ivsL 0 (ivs.take (j + 1))).length ≤ 1048576) := Lib.hid (by have h1 := TL.out; have h2 := LEN.out; have h3 := QL.out; have h4 := OL3.out; rw [List.length_append]; omega)
            obtain ⟨ea, ec, rfl⟩ := owns_len hown
            rw [he]
            rw [he] at RJ
            have e3 : decide ((j : Int) < (vn : Int)) = true := by rw [decide_eq_true_eq]; omega
            have e4 : decide (j < vn) = true := by rw [decide_eq_true_eq]; omega
            obtain ⟨pn, hpn⟩ : ∃ n, pl.length = n := ⟨_, rfl⟩
            have HPN := Lib.hid hpn
            rw [hpn] at S1
            clear hown hbel hpl r1 r2 he hpn
            by_cases hj0 : 0 < j
            case' pos =>
              have e5 : decide ((0 : Int) < (j : Int)) = true := by rw [decide_eq_true_eq]; omega
              have e6 : decide (0 < j) = true := by rw [decide_eq_true_eq]; omega
              have RB := Lib.hid (rbyte j hj0)
              rw [if_pos hj0] at TK2
              go_wp2_with (at_builtin; refine stop ?_)
              refine unstop (wpList_app tyB rfl _ _ rfl w.heap.size (.slice ea e.length ec) e.length (vBs e) rfl (RJ.out.alloc _) (.slice (some ⟨wr.heap.size, 0, none⟩) 2 2) 2 _ rfl (sl_heap (heap_alloc_new _ _) rfl (Nat.le_refl _)) (by intro u hu; simp at hu; rcases hu with rfl | rfl <;> rfl) (by have := LN2.out; rw [TK2.out] at this; simp at this; omega) (by have := LN2.out; rw [TK2.out] at this; simp at this; omega) (by have := SJ.out; simp; omega) ?_)
              intro v8 w8 o8 g8 _
              have B8 := Lib.hid (run_app_below (RJ.out.alloc _) g8 (BJ.out.alloc SJ.out _) (Nat.le_refl _))
              have o8' : w8.ownsRow w.heap.size 5 1 v8 (e ++ [255, UInt8.ofNat (208 + (j - 1) % 8)]).length (vBs (e ++ [255, UInt8.ofNat (208 + (j - 1) % 8)])) := by
                have := o8
                rw [RB.out] at this
                simpa [vBs, vB] using this
              clear o8 g8
              obtain ⟨e2', he2⟩ : ∃ e2, e ++ [255, UInt8.ofNat (208 + (j - 1) % 8)] = e2 := ⟨_, rfl⟩
              rw [he2] at o8'
              have TK3 : Hid (q ++ ivsL 0 (ivs.take (j + 1)) = e2' ++ stuffL pl) := Lib.hid (by rw [TK2.out, ← he2]; simp)
              obtain ⟨ea8, ec8, rfl⟩ := owns_len o8'
              have R8 := Lib.hid o8'
              clear o8' he2
            case' neg =>
              have e5 : decide ((0 : Int) < (j : Int)) = false := by rw [decide_eq_false_iff_not]; omega
              have e6 : decide (0 < j) = false := by rw [decide_eq_false_iff_not]; omega
              rw [if_neg hj0] at TK2
              have TK3 : Hid (q ++ ivsL 0 (ivs.take (j + 1)) = e ++ stuffL pl) := Lib.hid (by rw [TK2.out]; simp)
              have R8 := Lib.hid RJ.out
              have B8 := Lib.hid BJ.out
            all_goals
              have PL2 : Hid (pn ≤ 1048576) := Lib.hid (by
                have h1 := LN2.out; rw [TK3.out, List.length_append] at h1
                have h2 := SL.out.1; rw [HPN.out] at h2; omega)
              clear hj0 z0 z1 z2
              obtain ⟨z0, z1, z2⟩ := CC.out _ B8.out
              have s1 := cell_old B8.out S1.out
              go_wp2_with fail
              have BS8 := PB.out.old B8.out
              rw [HPN.out] at BS8
              refine (refStuff_any _ pl _ BS8 (by rw [HPN.out]; have := PL2.out; omega)).mono ?_
              rintro e9 w9 ⟨v9, rfl, o9, b9⟩
              have B9 := Lib.hid (B8.out.trans (b9.mono B8.out.size))
              have R9 := Lib.hid (owns_below R8.out b9)
              have S9 := Lib.hid (sl_of_owns o9)
              obtain ⟨a9, c9, rfl⟩ := owns_len o9
              clear BS8 o9 b9
              go_wp2_with (at_builtin; refine stop ?_)
              refine unstop (wpList_app tyB rfl _ _ rfl w.heap.size _ _ _ rfl R9.out _ (stuffL pl).length (vBs (stuffL pl)) rfl S9.out (vBs_one _) (by have := LN2.out; rw [TK3.out] at this; simp at this; omega) (by have := LN2.out; rw [TK3.out] at this; simp at this; omega) B9.out.size ?_)
              intro v10 w10 o10 g10 _
              have B10 := Lib.hid (run_app_below R9.out g10 B9.out (Nat.le_refl _))
              rw [← vBs_append, ← List.length_append, ← TK3.out] at o10
              have R10 := Lib.hid o10
              obtain ⟨a10, c10, rfl⟩ := owns_len o10
              obtain ⟨e5', he5⟩ : ∃ e5, q ++ ivsL 0 (ivs.take (j + 1)) = e5 := ⟨_, rfl⟩
              rw [he5]
              have HE5 := Lib.hid he5
              clear o10 g10 he5
              go_wp2_with fail
              go_roundw
              case rel => exact ⟨j + 1, by omega, by go_num, by rw [HE5.out]; have := R10.out; rw [HE5.out] at this; exact this, B10.out⟩
              case measure => simp [intOf]; omega
          · obtain rfl : j = vn := by omega
            have e3 : decide ((j : Int) < (j : Int)) = false := by rw [decide_eq_false_iff_not]; omega
            have OS3 : Hid (outK its (k + 1) = q ++ ivsL 0 (ivs.take j)) := Lib.hid (by rw [OS2.out, show ivs.take j = ivs by rw [← HVN.out]; exact List.take_length])
            clear hown hbel
            go_wp2_with fail
            go_roundw
            case rel => exact ⟨k + 1, by omega, by go_num, by rw [OS3.out]; exact RJ.out, BJ.out⟩
            case measure => simp [intOf]; omega
    · obtain rfl : k = its.length := by omega
      have e1 : decide ((its.length : Int) < (its.length : Int)) = false := by rw [decide_eq_false_iff_not]; omega
      have WA := Lib.hid (outK_all its)
      have SW2 : Hid (w.heap.size ≤ wr.heap.size) := Lib.hid hbel.size
      obtain ⟨o, ho⟩ : ∃ o, outK its its.length = o := ⟨_, rfl⟩
      rw [ho] at OK WA OL ⊢
      clear hown hbel ho
      go_wp2_with (at_builtin; refine stop ?_)
      refine unstop (wpList_app tyB rfl _ _ rfl w.heap.size (.slice ua o.length uc) o.length (vBs o) rfl (OK.out.alloc _) (.slice (some ⟨wr.heap.size, 0, none⟩) 2 2) 2 [.int .u8 255, .int .u8 217] rfl (sl_heap (heap_alloc_new _ _) rfl (Nat.le_refl _)) (by intro u hu; simp at hu; rcases hu with rfl | rfl <;> rfl) (by have := HW.out; have := OL.out; omega) (by have := HW.out; have := OL.out; omega) (by have := SW2.out; simp; omega) ?_)
      intro v8 w8 o8 g8 _
      have B8 := Lib.hid (run_app_below (OK.out.alloc _) g8 (BK.out.alloc SW2.out _) (Nat.le_refl _))
      have o8' : w8.ownsRow w.heap.size 5 1 v8 (writeS its).length (vBs (writeS its)) := by
        rw [← WA.out]
        simpa [vBs, vB] using o8
      have R8 : Hid (Bs w8 v8 (writeS its)) := Lib.hid (sl_of_owns o8')
      clear o8 o8' g8
      go_wp2_with fail
      go_ret
      exact ⟨_, rfl, R8.out, B8.out⟩
end Go.Proofs.Ytlljooncoingnaa
