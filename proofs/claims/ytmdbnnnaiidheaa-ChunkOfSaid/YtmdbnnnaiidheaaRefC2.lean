/- burnishref12: Chunk, Good, Write. By an AI agent. -/
import Derived.Test.YtmdbnnnaiidheaaRefC1
import Derived.Test.YtmdbnnnaiidheaaStrB
import Derived.Test.YtmdbnnnaiidheaaWalkC
namespace Go.Proofs.Ytmdbnnnaiidheaa
open Go.RowKit Go.BigFrame
set_option linter.unusedVariables false
set_option linter.unusedSimpArgs false

theorem number_lit4 (n : Nat) (w : World) (hn : n < 4294967296) :
    Calls Try.prog 39 #[.int .i64 4, .int .i64 (n : Int)] w fun e w' => ∃ v, e = .returned (.tuple #[v, .int .i64 0]) ∧ w'.ownsRow w.heap.size 5 1 v 4 (vBs (putL 4 n)) ∧ Below w.heap.size w w' :=
  (number_good 4 n w (by decide) hn).mono fun e w' ⟨v, h1, _, h2, h3⟩ => ⟨v, h1, h2, h3⟩
set_option maxHeartbeats 1600000 in
theorem refChunk_any (nm dt : List UInt8) (v : Value) (w : World) (hb : Bs w v dt) (hn : nm.length = 4) (hd : dt.length ≤ 1000000000) :
    Calls Try.prog 29 #[.agg #[.string (strOf nm), v]] w fun e w' => ∃ v', e = .returned v' ∧ w'.ownsRow w.heap.size 5 1 v' (chunkL (nm, dt)).length (vBs (chunkL (nm, dt))) ∧ Below w.heap.size w w' := by
  obtain ⟨a0, c0, rfl⟩ := hb.len
  have HB := Lib.hid hb
  have HN := Lib.hid hn
  have HD := Lib.hid hd
  clear hb hn hd
  go_enter Try.func29, Try.ntmps29
  go_wp2_with fail
  refine (number_lit4 dt.length _ (by have := HD.out; omega)).mono ?_; rintro e w1 ⟨v1, rfl, o1, hb1⟩
  have n1 := heap_low (heap_alloc_new w (.cells #[.string (strOf nm), .slice a0 dt.length c0] 39)) hb1
  obtain ⟨r0, r1, r2, r3⟩ := resB_of n1
  have B1 : Hid (Below w.heap.size w w1) := Lib.hid (((Below.refl _ _).alloc (Nat.le_refl _) _).trans (hb1.mono (by simp)))
  have Z1 : Hid (w.heap.size + 1 ≤ w1.heap.size) := Lib.hid (by have := hb1.size; simpa using this)
  obtain ⟨K2, w2, cv2, sb2, b2, s2⟩ := str_row nm w1
  have HBD2 := Lib.hid ((HB.out.old B1.out).old b2)
  have n2 := heap_low n1 b2
  obtain ⟨y0, y1, y2, y3⟩ := resB_of n2
  obtain ⟨S, hS⟩ : ∃ S, w1.heap.size = S := ⟨_, rfl⟩
  rw [hS] at cv2 sb2
  have SB2 := Lib.hid sb2
  have O1 := Lib.hid o1
  have N2 := Lib.hid n2
  have B2 := Lib.hid b2
  have HS := Lib.hid hS
  clear o1 hb1 n1 sb2 b2 s2 n2 hS
  go_wp2_with (at_builtin; refine stop ?_)
  refine unstop (wpList_appS rfl _ _ rfl (by rfl) SB2.out _ rfl HBD2.out (by have := HN.out; have := HD.out; omega) ?_)
  intro v3 w3 hb3 hg3
  obtain ⟨a3, k3, rfl⟩ := hb3.len
  have B3 := Lib.hid hb3
  have G3 := Lib.hid hg3
  have O3 : Hid (w3.ownsRow (w.heap.size + 1) 5 1 v1 4 (vBs (putL 4 dt.length))) := Lib.hid (by
    have h1 := owns_below O1.out B2.out
    have h2 := h1.kept hg3 (by
      cases hv : v1.ownBlock with
      | none => exact .inl rfl
      | some k => right; have := (O1.out.lt k hv).2; have := HS.out; intro e; simp only [Option.some.injEq] at e; omega)
    simpa using h2)
  have W3 : Hid (Below w.heap.size w w3) := Lib.hid ((B1.out.trans (B2.out.mono B1.out.size)).grown hg3 (Nat.le_trans B1.out.size B2.out.size) (fun k hk => by simp only [Option.some.injEq] at hk; have := HS.out; have := B1.out.size; omega))
  have LN : Hid ((nm ++ dt).length ≤ 1000000004) := Lib.hid (by rw [List.length_append]; have := HN.out; have := HD.out; omega)
  obtain ⟨bd, hbd⟩ : ∃ bd, nm ++ dt = bd := ⟨_, rfl⟩
  rw [hbd] at B3 LN ⊢
  have HBD := Lib.hid hbd
  clear hb3 hg3 hbd cv2 y0 y1 y2 y3 r0 r1 r2 r3
  go_wp2_with fail
  refine (refCrc_any _ bd _ B3.out (by have := LN.out; omega)).mono ?_; rintro e w4 ⟨rfl, rfl⟩
  rw [crc_nat]
  go_wp2_with fail
  refine (number_lit4 (crcN bd) _ (crcN_lt _)).mono ?_; rintro e w4 ⟨v4, rfl, o4, hb4⟩
  have O4 := Lib.hid o4
  have O34 := Lib.hid (owns_below O3.out hb4)
  have BD4 := Lib.hid (B3.out.old hb4)
  have W4 := Lib.hid (W3.out.trans (hb4.mono W3.out.size))
  have Z4 : Hid (w.heap.size + 1 ≤ w4.heap.size) := Lib.hid (by
    have h1 := B1.out.size; have h2 := B2.out.size; have h3 := G3.out.size; have h4 := hb4.size
    have h5 := Z1.out
    omega)
  clear o4 hb4
  go_wp2_with (at_builtin; refine stop ?_)
  refine unstop (wpList_app tyB rfl _ _ rfl (w.heap.size + 1) v1 4 (vBs (putL 4 dt.length)) rfl O34.out _ bd.length (vBs bd) rfl BD4.out (vBs_one bd) (by have := LN.out; omega) (by have := LN.out; omega) Z4.out ?_)
  intro v5 w5 o5 hg5 _
  have O5 := Lib.hid o5
  have W5 := Lib.hid (run_app_below O34.out hg5 W4.out (Nat.le_succ _))
  have Z5 : Hid (w.heap.size + 1 ≤ w5.heap.size) := Lib.hid (Nat.le_trans Z4.out hg5.size)
  have B45 : Hid (Bs w5 v4 (putL 4 (crcN bd))) := Lib.hid (by
    have h := sl_of_owns (O4.out.kept hg5 (by
      cases hv : v4.ownBlock with
      | none => exact .inl rfl
      | some k =>
        right
        intro e
        have h1 := (O4.out.lt k hv).1
        have h2 := (O3.out.lt k e.symm).2
        omega))
    unfold Bs; rw [putL_length]; exact h)
  obtain ⟨a4, k4, rfl⟩ := B45.out.len
  rw [putL_length] at B45 ⊢
  clear o5 hg5
  go_wp2_with (at_builtin; refine stop ?_)
  refine unstop (wpList_app tyB rfl _ _ rfl (w.heap.size + 1) v5 _ _ rfl O5.out _ 4 (vBs (putL 4 (crcN bd))) rfl (by have := B45.out; unfold Bs at this; rwa [putL_length] at this) (vBs_one _) (by have := LN.out; omega) (by have := LN.out; omega) Z5.out ?_)
  intro v6 w6 o6 hg6 _
  have W6 := Lib.hid (run_app_below O5.out hg6 W5.out (Nat.le_succ _))
  have O6 : Hid (w6.ownsRow w.heap.size 5 1 v6 (chunkL (nm, dt)).length (vBs (chunkL (nm, dt)))) := Lib.hid (by
    have e : chunkL (nm, dt) = putL 4 dt.length ++ bd ++ putL 4 (crcN bd) := by simp only [chunkL, HBD.out]
    rw [e, vBs_append, vBs_append]
    have h := World.ownsRow.mono o6 (Nat.le_succ w.heap.size)
    simp only [List.length_append, putL_length]
    exact h)
  clear o6 hg6
  go_wp2_with fail
  go_ret
  exact ⟨_, rfl, O6.out, W6.out⟩
set_option maxHeartbeats 3200000 in
theorem refGood_any (v : Value) (cs : List Chk) (w : World) (hb : Cks w v cs) (hl : cs.length ≤ 1000000) (hnm : ∀ c ∈ cs, c.1.length ≤ 140737488351232) :
    Calls Try.prog 19 #[v] w fun e w' => e = .returned (.bool (goodL cs)) ∧ w = w' := by
  obtain ⟨a0, c0, rfl, hx⟩ := hb
  have HX := Lib.hid hx
  have HL := Lib.hid hl
  have HN := Lib.hid hnm
  clear hx hl hnm
  go_enter Try.func19, Try.ntmps19
  go_wp2_with fail
  go_loop [3] (fun i => ∃ k : Nat, k ≤ cs.length ∧ i = .int .i64 k ∧ (∀ j, j < k → okAt cs j = true)) (fun i => cs.length - (intOf i).toNat)
  case atStart => exact ⟨0, Nat.zero_le _, rfl, fun j h => absurd h (Nat.not_lt_zero j)⟩
  case round =>
    obtain ⟨k, hk, rfl, hok⟩ := hrel
    have OK := Lib.hid hok
    by_cases hkl : k < cs.length
    · obtain ⟨b, off, x, rfl, q0, q1, hbx⟩ := HX.out k hkl
      have hk1 : k < 1000000 := by have := HL.out; omega
      have e1 : decide ((k : Int) < (cs.length : Int)) = true := by rw [decide_eq_true_eq]; omega
      have e2 : decide (k < cs.length) = true := by rw [decide_eq_true_eq]; omega
      obtain ⟨a', c', rfl⟩ := hbx.len
      have NL : Hid (cs[k].1.length ≤ 140737488351232) := Lib.hid (HN.out _ (List.getElem_mem _))
      have OKK := Lib.hid (okAt_get cs k hkl)
      have BAD := Lib.hid (@bad_at cs k hkl)
      obtain ⟨⟨nm, dt⟩, hc⟩ : ∃ c, cs[k] = c := ⟨_, rfl⟩
      rw [hc] at q0 q1 NL OKK
      simp only at q0 q1 NL
      obtain ⟨I, hI⟩ : ∃ I, decide (nm = iend) = I := ⟨_, rfl⟩
      obtain ⟨L, hL⟩ : ∃ L, decide (k + 1 = cs.length) = L := ⟨_, rfl⟩
      obtain ⟨D, hD⟩ : ∃ D, decide (0 < dt.length) = D := ⟨_, rfl⟩
      obtain ⟨N, hN⟩ : ∃ N, namedB nm = N := ⟨_, rfl⟩
      have s1 : ((strOf nm).toList == [73, 69, 78, 68]) = I := by rw [strOf_toList, ← hI, beq_dec]; rfl
      have e5 : wrap64 ((cs.length : Int) - 1) = (cs.length : Int) - 1 := by have := HL.out; exact IntWalk.wrap64_in _ (by omega)
      have e3 : ((k : Int) == (cs.length : Int) - 1) = L := by rw [← hL, Bool.eq_iff_iff, beq_iff_eq, decide_eq_true_eq]; omega
      have e6 : ((k : Int) == wrap64 ((cs.length : Int) - 1)) = L := by rw [e5]; exact e3
      have OKC : Hid (okAt cs k = (N && (I == L) && !(I && D))) := Lib.hid (by rw [OKK.out, ← hI, ← hL, ← hD, ← hN]; rfl)
      have NA := Lib.hid (refNamed_any nm w (by have := NL.out; omega))
      rw [hN] at NA
      obtain ⟨n, hn⟩ : ∃ n, dt.length = n := ⟨_, rfl⟩
      rw [hn] at hD q1
      clear hok hbx hc hI hL hN OKK hn
      cases N <;> cases I <;> cases L <;> cases D
      all_goals
        first
        | (have WC : Hid (goodL cs = false) := Lib.hid (BAD.out (by rw [OKC.out]; rfl))
           go_wp2_with fail
           refine NA.out.mono ?_; rintro e w2 ⟨rfl, rfl⟩
           go_wp2_with fail
           go_ret
           exact ⟨rb WC.out.symm, rfl⟩)
        | (go_wp2_with fail
           refine NA.out.mono ?_; rintro e w2 ⟨rfl, rfl⟩
           go_wp2_with fail
           go_round
           case rel =>
             refine ⟨k + 1, by omega, by go_num, fun j hj => ?_⟩
             by_cases e : j = k
             · subst e; rw [OKC.out]; rfl
             · exact OK.out j (by omega)
           case measure => simp [intOf]; omega)
    · obtain rfl : k = cs.length := by omega
      have e1 : decide ((cs.length : Int) < (cs.length : Int)) = false := by rw [decide_eq_false_iff_not]; omega
      have GD : Hid (goodL cs = decide (0 < cs.length)) := Lib.hid (by
        rw [Bool.eq_iff_iff, goodL_iff, decide_eq_true_eq]
        constructor
        · rintro ⟨h, _⟩; exact List.length_pos_iff.2 h
        · intro h; exact ⟨List.length_pos_iff.1 h, OK.out⟩)
      clear hok
      go_wp2_with fail
      go_ret
      refine ⟨rb ?_, rfl⟩
      rw [GD.out]
set_option maxHeartbeats 3200000 in
theorem refWrite_any (v : Value) (cs : List Chk) (w : World) (hb : Cks w v cs) (hl : cs.length ≤ 1000000) (hnm : ∀ c ∈ cs, c.1.length = 4) (hd : ∀ c ∈ cs, c.2.length ≤ 1000000000) (ht : (writeL cs).length ≤ 1000000000) :
    Calls Try.prog 22 #[v] w fun e w' => ∃ v', e = .returned v' ∧ w'.ownsRow w.heap.size 5 1 v' (writeL cs).length (vBs (writeL cs)) ∧ Below w.heap.size w w' := by
  obtain ⟨a0, c0, rfl, hx⟩ := hb
  have HX := Lib.hid hx
  have HL := Lib.hid hl
  have HN := Lib.hid hnm
  have HD := Lib.hid hd
  have HT : Hid (∀ k, (writeL (cs.take k)).length ≤ 1000000000) := Lib.hid (fun k => by
    rw [writeL_len (fun c hc => hnm c (List.mem_of_mem_take hc))]
    have := sum_take (fun c => 12 + c.2.length) cs k
    rw [writeL_len hnm] at ht
    omega)
  clear hx hl hnm hd ht
  go_enter Try.func22, Try.ntmps22
  go_wp2_with fail
  refine (refSign_any _).mono ?_; rintro e w1 ⟨rfl, hw1⟩
  have O1 : Hid (w1.ownsRow w.heap.size 5 1 (.slice (some ⟨w.heap.size, 0, none⟩) 8 8) 8 (vBs signL)) := Lib.hid (by
    rw [hw1]; exact World.ownsRow_lit (base := w.heap.size) (e := 5) (size := 1) w (vBs signL).toArray 8 (Nat.le_refl _) (by decide) rfl)
  have W1 : Hid (Below w.heap.size w w1) := Lib.hid (by rw [hw1]; exact (Below.refl _ _).alloc (Nat.le_refl _) _)
  clear hw1
  go_wp2_with fail
  go_loopw [3, 4] (fun o i W => ∃ k : Nat, k ≤ cs.length ∧ i = .int .i64 k ∧ W.ownsRow w.heap.size 5 1 o (writeL (cs.take k)).length (vBs (writeL (cs.take k))) ∧ Below w.heap.size w W) (fun _ i _ => cs.length - (intOf i).toNat)
  case atStart => exact ⟨0, Nat.zero_le _, rfl, O1.out, W1.out⟩
  case round =>
    obtain ⟨k, hk, rfl, hv, hbel⟩ := hrel
    have OV := Lib.hid hv
    have BE := Lib.hid hbel
    by_cases hkl : k < cs.length
    · obtain ⟨b, off, x, rfl, hc0, hc1, hbx⟩ := HX.out k hkl
      have q0 := cell_old hbel hc0
      have q1 := cell_old hbel hc1
      have BD := Lib.hid (hbx.old hbel)
      have hk1 : k < 1000000 := by have := HL.out; omega
      have e1 : decide ((k : Int) < (cs.length : Int)) = true := by rw [decide_eq_true_eq]; omega
      have e2 : decide (k < cs.length) = true := by rw [decide_eq_true_eq]; omega
      have NL : Hid (cs[k].1.length = 4) := Lib.hid (HN.out _ (List.getElem_mem _))
      have DL : Hid (cs[k].2.length ≤ 1000000000) := Lib.hid (HD.out _ (List.getElem_mem _))
      have ST := Lib.hid (writeL_take cs k hkl)
      have T1 := Lib.hid (HT.out (k + 1))
      obtain ⟨⟨nm, dt⟩, hc⟩ : ∃ c, cs[k] = c := ⟨_, rfl⟩
      rw [hc] at q0 NL ST DL BD
      simp only at q0 NL DL BD
      clear hv hbel hc0 hc1 hbx hc
      go_wp2_with fail
      refine (refChunk_any nm dt x _ BD.out NL.out DL.out).mono ?_; rintro e w2 ⟨v2, rfl, o2, hb2⟩
      obtain ⟨a2, k2, rfl⟩ := owns_len o2
      have OV2 := Lib.hid (owns_below OV.out hb2)
      have BS2 := Lib.hid (show Bs w2 (.slice a2 (chunkL (nm, dt)).length k2) (chunkL (nm, dt)) from sl_of_owns o2)
      have B2 := Lib.hid (BE.out.trans (hb2.mono BE.out.size))
      have LL : Hid ((writeL (cs.take k)).length + (chunkL (nm, dt)).length ≤ 1000000000) := Lib.hid (by have := T1.out; rw [ST.out, List.length_append] at this; exact this)
      clear o2 hb2
      go_wp2_with (at_builtin; refine stop ?_)
      refine unstop (wpList_app tyB rfl _ _ rfl w.heap.size _ _ _ rfl OV2.out _ _ (vBs (chunkL (nm, dt))) rfl BS2.out (vBs_one _) (by have := LL.out; omega) (by have := LL.out; omega) B2.out.size ?_)
      intro v3 w3 o3 hg3 _
      have O3 : Hid (w3.ownsRow w.heap.size 5 1 v3 (writeL (cs.take (k + 1))).length (vBs (writeL (cs.take (k + 1))))) := Lib.hid (by
        rw [ST.out, List.length_append, vBs_append]; exact o3)
      have B3 := Lib.hid (run_app_below OV2.out hg3 B2.out (Nat.le_refl _))
      clear o3 hg3
      go_wp2_with fail
      go_roundw
      case rel => exact ⟨k + 1, by omega, by go_num, O3.out, B3.out⟩
      case measure => simp [intOf]; omega
    · obtain rfl : k = cs.length := by omega
      have e1 : decide ((cs.length : Int) < (cs.length : Int)) = false := by rw [decide_eq_false_iff_not]; omega
      rw [List.take_length] at OV
      clear hv hbel
      go_wp2_with fail
      go_ret
      exact ⟨_, rfl, OV.out, BE.out⟩
end Go.Proofs.Ytmdbnnnaiidheaa
