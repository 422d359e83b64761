/- The walk of chunk.Write. By an AI agent. -/
import Derived.Test.YtmdbnnnaiidheaaChunkG
import Derived.Test.YtmdbnnnaiidheaaChunkV
import Derived.Test.YtmdbnnnaiidheaaConcat
import Derived.Lib.ConvBytes
namespace Go.Proofs.Ytmdbnnnaiidheaa
open Go.RowKit Go.BigFrame
set_option linter.unusedVariables false
set_option linter.unusedSimpArgs false

theorem str_bytes (nm : List UInt8) (w : World) : ∃ K W, (convert 9 22 (.string (strOf nm))).run Try.prog w = .ok (.slice (some ⟨w.heap.size, 0, none⟩) nm.length K) W ∧ Bs W (.slice (some ⟨w.heap.size, 0, none⟩) nm.length K) nm ∧ Below w.heap.size w W ∧ W.heap.size = w.heap.size + 1 := by
  refine ⟨grownCap w nm.length 0 5, Lib.bytesWorld w 5 (strOf nm), ?_, ?_, ?_, Lib.bytesWorld_size _ _ _⟩
  · have := Lib.run_convert_string_bytes (P := Try.prog) w 9 22 5 (strOf nm) Try.underlying9 Try.underlying22 Try.underlying5
    rw [strOf_size] at this
    exact this
  · refine Bs.some_slice (fun i hi => ?_) rfl (grownCap_ge w nm.length 0 5)
    rw [Nat.zero_add, Lib.bytesWorld_cell w _ _ i (by rw [strOf_size]; exact hi)]
    simp [strOf, List.getD, hi]
  · exact ⟨rfl, rfl, rfl, by rw [Lib.bytesWorld_size]; omega, fun k hk => Lib.bytesWorld_at_old w _ _ k hk⟩
theorem bss_five {w : World} {g : Nat} {v1 v2 v3 v4 v5 : Value} {t : TypeId} {fr : Nat × Nat} {l1 l2 l3 l4 l5 : List UInt8} (h : w.heap[g]? = some (.cells #[v1, v2, v3, v4, v5] t fr)) (h1 : Bs w v1 l1) (h2 : Bs w v2 l2) (h3 : Bs w v3 l3) (h4 : Bs w v4 l4) (h5 : Bs w v5 l5) : Bss w (.slice (some ⟨g, 0, none⟩) 5 5) [l1, l2, l3, l4, l5] :=
  bss_heap [l1, l2, l3, l4, l5] h rfl (Nat.le_refl _) rfl fun i hi => by
    match i, hi with
    | 0, _ => exact ⟨v1, rfl, h1⟩
    | 1, _ => exact ⟨v2, rfl, h2⟩
    | 2, _ => exact ⟨v3, rfl, h3⟩
    | 3, _ => exact ⟨v4, rfl, h4⟩
    | 4, _ => exact ⟨v5, rfl, h5⟩
theorem put_lit4 (n : Nat) (w : World) (hn : n < 4294967296) :
    Calls Try.prog 31 #[.slice none 0 0, .int .i64 4, .int .i64 (n : Int)] w fun e w' => ∃ v', e = .returned (.tuple #[v', .nilIface]) ∧ w'.ownsRow w.heap.size 5 1 v' 4 (vBs (putL 4 n)) ∧ Below w.heap.size w w' :=
  put_good (.slice none 0 0) [] 4 n w (Bs.nil _ _ _) (by simp) (by decide) hn
/-- what Write leaves -/
def WritePost (w : World) (cs : List Chk) (e : Ending) (w' : World) : Prop :=
  ∃ v, e = .returned (.tuple #[v, errV (writeC cs)]) ∧ Bs w' v (if writeC cs = 0 then writeL cs else []) ∧ Below w.heap.size w w'
theorem write_end {w w' : World} {cs : List Chk} {n : Nat} (h : writeC cs = n) (h0 : n ≠ 0) (hb : Below w.heap.size w w') : WritePost w cs (.returned (.tuple #[.slice none 0 0, errV n])) w' := by
  subst h; exact ⟨_, rfl, by rw [if_neg h0]; exact Bs.nil _ _ _, hb⟩
theorem write_ok {w w' : World} {cs : List Chk} {v : Value} (h : writeC cs = 0) (hv : Bs w' v (writeL cs)) (hb : Below w.heap.size w w') : WritePost w cs (.returned (.tuple #[v, .nilIface])) w' :=
  ⟨v, by rw [h]; rfl, by rw [if_pos h]; exact hv, hb⟩
set_option maxHeartbeats 4000000 in
theorem write_any (v : Value) (cs : List Chk) (w : World) (hb : Cks w v cs) (hl : cs.length ≤ 1000000) (hnm : ∀ c ∈ cs, c.1.length ≤ 140737488351232) (hdt : ∀ c ∈ cs, c.2.length ≤ 140737488351232) :
    Calls Try.prog 18 #[v] w (WritePost w cs) := by
  obtain ⟨a0, c0, rfl, hx⟩ := hb
  have HX := Lib.hid hx
  have HL := Lib.hid hl
  have HN := Lib.hid hnm
  have HD := Lib.hid hdt
  clear hx hl hnm hdt
  go_enter Try.func18, Try.ntmps18
  go_wp2_with fail
  go_loopw [4, 15] (fun s i W => ∃ k : Nat, k ≤ cs.length ∧ i = .int .i64 k ∧ s = .int .i64 (sizeW (cs.take k) : Nat) ∧ (∀ j, j < k → okAt cs j = true) ∧ Below w.heap.size w W) (fun _ i _ => cs.length - (intOf i).toNat)
  case atStart => exact ⟨0, Nat.zero_le _, rfl, rfl, fun j h => absurd h (Nat.not_lt_zero j), Below.refl _ _⟩
  case round =>
    obtain ⟨k, hk, rfl, rfl, hok, hbel⟩ := hrel
    have OK := Lib.hid hok
    have BE := Lib.hid hbel
    have SZ := sizeW_le cs k
    by_cases hkl : k < cs.length
    · obtain ⟨b, off, x, rfl, hc0, hc1, hbx⟩ := HX.out k hkl
      have q0 := cell_old hbel hc0
      have q1 := cell_old hbel hc1
      have hk1 : k < 1000000 := by have := HL.out; omega
      have e1 : decide ((k : Int) < (cs.length : Int)) = true := by rw [decide_eq_true_eq]; omega
      have e2 : decide (k < cs.length) = true := by rw [decide_eq_true_eq]; omega
      obtain ⟨a', c', rfl⟩ := hbx.len
      have NL : Hid (cs[k].1.length ≤ 140737488351232) := Lib.hid (HN.out _ (List.getElem_mem _))
      have DL : Hid (cs[k].2.length ≤ 140737488351232) := Lib.hid (HD.out _ (List.getElem_mem _))
      have OKK := Lib.hid (okAt_get cs k hkl)
      have BAD := Lib.hid (@bad_at cs k hkl)
      have ST := Lib.hid (sizeW_take cs k hkl)
      obtain ⟨⟨nm, dt⟩, hc⟩ : ∃ c, cs[k] = c := ⟨_, rfl⟩
      rw [hc] at q0 q1 NL OKK ST DL
      simp only at q0 q1 NL ST DL
      clear hok hbel hc0 hc1 hbx hc
      go_wp2_with fail
      refine (named_any nm _ (by have := NL.out; omega)).mono ?_; rintro e w2 ⟨rfl, hb2⟩
      have n2 := heap_low (heap_alloc_new wr (.cells #[.string (strOf nm), .slice a' dt.length c'] 39)) hb2
      have B2 : Hid (Below w.heap.size w w2) := Lib.hid ((BE.out.alloc BE.out.size _).trans (hb2.mono (by have := BE.out.size; simp; omega)))
      obtain ⟨r0, r1, r2, r3⟩ := resB_of n2
      obtain ⟨I, hI⟩ : ∃ I, decide (nm = iend) = I := ⟨_, rfl⟩
      obtain ⟨L, hL⟩ : ∃ L, decide (k + 1 = cs.length) = L := ⟨_, rfl⟩
      obtain ⟨D, hD⟩ : ∃ D, decide (0 < dt.length) = D := ⟨_, rfl⟩
      obtain ⟨N, hN⟩ : ∃ N, namedB nm = N := ⟨_, rfl⟩
      have s1 : ((strOf nm).toList == [73, 69, 78, 68]) = I := by rw [strOf_toList, ← hI, beq_dec]; rfl
      have e3 : ((k : Int) == (cs.length : Int) - 1) = L := by rw [← hL, Bool.eq_iff_iff, beq_iff_eq, decide_eq_true_eq]; omega
      have e5 : wrap64 ((cs.length : Int) - 1) = (cs.length : Int) - 1 := by have := HL.out; exact IntWalk.wrap64_in _ (by omega)
      have e6 : ((k : Int) == wrap64 ((cs.length : Int) - 1)) = L := by rw [e5]; exact e3
      have OKC : Hid (okAt cs k = (N && (I == L) && !(I && D))) := Lib.hid (by rw [OKK.out, ← hI, ← hL, ← hD, ← hN]; rfl)
      obtain ⟨n, hn⟩ : ∃ n, dt.length = n := ⟨_, rfl⟩
      rw [hn] at hD r1 ST
      rw [hn]
      have hn2 : n ≤ 140737488351232 := by rw [← hn]; exact DL.out
      rw [hN]
      clear n2 hb2 hI hL hN OKK hn
      cases N <;> cases I <;> cases L <;> cases D
      all_goals
        first
        | (have WC : Hid (writeC cs = 6) := Lib.hid (by
             have := BAD.out (by rw [OKC.out]; rfl)
             unfold writeC; rw [this]; rfl)
           go_wp2_with fail
           go_ret2
           exact write_end WC.out (by decide) B2.out)
        | skip
      all_goals
        go_wp2_with fail
        go_roundw
        case rel =>
          refine ⟨k + 1, by omega, by go_num, ?_, fun j hj => ?_, B2.out⟩
          · rw [ST.out]
            refine vi ?_
            have := SZ
            split <;> omega
          · by_cases e : j = k
            · subst e; rw [OKC.out]; rfl
            · exact OK.out j (by omega)
        case measure => simp [intOf]; omega
    · obtain rfl : k = cs.length := by omega
      have e1 : decide ((cs.length : Int) < (cs.length : Int)) = false := by rw [decide_eq_false_iff_not]; omega
      clear hok hbel
      by_cases hz : cs.length = 0
      · have WC : Hid (writeC cs = 6) := Lib.hid (by
          have : cs = [] := List.eq_nil_of_length_eq_zero hz
          subst this; rfl)
        have e2 : ((cs.length : Int) == 0) = true := by rw [beq_iff_eq]; omega
        rw [hz] at e2 ⊢
        go_wp2_with fail
        go_ret2
        exact write_end WC.out (by decide) BE.out
      have GD : Hid (goodL cs = true) := Lib.hid ((goodL_iff cs).2 ⟨fun e => hz (by rw [e]; rfl), OK.out⟩)
      have e2 : ((cs.length : Int) == 0) = false := by rw [beq_eq_false_iff_ne]; omega
      have HZ := Lib.hid hz
      rw [List.take_length] at SZ ⊢
      clear hz
      by_cases hbig : 1048576 < sizeW cs
      · have WC : Hid (writeC cs = 4) := Lib.hid (by
          unfold writeC; rw [GD.out, if_pos hbig]; rfl)
        have e3 : decide ((1048576 : Int) < (sizeW cs : Int)) = true := by rw [decide_eq_true_eq]; omega
        clear hbig
        go_wp2_with fail
        go_ret2
        exact write_end WC.out (by decide) BE.out
      have WC : Hid (writeC cs = 0) := Lib.hid (by
        unfold writeC; rw [GD.out, if_neg hbig]; rfl)
      have e3 : decide ((1048576 : Int) < (sizeW cs : Int)) = false := by rw [decide_eq_false_iff_not]; omega
      have BIG := Lib.hid hbig
      have kc := fun (w : World) (C : Array Value) (n c : Nat) => Lib.run_convert_bytes_const (P := Try.prog) w 22 5 C n c Try.underlying22 Try.underlying5
      clear hbig
      go_wp2_with fail
      obtain ⟨X, hX⟩ : ∃ X, wr.alloc (.cells #[.int .u8 137, .int .u8 80, .int .u8 78, .int .u8 71, .int .u8 13, .int .u8 10, .int .u8 26, .int .u8 10] 5 (8, 9)) = X := ⟨_, rfl⟩
      rw [hX]
      have BX : Hid (Below w.heap.size w X) := Lib.hid (by rw [← hX]; exact BE.out.alloc BE.out.size _)
      have SX : Hid (Bs X (.slice (some ⟨wr.heap.size, 0, none⟩) 8 8) signL) := Lib.hid (by rw [← hX]; exact bs_heap (n := 8) (cap := 8) _ (heap_alloc_new _ _) rfl rfl (by decide))
      clear hX kc e1 e2 e3
      go_loopw [7, 68] (fun v i W => ∃ k : Nat, k ≤ cs.length ∧ i = .int .i64 k ∧ Bs W v (writeL (cs.take k)) ∧ Below w.heap.size w W) (fun _ i _ => cs.length - (intOf i).toNat)
      case atStart => exact ⟨0, Nat.zero_le _, rfl, SX.out, BX.out⟩
      case round =>
        obtain ⟨k, hk, rfl, hv, hbel⟩ := hrel
        obtain ⟨av, cv, rfl⟩ := hv.len
        by_cases hkl : k < cs.length
        · obtain ⟨b, off, x, rfl, hc0, hc1, hbx⟩ := HX.out k hkl
          have q0 := cell_old hbel hc0
          have q1 := cell_old hbel hc1
          have BV := Lib.hid hv
          have BE2 := Lib.hid hbel
          have BD := Lib.hid (hbx.old hbel)
          have hk1 : k < 1000000 := by have := HL.out; omega
          have e1 : decide ((k : Int) < (cs.length : Int)) = true := by rw [decide_eq_true_eq]; omega
          have e2 : decide (k < cs.length) = true := by rw [decide_eq_true_eq]; omega
          obtain ⟨a', c', rfl⟩ := hbx.len
          have NL : Hid (cs[k].1.length = 4) := Lib.hid (good_named GD.out _ (List.getElem_mem _))
          have DL : Hid (cs[k].2.length ≤ 1048576) := Lib.hid (sizeW_mem (by have := BIG.out; omega) _ (List.getElem_mem _))
          have ST := Lib.hid (writeL_take cs k hkl)
          obtain ⟨⟨nm, dt⟩, hc⟩ : ∃ c, cs[k] = c := ⟨_, rfl⟩
          rw [hc] at q0 q1 NL ST DL BD
          simp only at q0 q1 NL DL BD
          obtain ⟨o, ho⟩ : ∃ o, writeL (cs.take k) = o := ⟨_, rfl⟩
          rw [ho] at BV ST
          rw [ho]
          clear hv hbel hc0 hc1 hbx hc
          go_wp2_with fail
          refine (put_lit4 dt.length _ (by have := DL.out; omega)).mono ?_; rintro e w2 ⟨v2, rfl, o2, hb2⟩
          obtain ⟨a2, k2, rfl⟩ := owns_len o2
          obtain ⟨v2, hv2⟩ : ∃ v2, Value.slice a2 4 k2 = v2 := ⟨_, rfl⟩
          have HV2 := Lib.hid hv2
          have n2 := heap_low (heap_alloc_new wr (.cells #[.string (strOf nm), .slice a' dt.length c'] 39)) hb2
          obtain ⟨r0, r1, r2, r3⟩ := resB_of n2
          have O2 := Lib.hid o2
          have N2 := Lib.hid n2
          have B2' : Hid (Below wr.heap.size wr w2) := Lib.hid (((Below.refl _ _).alloc (Nat.le_refl _) _).trans (hb2.mono (by simp)))
          clear hv2 o2 hb2 n2
          obtain ⟨K3, w3, cv3, bs3, b3, s3⟩ := str_bytes nm w2
          rw [NL.out] at cv3 bs3
          have BS3 := Lib.hid bs3
          have B3 := Lib.hid b3
          obtain ⟨B, hB⟩ : ∃ B, w2.heap.size = B := ⟨_, rfl⟩
          rw [hB] at cv3 BS3
          have N3 := Lib.hid (heap_low N2.out b3)
          obtain ⟨z0, z1, _, _⟩ := resB_of N3.out
          clear bs3 b3 s3
          go_wp2_with fail
          have hbw : Below w3.heap.size w3 (w3.alloc (.cells #[.slice (some ⟨B, 0, none⟩) 4 K3, .slice a' dt.length c'] 22)) := (Below.refl _ _).alloc (Nat.le_refl _) _
          refine (crc_any _ [nm, dt] _ (bss_two (heap_alloc_new _ _) (BS3.out.old hbw) (((BD.out.old B2'.out).old B3.out).old hbw)) ?_ (by simp)).mono ?_
          · intro y hy
            simp only [List.mem_cons, List.not_mem_nil, or_false] at hy
            have h1 := NL.out
            have h2 := DL.out
            rcases hy with rfl | rfl <;> omega
          rintro e w4 ⟨rfl, hw4⟩
          have B4 : Hid (Below w3.heap.size w3 w4) := Lib.hid (by rw [← hw4]; exact hbw)
          have CC : Hid (crc [nm, dt].flatten = ((crcN (nm ++ dt) : Nat) : Int)) := Lib.hid (by rw [crc_nat]; simp)
          rw [CC.out]
          clear hw4 hbw cv3 z0 z1
          go_wp2_with fail
          refine (put_lit4 (crcN (nm ++ dt)) _ (crcN_lt _)).mono ?_; rintro e w5 ⟨v5, rfl, o5, hb5⟩
          obtain ⟨a5, k5, rfl⟩ := owns_len o5
          have O5 := Lib.hid o5
          have B5 := Lib.hid hb5
          have N5 := Lib.hid (heap_low (heap_low N3.out B4.out) hb5)
          obtain ⟨z0, z1, _, _⟩ := resB_of N5.out
          clear o5 hb5
          obtain ⟨K6, w6, cv6, bs6, b6, s6⟩ := str_bytes nm w5
          rw [NL.out] at cv6 bs6
          have BS6 := Lib.hid bs6
          have B6 := Lib.hid b6
          obtain ⟨B', hB'⟩ : ∃ B', w5.heap.size = B' := ⟨_, rfl⟩
          rw [hB'] at cv6 BS6
          have N6 := Lib.hid (heap_low N5.out b6)
          obtain ⟨y0, y1, _, _⟩ := resB_of N6.out
          clear bs6 b6 s6
          go_wp2_with fail
          have hbw : Below w6.heap.size w6 (w6.alloc (.cells #[.slice av o.length cv, .slice a2 4 k2, .slice (some ⟨B', 0, none⟩) 4 K6, .slice a' dt.length c', .slice a5 4 k5] 22)) := (Below.refl _ _).alloc (Nat.le_refl _) _
          have c26 : Below w2.heap.size w2 w6 := ((B3.out.trans (B4.out.mono B3.out.size)).trans (B5.out.mono (Nat.le_trans B3.out.size B4.out.size))).trans (B6.out.mono (Nat.le_trans (Nat.le_trans B3.out.size B4.out.size) B5.out.size))
          have cr6 : Below wr.heap.size wr w6 := B2'.out.trans (c26.mono B2'.out.size)
          have FL : Hid ([o, putL 4 dt.length, nm, dt, putL 4 (crcN (nm ++ dt))].flatten = writeL (cs.take (k + 1))) := Lib.hid (by rw [ST.out]; simp [chunkL])
          have LE : Hid ((writeL (cs.take (k + 1))).length ≤ 1048576) := Lib.hid (writeL_take_le GD.out (by have := BIG.out; omega) (k + 1))
          have GE : Hid (0 < (writeL (cs.take (k + 1))).length) := Lib.hid (by simp [writeL, signL])
          refine (concat_any _ [o, putL 4 dt.length, nm, dt, putL 4 (crcN (nm ++ dt))] _ (bss_five (heap_alloc_new _ _) ((BV.out.old cr6).old hbw) ?_ (BS6.out.old hbw) ((BD.out.old cr6).old hbw) ?_) (by simp) (by rw [FL.out]; exact GE.out) (by rw [FL.out]; have := LE.out; omega)).mono ?_
          · have h := sl_of_owns O2.out
            exact (Bs.old (by unfold Bs; rw [putL_length]; exact h) c26).old hbw
          · have h := sl_of_owns O5.out
            exact (Bs.old (by unfold Bs; rw [putL_length]; exact h) B6.out).old hbw
          rintro e w7 ⟨v7, rfl, o7, hb7⟩
          rw [FL.out] at o7
          obtain ⟨a7, k7, rfl⟩ := owns_len o7
          have B7 : Hid (Below w.heap.size w w7) := Lib.hid ((BE2.out.trans (cr6.mono BE2.out.size)).trans ((hbw.trans (hb7.mono hbw.size)).mono (Nat.le_trans BE2.out.size cr6.size)))
          have BS7 := Lib.hid (show Bs w7 (.slice a7 (writeL (cs.take (k + 1))).length k7) (writeL (cs.take (k + 1))) from sl_of_owns o7)
          clear hbw c26 cr6 o7 hb7 cv6 y0 y1
          go_wp2_with fail
          go_roundw
          case rel => exact ⟨k + 1, by omega, by go_num, BS7.out, B7.out⟩
          case measure => simp [intOf]; omega
        · obtain rfl : k = cs.length := by omega
          have e1 : decide ((cs.length : Int) < (cs.length : Int)) = false := by rw [decide_eq_false_iff_not]; omega
          rw [List.take_length] at hv ⊢
          have BV := Lib.hid hv
          have BE2 := Lib.hid hbel
          clear hv hbel
          go_wp2_with fail
          go_ret2
          exact write_ok WC.out BV.out BE2.out
end Go.Proofs.Ytmdbnnnaiidheaa
