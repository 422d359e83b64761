/- ChunkBits: the law's walk. By an AI agent. -/
import Derived.Test.YtmdbnnnaiidheaaLawC4
namespace Go.Proofs.Ytmdbnnnaiidheaa
open Go.RowKit Go.BigFrame
set_option linter.unusedVariables false
set_option linter.unusedSimpArgs false

/-- where a bit lies -/
theorem bit_at (k : Int) (L : Nat) (h0 : 0 < L) (hL : L ≤ 1048576) : ∃ q r : Nat, q < L ∧ r < 8 ∧ wrap64 ((IntKind.u64.wrap k).tmod (8 * (L : Int))) = ((8 * q + r : Nat) : Int) := by
  have h1 : 0 ≤ IntKind.u64.wrap k := by simp [IntKind.wrap, IntKind.signed, IntKind.bits]; omega
  rw [Int.tmod_eq_emod_of_nonneg h1]
  obtain ⟨u, hu⟩ : ∃ u, IntKind.u64.wrap k % (8 * (L : Int)) = u := ⟨_, rfl⟩
  have h3 : 0 ≤ u := by rw [← hu]; exact Int.emod_nonneg _ (by omega)
  have h4 : u < 8 * (L : Int) := by rw [← hu]; exact Int.emod_lt_of_pos _ (by omega)
  rw [hu, IntWalk.wrap64_in _ (by omega)]
  exact ⟨(u / 8).toNat, (u % 8).toNat, by omega, by omega, by omega⟩
def flipB (c : UInt8) (r : Nat) : UInt8 := c ^^^ UInt8.ofNat (2 ^ r)
theorem flip_ne (c : UInt8) (r : Nat) (h : r < 8) : c ≠ flipB c r := by
  unfold flipB
  intro e
  have h2 : (0 : UInt8) = UInt8.ofNat (2 ^ r) := by
    have := congrArg (fun x => c ^^^ x) e
    simp only [UInt8.xor_self] at this
    rw [← UInt8.xor_assoc, UInt8.xor_self, UInt8.zero_xor] at this
    exact this
  have h3 := congrArg UInt8.toNat h2
  rw [UInt8.toNat_ofNat'] at h3
  have : r = 0 ∨ r = 1 ∨ r = 2 ∨ r = 3 ∨ r = 4 ∨ r = 5 ∨ r = 6 ∨ r = 7 := by omega
  rcases this with rfl | rfl | rfl | rfl | rfl | rfl | rfl | rfl <;> simp at h3
theorem shl_run (r : Nat) (h : r < 8) (w : World) : (Op.shift .shl .u8 1 .u64 (r : Int)).run Try.prog w = .ok (.int .u8 ((2 ^ r : Nat) : Int)) w := by
  have : r = 0 ∨ r = 1 ∨ r = 2 ∨ r = 3 ∨ r = 4 ∨ r = 5 ∨ r = 6 ∨ r = 7 := by omega
  rcases this with rfl | rfl | rfl | rfl | rfl | rfl | rfl | rfl <;> rfl
theorem flip_bits (c : UInt8) (r : Nat) (h : r < 8) : bits .xor .u8 (c.toNat : Int) ((2 ^ r : Nat) : Int) = ((flipB c r).toNat : Int) := by
  have h1 : ∀ a : Nat, a < 2 ^ 8 → (BitVec.ofInt 8 (a : Int)).toNat = a := fun a ha => by
    rw [BitVec.ofInt_natCast, BitVec.toNat_ofNat]; exact Nat.mod_eq_of_lt ha
  have hr : 2 ^ r < 2 ^ 8 := Nat.pow_lt_pow_right (by omega) h
  have hx : c.toNat ^^^ 2 ^ r < 2 ^ 8 := Nat.xor_lt_two_pow c.toNat_lt hr
  show IntKind.u8.wrap ((BitVec.ofInt 8 (c.toNat : Int) ^^^ BitVec.ofInt 8 ((2 ^ r : Nat) : Int)).toNat : Int) = _
  rw [BitVec.toNat_xor, h1 _ c.toNat_lt, h1 _ hr]
  unfold flipB
  rw [UInt8.toNat_xor, UInt8.toNat_ofNat', Nat.mod_eq_of_lt hr]
  simp [IntKind.wrap, IntKind.signed, IntKind.bits]
  omega
theorem begin_take (cs : List Chk) (hn : ∀ c ∈ cs, c.1.length = 4) (k : Nat) (h : k < cs.length) : (writeL (cs.take (k + 1))).length = (writeL (cs.take k)).length + (12 + cs[k].2.length) := by
  rw [writeL_take cs k h, List.length_append, chunkL_len _ (hn _ (List.getElem_mem h))]
set_option maxRecDepth 20000 in
set_option maxHeartbeats 6400000 in
theorem lawBits_any (v : Value) (ls : List Chk) (k : Int) (w : World) (hc : Cks w v ls) (hcl : ls.length ≤ 140737488351232) (hcn : ∀ c ∈ ls, c.1.length ≤ 140737488351232) (hcd : ∀ c ∈ ls, c.2.length ≤ 140737488351232) (hk : -9223372036854775808 ≤ k ∧ k ≤ 9223372036854775807) :
    Calls Try.prog 6 #[v, .int .i64 k] w fun e w' => e = .returned (.bool true) ∧ Below w.heap.size w w' := by
  have HC := Lib.hid hc
  have LG := Lib.hid (fun W hW => large_any v ls W (hc.old hW) hcl hcn hcd)
  have HK := Lib.hid hk
  have HCX := Lib.hid hc
  obtain ⟨av, cv, rfl, hx⟩ := hc
  have HX := Lib.hid hx
  clear hcl hcn hcd hk hx
  go_enter Try.func6, Try.ntmps6
  go_wp2_with fail
  refine (alive_any _).mono ?_; rintro e w1 ⟨rfl, hb1⟩
  have B1 := Lib.hid hb1
  clear hb1
  go_wp2_with fail
  refine (LG.out _ B1.out).mono ?_; rintro e w2 ⟨rfl, hb2⟩
  have B2 := Lib.hid (B1.out.trans (hb2.mono B1.out.size))
  clear hb2
  rcases hlg : largeB ls with _ | _
  rotate_left
  · clear hlg
    go_wp2_with fail
    go_ret
    exact ⟨rfl, B2.out⟩
  have SP := Lib.hid (small_parts hlg)
  clear hlg
  go_wp2_with fail
  refine (refGood_any _ ls _ (HC.out.old B2.out) SP.out.1 SP.out.2.1).mono ?_; rintro e w3 ⟨rfl, rfl⟩
  rcases hg : goodL ls with _ | _
  · clear hg
    go_wp2_with fail
    go_ret
    exact ⟨rfl, B2.out⟩
  have GD := Lib.hid hg
  have NM := Lib.hid (good_named hg)
  have SZ := Lib.hid (small_size SP.out.2.2.2)
  have WL := Lib.hid (writeL_size hg SZ.out)
  clear hg
  go_wp2_with fail
  refine (refWrite_any _ ls _ (HC.out.old B2.out) SP.out.1 NM.out (fun c hc => by have := sizeW_mem SZ.out c hc; omega) (by rw [WL.out]; have := SZ.out; omega)).mono ?_
  rintro e w4 ⟨v4, rfl, o4, hb4⟩
  obtain ⟨L, hL⟩ : ∃ L, (writeL ls).length = L := ⟨_, rfl⟩
  have L0 : 0 < L := by rw [← hL]; simp [writeL, signL]
  have L1 : L ≤ 1048576 := by rw [← hL, WL.out]; exact SZ.out
  obtain ⟨q, r, hq, hr, hqr⟩ := bit_at k L L0 L1
  obtain ⟨a4, c4, rfl⟩ := owns_len o4
  have B4 := Lib.hid (B2.out.trans (hb4.mono B2.out.size))
  have O4 := Lib.hid o4
  have HLL := Lib.hid hL
  have HQR := Lib.hid hqr
  have HQ := Lib.hid hq
  have HR := Lib.hid hr
  have HLB := Lib.hid (And.intro L0 L1)
  rw [hL]
  have S4 : Hid (w.heap.size ≤ w2.heap.size) := Lib.hid B2.out.size
  have e8 : wrap64 (8 * (L : Int)) = 8 * (L : Int) := IntWalk.wrap64_in _ (by omega)
  have ne0 : ¬ (IntKind.u64.wrap (8 * (L : Int)) = 0) := by simp [IntKind.wrap, IntKind.signed, IntKind.bits]; omega
  have ne1 : (IntKind.u64.wrap (8 * (L : Int)) == 0) = false := by rw [beq_eq_false_iff_ne]; exact ne0
  have BS4 : Hid (Bs w4 (.slice a4 L c4) (writeL ls)) := Lib.hid (by have := sl_of_owns o4; rw [hL] at this; unfold Bs; rw [hL]; exact this)
  have O4' : Hid (w4.ownsRow w2.heap.size 5 1 (.slice a4 L c4) L (vBs (writeL ls))) := Lib.hid (by rw [hL] at o4; exact o4)
  obtain ⟨K, hKK⟩ : ∃ K, 8 * q + r = K := ⟨_, rfl⟩
  have hK1 : (K : Int) / 8 = (q : Int) := by omega
  have hK2 : (K : Int) % 8 = (r : Int) := by omega
  have HK1 := Lib.hid (And.intro hK1 hK2)
  have hKb : K ≤ 8388608 := by omega
  have W4 : Hid (w.heap.size ≤ w4.heap.size) := Lib.hid B4.out.size
  clear hL hb4 o4 hqr hq hr hK1 hK2 O4
  go_upto_region 7 with (fail)
  rw [HQR.out, hKK]
  obtain ⟨hK1, hK2⟩ := HK1.out
  clear e8 ne0 ne1 hKK
  go_wp2_with fail
  go_loopw [7, 33] (fun b i W => ∃ j : Nat, j ≤ ls.length ∧ i = .int .i64 (j : Nat) ∧ b = .int .i64 ((writeL (ls.take j)).length : Nat) ∧ (∀ t, t < j → ¬ ((writeL (ls.take t)).length ≤ q ∧ q < (writeL (ls.take t)).length + 4)) ∧ Below w4.heap.size w4 W) (fun _ i _ => measL ls.length i)
  case atStart => exact ⟨0, Nat.zero_le _, rfl, rfl, fun t h => absurd h (Nat.not_lt_zero t), Below.refl _ _⟩
  case round =>
    obtain ⟨j, hj, rfl, rfl, hno, hbel⟩ := hrel
    have NO := Lib.hid hno
    have BE := Lib.hid hbel
    by_cases hjl : j < ls.length
    · obtain ⟨b, off, x, rfl, hc0, hc1, hbx⟩ := HX.out j hjl
      have hb2 := B4.out.trans (hbel.mono W4.out)
      have p0 := cell_old hb2 hc0
      have p1 := cell_old hb2 hc1
      have hj1 : j < 1000000 := by have := SP.out.1; omega
      have e1 : decide ((j : Int) < (ls.length : Int)) = true := by rw [decide_eq_true_eq]; omega
      have e2 : decide (j < ls.length) = true := by rw [decide_eq_true_eq]; omega
      obtain ⟨a', c', rfl⟩ := hbx.len
      have ST := Lib.hid (begin_take ls NM.out j hjl)
      have LE := Lib.hid (writeL_take_le GD.out SZ.out j)
      have DL := Lib.hid (sizeW_mem SZ.out _ (List.getElem_mem hjl))
      obtain ⟨⟨nm, dt⟩, hc⟩ : ∃ c, ls[j] = c := ⟨_, rfl⟩
      rw [hc] at p0 p1 ST DL
      simp only at p0 p1 DL ST
      obtain ⟨S, hS⟩ : ∃ S, (writeL (ls.take j)).length = S := ⟨_, rfl⟩
      rw [hS] at ST LE ⊢
      obtain ⟨n, hn⟩ : ∃ n, dt.length = n := ⟨_, rfl⟩
      rw [hn] at p1 ST DL
      have hSb := LE.out
      have hnb := DL.out
      have HSS := Lib.hid hS
      have HN := Lib.hid hn
      have BA : Hid (Below w.heap.size w (wr.alloc (.cells #[.string (strOf nm), .slice a' n c'] 39))) := Lib.hid (hb2.alloc hb2.size _)
      have BA4 : Hid (Below w4.heap.size w4 (wr.alloc (.cells #[.string (strOf nm), .slice a' n c'] 39))) := Lib.hid (BE.out.alloc BE.out.size _)
      clear hno hbel hc0 hc1 hbx hc hS hb2
      by_cases hin : S ≤ q ∧ q < S + 4
      · have f1 : decide ((S : Int) ≤ (q : Int)) = true := by rw [decide_eq_true_eq]; omega
        have f2 : decide ((q : Int) < (S : Int) + 4) = true := by rw [decide_eq_true_eq]; omega
        have f3 : decide (S ≤ q) = true := by rw [decide_eq_true_eq]; omega
        clear hin
        go_wp2_with fail
        go_ret
        exact ⟨rfl, BA.out⟩
      · have f1 : decide ((S : Int) ≤ (q : Int)) = false ∨ (decide ((S : Int) ≤ (q : Int)) = true ∧ decide ((q : Int) < (S : Int) + 4) = false) := by
          by_cases h : S ≤ q
          · right; exact ⟨by rw [decide_eq_true_eq]; omega, by rw [decide_eq_false_iff_not]; omega⟩
          · left; rw [decide_eq_false_iff_not]; omega
        have HIN := Lib.hid hin
        have REL : Hid (∀ t, t < j + 1 → ¬ ((writeL (ls.take t)).length ≤ q ∧ q < (writeL (ls.take t)).length + 4)) := Lib.hid (fun t ht => by
          by_cases e : t = j
          · subst e; rw [HSS.out]; exact HIN.out
          · exact NO.out t (by omega))
        clear hin
        rcases f1 with f1 | ⟨f1, f2⟩
        · have f3 : decide (S ≤ q) = false := by rw [decide_eq_false_iff_not]; rw [decide_eq_false_iff_not] at f1; omega
          go_wp2_with fail
          go_roundw
          case rel => exact ⟨j + 1, by omega, by go_num, by rw [ST.out]; exact vi (by omega), REL.out, BA4.out⟩
          case measure => simp [measL, intOf]; omega
        · have f3 : decide (S ≤ q) = true := by rw [decide_eq_true_eq]; rw [decide_eq_true_eq] at f1; omega
          go_wp2_with fail
          go_roundw
          case rel => exact ⟨j + 1, by omega, by go_num, by rw [ST.out]; exact vi (by omega), REL.out, BA4.out⟩
          case measure => simp [measL, intOf]; omega
    · obtain rfl : j = ls.length := by omega
      have e1 : decide ((ls.length : Int) < (ls.length : Int)) = false := by rw [decide_eq_false_iff_not]; omega
      rw [List.take_length, HLL.out]
      have O5 := Lib.hid (owns_below O4'.out hbel)
      have B5 : Hid (Below w.heap.size w wr) := Lib.hid (B4.out.trans (hbel.mono W4.out))
      clear hno hbel
      have HQ' := HQ.out
      have HR' := HR.out
      obtain ⟨g, rfl⟩ : ∃ g, a4 = some ⟨g, 0, none⟩ := by
        rcases O5.out.2 with ⟨h', hz⟩ | ⟨g', cap', cur, h', _, _, _, _, _, _⟩
        · simp only [Value.slice.injEq] at h'
          have := HLB.out; omega
        · simp only [Value.slice.injEq] at h'; exact ⟨g', h'.1⟩
      have hlen : q < (writeL ls).length := by rw [HLL.out]; exact HQ'
      have c0 := O5.out.cellAt q (by omega)
      rw [show (vBs (writeL ls))[q]? = some (.int .u8 (((writeL ls)[q]).toNat : Int)) by simp [vBs, List.getElem?_eq_getElem hlen, vB]] at c0
      have f0 := O5.out.frozenAt q
      obtain ⟨c, hcq⟩ : ∃ c, (writeL ls)[q] = c := ⟨_, rfl⟩
      rw [hcq] at c0
      have HLT := Lib.hid hlen
      have O6 := Lib.hid (O5.out.stored q (vB (flipB c r))).1
      have hgb : w2.heap.size ≤ g := by
        rcases O5.out.2 with ⟨h', hz⟩ | ⟨g', cap', cur, h', hb, _⟩
        · simp at h'
        · simp only [Value.slice.injEq, Option.some.injEq, Addr.mk.injEq, and_true, true_and] at h'
          rw [h'.1]; exact hb
      have B6 := Lib.hid (B5.out.setCell (p := ⟨g, q, none⟩) (Nat.le_trans S4.out hgb) (vB (flipB c r)))
      have q1 := HK1.out.1
      have q2 := HK1.out.2
      have qs := shl_run r HR'
      have qx := flip_bits c r HR'
      have qw : IntKind.u64.wrap (r : Int) = (r : Int) := by simp [IntKind.wrap, IntKind.signed, IntKind.bits]; omega
      have HCQ : Hid (∃ h : q < (writeL ls).length, (writeL ls)[q] = c) := Lib.hid ⟨hlen, hcq⟩
      clear hcq hlen hgb
      have qy : bits BinOp.xor IntKind.u8 (c.toNat : Int) ((2 : Int) ^ r % 256) = ((flipB c r).toNat : Int) := by
        rw [← qx]; congr 1
        have : r = 0 ∨ r = 1 ∨ r = 2 ∨ r = 3 ∨ r = 4 ∨ r = 5 ∨ r = 6 ∨ r = 7 := by omega
        rcases this with rfl | rfl | rfl | rfl | rfl | rfl | rfl | rfl <;> rfl
      go_wp2_with fail
      have HB6 : Hid (Bs (wr.setCell ⟨g, q, none⟩ (.int .u8 ((flipB c r).toNat : Int))) (.slice (some ⟨g, 0, none⟩) L c4) ((writeL ls).set q (flipB c r))) := Lib.hid (by
        have h1 := sl_of_owns O6.out
        have h2 : (vBs (writeL ls)).set q (vB (flipB c r)) = vBs ((writeL ls).set q (flipB c r)) := by simp [vBs, List.map_set]
        rw [h2] at h1
        unfold Bs; rw [List.length_set, HLL.out]; exact h1)
      have LB := HLB.out
      refine (parse_any _ _ _ HB6.out (by rw [List.length_set, HLL.out]; omega)).mono ?_
      rintro e w7 ⟨v7, ps, rfl, hv, hps, hb7⟩
      obtain ⟨hq6, hc6⟩ := HCQ.out
      obtain ⟨n, hn0, hpar⟩ := parse_set GD.out SZ.out (i := q) (y := flipB c r) hq6 (by rw [hc6]; exact flip_ne c r HR') (fun t ht => NO.out t ht)
      rw [hpar] at hps ⊢
      simp only at hps ⊢
      obtain rfl : ps = [] := List.map_eq_nil_iff.1 hps
      have hv' := hv.row
      rw [List.length_nil] at hv'
      obtain ⟨a7, c7, rfl⟩ := owns_len hv'
      rw [errV_some (n := (n : Int)) (by omega)]
      have B7 := Lib.hid (B6.out.trans (hb7.mono B6.out.size))
      clear hv hv' hpar hps hb7 hc6 hq6
      go_wp2_with fail
      go_ret
      exact ⟨rfl, B7.out⟩
end Go.Proofs.Ytmdbnnnaiidheaa
