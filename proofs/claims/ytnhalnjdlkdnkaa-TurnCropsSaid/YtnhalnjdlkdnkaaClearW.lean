/- The document's Clear. By an AI agent. -/
import Derived.Test.YtnhalnjdlkdnkaaCutW
namespace Go.Proofs.Ytnhalnjdlkdnkaa
open Go.RowKit Go.BigFrame
set_option linter.unusedVariables false
set_option linter.unusedSimpArgs false
set_option maxRecDepth 20000

theorem cell_grown {w w' : World} {R : Nat} (hg : w.grownBy w' (some R)) {a : Addr} {u : Value} (h : w.cell? a = some u) (hne : a.block ≠ R) : w'.cell? a = some u := by
  rw [World.cell?_of_block (hg.block a.block (World.block_lt_of_cell? w a h) (fun e => hne (Option.some.inj e)))]
  exact h
theorem grown_more {a b c : World} {R : Nat} (h : a.grownBy b (some R)) (k : b.grownBy c (some R)) : a.grownBy c (some R) :=
  ⟨k.os.trans h.os, k.tape.trans h.tape, k.output.trans h.output, Nat.le_trans h.size k.size, fun i hi hne => (k.block i (Nat.lt_of_lt_of_le hi h.size) hne).trans (h.block i hi hne)⟩
theorem grown_same (w : World) (R : Nat) : w.grownBy w (some R) := ⟨rfl, rfl, rfl, Nat.le_refl _, fun _ _ _ => rfl⟩
theorem grown_of_below {w w' : World} (h : Below w.heap.size w w') (R : Nat) : w.grownBy w' (some R) := ⟨h.os, h.tape, h.output, h.size, fun b hb _ => h.block b hb⟩
theorem idx_facts (s y x t : Nat) (hx : x < s) (hy : y < t) (hs : s * t ≤ 65536) : (IntKind.i64.wrap ((s : Int) * (y : Int)) = ((y * s : Nat) : Int) ∧ wrap64 ((s : Int) * (y : Int)) = ((y * s : Nat) : Int)) ∧ (IntKind.i64.wrap (((y * s : Nat) : Int) + (x : Int)) = ((y * s + x : Nat) : Int) ∧ wrap64 (((y * s : Nat) : Int) + (x : Int)) = ((y * s + x : Nat) : Int)) ∧ y * s + x < s * t ∧ ((y * s + x : Nat) : Int) % (s : Int) = (x : Int) ∧ ((y * s + x : Nat) : Int) / (s : Int) = (y : Int) := by
  have h1 : y * s + x < t * s := mul_add_lt hy hx
  rw [Nat.mul_comm t] at h1
  have h2 : (s : Int) * (y : Int) = ((y * s : Nat) : Int) := by push_cast; rw [Int.mul_comm]
  have h3 : ((y * s : Nat) : Int) + (x : Int) = ((y * s + x : Nat) : Int) := by push_cast; rfl
  have h4 : y * s ≤ 1000000 := by omega
  have h5 : y * s + x ≤ 1000000 := by omega
  rw [h2, h3]
  refine ⟨⟨(wrapN _ h4).2, (wrapN _ h4).1⟩, ⟨(wrapN _ h5).2, (wrapN _ h5).1⟩, h1, ?_, ?_⟩
  · rw [← Int.natCast_emod, Nat.mul_comm, Nat.mul_add_mod, Nat.mod_eq_of_lt hx]
  · rw [← Int.natCast_ediv, Nat.mul_comm, Nat.mul_add_div (by omega), Nat.div_eq_of_lt hx, Nat.add_zero]
theorem side_le (s t L : Nat) (hL : L = s * t) (h : L ≤ 65536) (ht : 0 < t) (x : Nat) (hx : x < s) : IntKind.i64.wrap ((x : Int) + 1) = (x : Int) + 1 := (wrapZ _ (by
  have h2 : s * 1 ≤ s * t := Nat.mul_le_mul_left _ ht
  omega)).2
theorem side_le2 (s t L : Nat) (hL : L = s * t) (h : L ≤ 65536) (hs : 1 ≤ s) : t ≤ 65536 := by
  have h2 : 1 * t ≤ s * t := Nat.mul_le_mul_right _ hs
  omega
theorem nat_lt_int {a b : Nat} (h : a < b) : (a : Int) < (b : Int) := Int.ofNat_lt.2 h
set_option maxHeartbeats 8000000 in
theorem clear_any (P : PicL) (q0 q1 q2 q3 kv : Value) (g n c k gb nb cb base : Nat) (w : World) (hc : Pts w (.slice (some ⟨g, 0, none⟩) n c) P.parts) (hn : P.parts.length = n) (hk : k < n) (hl : n ≤ 1000) (hcell : w.cell? ⟨g, k * 7 + 6, none⟩ = some (.slice (some ⟨gb, 0, none⟩) nb cb))
    (hbk : BkO base w (.slice (some ⟨gb, 0, none⟩) nb cb) (partAt P (k : Int)).bs) (hfull : ((partAt P (k : Int)).bs.length : Int) = (sizeL P (k : Int)).1 * (sizeL P (k : Int)).2) (hsz : 1 ≤ (sizeL P (k : Int)).1) (h65 : (partAt P (k : Int)).bs.length ≤ 65536) (hne : g ≠ gb) :
    Calls Try.prog 65 #[.agg (vPic P q0 q1 q2 q3 (.slice (some ⟨g, 0, none⟩) n c) kv), .int .i64 (k : Nat)] w fun e w' => (∃ v, e = .returned v) ∧ BkO base w' (.slice (some ⟨gb, 0, none⟩) nb cb) (shTo (sizeL P (k : Int)).1 (ownL P (k : Int)).1 (ownL P (k : Int)).2 (partAt P (k : Int)).bs (partAt P (k : Int)).bs.length) ∧ w.grownBy w' (some gb) := by
  have HC := Lib.hid hc
  have HBK := Lib.hid hbk
  have HCE := Lib.hid hcell
  have HK := Lib.hid hk
  have HL := Lib.hid hl
  have HNP := Lib.hid hn
  have HNE := Lib.hid hne
  obtain ⟨bs, hbs⟩ : ∃ z, (partAt P (k : Int)).bs = z := ⟨_, rfl⟩
  rw [hbs] at HBK hfull h65 ⊢
  obtain ⟨w1, hw1⟩ : ∃ w1, w.alloc (.cells (vPic P q0 q1 q2 q3 (.slice (some ⟨g, 0, none⟩) n c) kv) 36) = w1 := ⟨_, rfl⟩
  have hb1 : Below w.heap.size w w1 := by rw [← hw1]; exact (Below.refl _ _).alloc (Nat.le_refl _) _
  have X1 : Hid (PBox w1 w.heap.size P q0 q1 q2 q3 (.slice (some ⟨g, 0, none⟩) n c) kv) := Lib.hid (by rw [← hw1]; exact heap_alloc_new _ _)
  have B1 := Lib.hid hb1
  have SZ := Lib.hid (refSize_any P q0 q1 q2 q3 (.slice (some ⟨g, 0, none⟩) n c) kv k w1 (HC.out.old hb1) (by rw [hn]; omega))
  have OZ := Lib.hid (fun W hW => refOwn_any P q0 q1 q2 q3 (.slice (some ⟨g, 0, none⟩) n c) kv k W (HC.out.old hW) (by rw [hn]; omega))
  have SI := szL_in P (k : Int)
  obtain ⟨sN, hsw⟩ : ∃ z : Nat, (sizeL P (k : Int)).1 = (z : Int) := ⟨_, (Int.toNat_of_nonneg (by omega)).symm⟩
  obtain ⟨tN, hsh⟩ : ∃ z : Nat, (sizeL P (k : Int)).2 = (z : Int) := ⟨_, (Int.toNat_of_nonneg (by omega)).symm⟩
  rw [hsw, hsh] at SZ hfull
  rw [hsw] at hsz ⊢
  obtain ⟨ow, how⟩ : ∃ z, (ownL P (k : Int)).1 = z := ⟨_, rfl⟩
  obtain ⟨oh, hoh⟩ : ∃ z, (ownL P (k : Int)).2 = z := ⟨_, rfl⟩
  rw [how, hoh] at OZ ⊢
  have FU : Hid (bs.length = sN * tN) := Lib.hid (by
    have h : ((sN * tN : Nat) : Int) = (sN : Int) * (tN : Int) := by push_cast; rfl
    omega)
  have S1 : Hid (1 ≤ sN) := Lib.hid (by omega)
  have L65 := Lib.hid h65
  obtain ⟨a0, a1, a2, a3, a4, a5, a6, a7, a8⟩ := X1.out.cells
  have GLT : Hid (gb < w.heap.size) := Lib.hid (HBK.out.row.lt gb rfl).2
  clear hc hbk hcell hk hl hn hne hbs hb1 hfull hsz h65 SI hsw hsh how hoh
  unfold vPic at hw1
  go_enter Try.func65, Try.ntmps65
  unfold vPic
  go_wp2_with fail
  refine SZ.out.mono ?_
  rintro e w2 ⟨rfl, hb2⟩
  have B2 : Hid (Below w.heap.size w w2) := Lib.hid (B1.out.trans (hb2.mono B1.out.size))
  have X2 := Lib.hid (X1.out.old hb2)
  clear hb2 a0 a1 a2 a3 a4 a5 a6 a7 a8 hw1 B1 X1 SZ
  obtain ⟨a0, a1, a2, a3, a4, a5, a6, a7, a8⟩ := X2.out.cells
  go_wp2_with fail
  refine (OZ.out w2 B2.out).mono ?_
  rintro e w3 ⟨rfl, hb3⟩
  have B3 : Hid (Below w.heap.size w w3) := Lib.hid (B2.out.trans (hb3.mono B2.out.size))
  have X3 := Lib.hid (X2.out.old hb3)
  have O3 : Hid (BkO base w3 (.slice (some ⟨gb, 0, none⟩) nb cb) (shTo (sN : Int) ow oh bs (0 * sN))) := Lib.hid (by rw [Nat.zero_mul, shTo_zero]; exact HBK.out.old B3.out)
  have C3 := Lib.hid (cell_old B3.out HCE.out)
  have NB : Hid (nb = bs.length) := Lib.hid (by
    obtain ⟨_, _, h⟩ := HBK.out.shape
    simp only [Value.slice.injEq] at h
    exact h.2.1)
  clear hb3 a0 a1 a2 a3 a4 a5 a6 a7 a8 B2 X2 OZ
  go_wp2_with fail
  go_loopw [8] (fun i W => ∃ y : Nat, i = .int .i64 (y : Nat) ∧ y ≤ tN ∧ BkO base W (.slice (some ⟨gb, 0, none⟩) nb cb) (shTo (sN : Int) ow oh bs (y * sN)) ∧ w3.grownBy W (some gb)) (fun i _ => tN - (intOf i).toNat)
  case atStart => exact ⟨0, rfl, Nat.zero_le _, O3.out, grown_same _ _⟩
  case round =>
    clear O3
    obtain ⟨y, rfl, hy, hbk, hgr⟩ := hrel
    have V := Lib.hid hbk
    have GR := Lib.hid hgr
    clear hbk hgr
    by_cases hyt : y < tN
    · have f1 : decide ((y : Int) < (tN : Int)) = true := by rw [decide_eq_true_eq]; omega
      have f1' : decide (y < tN) = true := by rw [decide_eq_true_eq]; omega
      have T65 : Hid (tN ≤ 65536) := Lib.hid (side_le2 sN tN bs.length FU.out L65.out S1.out)
      have gy : IntKind.i64.wrap ((y : Int) + 1) = (y : Int) + 1 := (wrapZ _ (by have := T65.out; omega)).2
      have HYT := Lib.hid hyt
      clear hyt
      go_wp2_with fail
      go_loopw [9] (fun i W => ∃ x : Nat, i = .int .i64 (x : Nat) ∧ x ≤ sN ∧ BkO base W (.slice (some ⟨gb, 0, none⟩) nb cb) (shTo (sN : Int) ow oh bs (y * sN + x)) ∧ w3.grownBy W (some gb)) (fun i _ => sN - (intOf i).toNat)
      case atStart => exact ⟨0, rfl, Nat.zero_le _, V.out, GR.out⟩
      case round =>
        clear V GR
        obtain ⟨x, rfl, hx, hbk, hgr⟩ := hrel
        have V := Lib.hid hbk
        have GR := Lib.hid hgr
        clear hbk hgr
        by_cases hxs : x < sN
        · have f2 : decide ((x : Int) < (sN : Int)) = true := by rw [decide_eq_true_eq]; omega
          have f2' : decide (x < sN) = true := by rw [decide_eq_true_eq]; omega
          obtain ⟨⟨u1, u1'⟩, ⟨u2, u2'⟩, il, im, id⟩ := idx_facts sN y x tN hxs HYT.out (by rw [← FU.out]; exact L65.out)
          obtain ⟨A, hA⟩ : ∃ z, y * sN = z := ⟨_, rfl⟩
          rw [hA] at u1 u1' u2 u2' il im id V
          obtain ⟨i, hi⟩ : ∃ z, A + x = z := ⟨_, rfl⟩
          rw [hi] at u2 u2' il im id V
          have hib : i < bs.length := by rw [FU.out]; exact il
          have gx := side_le sN tN bs.length FU.out L65.out (Nat.lt_of_le_of_lt (Nat.zero_le _) HYT.out) x hxs
          have i1 : (i : Int) < (nb : Int) := nat_lt_int (by rw [NB.out]; exact hib)
          have i2 : (k : Int) < (n : Int) := nat_lt_int HK.out
          have SHS : Hid (shTo (sN : Int) ow oh bs (i + 1) = (shTo (sN : Int) ow oh bs i).set i (shB (sN : Int) ow oh i (bs[i]'hib))) := Lib.hid (shTo_succ _ _ _ _ _ hib)
          have SHE : Hid (shB (sN : Int) ow oh i (bs[i]'hib) = bs[i]'hib → shTo (sN : Int) ow oh bs (i + 1) = shTo (sN : Int) ow oh bs i) := Lib.hid (shTo_same _ _ _ _ _ hib)
          have SB : Hid (shB (sN : Int) ow oh i (bs[i]'hib) = if ow ≤ (x : Int) ∨ oh ≤ (y : Int) then zero64 else bs[i]'hib) := Lib.hid (by unfold shB; rw [im, id])
          have TH := Lib.hid (V.out.there i (by rw [shTo_length]; exact hib))
          have HIB := Lib.hid hib
          have HXS := Lib.hid hxs
          have HII : Hid (y * sN + (x + 1) = i + 1) := Lib.hid (by rw [hA, ← hi, Nat.add_assoc])
          have BL := Lib.hid zb_built
          have HI := Lib.hid zb_info
          have H1 := Lib.hid zb_one
          have p6 := cell_grown GR.out X3.out.cells.2.2.2.2.2.2.1 (by have := GLT.out; simp only; omega)
          have s6 := cell_grown GR.out C3.out (by exact HNE.out)
          clear im id il hA hi hxs
          by_cases hcl : ow ≤ (x : Int) ∨ oh ≤ (y : Int)
          · have SS : Hid (shB (sN : Int) ow oh i (bs[i]'hib) = zero64) := Lib.hid (by rw [SB.out, if_pos hcl])
            have V10 : Hid (BkO base (wr.setCells gb (i * 64) (vIs zero64)) (.slice (some ⟨gb, 0, none⟩) nb cb) (shTo (sN : Int) ow oh bs (i + 1)) ∧ wr.grownBy (wr.setCells gb (i * 64) (vIs zero64)) (some gb)) := Lib.hid (by
              have hst := V.out.stored i (by rw [shTo_length]; exact HIB.out) blk_zero
              rw [SHS.out, SS.out]
              exact hst)
            rcases (show (decide (ow ≤ (x : Int)) = true) ∨ (decide (ow ≤ (x : Int)) = false ∧ decide (oh ≤ (y : Int)) = true) by
              by_cases h : ow ≤ (x : Int)
              · exact .inl (decide_eq_true h)
              · exact .inr ⟨decide_eq_false h, decide_eq_true (hcl.resolve_left h)⟩) with c1 | ⟨c1, c2⟩
            all_goals
              clear hcl
              go_wp2_with (first | refine wpList_agg rfl _ _ rfl _ _ rfl BL.out ?_ | (refine wpList_store_mid rfl _ _ _ rfl gb (i * 64) (vIs zero64).toArray rfl rfl TH.out HI.out H1.out ?_; refine stop ?_))
              refine unstop ?_
              obtain ⟨W9, hW9⟩ : ∃ W9, wr.setCells gb (i * 64) (vIs zero64).toArray.toList = W9 := ⟨_, rfl⟩
              rw [hW9]
              have V11 : Hid (BkO base W9 (.slice (some ⟨gb, 0, none⟩) nb cb) (shTo (sN : Int) ow oh bs (y * sN + (x + 1))) ∧ w3.grownBy W9 (some gb)) := Lib.hid (by
                have hW9' : wr.setCells gb (i * 64) (vIs zero64) = W9 := hW9
                have h := V10.out
                rw [hW9'] at h
                rw [HII.out]
                exact ⟨h.1, grown_more GR.out h.2⟩)
              clear hW9 V10
              go_wp2_with fail
              go_roundw
              case rel => exact ⟨x + 1, by go_num, HXS.out, V11.out.1, V11.out.2⟩
              case measure => simp [intOf]; have := HXS.out; omega
          · have c1 : decide (ow ≤ (x : Int)) = false := decide_eq_false (fun h => hcl (.inl h))
            have c2 : decide (oh ≤ (y : Int)) = false := decide_eq_false (fun h => hcl (.inr h))
            have V11 : Hid (BkO base wr (.slice (some ⟨gb, 0, none⟩) nb cb) (shTo (sN : Int) ow oh bs (y * sN + (x + 1)))) := Lib.hid (by
              rw [HII.out, SHE.out (by rw [SB.out, if_neg hcl])]
              exact V.out)
            clear hcl
            go_wp2_with fail
            go_roundw
            case rel => exact ⟨x + 1, by go_num, HXS.out, V11.out, GR.out⟩
            case measure => simp [intOf]; have := HXS.out; omega
        · obtain rfl : x = sN := by omega
          have f2 : decide ((x : Int) < (x : Int)) = false := by rw [decide_eq_false_iff_not]; omega
          have V11 : Hid (BkO base wr (.slice (some ⟨gb, 0, none⟩) nb cb) (shTo (x : Int) ow oh bs ((y + 1) * x))) := Lib.hid (by rw [show (y + 1) * x = y * x + x by rw [Nat.add_mul, Nat.one_mul]]; exact V.out)
          go_wp2_with fail
          go_roundw
          case rel => exact ⟨y + 1, by go_num, HYT.out, V11.out, GR.out⟩
          case measure => simp [intOf]; have := HYT.out; omega
    · obtain rfl : y = tN := by omega
      have f1 : decide ((y : Int) < (y : Int)) = false := by rw [decide_eq_false_iff_not]; omega
      have RE : Hid (BkO base wr (.slice (some ⟨gb, 0, none⟩) nb cb) (shTo (sN : Int) ow oh bs bs.length)) := Lib.hid (by rw [FU.out, Nat.mul_comm]; exact V.out)
      go_wp2_with fail
      go_end0
      exact ⟨⟨_, rfl⟩, RE.out, grown_more (grown_of_below B3.out _) GR.out⟩
end Go.Proofs.Ytnhalnjdlkdnkaa
