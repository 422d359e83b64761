/- The walks of marker.reader's byte, mark, data. By an AI agent. -/
import Derived.Test.YtlljooncoingnaaStuff
namespace Go.Proofs.Ytlljooncoingnaa
open Go.RowKit Go.BigFrame
set_option linter.unusedVariables false
set_option linter.unusedSimpArgs false

/-- A reader in a block of the call's own, at a place of the bytes. -/
structure Rm (w0 w : World) (R : Nat) (v : Value) (l : List UInt8) (k : Nat) : Prop where
  below : Below w0.heap.size w0 w
  own : w0.heap.size ≤ R
  cell : w.heap[R]? = some (.cells #[v, .int .i64 (k : Int)] 61 (0, 0))
  bs : Bs w0 v l
  le : k ≤ l.length
theorem Rm.ex {w0 w : World} {R k : Nat} {v : Value} {l : List UInt8} (h : Rm w0 w R v l k) : w.cell? ⟨R, 0, none⟩ = some v ∧ w.cell? ⟨R, 1, none⟩ = some (.int .i64 (k : Int)) ∧ w.frozen? ⟨R, 1, none⟩ = false ∧ R < w.heap.size :=
  ⟨by rw [cell_of_row w R 0 _ _ (0, 0) h.cell]; rfl, by rw [cell_of_row w R 1 _ _ (0, 0) h.cell]; rfl, by simp [World.frozen?, h.cell], (Array.getElem?_eq_some_iff.1 h.cell).1⟩
theorem Rm.store {w0 w : World} {R k : Nat} {v : Value} {l : List UInt8} (h : Rm w0 w R v l k) (j : Nat) (hj : j ≤ l.length) : Rm w0 (w.setCell ⟨R, 1, none⟩ (.int .i64 (j : Int))) R v l j := by
  refine ⟨h.below.setCell (p := ⟨R, 1, none⟩) h.own _, h.own, ?_, h.bs, hj⟩
  simp [World.setCell, Array.getElem?_modify, h.cell]
theorem Rm.old {w0 w w' : World} {R k : Nat} {v : Value} {l : List UInt8} (h : Rm w0 w R v l k) (hb : Below w.heap.size w w') : Rm w0 w' R v l k :=
  ⟨h.below.trans (hb.mono h.below.size), h.own, by rw [hb.block _ (Array.getElem?_eq_some_iff.1 h.cell).1]; exact h.cell, h.bs, h.le⟩
theorem Rm.grown {w0 w w' : World} {R k : Nat} {v : Value} {l : List UInt8} {row : Option Nat} (h : Rm w0 w R v l k) (hg : w.grownBy w' row) (hr : ∀ j, row = some j → R + 1 ≤ j) : Rm w0 w' R v l k := by
  have ho := h.own
  refine ⟨h.below.grown hg h.below.size fun j hj => by have := hr j hj; omega, ho, ?_, h.bs, h.le⟩
  rw [hg.block R (Array.getElem?_eq_some_iff.1 h.cell).1 (fun e => by have := hr R e.symm; omega)]
  exact h.cell
theorem bs_cap {w : World} {a : Option Addr} {cap : Nat} {l : List UInt8} (h : Bs w (.slice a l.length cap) l) : l.length ≤ cap := by
  rcases h.shape with ⟨a', c', hv, h0⟩ | ⟨b, off, c', hv, hcc, _⟩
  · rw [h0]; simp
  · simp only [Value.slice.injEq] at hv; omega
set_option maxHeartbeats 1600000 in
theorem byte_short (w0 w : World) (R : Nat) (v : Value) (l : List UInt8) (k : Nat) (h : Rm w0 w R v l k) (hl : l.length ≤ 70368744173568) (hk : l.length ≤ k) :
    Calls Try.prog 43 #[.pointer (some ⟨R, 0, none⟩)] w fun e w' => e = .returned (.tuple #[.int .i64 0, errV 8]) ∧ Below w.heap.size w w' := by
  obtain ⟨c0, c1, c2, hR⟩ := h.ex
  have E8 := Lib.hid (errV_some (n := 8) (by decide))
  rw [E8.out]
  obtain ⟨a, cap, rfl⟩ := h.bs.len
  have d1 : decide ((l.length : Int) ≤ (k : Int)) = true := by rw [decide_eq_true_eq]; omega
  have d2 : decide (l.length ≤ k) = true := by rw [decide_eq_true_eq]; omega
  have BW := Lib.hid (Below.refl w.heap.size w)
  clear h hk
  go_enter Try.func43, Try.ntmps43
  go_wp2_with fail
  go_region
  go_wp2_with fail
  go_ret2
  exact ⟨rfl, BW.out.drew⟩
set_option maxHeartbeats 1600000 in
theorem byte_good (w0 w : World) (R : Nat) (v : Value) (l : List UInt8) (k : Nat) (h : Rm w0 w R v l k) (hl : l.length ≤ 70368744173568) (hk : k < l.length) :
    Calls Try.prog 43 #[.pointer (some ⟨R, 0, none⟩)] w fun e w' => e = .returned (.tuple #[.int .i64 ((l[k].toNat : Nat) : Int), .nilIface]) ∧ Rm w0 w' R v l (k + 1) ∧ w.grownBy w' (some R) := by
  obtain ⟨c0, c1, c2, hR⟩ := h.ex
  have HR := Lib.hid h
  obtain ⟨b, off, cap, rfl, hcap, hcell⟩ : ∃ b off cap, v = .slice (some ⟨b, off, none⟩) l.length cap ∧ l.length ≤ cap ∧ w0.cell? ⟨b, off + k, none⟩ = some (.int .u8 ((l[k].toNat : Nat) : Int)) := by
    rcases h.bs.shape with ⟨a', c', hv, h0⟩ | ⟨b, off, c', hv, hcc, hp, hx⟩
    · subst h0; simp at hk
    · exact ⟨b, off, c', hv, hcc, hx k hk⟩
  have hob : (⟨b, off + k, none⟩ : Addr) ≠ ⟨R, 1, none⟩ := by
    have h1 : b < w0.heap.size := by
      refine Decidable.byContradiction fun hn => ?_
      have : w0.heap[b]? = none := Array.getElem?_eq_none (by omega)
      simp [World.cell?, this] at hcell
    have h2 := h.own
    intro e; simp only [Addr.mk.injEq] at e; omega
  have d0 := cell_old h.below hcell
  have d1 : decide ((l.length : Int) ≤ (k : Int)) = false := by rw [decide_eq_false_iff_not]; omega
  have d2 : decide (l.length ≤ k) = false := by rw [decide_eq_false_iff_not]; omega
  have f3 : wrap64 ((k : Int) + 1) = ((k + 1 : Nat) : Int) := by rw [IntWalk.wrap64_in _ (by omega)]; omega
  have KL : Hid (k + 1 ≤ l.length) := Lib.hid hk
  have R1 : Hid (Rm w0 (w.setCell ⟨R, 1, none⟩ (.int .i64 ((k : Int) + 1))) R (.slice (some ⟨b, off, none⟩) l.length cap) l (k + 1)) := Lib.hid (h.store (k + 1) hk)
  obtain ⟨c, hc⟩ : ∃ c : Nat, (l[k]'hk).toNat = c := ⟨_, rfl⟩
  have hc2 : c < 256 := by rw [← hc]; exact (l[k]'hk).toNat_lt
  rw [hc] at hcell ⊢
  have HCL := Lib.hid hcell
  clear h hc hcell d0
  go_enter Try.func43, Try.ntmps43
  go_wp2_with fail
  go_region
  go_wp2_with fail
  obtain ⟨X, hX⟩ : ∃ X, w.setCell ⟨R, 1, none⟩ (.int .i64 ((k : Int) + 1)) = X := ⟨_, rfl⟩
  have G1 : Hid (w.grownBy X (some R)) := Lib.hid (by rw [← hX]; exact grown_set (Below.refl _ _) _ _ _)
  rw [hX] at R1 ⊢
  obtain ⟨x0, x1, x2, x3⟩ := R1.out.ex
  have x4 := cell_old R1.out.below HCL.out
  have f5 : wrap64 (((k + 1 : Nat) : Int) - 1) = (k : Int) := by rw [IntWalk.wrap64_in _ (by omega)]; omega
  clear c0 c1 c2 hX
  go_region
  go_wp2_with fail
  go_ret2
  exact ⟨rfl, R1.out.old (Below.refl _ _).drew.drew, grown_below G1.out (Below.refl _ _).drew.drew⟩

theorem grown_of_below {w w' : World} {R : Nat} (h : Below w.heap.size w w') : w.grownBy w' (some R) := ⟨h.os, h.tape, h.output, h.size, fun k hk _ => h.block k hk⟩
/-! ## a marker -/
def aftM (l : List UInt8) : Nat ⊕ (UInt8 × List UInt8) := match l.dropWhile notFF with
  | [] => .inl 8
  | b :: r' => .inr (b, r')
theorem aft_nil : aftM [] = .inl 8 := rfl
theorem aft_ff (r : List UInt8) : aftM (255 :: r) = aftM r := by unfold aftM; rw [List.dropWhile_cons_of_pos (by simp [notFF])]
theorem aft_no (c : UInt8) (r : List UInt8) (h : c ≠ 255) : aftM (c :: r) = .inr (c, r) := by unfold aftM; rw [List.dropWhile_cons_of_neg (by simp [notFF, h])]
theorem mark_ff (r : List UInt8) : markM (255 :: r) = aftM r := rfl
theorem mark_no (c : UInt8) (r : List UInt8) (h : c ≠ 255) : markM (c :: r) = .inl 2 := by simp [markM, h]
def MarkPost (w0 w : World) (R : Nat) (v : Value) (l : List UInt8) : Nat ⊕ (UInt8 × List UInt8) → Ending → World → Prop
  | .inl n, e, w' => e = .returned (.tuple #[.int .i64 0, errV n]) ∧ Below w0.heap.size w0 w' ∧ w.grownBy w' (some R)
  | .inr (c, r), e, w' => e = .returned (.tuple #[.int .i64 ((c.toNat : Nat) : Int), .nilIface]) ∧ ∃ j, Rm w0 w' R v l j ∧ r = l.drop j ∧ w.grownBy w' (some R)
def posOf (R : Nat) (W : World) : Nat := match W.cell? ⟨R, 1, none⟩ with | some (.int _ z) => z.toNat | _ => 0
theorem posOf_rm {w0 w : World} {R k : Nat} {v : Value} {l : List UInt8} (h : Rm w0 w R v l k) : posOf R w = k := by unfold posOf; rw [h.ex.2.1]; simp
def mMark (len R : Nat) (c : Value) (W : World) : Nat := if intOf c = 255 then 1 + (len - posOf R W) else 0
/-- where the marker's loop stands -/
def MarkS (w0 w : World) (R : Nat) (v : Value) (l : List UInt8) (m : Nat ⊕ (UInt8 × List UInt8)) (c er : Value) (W : World) : Prop :=
  (∃ j, c = .int .i64 255 ∧ er = .nilIface ∧ Rm w0 W R v l j ∧ w.grownBy W (some R) ∧ m = aftM (l.drop j)) ∨
  (∃ (b : UInt8) (j : Nat), b ≠ 255 ∧ c = .int .i64 ((b.toNat : Nat) : Int) ∧ er = .nilIface ∧ Rm w0 W R v l j ∧ w.grownBy W (some R) ∧ m = .inr (b, l.drop j)) ∨
  (c = .int .i64 0 ∧ er = .iface 50 (.int .i64 8) ∧ Below w0.heap.size w0 W ∧ w.grownBy W (some R) ∧ m = .inl 8)
set_option maxHeartbeats 1600000 in
theorem mark_any (w0 w : World) (R : Nat) (v : Value) (l : List UInt8) (k : Nat) (h : Rm w0 w R v l k) (hl : l.length ≤ 70368744173568) :
    Calls Try.prog 30 #[.pointer (some ⟨R, 0, none⟩)] w (MarkPost w0 w R v l (markM (l.drop k))) := by
  have E8 := Lib.hid (errV_some (n := 8) (by decide))
  have E2 := Lib.hid (errV_some (n := 2) (by decide))
  have HR := Lib.hid h
  have hle := h.le
  obtain ⟨m, hm⟩ : ∃ m, markM (l.drop k) = m := ⟨_, rfl⟩
  rw [hm]
  by_cases hk : l.length ≤ k
  · have M : Hid (m = .inl 8) := Lib.hid (by rw [← hm, List.drop_of_length_le hk]; rfl)
    have HK := Lib.hid hk
    clear h hm hk
    go_enter Try.func30, Try.ntmps30
    go_wp2_with fail
    refine (byte_short w0 w R v l k HR.out hl HK.out).mono ?_; rintro e w1 ⟨rfl, hb1⟩
    rw [E8.out]
    have B1 := Lib.hid hb1
    clear hb1
    go_wp2_with fail
    go_ret2
    rw [M.out]
    exact ⟨rfl, (HR.out.old B1.out).below, grown_of_below B1.out⟩
  · have hkl : k < l.length := by omega
    obtain ⟨c, hc⟩ : ∃ c, l[k] = c := ⟨_, rfl⟩
    have MM : m = markM (c :: l.drop (k + 1)) := by rw [← hm, drop_get hkl, hc]
    have BG := Lib.hid (byte_good w0 w R v l k h hl hkl)
    rw [hc] at BG
    by_cases h255 : c = 255
    · subst h255
      rw [mark_ff] at MM
      have HM := Lib.hid MM
      have e255 : (((255 : UInt8).toNat : Nat) : Int) = 255 := rfl
      rw [e255] at BG
      clear h hm hc MM e255
      go_enter Try.func30, Try.ntmps30
      go_wp2_with fail
      refine BG.out.mono ?_; rintro e w1 ⟨rfl, hr1, hg1⟩
      have R1 := Lib.hid hr1
      have G1 := Lib.hid hg1
      clear hr1 hg1
      go_wp2_with fail
      go_loopw [4, 5] (fun c er W => MarkS w0 w R v l m c er W) (fun c _ W => mMark l.length R c W)
      case atStart => exact .inl ⟨k + 1, rfl, rfl, R1.out, G1.out, HM.out⟩
      case round =>
        rcases hrel with ⟨j, rfl, rfl, hr, hg, hmm⟩ | ⟨b, j, hb, rfl, rfl, hr, hg, hmm⟩ | ⟨rfl, rfl, hr, hg, hmm⟩
        · have RJ := Lib.hid hr
          have GJ := Lib.hid hg
          have MJ := Lib.hid hmm
          have PJ := Lib.hid (posOf_rm hr)
          have hle := hr.le
          by_cases hj : l.length ≤ j
          · have MN : Hid (m = .inl 8) := Lib.hid (by rw [hmm, List.drop_of_length_le hj]; rfl)
            have HJ := Lib.hid hj
            clear hr hg hmm hj
            go_wp2_with fail
            refine (byte_short w0 wr R v l j RJ.out hl HJ.out).mono ?_; rintro e w2 ⟨rfl, hb2⟩
            rw [E8.out]
            have B2 := Lib.hid hb2
            clear hb2
            go_wp2_with fail
            go_roundw
            case rel => exact .inr (.inr ⟨rfl, rfl, (RJ.out.old B2.out).below, grown_below GJ.out B2.out, MN.out⟩)
            case measure => simp [mMark, intOf]; omega
          · have hjl : j < l.length := by omega
            obtain ⟨c, hc⟩ : ∃ c, l[j] = c := ⟨_, rfl⟩
            have BJ := Lib.hid (byte_good w0 wr R v l j hr hl hjl)
            rw [hc] at BJ
            have MJ : m = aftM (c :: l.drop (j + 1)) := by rw [hmm, drop_get hjl, hc]
            by_cases h255 : c = 255
            · subst h255
              rw [aft_ff] at MJ
              have MJ' := Lib.hid MJ
              have e255 : (((255 : UInt8).toNat : Nat) : Int) = 255 := rfl
              rw [e255] at BJ
              clear hr hg hmm hj hc MJ e255
              go_wp2_with fail
              refine BJ.out.mono ?_; rintro e w2 ⟨rfl, hr2, hg2⟩
              have R2 := Lib.hid hr2
              have G2 := Lib.hid (grown_trans GJ.out hg2)
              have P2 := Lib.hid (posOf_rm hr2)
              clear hr2 hg2
              go_wp2_with fail
              go_roundw
              case rel => exact .inl ⟨j + 1, rfl, rfl, R2.out, G2.out, MJ'.out⟩
              case measure => simp [mMark, intOf, P2.out, PJ.out]; omega
            · rw [aft_no c _ h255] at MJ
              have MJ' := Lib.hid MJ
              have HC := Lib.hid h255
              have c255 : ¬ ((c.toNat : Nat) : Int) = 255 := fun e => h255 (UInt8.toNat_inj.1 (by have : (255 : UInt8).toNat = 255 := rfl; omega))
              have C255 := Lib.hid c255
              clear hr hg hmm hj hc MJ h255 c255
              go_wp2_with fail
              refine BJ.out.mono ?_; rintro e w2 ⟨rfl, hr2, hg2⟩
              have R2 := Lib.hid hr2
              have G2 := Lib.hid (grown_trans GJ.out hg2)
              clear hr2 hg2
              go_wp2_with fail
              go_roundw
              case rel => exact .inr (.inl ⟨c, j + 1, HC.out, rfl, rfl, R2.out, G2.out, MJ'.out⟩)
              case measure => simp [mMark, intOf, C255.out]; omega
        · have RJ := Lib.hid hr
          have GJ := Lib.hid hg
          have MJ := Lib.hid hmm
          have f1 : (((b.toNat : Nat) : Int) == 255) = false := by rw [beq_eq_false_iff_ne]; intro e; exact hb (UInt8.toNat_inj.1 (by have : (255 : UInt8).toNat = 255 := rfl; omega))
          clear hr hg hmm
          go_wp2_with fail
          go_ret2
          rw [MJ.out]
          exact ⟨rfl, j, RJ.out, rfl, GJ.out⟩
        · have RJ := Lib.hid hr
          have GJ := Lib.hid hg
          have MJ := Lib.hid hmm
          clear hr hg hmm
          go_wp2_with fail
          go_ret2
          rw [MJ.out]
          exact ⟨rfl, RJ.out, GJ.out⟩
    · rw [mark_no c _ h255] at MM
      have HM := Lib.hid MM
      have f1 : (((c.toNat : Nat) : Int) == 255) = false := by rw [beq_eq_false_iff_ne]; intro e; exact h255 (UInt8.toNat_inj.1 (by have : (255 : UInt8).toNat = 255 := rfl; omega))
      clear h hm hc MM h255
      go_enter Try.func30, Try.ntmps30
      go_wp2_with fail
      refine BG.out.mono ?_; rintro e w1 ⟨rfl, hr1, hg1⟩
      have R1 := Lib.hid hr1
      have G1 := Lib.hid hg1
      clear hr1 hg1
      go_wp2_with fail
      go_ret2
      rw [HM.out]
      exact ⟨rfl, R1.out.below, G1.out⟩

/-! ## data -/
theorem dataM_short1 (l : List UInt8) (h : l.length < 2) : dataM l = .inl 8 := by unfold dataM; rw [if_pos h]
theorem take_bad2 (v : Value) (l : List UInt8) (w : World) (hb : Bs w v l) (h : l.length < 2) :
    Calls Try.prog 44 #[v, .int .i64 2] w fun e w' => e = .returned (.tuple #[.int .i64 0, .slice none 0 0, errV 8]) ∧ w = w' := take_short v l 2 w hb (by decide) h
theorem take_good2 (v : Value) (l : List UInt8) (w : World) (hb : Bs w v l) (h : l.length = 2) :
    Calls Try.prog 44 #[v, .int .i64 2] w fun e w' => ∃ a c, e = .returned (.tuple #[.int .i64 (numL l : Int), .slice a 0 c, .nilIface]) ∧ Below w.heap.size w w' := by
  refine (take_good v l 2 w hb (by omega) (by decide) (by omega)).mono ?_
  rintro e w' ⟨v', rfl, h1, h2⟩
  obtain ⟨a, c, rfl⟩ := h1.len
  rw [List.take_of_length_le (by omega), List.length_drop, h]
  exact ⟨a, c, rfl, h2⟩
def DataPost (w0 w : World) (R : Nat) (v : Value) (l : List UInt8) : Nat ⊕ (List UInt8 × List UInt8) → Ending → World → Prop
  | .inl n, e, w' => e = .returned (.tuple #[.slice none 0 0, errV n]) ∧ Below w0.heap.size w0 w' ∧ w.grownBy w' (some R)
  | .inr (d, r), e, w' => (∃ v', e = .returned (.tuple #[v', .nilIface]) ∧ w'.ownsRow w.heap.size 5 1 v' d.length (vBs d)) ∧ ∃ j, Rm w0 w' R v l j ∧ r = l.drop j ∧ w.grownBy w' (some R)
set_option maxHeartbeats 1600000 in
theorem data_short (w0 w : World) (R : Nat) (v : Value) (l : List UInt8) (k : Nat) (h : Rm w0 w R v l k) (hl : l.length ≤ 70368744173568) (h0 : 0 < l.length) (hs : l.length < k + 2) :
    Calls Try.prog 31 #[.pointer (some ⟨R, 0, none⟩)] w (DataPost w0 w R v l (.inl 8)) := by
  obtain ⟨c0, c1, c2, hR⟩ := h.ex
  have HR := Lib.hid h
  have E8 := Lib.hid (errV_some (n := 8) (by decide))
  obtain ⟨b, off, cap, rfl, hcap⟩ : ∃ b off cap, v = .slice (some ⟨b, off, none⟩) l.length cap ∧ l.length ≤ cap := by
    rcases h.bs.shape with ⟨a', c', hv, h0'⟩ | ⟨b, off, c', hv, hcc, hp, hx⟩
    · subst h0'; simp at h0
    · exact ⟨b, off, c', hv, hcc⟩
  have hle := h.le
  have BS := Lib.hid (h.bs.old h.below)
  have HS : Hid ((l.drop k).length < 2) := Lib.hid (by rw [List.length_drop]; omega)
  have LE := Lib.hid hle
  obtain ⟨n, hn⟩ : ∃ n, l.length = n := ⟨_, rfl⟩
  rw [hn] at hs hl h0 hcap hle c0
  by_cases hck : cap = k
  · subst hck
    obtain rfl : n = cap := by omega
    have VL : Hid (Bs w (.slice (some ⟨b, off, none⟩) 0 0) (l.drop n)) := Lib.hid (by rw [List.drop_of_length_le (by omega)]; exact Bs.nil _ _ _)
    have f1 : IntKind.i64.wrap ((n : Int) + 2) = (n : Int) + 2 := IntWalk.i64_in _ (by omega)
    have M1 : Hid ((n : Int) < (n : Int) + 2) := Lib.hid (by omega)
    clear h hs
    rw [hn] at HR ⊢
    go_enter Try.func31, Try.ntmps31
    go_wp2_with fail
    refine wp_region_qmq (fun W => W.cell? ⟨R, 0, none⟩ = some (.slice (some ⟨b, off, none⟩) n n) ∧ W.cell? ⟨R, 1, none⟩ = some (.int .i64 (n : Int)) ∧ Below w.heap.size w W) 20 0 (by kernel_rfl) (by kernel_rfl) ⟨c0, c1, (Below.refl _ _).drew⟩ ?_
    simp only [List.take_succ_cons, List.take_zero, List.drop_succ_cons, List.drop_zero, Nat.reduceAdd]
    repeat
      first
      | go_big_quiet_skip
      | (go_big_quiet_want
         first
         | (go_big_quiet_op; go_big_quiet_on; try rw [if_pos M1.out])
         | (apply Exists.intro
            refine ⟨fun X hX => ?_, ?_⟩
            · obtain ⟨e1, e2, eZ⟩ := hX
              clear eZ
              unfold Oper.quietAt
              go_simp
              first
              | exact ⟨rfl, rfl⟩
              | exact rfl
            go_big_quiet_on
            try simp only [Act.put, List.setIfInBounds_toArray, List.set_cons_zero, List.set_cons_succ]; try rw [if_pos M1.out]))
    refine wpQuiet_nil ?_
    rintro X ⟨-, -, hbX⟩
    have BX := Lib.hid hbX
    go_wp2_with fail
    refine (take_bad2 _ _ _ (VL.out.old hbX) HS.out).mono ?_; rintro e w' ⟨rfl, rfl⟩
    clear hbX
    go_wp2_with fail
    refine tail_at (tailP_one ?_)
    repeat
      first
      | go_big_quiet_skip
      | (go_big_quiet_want
         first
         | (go_big_quiet_op; go_big_quiet_on)
         | (apply Exists.intro
            refine ⟨fun X hX => ?_, ?_⟩
            · obtain rfl := hX
              unfold Oper.quietAt
              go_simp
              first
              | exact ⟨rfl, rfl⟩
              | exact rfl
            go_big_quiet_on
            try simp only [Act.put, List.setIfInBounds_toArray, List.set_cons_zero, List.set_cons_succ]))
    refine wpQuiet_nil ?_
    rintro _ rfl
    rw [E8.out]
    go_wp2_with fail
    go_ret2
    exact ⟨rfl, (HR.out.old BX.out).below, grown_of_below BX.out⟩
  · have VL : Hid (Bs w (.slice (some ⟨b, off + k, none⟩) (n - k) (cap - k)) (l.drop k)) := Lib.hid (by have := BS.out.drop k LE.out; rw [hn] at this; exact this)
    have f1 : IntKind.i64.wrap ((k : Int) + 2) = (k : Int) + 2 := IntWalk.i64_in _ (by omega)
    have M1 : Hid ((n : Int) < (k : Int) + 2) := Lib.hid (by omega)
    have i1 : (k : Int) ≤ (n : Int) := by omega
    have i2 : (n : Int) ≤ (cap : Int) := by omega
    have i3 : ¬ (cap : Int) = (k : Int) := by omega
    have i4 : ¬ (k : Int) = (cap : Int) := by omega
    have i5 : k < cap := by omega
    clear h hs
    rw [hn] at HR ⊢
    go_enter Try.func31, Try.ntmps31
    go_wp2_with fail
    refine wp_region_qmq (fun W => W.cell? ⟨R, 0, none⟩ = some (.slice (some ⟨b, off, none⟩) n cap) ∧ W.cell? ⟨R, 1, none⟩ = some (.int .i64 (k : Int)) ∧ Below w.heap.size w W) 20 0 (by kernel_rfl) (by kernel_rfl) ⟨c0, c1, (Below.refl _ _).drew⟩ ?_
    simp only [List.take_succ_cons, List.take_zero, List.drop_succ_cons, List.drop_zero, Nat.reduceAdd]
    repeat
      first
      | go_big_quiet_skip
      | (go_big_quiet_want
         first
         | (go_big_quiet_op; go_big_quiet_on; try rw [if_pos M1.out])
         | (apply Exists.intro
            refine ⟨fun X hX => ?_, ?_⟩
            · obtain ⟨e1, e2, eZ⟩ := hX
              clear eZ
              unfold Oper.quietAt
              go_simp
              first
              | exact ⟨rfl, rfl⟩
              | exact rfl
            go_big_quiet_on
            try simp only [Act.put, List.setIfInBounds_toArray, List.set_cons_zero, List.set_cons_succ]; try rw [if_pos M1.out]))
    refine wpQuiet_nil ?_
    rintro X ⟨-, -, hbX⟩
    have BX := Lib.hid hbX
    go_wp2_with fail
    refine (take_bad2 _ _ _ (VL.out.old hbX) HS.out).mono ?_; rintro e w' ⟨rfl, rfl⟩
    clear hbX
    go_wp2_with fail
    refine tail_at (tailP_one ?_)
    repeat
      first
      | go_big_quiet_skip
      | (go_big_quiet_want
         first
         | (go_big_quiet_op; go_big_quiet_on)
         | (apply Exists.intro
            refine ⟨fun X hX => ?_, ?_⟩
            · obtain rfl := hX
              unfold Oper.quietAt
              go_simp
              first
              | exact ⟨rfl, rfl⟩
              | exact rfl
            go_big_quiet_on
            try simp only [Act.put, List.setIfInBounds_toArray, List.set_cons_zero, List.set_cons_succ]))
    refine wpQuiet_nil ?_
    rintro _ rfl
    rw [E8.out]
    go_wp2_with fail
    go_ret2
    exact ⟨rfl, (HR.out.old BX.out).below, grown_of_below BX.out⟩
set_option maxHeartbeats 4000000 in
theorem data_good (w0 w : World) (R : Nat) (v : Value) (l : List UInt8) (k : Nat) (h : Rm w0 w R v l k) (hl : l.length ≤ 70368744173568) (hs : k + 2 ≤ l.length) :
    Calls Try.prog 31 #[.pointer (some ⟨R, 0, none⟩)] w (DataPost w0 w R v l (dataM (l.drop k))) := by
  obtain ⟨c0, c1, c2, hR⟩ := h.ex
  have HR := Lib.hid h
  have E8 := Lib.hid (errV_some (n := 8) (by decide))
  have E2 := Lib.hid (errV_some (n := 2) (by decide))
  obtain ⟨b, off, cap, rfl, hcap⟩ : ∃ b off cap, v = .slice (some ⟨b, off, none⟩) l.length cap ∧ l.length ≤ cap := by
    rcases h.bs.shape with ⟨a', c', hv, h0'⟩ | ⟨b, off, c', hv, hcc, hp, hx⟩
    · subst h0'; simp at hs
    · exact ⟨b, off, c', hv, hcc⟩
  have hle := h.le
  have BS := Lib.hid (h.bs.old h.below)
  have HS := Lib.hid hs
  have LE := Lib.hid hle
  have T2 : Hid (((l.drop k).take 2).length = 2) := Lib.hid (by rw [List.length_take, List.length_drop]; omega)
  have VL : Hid (Bs w (.slice (some ⟨b, off + k, none⟩) 2 (cap - k)) ((l.drop k).take 2)) := Lib.hid ((BS.out.drop k LE.out).take 2 (by rw [List.length_drop]; have := HS.out; omega))
  obtain ⟨m, hm⟩ : ∃ m, numL ((l.drop k).take 2) = m := ⟨_, rfl⟩
  have m16 : m < 65536 := by rw [← hm]; exact numL_lt _ 2
  have DM : Hid (dataM (l.drop k) = if m < 2 then .inl 2 else if l.length - k < m then .inl 8 else .inr ((l.drop (k + 2)).take (m - 2), l.drop (k + m))) := Lib.hid (by
    unfold dataM
    rw [hm, List.length_drop, if_neg (by omega), List.drop_drop, List.drop_drop])
  have MM := Lib.hid hm
  obtain ⟨n, hn⟩ : ∃ n, l.length = n := ⟨_, rfl⟩
  have HN := Lib.hid hn
  rw [hn] at hs hl hcap hle c0 DM
  have f1 : IntKind.i64.wrap ((k : Int) + 2) = (k : Int) + 2 := IntWalk.i64_in _ (by omega)
  have M1 : Hid ((k : Int) + 2 ≤ (n : Int)) := Lib.hid (by omega)
  have i1 : (k : Int) ≤ (k : Int) + 2 := by omega
  have i2 : (k : Int) + 2 ≤ (cap : Int) := by omega
  have i3 : ¬ (cap : Int) = (k : Int) := by omega
  have i4 : ¬ (k : Int) = (cap : Int) := by omega
  have i5 : k < cap := by omega
  have i6 : (0 : Int) ≤ (k : Int) + 2 := by omega
  rw [hn] at HR ⊢
  clear h hn hm
  go_enter Try.func31, Try.ntmps31
  go_wp2_with fail
  refine wp_region_qmq (fun W => W.cell? ⟨R, 0, none⟩ = some (.slice (some ⟨b, off, none⟩) n cap) ∧ W.cell? ⟨R, 1, none⟩ = some (.int .i64 (k : Int)) ∧ Below w.heap.size w W) 20 0 (by kernel_rfl) (by kernel_rfl) ⟨c0, c1, (Below.refl _ _).drew⟩ ?_
  simp only [List.take_succ_cons, List.take_zero, List.drop_succ_cons, List.drop_zero, Nat.reduceAdd]
  repeat
    first
    | go_big_quiet_skip
    | (go_big_quiet_want
       first
       | (go_big_quiet_op; go_big_quiet_on; try rw [if_neg (Int.not_lt.2 M1.out)])
       | (apply Exists.intro
          refine ⟨fun X hX => ?_, ?_⟩
          · obtain ⟨e1, e2, eZ⟩ := hX
            clear eZ
            unfold Oper.quietAt
            go_simp
            first
            | exact ⟨rfl, rfl⟩
            | exact rfl
          go_big_quiet_on
          try simp only [Act.put, List.setIfInBounds_toArray, List.set_cons_zero, List.set_cons_succ]; try rw [if_neg (Int.not_lt.2 M1.out)]))
  refine wpQuiet_nil ?_
  rintro X ⟨hc0, hc1, hbX⟩
  have BX := Lib.hid hbX
  have e22 : ((k : Int) + 2 - (k : Int)).toNat = 2 := by omega
  go_wp2_with fail
  refine (take_good2 _ _ _ (VL.out.old hbX) T2.out).mono ?_; rintro e w1 ⟨a1, k1, rfl, hb1⟩
  rw [MM.out]
  have B1 := Lib.hid (BX.out.trans (hb1.mono BX.out.size))
  have d0 := cell_old hb1 hc0
  have d1 := cell_old hb1 hc1
  clear hbX hb1 hc0 hc1 c0 c1 e22
  go_wp2_with fail
  refine tail_at (tailP_one ?_)
  repeat
    first
    | go_big_quiet_skip
    | (go_big_quiet_want
       first
       | (go_big_quiet_op; go_big_quiet_on)
       | (apply Exists.intro
          refine ⟨fun X hX => ?_, ?_⟩
          · obtain rfl := hX
            unfold Oper.quietAt
            go_simp
            first
            | exact ⟨rfl, rfl⟩
            | exact rfl
          go_big_quiet_on
          try simp only [Act.put, List.setIfInBounds_toArray, List.set_cons_zero, List.set_cons_succ]))
  refine wpQuiet_nil ?_
  rintro _ rfl
  by_cases q1 : m < 2
  · have PE : Hid (dataM (l.drop k) = .inl 2) := Lib.hid (by rw [DM.out, if_pos q1])
    have e1 : decide ((m : Int) < 2) = true := by rw [decide_eq_true_eq]; omega
    have e2 : decide (m < 2) = true := by rw [decide_eq_true_eq]; omega
    clear q1
    go_wp2_with fail
    go_ret2
    rw [PE.out]
    exact ⟨rfl, (HR.out.old B1.out).below, grown_of_below B1.out⟩
  have e1 : decide ((m : Int) < 2) = false := by rw [decide_eq_false_iff_not]; omega
  have e2 : decide (m < 2) = false := by rw [decide_eq_false_iff_not]; omega
  have KN : Hid (n - k < m ∨ ¬ n - k < m) := Lib.hid (Decidable.em _)
  have F2 : Hid (IntKind.i64.wrap ((n : Int) - (k : Int)) = ((n - k : Nat) : Int)) := Lib.hid (by rw [IntWalk.i64_in _ (by omega)]; omega)
  have F3 : Hid (IntKind.i64.wrap ((k : Int) + (m : Int)) = ((k + m : Nat) : Int)) := Lib.hid (by rw [IntWalk.i64_in _ (by omega)]; omega)
  have F1 := Lib.hid f1
  have Q1 := Lib.hid q1
  have KC : Hid (n ≤ cap) := Lib.hid hcap
  have ML : Hid (k + 2 ≤ n) := Lib.hid hs
  have HLB : Hid (n ≤ 70368744173568) := Lib.hid hl
  clear q1 f1 i1 i2 i3 i4 i5 i6 hcap hs hle hl m16
  go_wp2_with fail
  have f2 := F2.out
  rcases KN.out with q2 | q2
  · have PE : Hid (dataM (l.drop k) = .inl 8) := Lib.hid (by rw [DM.out, if_neg Q1.out, if_pos q2])
    have e4 : decide (n - k < m) = true := by rw [decide_eq_true_eq]; exact q2
    clear q2
    go_region
    go_wp2_with fail
    go_ret2
    rw [PE.out]
    exact ⟨rfl, (HR.out.old B1.out).below.drew, grown_of_below B1.out.drew⟩
  have PE : Hid (dataM (l.drop k) = .inr ((l.drop (k + 2)).take (m - 2), l.drop (k + m))) := Lib.hid (by rw [DM.out, if_neg Q1.out, if_neg q2])
  have e4 : decide (n - k < m) = false := by rw [decide_eq_false_iff_not]; exact q2
  have KM : Hid (k + m ≤ n) := Lib.hid (by have := ML.out; clear f2; omega)
  clear q2
  go_region
  go_wp2_with fail
  have f1 := F1.out
  have f3 := F3.out
  have M16 := Lib.hid (show m ≤ 70368744173568 by have := KM.out; have := HLB.out; clear f1 f2 f3; omega)
  have HRW := Lib.hid hR
  clear f2
  by_cases hck : cap = k + 2
  · have KE : Hid (n = cap ∧ m = 2) := Lib.hid (by have := KM.out; have := KC.out; have := Q1.out; have := ML.out; clear f1 f3; omega)
    have DL : Hid (((l.drop (k + 2)).take (m - 2)).length = m - 2) := Lib.hid (by rw [List.length_take, List.length_drop]; have := HN.out; have := KE.out; clear f1 f3; omega)
    have VD : Hid (Bs w (.slice (some ⟨b, off, none⟩) 0 0) ((l.drop (k + 2)).take (m - 2))) := Lib.hid (by rw [KE.out.2]; exact Bs.nil _ _ _)
    have g1 : IntKind.i64.wrap ((k : Int) + 2) = (cap : Int) := by rw [f1, hck]; clear f1 f3; omega
    have g3 : IntKind.i64.wrap ((k : Int) + (m : Int)) = (cap : Int) := by rw [f3]; have := KE.out; clear f1 f3; omega
    have G3 := Lib.hid g3
    obtain rfl : n = cap := KE.out.1
    have KMN : Hid (k + m = n) := Lib.hid (by have := KE.out.2; clear f1 f3 g1 g3; omega)
    clear f1 f3 hck F3 F1
    refine wp_region_qmq (fun W => W.cell? ⟨R, 0, none⟩ = some (.slice (some ⟨b, off, none⟩) n n) ∧ W.cell? ⟨R, 1, none⟩ = some (.int .i64 (k : Int)) ∧ Below w1.drew.heap.size w1.drew W) 16 0 (by kernel_rfl) (by kernel_rfl) ⟨d0, d1, (Below.refl _ _).drew⟩ ?_
    simp only [List.take_succ_cons, List.take_zero, List.drop_succ_cons, List.drop_zero, Nat.reduceAdd]
    repeat
      first
      | go_big_quiet_skip
      | (go_big_quiet_want
         first
         | (go_big_quiet_op; go_big_quiet_on)
         | (apply Exists.intro
            refine ⟨fun X hX => ?_, ?_⟩
            · obtain ⟨e1, e2, eZ⟩ := hX
              clear eZ
              unfold Oper.quietAt
              go_simp
              first
              | exact ⟨rfl, rfl⟩
              | exact rfl
            go_big_quiet_on
            try simp only [Act.put, List.setIfInBounds_toArray, List.set_cons_zero, List.set_cons_succ]))
    refine wpQuiet_nil ?_
    rintro Y ⟨hy0, hy1, hbY⟩
    have BY := Lib.hid hbY
    clear g1 g3
    go_wp2_with fail
    refine (clone_own _ ((l.drop (k + 2)).take (m - 2)) _ ?bs (by rw [DL.out]; have := M16.out; omega)).mono ?_
    case bs => exact VD.out.old (B1.out.drew.trans (BY.out.mono B1.out.drew.size))
    rintro e w2 ⟨v2, rfl, o2, hb2⟩
    rw [DL.out] at o2
    obtain ⟨a2, k2, rfl⟩ := owns_len o2
    have B2 := Lib.hid ((B1.out.drew.trans (BY.out.mono B1.out.drew.size)).trans (hb2.mono (Nat.le_trans B1.out.drew.size BY.out.size)))
    have O2 := Lib.hid (World.ownsRow.mono o2 (Nat.le_trans B1.out.drew.size BY.out.size))
    have R2 := Lib.hid (HR.out.old B2.out)
    have z1 := cell_old hb2 hy1
    have f3 := G3.out
    clear hbY o2 hb2 hy0 hy1
    have z2 : w2.frozen? ⟨R, 1, none⟩ = false := R2.out.ex.2.2.1
    go_wp2_with fail
    refine tail_at (tailP_one ?_)
    repeat
      first
      | go_big_quiet_skip
      | (go_big_quiet_want
         first
         | (go_big_quiet_op; go_big_quiet_on)
         | (apply Exists.intro
            refine ⟨fun X hX => ?_, ?_⟩
            · obtain rfl := hX
              unfold Oper.quietAt
              go_simp
              first
              | exact ⟨rfl, rfl⟩
              | exact rfl
            go_big_quiet_on
            try simp only [Act.put, List.setIfInBounds_toArray, List.set_cons_zero, List.set_cons_succ]))
    refine wpQuiet_nil ?_
    rintro _ rfl
    go_wp2_with fail
    go_ret2
    rw [PE.out]
    exact ⟨⟨_, rfl, by rw [DL.out]; exact owns_low O2.out (grown_set (Below.refl _ _) _ _ _) HRW.out⟩, n, R2.out.store n (by have := HN.out; omega), by rw [KMN.out], grown_set B2.out _ _ _⟩
  · have DL : Hid (((l.drop (k + 2)).take (m - 2)).length = m - 2) := Lib.hid (by rw [List.length_take, List.length_drop]; have := HN.out; have := KM.out; clear f1 f3; omega)
    have VD : Hid (Bs w (.slice (some ⟨b, off + (k + 2), none⟩) (m - 2) (cap - (k + 2))) ((l.drop (k + 2)).take (m - 2))) := Lib.hid ((BS.out.drop (k + 2) (by have := HN.out; have := ML.out; clear f1 f3; omega)).take (m - 2) (by rw [List.length_drop]; have := HN.out; have := KM.out; clear f1 f3; omega))
    obtain ⟨p, hp⟩ : ∃ p, k + 2 = p := ⟨_, rfl⟩
    obtain ⟨q, hq⟩ : ∃ q, k + m = q := ⟨_, rfl⟩
    have g1 : IntKind.i64.wrap ((k : Int) + 2) = (p : Int) := by rw [f1, ← hp]; clear f1 f3; omega
    have g3 : IntKind.i64.wrap ((k : Int) + (m : Int)) = (q : Int) := by rw [f3, hq]
    have G3 := Lib.hid g3
    have i1 : (p : Int) ≤ (q : Int) := by have := Q1.out; clear f1 f3 g1 g3; omega
    have i2 : (q : Int) ≤ (cap : Int) := by have := KM.out; have := KC.out; clear f1 f3 g1 g3; omega
    have i3 : ¬ (cap : Int) = (p : Int) := by clear f1 f3 g1 g3; omega
    have i4 : ¬ (p : Int) = (cap : Int) := by clear f1 f3 g1 g3; omega
    have i5 : p < cap := by have := KM.out; have := KC.out; have := Q1.out; clear f1 f3 g1 g3; omega
    have i6 : p ≤ q := by have := Q1.out; clear f1 f3 g1 g3; omega
    have QP : Hid (m - 2 = q - p) := Lib.hid (by have := Q1.out; clear f1 f3 g1 g3; omega)
    have VD2 : Hid (Bs w (.slice (some ⟨b, off + p, none⟩) (q - p) (cap - p)) ((l.drop (k + 2)).take (m - 2))) := Lib.hid (by rw [← QP.out, ← hp]; exact VD.out)
    clear VD
    have HQ := Lib.hid hq
    clear f1 f3 hck F3 F1 hp hq
    refine wp_region_qmq (fun W => W.cell? ⟨R, 0, none⟩ = some (.slice (some ⟨b, off, none⟩) n cap) ∧ W.cell? ⟨R, 1, none⟩ = some (.int .i64 (k : Int)) ∧ Below w1.drew.heap.size w1.drew W) 16 0 (by kernel_rfl) (by kernel_rfl) ⟨d0, d1, (Below.refl _ _).drew⟩ ?_
    simp only [List.take_succ_cons, List.take_zero, List.drop_succ_cons, List.drop_zero, Nat.reduceAdd]
    repeat
      first
      | go_big_quiet_skip
      | (go_big_quiet_want
         first
         | (go_big_quiet_op; go_big_quiet_on)
         | (apply Exists.intro
            refine ⟨fun X hX => ?_, ?_⟩
            · obtain ⟨e1, e2, eZ⟩ := hX
              clear eZ
              unfold Oper.quietAt
              go_simp
              first
              | exact ⟨rfl, rfl⟩
              | exact rfl
            go_big_quiet_on
            try simp only [Act.put, List.setIfInBounds_toArray, List.set_cons_zero, List.set_cons_succ]))
    refine wpQuiet_nil ?_
    rintro Y ⟨hy0, hy1, hbY⟩
    have BY := Lib.hid hbY
    clear g1 g3
    go_wp2_with fail
    refine (clone_own _ ((l.drop (k + 2)).take (m - 2)) _ ?bs (by rw [DL.out]; have := M16.out; omega)).mono ?_
    case bs => exact VD2.out.old (B1.out.drew.trans (BY.out.mono B1.out.drew.size))
    rintro e w2 ⟨v2, rfl, o2, hb2⟩
    rw [DL.out] at o2
    obtain ⟨a2, k2, rfl⟩ := owns_len o2
    have B2 := Lib.hid ((B1.out.drew.trans (BY.out.mono B1.out.drew.size)).trans (hb2.mono (Nat.le_trans B1.out.drew.size BY.out.size)))
    have O2 := Lib.hid (World.ownsRow.mono o2 (Nat.le_trans B1.out.drew.size BY.out.size))
    have R2 := Lib.hid (HR.out.old B2.out)
    have z1 := cell_old hb2 hy1
    have f3 := G3.out
    clear hbY o2 hb2 hy0 hy1
    have z2 : w2.frozen? ⟨R, 1, none⟩ = false := R2.out.ex.2.2.1
    go_wp2_with fail
    refine tail_at (tailP_one ?_)
    repeat
      first
      | go_big_quiet_skip
      | (go_big_quiet_want
         first
         | (go_big_quiet_op; go_big_quiet_on)
         | (apply Exists.intro
            refine ⟨fun X hX => ?_, ?_⟩
            · obtain rfl := hX
              unfold Oper.quietAt
              go_simp
              first
              | exact ⟨rfl, rfl⟩
              | exact rfl
            go_big_quiet_on
            try simp only [Act.put, List.setIfInBounds_toArray, List.set_cons_zero, List.set_cons_succ]))
    refine wpQuiet_nil ?_
    rintro _ rfl
    go_wp2_with fail
    go_ret2
    rw [PE.out]
    exact ⟨⟨_, rfl, by rw [DL.out]; exact owns_low O2.out (grown_set (Below.refl _ _) _ _ _) HRW.out⟩, q, R2.out.store q (by have := HN.out; have := KM.out; have := HQ.out; omega), by rw [HQ.out], grown_set B2.out _ _ _⟩
end Go.Proofs.Ytlljooncoingnaa
