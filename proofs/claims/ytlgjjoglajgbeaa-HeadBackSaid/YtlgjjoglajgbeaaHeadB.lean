/- head.Put: the walk, and the bytes there and back in plain Lean. By an AI agent. -/
import Derived.Test.YtlgjjoglajgbeaaHeadT
import Derived.Test.YtlgjjoglajgbeaaSPut
namespace Go.Proofs.Ytlgjjoglajgbeaa
open Go.RowKit
set_option linter.unusedVariables false
set_option linter.unusedSimpArgs false

/-- a head's data -/
def bytesH (W H d c l : Nat) : List UInt8 := putL 4 W ++ putL 4 H ++ [UInt8.ofNat d, UInt8.ofNat c, 0, 0, UInt8.ofNat l]
theorem putL_four (n : Nat) : putL 4 n = [UInt8.ofNat (n / 16777216), UInt8.ofNat (n / 65536), UInt8.ofNat (n / 256), UInt8.ofNat n] := by
  simp [putL, List.range_succ]
theorem bytesH_len (W H d c l : Nat) : (bytesH W H d c l).length = 13 := by simp [bytesH, putL_four]
theorem numL_four (n : Nat) (h : n < 4294967296) : numL (putL 4 n) = n := by
  rw [putL_four]
  simp only [numL, List.foldl_cons, List.foldl_nil, UInt8.toNat_ofNat', Nat.reducePow]
  omega
theorem putL_num (a b c d : UInt8) : putL 4 (numL [a, b, c, d]) = [a, b, c, d] := by
  rw [putL_four]
  have ha := a.toNat_lt
  have hb := b.toNat_lt
  have hc := c.toNat_lt
  have hd := d.toNat_lt
  have e : numL [a, b, c, d] = ((a.toNat * 256 + b.toNat) * 256 + c.toNat) * 256 + d.toNat := by simp [numL]
  rw [e]
  congr 1
  · apply UInt8.toNat_inj.1; rw [UInt8.toNat_ofNat']; omega
  congr 1
  · apply UInt8.toNat_inj.1; rw [UInt8.toNat_ofNat']; omega
  congr 1
  · apply UInt8.toNat_inj.1; rw [UInt8.toNat_ofNat']; omega
  congr 1
  · apply UInt8.toNat_inj.1; rw [UInt8.toNat_ofNat']; omega
theorem list13 (l : List UInt8) (h : l.length = 13) : ∃ a0 a1 a2 a3 a4 a5 a6 a7 a8 a9 a10 a11 a12, l = [a0, a1, a2, a3, a4, a5, a6, a7, a8, a9, a10, a11, a12] := by
  match l, h with
  | [a0, a1, a2, a3, a4, a5, a6, a7, a8, a9, a10, a11, a12], _ => exact ⟨_, _, _, _, _, _, _, _, _, _, _, _, _, rfl⟩
/-- data that is taken is put again -/
theorem bytes_back (l : List UInt8) (h : takeC l = 0) : bytesH (numL (l.take 4)) (numL ((l.drop 4).take 4)) (l.getD 8 0).toNat (l.getD 9 0).toNat (l.getD 12 0).toNat = l := by
  unfold takeC at h
  by_cases hc : l.length ≠ 13 ∨ bOf l 10 ≠ 0 ∨ bOf l 11 ≠ 0
  · rw [if_pos hc] at h; exact absurd h (by decide)
  have h13 : l.length = 13 := Classical.byContradiction fun x => hc (Or.inl x)
  have h10 : bOf l 10 = 0 := Classical.byContradiction fun x => hc (Or.inr (Or.inl x))
  have h11 : bOf l 11 = 0 := Classical.byContradiction fun x => hc (Or.inr (Or.inr x))
  obtain ⟨a0, a1, a2, a3, a4, a5, a6, a7, a8, a9, a10, a11, a12, rfl⟩ := list13 l h13
  have e10 : a10 = 0 := by
    have : (a10.toNat : Int) = 0 := h10
    apply UInt8.toNat_inj.1
    show a10.toNat = 0
    omega
  have e11 : a11 = 0 := by
    have : (a11.toNat : Int) = 0 := h11
    apply UInt8.toNat_inj.1
    show a11.toNat = 0
    omega
  subst e10 e11
  show bytesH (numL [a0, a1, a2, a3]) (numL [a4, a5, a6, a7]) a8.toNat a9.toNat a12.toNat = _
  unfold bytesH
  rw [putL_num, putL_num]
  simp
/-- what a good head is -/
theorem good_nat (W H D C L : Int) (h : headC W H D C L = 0) : ∃ w k d c l : Nat, W = w ∧ H = k ∧ D = d ∧ C = c ∧ L = l ∧ w < 4294967296 ∧ k < 4294967296 ∧ d < 256 ∧ c < 256 ∧ l < 256 := by
  unfold headC at h
  by_cases h1 : W < 1 ∨ H < 1 ∨ D ∉ depthsL C ∨ L < 0 ∨ 1 < L
  · rw [if_pos h1] at h; exact absurd h (by decide)
  rw [if_neg h1] at h
  by_cases h2 : 65535 < W ∨ 65535 < H ∨ 262144 < W * H
  · rw [if_pos h2] at h; exact absurd h (by decide)
  have hD : D ∈ depthsL C := Classical.byContradiction fun x => h1 (Or.inr (Or.inr (Or.inl x)))
  have hC : 0 ≤ C ∧ C ≤ 6 ∧ 1 ≤ D ∧ D ≤ 16 := by
    unfold depthsL at hD
    split at hD
    · simp at hD; omega
    split at hD
    · simp at hD; omega
    split at hD
    · simp at hD; omega
    · simp at hD
  have a1 : 1 ≤ W := Int.not_lt.1 fun x => h1 (Or.inl x)
  have a2 : 1 ≤ H := Int.not_lt.1 fun x => h1 (Or.inr (Or.inl x))
  have a3 : 0 ≤ L := Int.not_lt.1 fun x => h1 (Or.inr (Or.inr (Or.inr (Or.inl x))))
  have a4 : L ≤ 1 := Int.not_lt.1 fun x => h1 (Or.inr (Or.inr (Or.inr (Or.inr x))))
  have a5 : W ≤ 65535 := Int.not_lt.1 fun x => h2 (Or.inl x)
  have a6 : H ≤ 65535 := Int.not_lt.1 fun x => h2 (Or.inr (Or.inl x))
  exact ⟨W.toNat, H.toNat, D.toNat, C.toNat, L.toNat, by omega, by omega, by omega, by omega, by omega, by omega, by omega, by omega, by omega, by omega⟩
/-- what is put is taken again -/
theorem bytes_take (w k d c l : Nat) (hw : w < 4294967296) (hk : k < 4294967296) (hd : d < 256) (hc : c < 256) (hl : l < 256) (h0 : headC w k d c l = 0) :
    takeC (bytesH w k d c l) = 0 ∧ takeV (bytesH w k d c l) = headV w k d c l := by
  have e1 : wOf (bytesH w k d c l) = w := by
    show ((numL (putL 4 w) : Nat) : Int) = w
    rw [numL_four w hw]
  have e2 : hOf (bytesH w k d c l) = k := by
    show ((numL (putL 4 k) : Nat) : Int) = k
    rw [numL_four k hk]
  have e3 : bOf (bytesH w k d c l) 8 = d := by
    show (((UInt8.ofNat d).toNat : Nat) : Int) = d
    rw [UInt8.toNat_ofNat']; omega
  have e4 : bOf (bytesH w k d c l) 9 = c := by
    show (((UInt8.ofNat c).toNat : Nat) : Int) = c
    rw [UInt8.toNat_ofNat']; omega
  have e5 : bOf (bytesH w k d c l) 12 = l := by
    show (((UInt8.ofNat l).toNat : Nat) : Int) = l
    rw [UInt8.toNat_ofNat']; omega
  have e6 : bOf (bytesH w k d c l) 10 = 0 := rfl
  have e7 : bOf (bytesH w k d c l) 11 = 0 := rfl
  have ht : takeC (bytesH w k d c l) = 0 := by
    unfold takeC
    rw [if_neg (by rw [bytesH_len, e6, e7]; simp), e1, e2, e3, e4, e5]
    exact h0
  refine ⟨ht, ?_⟩
  unfold takeV
  rw [if_pos ht, e1, e2, e3, e4, e5]

set_option maxHeartbeats 1600000 in
theorem headPut_bad (W H D C L : Int) (n : Int) (w : World) (hn : headC W H D C L = n) (h0 : n ≠ 0) :
    Calls Try.prog 19 #[headV W H D C L] w fun e w' => e = .returned (.tuple #[.slice none 0 0, errV n]) ∧ Below w.heap.size w w' := by
  have ck := check_any W H D C L
  rw [hn, errV_some h0] at ck
  rw [errV_some h0]
  unfold headV at ck ⊢
  have CK := Lib.hid ck
  clear ck hn
  have e0 : (n != 0) = true := by rw [bne_iff_ne]; exact h0
  go_enter Try.func19, Try.ntmps19
  have hx := heap_alloc_new w (.cells #[.int .i64 W, .int .i64 H, .int .i64 D, .int .i64 C, .int .i64 L] 23)
  go_wp2_with fail
  refine (CK.out _).mono ?_; rintro e w1 ⟨rfl, hb1⟩
  have B1 : Hid (Below w.heap.size w w1) := Lib.hid (((Below.refl _ _).alloc (Nat.le_refl _) _).trans (hb1.mono (by simp)))
  clear hb1 hx
  go_wp2_with fail
  go_ret2
  exact ⟨rfl, B1.out⟩
set_option maxHeartbeats 3200000 in
theorem headPut_good (W H D C L : Nat) (w : World) (hn : headC W H D C L = 0) (hW : W < 4294967296) (hH : H < 4294967296) (hD : D < 256) (hC : C < 256) (hL : L < 256) :
    Calls Try.prog 19 #[headV W H D C L] w fun e w' => ∃ v, e = .returned (.tuple #[v, .nilIface]) ∧ Bs w' v (bytesH W H D C L) ∧ Below w.heap.size w w' := by
  have ck := check_any W H D C L
  rw [hn, errV_zero] at ck
  unfold headV at ck ⊢
  have CK := Lib.hid ck
  have p4 : (256 : Nat) ^ 4 = 4294967296 := by decide
  have P1 := Lib.hid (fun W1 => put_good (.slice none 0 0) [] 4 W W1 (Bs.nil _ _ _) (by decide) (by decide) (by omega))
  have P2 := Lib.hid (fun u W1 (hu : Bs W1 u ([] ++ putL 4 W)) => put_good u ([] ++ putL 4 W) 4 H W1 hu (by simp [putL]) (by decide) (by omega))
  have uD : IntKind.u8.wrap (D : Int) = ((UInt8.ofNat D).toNat : Int) := wrap_u8 D
  have uC : IntKind.u8.wrap (C : Int) = ((UInt8.ofNat C).toNat : Int) := wrap_u8 C
  have uL : IntKind.u8.wrap (L : Int) = ((UInt8.ofNat L).toNat : Int) := wrap_u8 L
  have vD : (D : Int) % 256 = ((UInt8.ofNat D).toNat : Int) := by simp
  have vC : (C : Int) % 256 = ((UInt8.ofNat C).toNat : Int) := by simp
  have vL : (L : Int) % 256 = ((UInt8.ofNat L).toNat : Int) := by simp
  have FB : Hid (vBs (bytesH W H D C L) = vBs (([] ++ putL 4 W) ++ putL 4 H) ++ [vB (UInt8.ofNat D), vB (UInt8.ofNat C), .int .u8 0, .int .u8 0, vB (UInt8.ofNat L)]) := Lib.hid (by simp [bytesH, vBs, vB])
  generalize UInt8.ofNat D = bD at uD vD FB
  generalize UInt8.ofNat C = bC at uC vC FB
  generalize UInt8.ofNat L = bL at uL vL FB
  clear ck hn hW hH hD hC hL p4
  go_enter Try.func19, Try.ntmps19
  go_wp2_with fail
  refine (CK.out _).mono ?_; rintro e w1 ⟨rfl, hb1⟩
  have hbox : Box w.heap.size W H D C L w1 := (box_of (heap_alloc_new _ _)).old hb1
  have B1 : Hid (Below w.heap.size w w1) := Lib.hid (((Below.refl _ _).alloc (Nat.le_refl _) _).trans (hb1.mono (by simp)))
  have HBOX := Lib.hid hbox
  obtain ⟨k0, k1, k2, k3, k4⟩ := hbox
  clear hb1
  go_wp2_with fail
  refine (P1.out _).mono ?_; rintro e w2 ⟨v2, rfl, hv2, hb2⟩
  have B2 := Lib.hid (B1.out.trans (hb2.mono B1.out.size))
  have hbox : Box w.heap.size W H D C L w2 := HBOX.out.old hb2
  have V2 : Hid (Bs w2 v2 ([] ++ putL 4 W)) := Lib.hid (by have := sl_of_owns hv2; simpa [Bs, putL] using this)
  clear k0 k1 k2 k3 k4 HBOX hb2 hv2
  have HBOX := Lib.hid hbox
  obtain ⟨k0, k1, k2, k3, k4⟩ := hbox
  go_wp2_with fail
  refine (P2.out _ _ V2.out).mono ?_; rintro e w3 ⟨v3, rfl, hv3, hb3⟩
  have B3 := Lib.hid (B2.out.trans (hb3.mono B2.out.size))
  have hbox : Box w.heap.size W H D C L w3 := HBOX.out.old hb3
  have O3 : Hid (w3.ownsRow w2.heap.size 5 1 v3 8 (vBs (([] ++ putL 4 W) ++ putL 4 H))) := Lib.hid (by have h := hv3; rw [show ([] ++ putL 4 W : List UInt8).length + 4 = 8 by simp [putL]] at h; exact h)
  have S3 : Hid (w2.heap.size ≤ w3.heap.size) := Lib.hid hb3.size
  clear k0 k1 k2 k3 k4 HBOX hb3 hv3 V2
  obtain ⟨k0, k1, k2, k3, k4⟩ := hbox
  go_wp2_with (at_builtin; refine stop ?_)
  refine unstop (wpList_app tyB rfl _ _ rfl w2.heap.size _ 8 (vBs (([] ++ putL 4 W) ++ putL 4 H)) rfl (World.ownsRow.alloc O3.out _) _ 5 [vB bD, vB bC, .int .u8 0, .int .u8 0, vB bL] rfl (sl_lit _ _ _ 5 rfl (by omega)) (by intro u hu; simp at hu; rcases hu with rfl | rfl | rfl | rfl <;> rfl) (by omega) (by omega) (Nat.le_trans S3.out (by simp)) ?_)
  intro v4 w4 hown4 hg4 _
  have B4 := Lib.hid ((B3.out.alloc B3.out.size _).grown hg4 (Nat.le_trans B3.out.size (by simp)) (fun k hk => Nat.le_trans B2.out.size (O3.out.lt k hk).1))
  have V4 : Hid (Bs w4 v4 (bytesH W H D C L)) := Lib.hid (by
    have h := sl_of_owns hown4
    rw [← FB.out] at h
    unfold Bs
    rw [bytesH_len]
    exact h)
  clear hown4 hg4
  go_wp2_with fail
  go_ret2
  exact ⟨_, rfl, V4.out, B4.out⟩
end Go.Proofs.Ytlgjjoglajgbeaa
