/- The CRC as plain mathematics: no program in sight. By an AI agent. -/
import Derived.Test.YtmdbnnnaiidheaaLib
namespace Go.Proofs.Ytmdbnnnaiidheaa

/-- one bit of the register -/
def crcBit (r : Nat) : Nat := if r % 2 = 1 then r / 2 ^^^ 3988292384 else r / 2
def crcBits : Nat → Nat → Nat
  | 0, r => r
  | k + 1, r => crcBit (crcBits k r)
theorem crcBit_lt (r : Nat) (h : r < 2 ^ 32) : crcBit r < 2 ^ 32 := by
  unfold crcBit
  split
  · exact Nat.xor_lt_two_pow (by omega) (by decide)
  · omega
theorem crcBits_lt (k r : Nat) (h : r < 2 ^ 32) : crcBits k r < 2 ^ 32 := by
  induction k with
  | zero => exact h
  | succ k ih => exact crcBit_lt _ ih
theorem crcBits_add (a b r : Nat) : crcBits a (crcBits b r) = crcBits (a + b) r := by
  induction a with
  | zero => rw [Nat.zero_add]; rfl
  | succ a ih => rw [Nat.succ_add]; show crcBit _ = crcBit _; rw [ih]
def crcByte (r : Nat) (c : UInt8) : Nat := crcBits 8 (r ^^^ c.toNat)
def crcFrom (r : Nat) (l : List UInt8) : Nat := l.foldl crcByte r
def crcSt (l : List UInt8) : Nat := crcFrom 4294967295 l
def crc (l : List UInt8) : Int := ((4294967295 - crcSt l : Nat) : Int)
theorem xor_byte_lt (r : Nat) (c : UInt8) (h : r < 2 ^ 32) : r ^^^ c.toNat < 2 ^ 32 := Nat.xor_lt_two_pow h (by have := c.toNat_lt; omega)
theorem crcFrom_lt (l : List UInt8) (r : Nat) (h : r < 2 ^ 32) : crcFrom r l < 2 ^ 32 := by
  unfold crcFrom
  induction l generalizing r with
  | nil => exact h
  | cons c l ih => exact ih _ (crcBits_lt 8 _ (xor_byte_lt r c h))
theorem crcSt_lt (l : List UInt8) : crcSt l < 2 ^ 32 := crcFrom_lt l _ (by decide)
theorem crcSt_more (p q : List UInt8) (j : Nat) (h : j < q.length) : crcSt (p ++ q.take (j + 1)) = crcByte (crcSt (p ++ q.take j)) q[j] := by
  unfold crcSt crcFrom
  rw [List.take_succ_eq_append_getElem h, ← List.append_assoc, List.foldl_append]; rfl

theorem u32_xor (a b : Nat) (ha : a < 2 ^ 32) (hb : b < 2 ^ 32) : bits .xor .u32 (a : Int) (b : Int) = ((a ^^^ b : Nat) : Int) := by
  have h : ∀ a : Nat, a < 2 ^ 32 → (BitVec.ofInt 32 (a : Int)).toNat = a := fun a ha => by
    rw [BitVec.ofInt_natCast, BitVec.toNat_ofNat]; exact Nat.mod_eq_of_lt ha
  have hx : a ^^^ b < 2 ^ 32 := Nat.xor_lt_two_pow ha hb
  show IntKind.u32.wrap ((BitVec.ofInt 32 (a : Int) ^^^ BitVec.ofInt 32 (b : Int)).toNat : Int) = _
  rw [BitVec.toNat_xor, h a ha, h b hb]
  simp [IntKind.wrap, IntKind.signed, IntKind.bits]
  omega
theorem u32_and1 (a : Nat) (ha : a < 2 ^ 32) : bits .and .u32 (a : Int) 1 = ((a % 2 : Nat) : Int) := by
  have h : ∀ a : Nat, a < 2 ^ 32 → (BitVec.ofInt 32 (a : Int)).toNat = a := fun a ha => by
    rw [BitVec.ofInt_natCast, BitVec.toNat_ofNat]; exact Nat.mod_eq_of_lt ha
  show IntKind.u32.wrap ((BitVec.ofInt 32 (a : Int) &&& BitVec.ofInt 32 ((1 : Nat) : Int)).toNat : Int) = _
  rw [BitVec.toNat_and, h a ha, h 1 (by decide), Nat.and_one_is_mod]
  simp [IntKind.wrap, IntKind.signed, IntKind.bits]
  omega
/-- what a round of half leaves -/
theorem half_step (s : Nat) (hs : s < 2 ^ 32) : bits .xor .u32 ((s : Int) / 2) (3988292384 * bits .and .u32 (s : Int) 1 % 4294967296) = ((crcBit s : Nat) : Int) := by
  rw [u32_and1 s hs]
  unfold crcBit
  rcases (by omega : s % 2 = 0 ∨ s % 2 = 1) with hm | hm
  · rw [hm, if_neg (by decide)]
    have := u32_xor (s / 2) 0 (by omega) (by decide)
    rw [Nat.xor_zero] at this
    exact this
  · rw [hm, if_pos rfl]
    exact u32_xor (s / 2) 3988292384 (by omega) (by decide)
theorem crcByte_eq (r : Nat) (c : UInt8) : crcByte r c = crcBits 4 (crcBits 4 (r ^^^ c.toNat)) := by
  unfold crcByte; rw [crcBits_add]
theorem ones_xor (s : Nat) (hs : s < 2 ^ 32) : 4294967295 ^^^ s = 4294967295 - s := by
  have h := congrArg BitVec.toNat (BitVec.xor_allOnes (x := BitVec.ofNat 32 s))
  rw [BitVec.toNat_xor, BitVec.toNat_not, BitVec.toNat_allOnes, BitVec.toNat_ofNat, Nat.mod_eq_of_lt hs, Nat.xor_comm] at h
  exact h
theorem crc_end (s : Nat) (hs : s < 2 ^ 32) : RowKit.wrap64 (bits .xor .u32 IntKind.u32.max (s : Int)) = ((4294967295 - s : Nat) : Int) := by
  have e : IntKind.u32.max = ((4294967295 : Nat) : Int) := by decide
  rw [e, u32_xor 4294967295 s (by decide) hs, ones_xor s hs]
  exact IntWalk.wrap64_in _ (by omega)
theorem crc_end3 (s : Nat) (hs : s < 2 ^ 32) : (4294967295 - (s : Int)) % 4294967296 = ((4294967295 - s : Nat) : Int) := by omega
theorem ref_bit0 (r : Nat) (R : Int) (hR : R = (r : Int)) (h : (R % 2 == 1) = false) (hr : r < 2 ^ 32) : ((crcBit r : Nat) : Int) = R.tdiv 2 % 4294967296 := by
  subst hR
  have h2 : ¬ r % 2 = 1 := by
    intro e
    have : ((r : Int) % 2 == 1) = true := by rw [beq_iff_eq]; omega
    rw [this] at h; cases h
  unfold crcBit
  rw [if_neg h2, Int.tdiv_eq_ediv_of_nonneg (by omega)]
  omega
theorem ref_bit1 (r : Nat) (R : Int) (hR : R = (r : Int)) (h : (R % 2 == 1) = true) (hr : r < 2 ^ 32) : ((crcBit r : Nat) : Int) = bits .xor .u32 (R.tdiv 2 % 4294967296) 3988292384 := by
  subst hR
  have h2 : r % 2 = 1 := by rw [beq_iff_eq] at h; omega
  unfold crcBit
  rw [if_pos h2, Int.tdiv_eq_ediv_of_nonneg (by omega), show (r : Int) / 2 % 4294967296 = ((r / 2 : Nat) : Int) by omega]
  exact (u32_xor (r / 2) 3988292384 (by omega) (by decide)).symm
end Go.Proofs.Ytmdbnnnaiidheaa
