/- The Adler sum as plain mathematics: no program in sight. By an AI agent. -/
import Derived.Test.YtfkdfdcnmbaheaaLib
namespace Go.Proofs.Ytfkdfdcnmbaheaa
open Go.RowKit (wrap64)

def adlerStep (s : Nat × Nat) (c : UInt8) : Nat × Nat := ((s.1 + c.toNat) % 65521, (s.2 + (s.1 + c.toNat) % 65521) % 65521)
def adlerFrom (s : Nat × Nat) (l : List UInt8) : Nat × Nat := l.foldl adlerStep s
def adlerSt (l : List UInt8) : Nat × Nat := adlerFrom (1, 0) l
def adler (l : List UInt8) : Int := ((65536 * (adlerSt l).2 + (adlerSt l).1 : Nat) : Int)

theorem adlerFrom_lt (l : List UInt8) (s : Nat × Nat) (h : s.1 < 65521 ∧ s.2 < 65521) : (adlerFrom s l).1 < 65521 ∧ (adlerFrom s l).2 < 65521 := by
  unfold adlerFrom
  induction l generalizing s with
  | nil => exact h
  | cons c l ih => exact ih _ ⟨Nat.mod_lt _ (by decide), Nat.mod_lt _ (by decide)⟩
theorem adlerSt_lt (l : List UInt8) : (adlerSt l).1 < 65521 ∧ (adlerSt l).2 < 65521 := adlerFrom_lt l (1, 0) (by decide)
theorem adlerFrom_take (s : Nat × Nat) (l : List UInt8) (k : Nat) (h : k < l.length) : adlerFrom s (l.take (k + 1)) = adlerStep (adlerFrom s (l.take k)) l[k] := by
  unfold adlerFrom
  rw [List.take_succ_eq_append_getElem h, List.foldl_append]; rfl
theorem adlerSt_take (l : List UInt8) (k : Nat) (h : k < l.length) : adlerSt (l.take (k + 1)) = adlerStep (adlerSt (l.take k)) l[k] := adlerFrom_take _ l k h
theorem adlerSt_more (p q : List UInt8) (j : Nat) (h : j < q.length) : adlerSt (p ++ q.take (j + 1)) = adlerStep (adlerSt (p ++ q.take j)) q[j] := by
  unfold adlerSt adlerFrom
  rw [List.take_succ_eq_append_getElem h, ← List.append_assoc, List.foldl_append]; rfl
theorem adlerFrom_append (s : Nat × Nat) (a b : List UInt8) : adlerFrom s (a ++ b) = adlerFrom (adlerFrom s a) b := by simp [adlerFrom]

/-- a step by subtraction -/
theorem adlerStep_cases (s1 s2 x a b : Nat) (c : UInt8) (hc : c.toNat = x) (h1 : s1 < 65521) (h2 : s2 < 65521) (ha : (s1 + x < 65521 ∧ a = s1 + x) ∨ (65521 ≤ s1 + x ∧ a + 65521 = s1 + x)) (hb : (s2 + a < 65521 ∧ b = s2 + a) ∨ (65521 ≤ s2 + a ∧ b + 65521 = s2 + a)) : adlerStep (s1, s2) c = (a, b) := by
  have hx := c.toNat_lt
  unfold adlerStep
  simp only [hc]
  have e1 : (s1 + x) % 65521 = a := by omega
  rw [e1]
  have e2 : (s2 + a) % 65521 = b := by omega
  rw [e2]

/-- From (a, b) on: each byte adds the start's a. -/
theorem adlerFrom_shift (l : List UInt8) (a b : Nat) : (adlerFrom (a, b) l).1 % 65521 = ((adlerFrom (1, 0) l).1 + a + 65520) % 65521 ∧ (adlerFrom (a, b) l).2 % 65521 = ((adlerFrom (1, 0) l).2 + b + l.length * (a + 65520)) % 65521 := by
  suffices ∀ (l : List UInt8) (a b a' b' : Nat) (k : Nat), a % 65521 = (a' + k) % 65521 →
      (adlerFrom (a, b) l).1 % 65521 = ((adlerFrom (a', b') l).1 + k) % 65521 ∧ ∀ d, b % 65521 = (b' + d) % 65521 → (adlerFrom (a, b) l).2 % 65521 = ((adlerFrom (a', b') l).2 + d + l.length * k) % 65521 by
    have h := this l a b 1 0 (a + 65520) (by omega)
    exact ⟨by rw [h.1, Nat.add_assoc], h.2 b (by rw [Nat.zero_add])⟩
  intro l
  induction l with
  | nil =>
    intro a b a' b' k hk
    refine ⟨hk, fun d hd => ?_⟩
    simpa [adlerFrom] using hd
  | cons c l ih =>
    intro a b a' b' k hk
    have hstep : ∀ a b : Nat, adlerFrom (a, b) (c :: l) = adlerFrom ((a + c.toNat) % 65521, (b + (a + c.toNat) % 65521) % 65521) l := fun a b => rfl
    rw [hstep, hstep]
    have h := ih ((a + c.toNat) % 65521) ((b + (a + c.toNat) % 65521) % 65521) ((a' + c.toNat) % 65521) ((b' + (a' + c.toNat) % 65521) % 65521) k (by omega)
    refine ⟨h.1, fun d hd => ?_⟩
    have h2 := h.2 (d + k) (by omega)
    rw [h2, List.length_cons, Nat.succ_mul]
    congr 1
    omega

/-- What Join computes, of the halves. -/
def joinN (a1 a2 b1 b2 n : Nat) : Nat := (a2 + b2 + n % 65521 * ((a1 + 65520) % 65521)) % 65521 * 65536 + (a1 + b1 + 65520) % 65521
theorem adler_join (a b : List UInt8) : (joinN (adlerSt a).1 (adlerSt a).2 (adlerSt b).1 (adlerSt b).2 b.length : Int) = adler (a ++ b) := by
  have h := adlerFrom_shift b (adlerSt a).1 (adlerSt a).2
  have hlt := adlerSt_lt (a ++ b)
  unfold adler joinN
  have e : adlerSt (a ++ b) = adlerFrom (adlerSt a) b := adlerFrom_append _ _ _
  rw [e] at hlt ⊢
  have e1 : (adlerFrom (adlerSt a) b).1 = ((adlerSt a).1 + (adlerSt b).1 + 65520) % 65521 := by
    rw [Nat.mod_eq_of_lt hlt.1 |>.symm, h.1]; unfold adlerSt; congr 1; omega
  have e2 : (adlerFrom (adlerSt a) b).2 = ((adlerSt a).2 + (adlerSt b).2 + b.length % 65521 * (((adlerSt a).1 + 65520) % 65521)) % 65521 := by
    rw [Nat.mod_eq_of_lt hlt.2 |>.symm, h.2]
    rw [Nat.add_mod, Nat.mul_mod]
    conv => rhs; rw [Nat.add_mod]
    congr 2
    unfold adlerSt; congr 1; omega
  rw [e1, e2]
  omega

theorem mod21 (a : Nat) : (a : Int) % 65521 = ((a % 65521 : Nat) : Int) := (Int.natCast_emod a 65521).symm
theorem tmod21 (a : Nat) : (a : Int).tmod 65521 = ((a % 65521 : Nat) : Int) := by rw [Int.tmod_eq_emod_of_nonneg (Int.natCast_nonneg a), mod21]
theorem adler_glue (b a : Nat) (hb : b < 65521) (ha : a < 65521) : bits .or .i64 ((b : Int) * 65536) (a : Int) = ((65536 * b + a : Nat) : Int) := by
  rw [show (b : Int) * 65536 = ((b * 2 ^ 16 : Nat) : Int) by omega, glue64 b a 16 (by omega) (by omega)]
  omega
/-- what the walk of Join leaves -/
theorem join_close (a1 a2 b1 b2 n : Nat) (g2 : a2 ≤ 65520) (g4 : b2 ≤ 65520) :
    bits .or .i64 (wrap64 ((wrap64 ((a2 : Int) + b2 + wrap64 ((n : Int) % 65521 * (((a1 : Int) + 65521 - 1) % 65521)))).tmod 65521 * 65536)) (((a1 : Int) + b1 + 65521 - 1) % 65521) = ((joinN a1 a2 b1 b2 n : Nat) : Int) := by
  have h1 : ((a1 : Int) + 65521 - 1) = ((a1 + 65520 : Nat) : Int) := by omega
  have h2 : ((a1 : Int) + b1 + 65521 - 1) = ((a1 + b1 + 65520 : Nat) : Int) := by omega
  rw [h1, h2, mod21, mod21, mod21, ← Int.natCast_mul]
  unfold joinN
  have hle : n % 65521 * ((a1 + 65520) % 65521) ≤ 65520 * 65520 := Nat.mul_le_mul (Nat.le_of_lt_succ (Nat.mod_lt _ (by decide))) (Nat.le_of_lt_succ (Nat.mod_lt _ (by decide)))
  generalize n % 65521 * ((a1 + 65520) % 65521) = p at hle
  have hy : (a1 + b1 + 65520) % 65521 < 65521 := Nat.mod_lt _ (by decide)
  generalize (a1 + b1 + 65520) % 65521 = y at hy
  have e1 : wrap64 (p : Int) = p := IntWalk.wrap64_in _ (by omega)
  rw [e1, show (a2 : Int) + b2 + p = ((a2 + b2 + p : Nat) : Int) by omega]
  have hq : a2 + b2 + p ≤ 4294967296 := by omega
  generalize a2 + b2 + p = q at hq
  rw [IntWalk.wrap64_in (q : Int) (by omega), tmod21]
  have hz : q % 65521 < 65521 := Nat.mod_lt _ (by decide)
  generalize q % 65521 = z at hz
  rw [show (z : Int) * 65536 = ((z * 2 ^ 16 : Nat) : Int) by omega, IntWalk.wrap64_in _ (by omega)]
  exact glue64 z y 16 (by omega) (by omega)
end Go.Proofs.Ytfkdfdcnmbaheaa
