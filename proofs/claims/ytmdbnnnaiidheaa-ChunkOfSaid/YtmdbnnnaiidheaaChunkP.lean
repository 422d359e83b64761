/- A PNG's chunks as plain lists: their bytes, how they are read, what is good. By an AI agent. -/
import Derived.Test.YtmdbnnnaiidheaaCrc
import Derived.Test.YtmdbnnnaiidheaaSPut
namespace Go.Proofs.Ytmdbnnnaiidheaa
set_option linter.unusedVariables false
set_option linter.unusedSimpArgs false

/-- a name, data -/
abbrev Chk := List UInt8 × List UInt8
def smallU (c : UInt8) : Bool := decide (97 ≤ c.toNat) && decide (c.toNat ≤ 122)
def letterU (c : UInt8) : Bool := smallU c || (decide (65 ≤ c.toNat) && decide (c.toNat ≤ 90))
def namedB (nm : List UInt8) : Bool := decide (nm.length = 4) && nm.all letterU
def iend : List UInt8 := [73, 69, 78, 68]
def signL : List UInt8 := [137, 80, 78, 71, 13, 10, 26, 10]
def crcN (l : List UInt8) : Nat := 4294967295 - crcSt l
theorem crcN_lt (l : List UInt8) : crcN l < 256 ^ 4 := by unfold crcN; omega
theorem crc_nat (l : List UInt8) : crc l = ((crcN l : Nat) : Int) := rfl
def chunkL (c : Chk) : List UInt8 := putL 4 c.2.length ++ (c.1 ++ c.2) ++ putL 4 (crcN (c.1 ++ c.2))
def writeL (cs : List Chk) : List UInt8 := signL ++ (cs.map chunkL).flatten
/-- a chunk that stands before others; the last one -/
def midOk (c : Chk) : Bool := namedB c.1 && decide (c.1 ≠ iend)
def endOk (c : Chk) : Bool := decide (c.1 = iend) && decide (c.2 = [])
def goodL : List Chk → Bool
  | [] => false
  | [c] => endOk c
  | c :: d :: r => midOk c && goodL (d :: r)
/-- one chunk off bytes -/
def stepC (l : List UInt8) : Nat ⊕ (Chk × List UInt8) :=
  if l.length < 4 then .inl 8
  else if 2147483647 < numL (l.take 4) then .inl 2
  else if l.length < 8 then .inl 8
  else if !namedB ((l.drop 4).take 4) then .inl 2
  else if l.length < 8 + numL (l.take 4) then .inl 8
  else if l.length < 12 + numL (l.take 4) then .inl 8
  else if numL ((l.drop (8 + numL (l.take 4))).take 4) ≠ crcN ((l.drop 4).take 4 ++ (l.drop 8).take (numL (l.take 4))) then .inl 2
  else .inr (((l.drop 4).take 4, (l.drop 8).take (numL (l.take 4))), l.drop (12 + numL (l.take 4)))
def parseF : Nat → List UInt8 → List Chk → List Chk × Nat
  | 0, _, _ => ([], 8)
  | f + 1, l, acc => match stepC l with
    | .inl n => ([], n)
    | .inr (c, r) => if c.1 = iend then (if c.2 ≠ [] ∨ r ≠ [] then ([], 2) else (acc ++ [c], 0)) else parseF f r (acc ++ [c])
def parseL (l : List UInt8) : List Chk × Nat :=
  if 1048576 < l.length then ([], 4) else if l.take 8 ≠ signL then ([], 2) else parseF l.length (l.drop 8) []

/-! ## numbers of four bytes -/
theorem putL_four' (n : Nat) : putL 4 n = [UInt8.ofNat (n / 16777216), UInt8.ofNat (n / 65536), UInt8.ofNat (n / 256), UInt8.ofNat n] := by
  simp [putL, List.range_succ]
theorem numL_put4 (n : Nat) (h : n < 4294967296) : numL (putL 4 n) = n := by
  rw [putL_four']
  simp only [numL, List.foldl_cons, List.foldl_nil, UInt8.toNat_ofNat']
  omega
theorem four (l : List UInt8) (h : l.length = 4) : ∃ a b c d, l = [a, b, c, d] := by
  match l, h with
  | [a, b, c, d], _ => exact ⟨a, b, c, d, rfl⟩
theorem put4_num (l : List UInt8) (h : l.length = 4) : putL 4 (numL l) = l := by
  obtain ⟨a, b, c, d, rfl⟩ := four l h
  rw [putL_four']
  simp only [numL, List.foldl_cons, List.foldl_nil]
  have ha := a.toNat_lt; have hb := b.toNat_lt; have hc := c.toNat_lt; have hd := d.toNat_lt
  congr 1
  · apply UInt8.toNat_inj.1; rw [UInt8.toNat_ofNat']; omega
  congr 1
  · apply UInt8.toNat_inj.1; rw [UInt8.toNat_ofNat']; omega
  congr 1
  · apply UInt8.toNat_inj.1; rw [UInt8.toNat_ofNat']; omega
  congr 1
  · apply UInt8.toNat_inj.1; rw [UInt8.toNat_ofNat']; omega
theorem numL4_lt (l : List UInt8) (h : l.length = 4) : numL l < 4294967296 := by
  have := numL_lt l 4
  rw [List.take_of_length_le (by omega)] at this
  exact this

/-! ## a step -/
theorem chunkL_len (c : Chk) (h : c.1.length = 4) : (chunkL c).length = 12 + c.2.length := by
  simp only [chunkL, List.length_append, putL_length, h]; omega
/-- what a step takes is a chunk's bytes -/
theorem step_some {l : List UInt8} {c : Chk} {r : List UInt8} (h : stepC l = .inr (c, r)) : l = chunkL c ++ r ∧ namedB c.1 = true ∧ c.2.length ≤ 2147483647 := by
  unfold stepC at h
  split at h
  · cases h
  split at h
  · cases h
  split at h
  · cases h
  split at h
  · cases h
  split at h
  · cases h
  split at h
  · cases h
  split at h
  · cases h
  rename_i h1 h2 h3 h4 h5 h6 h7
  simp only [Sum.inr.injEq, Prod.mk.injEq] at h
  obtain ⟨rfl, rfl⟩ := h
  have h7' := Decidable.not_not.1 h7
  generalize hn : numL (l.take 4) = n at *
  have e4 : putL 4 n = l.take 4 := by rw [← hn]; exact put4_num _ (by rw [List.length_take]; omega)
  have l2 : ((l.drop 8).take n).length = n := by rw [List.length_take, List.length_drop]; omega
  refine ⟨?_, by simpa using h4, by show ((l.drop 8).take n).length ≤ _; omega⟩
  have e5 : putL 4 (crcN ((l.drop 4).take 4 ++ (l.drop 8).take n)) = (l.drop (8 + n)).take 4 := by
    rw [← h7']; exact put4_num _ (by rw [List.length_take, List.length_drop]; omega)
  simp only [chunkL, l2, e4, e5]
  have d1 : l = l.take 4 ++ l.drop 4 := (List.take_append_drop 4 l).symm
  have d2 : l.drop 4 = (l.drop 4).take 4 ++ l.drop 8 := by
    have := (List.take_append_drop 4 (l.drop 4)).symm; rwa [List.drop_drop] at this
  have d3 : l.drop 8 = (l.drop 8).take n ++ l.drop (8 + n) := by
    have := (List.take_append_drop n (l.drop 8)).symm; rwa [List.drop_drop] at this
  have d4 : l.drop (8 + n) = (l.drop (8 + n)).take 4 ++ l.drop (12 + n) := by
    have := (List.take_append_drop 4 (l.drop (8 + n))).symm; rw [List.drop_drop] at this; rwa [show 8 + n + 4 = 12 + n by omega] at this
  conv => lhs; rw [d1, d2, d3, d4]
  simp only [List.append_assoc]
/-- a chunk's bytes are taken as the chunk -/
theorem step_chunk (c : Chk) (r : List UInt8) (h1 : namedB c.1 = true) (h2 : c.2.length ≤ 2147483647) : stepC (chunkL c ++ r) = .inr (c, r) := by
  obtain ⟨nm, d⟩ := c
  have hl : nm.length = 4 := by simp only [namedB, Bool.and_eq_true, decide_eq_true_eq] at h1; exact h1.1
  simp only at h1 h2
  have e0 : (chunkL (nm, d) ++ r) = putL 4 d.length ++ (nm ++ (d ++ (putL 4 (crcN (nm ++ d)) ++ r))) := by simp [chunkL]
  rw [e0]
  have t1 : (putL 4 d.length ++ (nm ++ (d ++ (putL 4 (crcN (nm ++ d)) ++ r)))).take 4 = putL 4 d.length := by
    rw [List.take_append_of_le_length (by simp [putL_length]), List.take_of_length_le (by simp [putL_length])]
  have d1 : (putL 4 d.length ++ (nm ++ (d ++ (putL 4 (crcN (nm ++ d)) ++ r)))).drop 4 = nm ++ (d ++ (putL 4 (crcN (nm ++ d)) ++ r)) := by
    rw [List.drop_append_of_le_length (by simp [putL_length]), List.drop_of_length_le (by simp [putL_length]), List.nil_append]
  have d2 : (putL 4 d.length ++ (nm ++ (d ++ (putL 4 (crcN (nm ++ d)) ++ r)))).drop 8 = d ++ (putL 4 (crcN (nm ++ d)) ++ r) := by
    rw [show 8 = 4 + 4 from rfl, ← List.drop_drop, d1, List.drop_append_of_le_length (by omega), List.drop_of_length_le (by omega), List.nil_append]
  have d3 : (putL 4 d.length ++ (nm ++ (d ++ (putL 4 (crcN (nm ++ d)) ++ r)))).drop (8 + d.length) = putL 4 (crcN (nm ++ d)) ++ r := by
    rw [← List.drop_drop, d2, List.drop_append_of_le_length (by omega), List.drop_of_length_le (by omega), List.nil_append]
  have d4 : (putL 4 d.length ++ (nm ++ (d ++ (putL 4 (crcN (nm ++ d)) ++ r)))).drop (12 + d.length) = r := by
    rw [show 12 + d.length = (8 + d.length) + 4 by omega, ← List.drop_drop, d3, List.drop_append_of_le_length (by simp [putL_length]), List.drop_of_length_le (by simp [putL_length]), List.nil_append]
  have n1 : numL (putL 4 d.length) = d.length := numL_put4 _ (by omega)
  have len : (putL 4 d.length ++ (nm ++ (d ++ (putL 4 (crcN (nm ++ d)) ++ r)))).length = 12 + d.length + r.length := by
    simp only [List.length_append, putL_length, hl]; omega
  have t2 : (nm ++ (d ++ (putL 4 (crcN (nm ++ d)) ++ r))).take 4 = nm := by
    rw [List.take_append_of_le_length (by omega), List.take_of_length_le (by omega)]
  have t3 : (d ++ (putL 4 (crcN (nm ++ d)) ++ r)).take d.length = d := by
    rw [List.take_append_of_le_length (by omega), List.take_of_length_le (by omega)]
  have t4 : (putL 4 (crcN (nm ++ d)) ++ r).take 4 = putL 4 (crcN (nm ++ d)) := by
    rw [List.take_append_of_le_length (by simp [putL_length]), List.take_of_length_le (by simp [putL_length])]
  have n2 : numL (putL 4 (crcN (nm ++ d))) = crcN (nm ++ d) := numL_put4 _ (by have := crcN_lt (nm ++ d); omega)
  unfold stepC
  rw [t1, n1, len, d1, d2, d3, d4, t2, t3, t4, n2]
  rw [if_neg (by omega), if_neg (by omega), if_neg (by omega), if_neg (by simp [h1]), if_neg (by omega), if_neg (by omega), if_neg (by simp)]
theorem named_iend : namedB iend = true := by decide
theorem step_short {l : List UInt8} {c : Chk} {r : List UInt8} (h : stepC l = .inr (c, r)) : r.length + 12 ≤ l.length := by
  obtain ⟨h1, h2, _⟩ := step_some h
  have hl : c.1.length = 4 := by simp only [namedB, Bool.and_eq_true, decide_eq_true_eq] at h2; exact h2.1
  rw [h1, List.length_append, chunkL_len c hl]; omega

theorem step_err {l : List UInt8} {n : Nat} (h : stepC l = .inl n) : n ≠ 0 := by
  unfold stepC at h
  generalize (l.drop 4).take 4 = nm at h
  generalize numL (l.take 4) = m at h
  repeat' split at h
  all_goals first | (cases h; done) | (simp only [Sum.inl.injEq] at h; omega)
/-! ## there and back -/
theorem goodL_mid {c : Chk} {cs : List Chk} (h : cs ≠ []) : goodL (c :: cs) = (midOk c && goodL cs) := by
  cases cs with
  | nil => exact absurd rfl h
  | cons d r => rfl
theorem parseF_some : ∀ (f : Nat) (l : List UInt8) (acc cs : List Chk), parseF f l acc = (cs, 0) → ∃ ds, cs = acc ++ ds ∧ l = (ds.map chunkL).flatten ∧ goodL ds = true
  | 0, l, acc, cs, h => by simp [parseF] at h
  | f + 1, l, acc, cs, h => by
    unfold parseF at h
    split at h
    · rename_i n hs
      simp only [Prod.mk.injEq] at h
      exact absurd h.2 (step_err hs)
    · rename_i c r hs
      obtain ⟨hl, hn, _⟩ := step_some hs
      split at h
      · rename_i hi
        split at h
        · simp at h
        · rename_i hd
          simp only [not_or, Decidable.not_not] at hd
          simp only [Prod.mk.injEq, and_true] at h
          refine ⟨[c], h.symm, ?_, by simp [goodL, endOk, hi, hd.1]⟩
          rw [hl, hd.2]; simp
      · rename_i hi
        obtain ⟨ds, h1, h2, h3⟩ := parseF_some f r _ cs h
        have hne : ds ≠ [] := by rintro rfl; simp [goodL] at h3
        refine ⟨c :: ds, by rw [h1]; simp, by rw [hl, h2]; simp, ?_⟩
        rw [goodL_mid hne, h3]
        simp [midOk, hn, hi]
theorem parseF_write : ∀ (cs : List Chk) (f : Nat) (acc : List Chk), goodL cs = true → (∀ c ∈ cs, c.2.length ≤ 2147483647) → cs.length ≤ f → parseF f (cs.map chunkL).flatten acc = (acc ++ cs, 0)
  | [], f, acc, h, _, _ => by simp [goodL] at h
  | [c], f, acc, h, hd, hf => by
    obtain ⟨f, rfl⟩ : ∃ g, f = g + 1 := ⟨f - 1, by simp at hf; omega⟩
    simp only [goodL, endOk, Bool.and_eq_true, decide_eq_true_eq] at h
    have hs := step_chunk c [] (by rw [h.1]; exact named_iend) (hd c (by simp))
    rw [List.append_nil] at hs
    simp [parseF, hs, h.1, h.2]
  | c :: d :: r, f, acc, h, hd, hf => by
    obtain ⟨f, rfl⟩ : ∃ g, f = g + 1 := ⟨f - 1, by simp at hf; omega⟩
    simp only [goodL, midOk, Bool.and_eq_true, decide_eq_true_eq] at h
    have hs := step_chunk c ((d :: r).map chunkL).flatten h.1.1 (hd c (by simp))
    have e : ((c :: d :: r).map chunkL).flatten = chunkL c ++ ((d :: r).map chunkL).flatten := by simp
    have ih := parseF_write (d :: r) f (acc ++ [c]) h.2 (fun x hx => hd x (by simp at hx ⊢; exact .inr hx)) (by simp at hf ⊢; omega)
    unfold parseF
    rw [e, hs]
    simp only [h.1.2, if_false]
    rw [ih]
    simp
/-- More fuel than bytes does nothing. -/
theorem parseF_fuel : ∀ (f g : Nat) (l : List UInt8) (acc : List Chk), l.length < f → l.length < g → parseF f l acc = parseF g l acc
  | 0, _, _, _, h, _ => absurd h (Nat.not_lt_zero _)
  | _, 0, _, _, _, h => absurd h (Nat.not_lt_zero _)
  | f + 1, g + 1, l, acc, hf, hg => by
    unfold parseF
    cases hs : stepC l with
    | inl n => rfl
    | inr p =>
      obtain ⟨c, r⟩ := p
      have := step_short hs
      simp only
      split
      · rfl
      · exact parseF_fuel f g r _ (by omega) (by omega)
/-! ## when a bit is changed -/
theorem top31 (h : Nat) (hh : h < 2147483648) : 2147483648 ≤ h ^^^ 3988292384 := by
  have h1 : (h ^^^ 3988292384).testBit 31 = true := by
    rw [Nat.testBit_xor, Nat.testBit_lt_two_pow (x := h) (i := 31) (by omega)]; decide
  have h2 := Nat.ge_two_pow_of_testBit h1
  exact h2
theorem crcBit_inj (r s : Nat) (hr : r < 2 ^ 32) (hs : s < 2 ^ 32) (h : crcBit r = crcBit s) : r = s := by
  unfold crcBit at h
  have tr := top31 (r / 2) (by omega)
  have ts := top31 (s / 2) (by omega)
  split at h <;> split at h
  · have e : r / 2 = s / 2 := by
      have := congrArg (fun x => x ^^^ 3988292384) h
      simpa [Nat.xor_assoc] using this
    omega
  · omega
  · omega
  · omega
theorem crcBits_inj : ∀ (k r s : Nat), r < 2 ^ 32 → s < 2 ^ 32 → crcBits k r = crcBits k s → r = s
  | 0, _, _, _, _, h => h
  | k + 1, r, s, hr, hs, h => crcBits_inj k r s hr hs (crcBit_inj _ _ (crcBits_lt k r hr) (crcBits_lt k s hs) h)
theorem crcFrom_inj (l : List UInt8) (r s : Nat) (hr : r < 2 ^ 32) (hs : s < 2 ^ 32) (h : crcFrom r l = crcFrom s l) : r = s := by
  unfold crcFrom at h
  induction l generalizing r s with
  | nil => exact h
  | cons c l ih =>
    have h1 := ih _ _ (crcBits_lt 8 _ (xor_byte_lt r c hr)) (crcBits_lt 8 _ (xor_byte_lt s c hs)) h
    have h2 := crcBits_inj 8 _ _ (xor_byte_lt r c hr) (xor_byte_lt s c hs) h1
    have := congrArg (fun x => x ^^^ c.toNat) h2
    simpa [Nat.xor_assoc] using this
theorem crcN_inj (p q : List UInt8) (c d : UInt8) (h : crcN (p ++ c :: q) = crcN (p ++ d :: q)) : c = d := by
  have h1 := crcSt_lt (p ++ c :: q)
  have h2 := crcSt_lt (p ++ d :: q)
  have h3 : crcSt (p ++ c :: q) = crcSt (p ++ d :: q) := by unfold crcN at h; omega
  have e : ∀ c, crcSt (p ++ c :: q) = crcFrom (crcByte (crcSt p) c) q := fun c => by simp [crcSt, crcFrom]
  rw [e, e] at h3
  have lt : ∀ c, crcByte (crcSt p) c < 2 ^ 32 := fun c => crcBits_lt 8 _ (xor_byte_lt _ c (crcSt_lt p))
  have h4 := crcFrom_inj q _ _ (lt c) (lt d) h3
  have h5 := crcBits_inj 8 _ _ (xor_byte_lt _ c (crcSt_lt p)) (xor_byte_lt _ d (crcSt_lt p)) h4
  have h6 := congrArg (fun x => crcSt p ^^^ x) h5
  simp only [← Nat.xor_assoc, Nat.xor_self, Nat.zero_xor] at h6
  exact UInt8.toNat_inj.1 h6
theorem numL_inj (p q : List UInt8) (c d : UInt8) (h4 : (p ++ c :: q).length = 4) (h : numL (p ++ c :: q) = numL (p ++ d :: q)) : c = d := by
  have h1 := put4_num (p ++ c :: q) h4
  have h2 := put4_num (p ++ d :: q) (by simpa using h4)
  rw [h, h2] at h1
  have := List.append_cancel_left h1
  simp at this
  exact this.symm
theorem spoil {A B C B' C' : List UInt8} {i : Nat} {y : UInt8} (hA : A.length = 4) (hi : 4 ≤ i) (hi2 : i < (A ++ (B ++ C)).length) (hy : (A ++ (B ++ C))[i]? ≠ some y) (hB : B.length = B'.length) (e : (A ++ (B ++ C)).set i y = A ++ (B' ++ C')) :
    (∃ j, ∃ hb : j < B.length, B[j] ≠ y ∧ B' = B.set j y ∧ C' = C) ∨ (B' = B ∧ C' ≠ C) := by
  obtain ⟨j, rfl⟩ : ∃ j, i = A.length + j := ⟨i - A.length, by omega⟩
  rw [List.set_append_right _ _ (by omega), Nat.add_sub_cancel_left] at e
  rw [List.getElem?_append_right (by omega), Nat.add_sub_cancel_left] at hy
  rw [List.length_append, List.length_append] at hi2
  have e3 := List.append_cancel_left e
  by_cases hb : j < B.length
  · rw [List.set_append_left _ _ hb] at e3
    obtain ⟨e4, e5⟩ := List.append_inj e3 (by rw [List.length_set]; exact hB)
    rw [List.getElem?_append_left hb, List.getElem?_eq_getElem hb] at hy
    exact .inl ⟨j, hb, fun h => hy (by rw [h]), e4.symm, e5.symm⟩
  · rw [List.set_append_right _ _ (by omega)] at e3
    obtain ⟨e4, e5⟩ := List.append_inj e3 hB
    refine .inr ⟨e4.symm, fun h => ?_⟩
    rw [h] at e5
    have hm : j - B.length < C.length := by omega
    have := congrArg (fun l : List UInt8 => l[j - B.length]?) e5
    simp only [List.getElem?_set_self hm] at this
    rw [List.getElem?_append_right (by omega)] at hy
    exact hy this.symm
/-- a chunk with another byte behind its length is not taken -/
theorem step_spoilt (c : Chk) (r : List UInt8) (h1 : namedB c.1 = true) (h2 : c.2.length ≤ 2147483647) (i : Nat) (hi : 4 ≤ i) (hi2 : i < (chunkL c).length) (y : UInt8) (hy : (chunkL c)[i]'hi2 ≠ y) :
    ∃ n, n ≠ 0 ∧ stepC ((chunkL c).set i y ++ r) = .inl n := by
  cases hs : stepC ((chunkL c).set i y ++ r) with
  | inl n =>
    exact ⟨n, step_err hs, rfl⟩
  | inr p =>
    exfalso
    obtain ⟨d, r'⟩ := p
    obtain ⟨e, hn, hd⟩ := step_some hs
    have hl : c.1.length = 4 := by simp only [namedB, Bool.and_eq_true, decide_eq_true_eq] at h1; exact h1.1
    have hl' : d.1.length = 4 := by simp only [namedB, Bool.and_eq_true, decide_eq_true_eq] at hn; exact hn.1
    -- the length stands
    have t4 : ((chunkL c).set i y ++ r).take 4 = putL 4 c.2.length := by
      have hlen : ((chunkL c).set i y).length = 12 + c.2.length := by rw [List.length_set, chunkL_len c hl]
      rw [List.take_append_of_le_length (by omega)]
      rw [List.take_set_of_le hi]
      simp only [chunkL, List.append_assoc]
      rw [List.take_append_of_le_length (by simp [putL_length]), List.take_of_length_le (by simp [putL_length])]
    have t4' : (chunkL d ++ r').take 4 = putL 4 d.2.length := by
      simp only [chunkL, List.append_assoc]
      rw [List.take_append_of_le_length (by simp [putL_length]), List.take_of_length_le (by simp [putL_length])]
    have hlen : c.2.length = d.2.length := by
      rw [e, t4'] at t4
      have := congrArg numL t4
      rw [numL_put4 _ (by omega), numL_put4 _ (by omega)] at this
      exact this.symm
    have hcc : (chunkL c).length = (chunkL d).length := by rw [chunkL_len c hl, chunkL_len d hl', hlen]
    have e2 : (chunkL c).set i y = chunkL d := (List.append_inj e (by rw [List.length_set]; exact hcc)).1
    -- the body and the sum
    have hy' : (chunkL c)[i]? ≠ some y := by rw [List.getElem?_eq_getElem hi2]; intro h; exact hy (Option.some.inj h)
    have e7 : chunkL c = putL 4 d.2.length ++ ((c.1 ++ c.2) ++ putL 4 (crcN (c.1 ++ c.2))) := by rw [chunkL, List.append_assoc, hlen]
    have e8 : chunkL d = putL 4 d.2.length ++ ((d.1 ++ d.2) ++ putL 4 (crcN (d.1 ++ d.2))) := by rw [chunkL, List.append_assoc]
    rw [e7, e8] at e2
    rw [e7] at hy' hi2
    have hblen : (c.1 ++ c.2).length = (d.1 ++ d.2).length := by simp [hl, hl', hlen]
    rcases spoil (putL_length 4 _) hi hi2 hy' hblen e2 with ⟨j, hb, hne, hB, hC⟩ | ⟨hB, hC⟩
    · have e6 : crcN (d.1 ++ d.2) = crcN (c.1 ++ c.2) := by
        have := congrArg numL hC
        rwa [numL_put4 _ (by have := crcN_lt (d.1 ++ d.2); omega), numL_put4 _ (by have := crcN_lt (c.1 ++ c.2); omega)] at this
      rw [hB] at e6
      generalize c.1 ++ c.2 = B at *
      have hx := List.set_eq_take_append_cons_drop (l := B) (i := j) (a := y)
      rw [if_pos hb] at hx
      have hz : B = B.take j ++ B[j] :: B.drop (j + 1) := by
        rw [← List.drop_eq_getElem_cons hb, List.take_append_drop]
      rw [hx] at e6
      have e9 : crcN B = crcN (B.take j ++ B[j] :: B.drop (j + 1)) := congrArg crcN hz
      rw [e9] at e6
      exact hne (crcN_inj _ _ _ _ e6).symm
    · exact hC (by rw [hB])
end Go.Proofs.Ytmdbnnnaiidheaa
