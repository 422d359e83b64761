/- The order of chunks, plain: names, counts, what is wrong at a place, how a walk over them comes to the same. By an AI agent. -/
import Derived.Test.YtlgjjoglajgbeaaDoorGoodL
import Derived.KernelRfl
namespace Go.Proofs.YtlgjjoglajgbeaaDoor
set_option linter.unusedVariables false
set_option linter.unusedSimpArgs false

def nIHDR : List UInt8 := [73, 72, 68, 82]
def nPLTE : List UInt8 := [80, 76, 84, 69]
def nIDAT : List UInt8 := [73, 68, 65, 84]
def ntRNS : List UInt8 := [116, 82, 78, 83]
def nbKGD : List UInt8 := [98, 75, 71, 68]
def nhIST : List UInt8 := [104, 73, 83, 84]
def ncHRM : List UInt8 := [99, 72, 82, 77]
def ngAMA : List UInt8 := [103, 65, 77, 65]
def niCCP : List UInt8 := [105, 67, 67, 80]
def nsBIT : List UInt8 := [115, 66, 73, 84]
def nsRGB : List UInt8 := [115, 82, 71, 66]
def npHYs : List UInt8 := [112, 72, 89, 115]
def ntIME : List UInt8 := [116, 73, 77, 69]
def nsPLT : List UInt8 := [115, 80, 76, 84]
def onceL : List (List UInt8) := [nIHDR, nPLTE, ntRNS, nbKGD, nhIST, ncHRM, ngAMA, niCCP, nsBIT, nsRGB, npHYs, ntIME]
def earlyL : List (List UInt8) := [nPLTE, ntRNS, nbKGD, nhIST, ncHRM, ngAMA, niCCP, nsBIT, nsRGB, npHYs, nsPLT]
def colorsL : List (List UInt8) := [ncHRM, ngAMA, niCCP, nsBIT, nsRGB]
def knownL : List (List UInt8) := [nIHDR, nPLTE, nIDAT, iend]
/-- all names that are asked for -/
def namesL : List (List UInt8) := [nIHDR, nPLTE, nIDAT, ntRNS, nbKGD, nhIST, ncHRM, ngAMA, niCCP, nsBIT, nsRGB, npHYs, ntIME, nsPLT, iend]
/-- how many chunks have one of names -/
def cntL (S : List (List UInt8)) (pre : List Chk) : Nat := (pre.filter fun c => S.contains c.1).length
def cnt1 (nm : List UInt8) (pre : List Chk) : Nat := (pre.filter fun c => c.1 == nm).length
theorem cntL_nil (pre : List Chk) : cntL [] pre = 0 := by simp [cntL]
theorem cntL_one (nm : List UInt8) (pre : List Chk) : cntL [nm] pre = cnt1 nm pre := by
  unfold cntL cnt1
  congr 2
  funext c
  rw [Bool.eq_iff_iff]
  simp
theorem cntL_snoc (S : List (List UInt8)) (pre : List Chk) (c : Chk) : cntL S (pre ++ [c]) = cntL S pre + (if S.contains c.1 then 1 else 0) := by
  unfold cntL
  rw [List.filter_append, List.length_append, List.filter_cons, List.filter_nil]
  by_cases h : S.contains c.1 = true
  · rw [if_pos h, if_pos h]; rfl
  · rw [if_neg h, if_neg h]; rfl
theorem cnt1_snoc (nm : List UInt8) (pre : List Chk) (c : Chk) : cnt1 nm (pre ++ [c]) = cnt1 nm pre + (if c.1 = nm then 1 else 0) := by
  unfold cnt1
  rw [List.filter_append, List.length_append]
  by_cases h : c.1 = nm <;> simp [h]
theorem cntL_three (a b c : List UInt8) (hab : a ≠ b) (hac : a ≠ c) (hbc : b ≠ c) (pre : List Chk) : cntL [a, b, c] pre = cnt1 a pre + cnt1 b pre + cnt1 c pre := by
  induction pre with
  | nil => rfl
  | cons x pre ih =>
    unfold cntL cnt1 at *
    simp only [List.filter_cons]
    by_cases h1 : x.1 = a
    · have h2 : x.1 ≠ b := fun e => hab (h1.symm.trans e)
      have h3 : x.1 ≠ c := fun e => hac (h1.symm.trans e)
      simp [h1, hab, hac] at *
      omega
    · by_cases h2 : x.1 = b
      · simp [h2, hab.symm, hbc] at *
        omega
      · by_cases h3 : x.1 = c
        · simp [h3, hac.symm, hbc.symm] at *
          omega
        · simp [h1, h2, h3] at *
          omega
/-- how many entries the palette ahead has -/
def entriesN (pre : List Chk) : Nat := match pre.find? fun c => c.1 == nPLTE with | some c => c.2.length / 3 | none => 0
def keysBad (d : Nat) (l : List UInt8) : Bool := (List.range ((l.length + 1) / 2)).any fun k => decide (2 ^ d ≤ 256 * (l.getD (2 * k) 0).toNat + (l.getD (2 * k + 1) 0).toNat)
/-- is a palette, a tRNS not one? -/
def plteBad (C D : Int) (l : List UInt8) : Bool := decide (l.length % 3 ≠ 0) || decide (l.length / 3 < 1) || decide (256 < l.length / 3) || decide (C = 0) || decide (C = 4) || (decide (C = 3) && decide (2 ^ D.toNat < l.length / 3))
def trnsBad (C D : Int) (pal : Nat) (l : List UInt8) : Bool :=
  if C = 3 then decide (l.length < 1) || decide (pal < l.length)
  else (decide (C = 0) && decide (l.length ≠ 2)) || (decide (C = 2) && decide (l.length ≠ 6)) || decide (C = 4) || decide (C = 6) || keysBad D.toNat l
/-- what the document calls wrong at a place: the chunks ahead, the chunk -/
def wrongB (C D : Int) (pre : List Chk) (c : Chk) : Bool :=
  (onceL.contains c.1 && decide (0 < cnt1 c.1 pre)) || (earlyL.contains c.1 && decide (0 < cnt1 nIDAT pre)) || (colorsL.contains c.1 && decide (0 < cnt1 nPLTE pre)) ||
  (if c.1 = nPLTE then decide (0 < cntL [ntRNS, nbKGD, nhIST] pre) || plteBad C D c.2
   else if c.1 = nIDAT then decide (0 < cnt1 nIDAT pre) && decide ((pre.getLastD ([], [])).1 ≠ nIDAT)
   else if c.1 = nhIST then decide (cnt1 nPLTE pre = 0)
   else if c.1 = ntRNS then trnsBad C D (entriesN pre) c.2
   else false)
/-- what the walk says of a place, by what it has seen: counts, the palette, whether data have ended -/
def placeB (f : List UInt8 → Nat) (ended : Bool) (nm : List UInt8) : Bool :=
  if nm = nIHDR then false
  else if nm = nPLTE then decide (f nIDAT = 0) && decide (f ntRNS + f nbKGD + f nhIST = 0)
  else if nm = nIDAT then !ended
  else if nm = nhIST then decide (f nIDAT = 0) && decide (0 < f nPLTE)
  else if nm = ntRNS ∨ nm = nbKGD ∨ nm = npHYs ∨ nm = nsPLT then decide (f nIDAT = 0)
  else if nm = ncHRM ∨ nm = ngAMA ∨ nm = niCCP ∨ nm = nsBIT ∨ nm = nsRGB then decide (f nIDAT = 0) && decide (f nPLTE = 0)
  else true
def badW (C D : Int) (f : List UInt8 → Nat) (pal : Nat) (ended : Bool) (c : Chk) : Bool :=
  !placeB f ended c.1 || (decide (0 < f c.1) && onceL.contains c.1) || (decide (c.1 = nPLTE) && plteBad C D c.2) || (decide (c.1 = ntRNS) && trnsBad C D pal c.2)
/-- where the walk stands behind the chunks ahead of a place -/
structure Seen (pre : List Chk) (f : List UInt8 → Nat) (pal : Nat) (ended : Bool) : Prop where
  cnt : ∀ nm, nm ≠ nIHDR → f nm = cnt1 nm pre
  hdr : cnt1 nIHDR pre = f nIHDR + 1
  pal : pal = entriesN pre
  ended : ended = (decide (0 < cnt1 nIDAT pre) && decide ((pre.getLastD ([], [])).1 ≠ nIDAT))
theorem Seen.start (d : List UInt8) : Seen [(nIHDR, d)] (fun _ => 0) 0 false :=
  ⟨fun nm h => by unfold cnt1; simp [Ne.symm h], by simp [cnt1], by unfold entriesN; simp [nIHDR, nPLTE], by simp [cnt1, nIHDR, nIDAT]⟩
theorem known_name {nm : List UInt8} : nm = nIHDR ∨ nm = nPLTE ∨ nm = nIDAT ∨ nm = ntRNS ∨ nm = nbKGD ∨ nm = nhIST ∨ nm = ncHRM ∨ nm = ngAMA ∨ nm = niCCP ∨ nm = nsBIT ∨ nm = nsRGB ∨ nm = npHYs ∨ nm = ntIME ∨ nm = nsPLT ∨ nm = iend ∨ nm ∉ namesL := by
  by_cases h : nm ∈ namesL
  · unfold namesL at h
    simp only [List.mem_cons, List.not_mem_nil, or_false] at h
    rcases h with h | h | h | h | h | h | h | h | h | h | h | h | h | h | h <;> simp [h]
  · simp only [h, not_false_eq_true, or_true]
theorem Seen.bad {C D : Int} {pre : List Chk} {f : List UInt8 → Nat} {pal : Nat} {ended : Bool} (h : Seen pre f pal ended) (c : Chk) : badW C D f pal ended c = wrongB C D pre c := by
  obtain ⟨nm, d⟩ := c
  have p1 := h.cnt nPLTE (by decide)
  have p2 := h.cnt nIDAT (by decide)
  have p3 := h.cnt ntRNS (by decide)
  have p4 := h.cnt nbKGD (by decide)
  have p5 := h.cnt nhIST (by decide)
  have p6 := h.hdr
  have t := cntL_three ntRNS nbKGD nhIST (by decide) (by decide) (by decide) pre
  unfold badW wrongB
  simp only
  rcases known_name (nm := nm) with rfl | rfl | rfl | rfl | rfl | rfl | rfl | rfl | rfl | rfl | rfl | rfl | rfl | rfl | rfl | hno
  · show (!false || (decide (0 < f nIHDR) && true) || (false && plteBad C D d) || (false && trnsBad C D pal d)) = ((true && decide (0 < cnt1 nIHDR pre)) || (false && decide (0 < cnt1 nIDAT pre)) || (false && decide (0 < cnt1 nPLTE pre)) || false)
    rw [decide_eq_true (show 0 < cnt1 nIHDR pre by omega)]
    simp
  · show (!(decide (f nIDAT = 0) && decide (f ntRNS + f nbKGD + f nhIST = 0)) || (decide (0 < f nPLTE) && true) || (true && plteBad C D d) || (false && trnsBad C D pal d)) = ((true && decide (0 < cnt1 nPLTE pre)) || (true && decide (0 < cnt1 nIDAT pre)) || (false && decide (0 < cnt1 nPLTE pre)) || (decide (0 < cntL [ntRNS, nbKGD, nhIST] pre) || plteBad C D d))
    rw [p1, p2, p3, p4, p5, t]
    generalize plteBad C D d = b
    generalize cnt1 nIDAT pre = x1
    generalize cnt1 nPLTE pre = x2
    generalize cnt1 ntRNS pre = x3
    generalize cnt1 nbKGD pre = x4
    generalize cnt1 nhIST pre = x5
    rw [Bool.eq_iff_iff]
    cases b <;> simp <;> omega
  · show (!(!ended) || (decide (0 < f nIDAT) && false) || (false && plteBad C D d) || (false && trnsBad C D pal d)) = ((false && decide (0 < cnt1 nIDAT pre)) || (false && decide (0 < cnt1 nIDAT pre)) || (false && decide (0 < cnt1 nPLTE pre)) || (decide (0 < cnt1 nIDAT pre) && decide ((pre.getLastD ([], [])).1 ≠ nIDAT)))
    rw [h.ended]
    simp
  · show (!(decide (f nIDAT = 0)) || (decide (0 < f ntRNS) && true) || (false && plteBad C D d) || (true && trnsBad C D pal d)) = ((true && decide (0 < cnt1 ntRNS pre)) || (true && decide (0 < cnt1 nIDAT pre)) || (false && decide (0 < cnt1 nPLTE pre)) || trnsBad C D (entriesN pre) d)
    rw [p2, p3, h.pal]
    generalize trnsBad C D (entriesN pre) d = b
    generalize cnt1 nIDAT pre = x1
    generalize cnt1 ntRNS pre = x3
    rw [Bool.eq_iff_iff]
    cases b <;> simp <;> omega
  · show (!(decide (f nIDAT = 0)) || (decide (0 < f nbKGD) && true) || (false && plteBad C D d) || (false && trnsBad C D pal d)) = ((true && decide (0 < cnt1 nbKGD pre)) || (true && decide (0 < cnt1 nIDAT pre)) || (false && decide (0 < cnt1 nPLTE pre)) || false)
    rw [p2, p4]
    rw [Bool.eq_iff_iff]
    simp <;> omega
  · show (!(decide (f nIDAT = 0) && decide (0 < f nPLTE)) || (decide (0 < f nhIST) && true) || (false && plteBad C D d) || (false && trnsBad C D pal d)) = ((true && decide (0 < cnt1 nhIST pre)) || (true && decide (0 < cnt1 nIDAT pre)) || (false && decide (0 < cnt1 nPLTE pre)) || decide (cnt1 nPLTE pre = 0))
    rw [p1, p2, p5]
    rw [Bool.eq_iff_iff]
    simp <;> omega
  · have p := h.cnt ncHRM (by decide)
    show (!(decide (f nIDAT = 0) && decide (f nPLTE = 0)) || (decide (0 < f ncHRM) && true) || (false && plteBad C D d) || (false && trnsBad C D pal d)) = ((true && decide (0 < cnt1 ncHRM pre)) || (true && decide (0 < cnt1 nIDAT pre)) || (true && decide (0 < cnt1 nPLTE pre)) || false)
    rw [p1, p2, p]
    rw [Bool.eq_iff_iff]
    simp <;> omega
  · have p := h.cnt ngAMA (by decide)
    show (!(decide (f nIDAT = 0) && decide (f nPLTE = 0)) || (decide (0 < f ngAMA) && true) || (false && plteBad C D d) || (false && trnsBad C D pal d)) = ((true && decide (0 < cnt1 ngAMA pre)) || (true && decide (0 < cnt1 nIDAT pre)) || (true && decide (0 < cnt1 nPLTE pre)) || false)
    rw [p1, p2, p]
    rw [Bool.eq_iff_iff]
    simp <;> omega
  · have p := h.cnt niCCP (by decide)
    show (!(decide (f nIDAT = 0) && decide (f nPLTE = 0)) || (decide (0 < f niCCP) && true) || (false && plteBad C D d) || (false && trnsBad C D pal d)) = ((true && decide (0 < cnt1 niCCP pre)) || (true && decide (0 < cnt1 nIDAT pre)) || (true && decide (0 < cnt1 nPLTE pre)) || false)
    rw [p1, p2, p]
    rw [Bool.eq_iff_iff]
    simp <;> omega
  · have p := h.cnt nsBIT (by decide)
    show (!(decide (f nIDAT = 0) && decide (f nPLTE = 0)) || (decide (0 < f nsBIT) && true) || (false && plteBad C D d) || (false && trnsBad C D pal d)) = ((true && decide (0 < cnt1 nsBIT pre)) || (true && decide (0 < cnt1 nIDAT pre)) || (true && decide (0 < cnt1 nPLTE pre)) || false)
    rw [p1, p2, p]
    rw [Bool.eq_iff_iff]
    simp <;> omega
  · have p := h.cnt nsRGB (by decide)
    show (!(decide (f nIDAT = 0) && decide (f nPLTE = 0)) || (decide (0 < f nsRGB) && true) || (false && plteBad C D d) || (false && trnsBad C D pal d)) = ((true && decide (0 < cnt1 nsRGB pre)) || (true && decide (0 < cnt1 nIDAT pre)) || (true && decide (0 < cnt1 nPLTE pre)) || false)
    rw [p1, p2, p]
    rw [Bool.eq_iff_iff]
    simp <;> omega
  · have p := h.cnt npHYs (by decide)
    show (!(decide (f nIDAT = 0)) || (decide (0 < f npHYs) && true) || (false && plteBad C D d) || (false && trnsBad C D pal d)) = ((true && decide (0 < cnt1 npHYs pre)) || (true && decide (0 < cnt1 nIDAT pre)) || (false && decide (0 < cnt1 nPLTE pre)) || false)
    rw [p2, p]
    rw [Bool.eq_iff_iff]
    simp <;> omega
  · have p := h.cnt ntIME (by decide)
    show (!true || (decide (0 < f ntIME) && true) || (false && plteBad C D d) || (false && trnsBad C D pal d)) = ((true && decide (0 < cnt1 ntIME pre)) || (false && decide (0 < cnt1 nIDAT pre)) || (false && decide (0 < cnt1 nPLTE pre)) || false)
    rw [p]
    simp
  · have p := h.cnt nsPLT (by decide)
    show (!(decide (f nIDAT = 0)) || (decide (0 < f nsPLT) && false) || (false && plteBad C D d) || (false && trnsBad C D pal d)) = ((false && decide (0 < cnt1 nsPLT pre)) || (true && decide (0 < cnt1 nIDAT pre)) || (false && decide (0 < cnt1 nPLTE pre)) || false)
    rw [p2]
    rw [Bool.eq_iff_iff]
    simp <;> omega
  · show (!true || (decide (0 < f iend) && false) || (false && plteBad C D d) || (false && trnsBad C D pal d)) = ((false && decide (0 < cnt1 iend pre)) || (false && decide (0 < cnt1 nIDAT pre)) || (false && decide (0 < cnt1 nPLTE pre)) || false)
    simp
  · unfold namesL at hno
    simp only [List.mem_cons, List.not_mem_nil, or_false, not_or] at hno
    obtain ⟨h1, h2, h3, h4, h5, h6, h7, h8, h9, h10, h11, h12, h13, h14, h15⟩ := hno
    simp [placeB, onceL, earlyL, colorsL, h1, h2, h3, h4, h5, h6, h7, h8, h9, h10, h11, h12, h13, h14]
/-- a step of the walk over a chunk that is not bad -/
theorem Seen.step {C D : Int} {pre : List Chk} {f : List UInt8 → Nat} {pal : Nat} {ended : Bool} (h : Seen pre f pal ended) (c : Chk) (hpre : pre ≠ []) (hb : badW C D f pal ended c = false) :
    Seen (pre ++ [c]) (fun nm => if nm = c.1 then f nm + 1 else f nm) (if c.1 = nPLTE then c.2.length / 3 else pal) (ended || (decide (0 < f nIDAT) && decide (c.1 ≠ nIDAT))) := by
  have hp : placeB f ended c.1 = true := by
    unfold badW at hb
    simp only [Bool.or_eq_false_iff, Bool.not_eq_false'] at hb
    exact hb.1.1.1
  refine ⟨fun nm hn => ?_, ?_, ?_, ?_⟩
  · rw [cnt1_snoc, ← h.cnt nm hn]
    by_cases e : c.1 = nm
    · rw [if_pos e, if_pos e.symm]
    · rw [if_neg e, if_neg (Ne.symm e)]; omega
  · rw [cnt1_snoc, h.hdr]
    have e : c.1 ≠ nIHDR := by
      intro e
      rw [e] at hp
      exact absurd hp (by show placeB f ended nIHDR ≠ true; exact Bool.false_ne_true)
    rw [if_neg e, if_neg (Ne.symm e)]
  · by_cases e : c.1 = nPLTE
    · rw [if_pos e]
      have h0 : cnt1 nPLTE pre = 0 := by
        rw [← h.cnt nPLTE (by decide)]
        unfold badW at hb
        rw [e] at hb
        simp only [Bool.or_eq_false_iff, Bool.and_eq_false_iff] at hb
        have h1 := hb.1.1.2
        have h2 : onceL.contains nPLTE = true := by decide
        rw [h2] at h1
        simpa using h1
      unfold entriesN
      have h1 : pre.find? (fun c => c.1 == nPLTE) = none := by
        rw [List.find?_eq_none]
        intro x hx hxe
        have : 0 < cnt1 nPLTE pre := List.length_pos_of_mem (List.mem_filter.2 ⟨hx, hxe⟩)
        omega
      rw [List.find?_append, h1]
      simp [e]
    · rw [if_neg e, h.pal]
      unfold entriesN
      rw [List.find?_append]
      have e2 : ([c].find? fun c => c.1 == nPLTE) = none := by simp [e]
      rw [e2, Option.or_none]
  · rw [cnt1_snoc, h.ended, ← h.cnt nIDAT (by decide)]
    have e3 : (pre ++ [c]).getLastD ([], []) = c := by simp
    rw [e3]
    have hE := h.ended
    rw [← h.cnt nIDAT (by decide)] at hE
    by_cases e : c.1 = nIDAT
    · rw [e] at hp ⊢
      have h2 : ended = false := by
        have : placeB f ended nIDAT = !ended := rfl
        rw [this] at hp
        simpa using hp
      rw [← hE, h2]
      simp
    · rw [if_neg e]
      generalize f nIDAT = x
      rw [Bool.eq_iff_iff]
      simp [e]
      omega
theorem no_lit {nm : List UInt8} (h : nm ∉ namesL) (L : List UInt8) (hL : L ∈ namesL) : ((strOf nm).toList == L) = false := by
  rw [strOf_toList, beq_eq_false_iff_ne]
  rintro rfl
  exact h hL
/-- which name it is, as comparisons tell it -/
theorem name_cases (nm : List UInt8) :
    (nm = nIHDR ∧ ((strOf nm).toList == [73, 72, 68, 82]) = true ∧ ((strOf nm).toList == [80, 76, 84, 69]) = false ∧ ((strOf nm).toList == [73, 68, 65, 84]) = false ∧ ((strOf nm).toList == [116, 82, 78, 83]) = false ∧ ((strOf nm).toList == [98, 75, 71, 68]) = false ∧ ((strOf nm).toList == [104, 73, 83, 84]) = false ∧ ((strOf nm).toList == [99, 72, 82, 77]) = false ∧ ((strOf nm).toList == [103, 65, 77, 65]) = false ∧ ((strOf nm).toList == [105, 67, 67, 80]) = false ∧ ((strOf nm).toList == [115, 66, 73, 84]) = false ∧ ((strOf nm).toList == [115, 82, 71, 66]) = false ∧ ((strOf nm).toList == [112, 72, 89, 115]) = false ∧ ((strOf nm).toList == [116, 73, 77, 69]) = false ∧ ((strOf nm).toList == [115, 80, 76, 84]) = false ∧ ((strOf nm).toList == [73, 69, 78, 68]) = false) ∨
    (nm = nPLTE ∧ ((strOf nm).toList == [73, 72, 68, 82]) = false ∧ ((strOf nm).toList == [80, 76, 84, 69]) = true ∧ ((strOf nm).toList == [73, 68, 65, 84]) = false ∧ ((strOf nm).toList == [116, 82, 78, 83]) = false ∧ ((strOf nm).toList == [98, 75, 71, 68]) = false ∧ ((strOf nm).toList == [104, 73, 83, 84]) = false ∧ ((strOf nm).toList == [99, 72, 82, 77]) = false ∧ ((strOf nm).toList == [103, 65, 77, 65]) = false ∧ ((strOf nm).toList == [105, 67, 67, 80]) = false ∧ ((strOf nm).toList == [115, 66, 73, 84]) = false ∧ ((strOf nm).toList == [115, 82, 71, 66]) = false ∧ ((strOf nm).toList == [112, 72, 89, 115]) = false ∧ ((strOf nm).toList == [116, 73, 77, 69]) = false ∧ ((strOf nm).toList == [115, 80, 76, 84]) = false ∧ ((strOf nm).toList == [73, 69, 78, 68]) = false) ∨
    (nm = nIDAT ∧ ((strOf nm).toList == [73, 72, 68, 82]) = false ∧ ((strOf nm).toList == [80, 76, 84, 69]) = false ∧ ((strOf nm).toList == [73, 68, 65, 84]) = true ∧ ((strOf nm).toList == [116, 82, 78, 83]) = false ∧ ((strOf nm).toList == [98, 75, 71, 68]) = false ∧ ((strOf nm).toList == [104, 73, 83, 84]) = false ∧ ((strOf nm).toList == [99, 72, 82, 77]) = false ∧ ((strOf nm).toList == [103, 65, 77, 65]) = false ∧ ((strOf nm).toList == [105, 67, 67, 80]) = false ∧ ((strOf nm).toList == [115, 66, 73, 84]) = false ∧ ((strOf nm).toList == [115, 82, 71, 66]) = false ∧ ((strOf nm).toList == [112, 72, 89, 115]) = false ∧ ((strOf nm).toList == [116, 73, 77, 69]) = false ∧ ((strOf nm).toList == [115, 80, 76, 84]) = false ∧ ((strOf nm).toList == [73, 69, 78, 68]) = false) ∨
    (nm = ntRNS ∧ ((strOf nm).toList == [73, 72, 68, 82]) = false ∧ ((strOf nm).toList == [80, 76, 84, 69]) = false ∧ ((strOf nm).toList == [73, 68, 65, 84]) = false ∧ ((strOf nm).toList == [116, 82, 78, 83]) = true ∧ ((strOf nm).toList == [98, 75, 71, 68]) = false ∧ ((strOf nm).toList == [104, 73, 83, 84]) = false ∧ ((strOf nm).toList == [99, 72, 82, 77]) = false ∧ ((strOf nm).toList == [103, 65, 77, 65]) = false ∧ ((strOf nm).toList == [105, 67, 67, 80]) = false ∧ ((strOf nm).toList == [115, 66, 73, 84]) = false ∧ ((strOf nm).toList == [115, 82, 71, 66]) = false ∧ ((strOf nm).toList == [112, 72, 89, 115]) = false ∧ ((strOf nm).toList == [116, 73, 77, 69]) = false ∧ ((strOf nm).toList == [115, 80, 76, 84]) = false ∧ ((strOf nm).toList == [73, 69, 78, 68]) = false) ∨
    (nm = nbKGD ∧ ((strOf nm).toList == [73, 72, 68, 82]) = false ∧ ((strOf nm).toList == [80, 76, 84, 69]) = false ∧ ((strOf nm).toList == [73, 68, 65, 84]) = false ∧ ((strOf nm).toList == [116, 82, 78, 83]) = false ∧ ((strOf nm).toList == [98, 75, 71, 68]) = true ∧ ((strOf nm).toList == [104, 73, 83, 84]) = false ∧ ((strOf nm).toList == [99, 72, 82, 77]) = false ∧ ((strOf nm).toList == [103, 65, 77, 65]) = false ∧ ((strOf nm).toList == [105, 67, 67, 80]) = false ∧ ((strOf nm).toList == [115, 66, 73, 84]) = false ∧ ((strOf nm).toList == [115, 82, 71, 66]) = false ∧ ((strOf nm).toList == [112, 72, 89, 115]) = false ∧ ((strOf nm).toList == [116, 73, 77, 69]) = false ∧ ((strOf nm).toList == [115, 80, 76, 84]) = false ∧ ((strOf nm).toList == [73, 69, 78, 68]) = false) ∨
    (nm = nhIST ∧ ((strOf nm).toList == [73, 72, 68, 82]) = false ∧ ((strOf nm).toList == [80, 76, 84, 69]) = false ∧ ((strOf nm).toList == [73, 68, 65, 84]) = false ∧ ((strOf nm).toList == [116, 82, 78, 83]) = false ∧ ((strOf nm).toList == [98, 75, 71, 68]) = false ∧ ((strOf nm).toList == [104, 73, 83, 84]) = true ∧ ((strOf nm).toList == [99, 72, 82, 77]) = false ∧ ((strOf nm).toList == [103, 65, 77, 65]) = false ∧ ((strOf nm).toList == [105, 67, 67, 80]) = false ∧ ((strOf nm).toList == [115, 66, 73, 84]) = false ∧ ((strOf nm).toList == [115, 82, 71, 66]) = false ∧ ((strOf nm).toList == [112, 72, 89, 115]) = false ∧ ((strOf nm).toList == [116, 73, 77, 69]) = false ∧ ((strOf nm).toList == [115, 80, 76, 84]) = false ∧ ((strOf nm).toList == [73, 69, 78, 68]) = false) ∨
    (nm = ncHRM ∧ ((strOf nm).toList == [73, 72, 68, 82]) = false ∧ ((strOf nm).toList == [80, 76, 84, 69]) = false ∧ ((strOf nm).toList == [73, 68, 65, 84]) = false ∧ ((strOf nm).toList == [116, 82, 78, 83]) = false ∧ ((strOf nm).toList == [98, 75, 71, 68]) = false ∧ ((strOf nm).toList == [104, 73, 83, 84]) = false ∧ ((strOf nm).toList == [99, 72, 82, 77]) = true ∧ ((strOf nm).toList == [103, 65, 77, 65]) = false ∧ ((strOf nm).toList == [105, 67, 67, 80]) = false ∧ ((strOf nm).toList == [115, 66, 73, 84]) = false ∧ ((strOf nm).toList == [115, 82, 71, 66]) = false ∧ ((strOf nm).toList == [112, 72, 89, 115]) = false ∧ ((strOf nm).toList == [116, 73, 77, 69]) = false ∧ ((strOf nm).toList == [115, 80, 76, 84]) = false ∧ ((strOf nm).toList == [73, 69, 78, 68]) = false) ∨
    (nm = ngAMA ∧ ((strOf nm).toList == [73, 72, 68, 82]) = false ∧ ((strOf nm).toList == [80, 76, 84, 69]) = false ∧ ((strOf nm).toList == [73, 68, 65, 84]) = false ∧ ((strOf nm).toList == [116, 82, 78, 83]) = false ∧ ((strOf nm).toList == [98, 75, 71, 68]) = false ∧ ((strOf nm).toList == [104, 73, 83, 84]) = false ∧ ((strOf nm).toList == [99, 72, 82, 77]) = false ∧ ((strOf nm).toList == [103, 65, 77, 65]) = true ∧ ((strOf nm).toList == [105, 67, 67, 80]) = false ∧ ((strOf nm).toList == [115, 66, 73, 84]) = false ∧ ((strOf nm).toList == [115, 82, 71, 66]) = false ∧ ((strOf nm).toList == [112, 72, 89, 115]) = false ∧ ((strOf nm).toList == [116, 73, 77, 69]) = false ∧ ((strOf nm).toList == [115, 80, 76, 84]) = false ∧ ((strOf nm).toList == [73, 69, 78, 68]) = false) ∨
    (nm = niCCP ∧ ((strOf nm).toList == [73, 72, 68, 82]) = false ∧ ((strOf nm).toList == [80, 76, 84, 69]) = false ∧ ((strOf nm).toList == [73, 68, 65, 84]) = false ∧ ((strOf nm).toList == [116, 82, 78, 83]) = false ∧ ((strOf nm).toList == [98, 75, 71, 68]) = false ∧ ((strOf nm).toList == [104, 73, 83, 84]) = false ∧ ((strOf nm).toList == [99, 72, 82, 77]) = false ∧ ((strOf nm).toList == [103, 65, 77, 65]) = false ∧ ((strOf nm).toList == [105, 67, 67, 80]) = true ∧ ((strOf nm).toList == [115, 66, 73, 84]) = false ∧ ((strOf nm).toList == [115, 82, 71, 66]) = false ∧ ((strOf nm).toList == [112, 72, 89, 115]) = false ∧ ((strOf nm).toList == [116, 73, 77, 69]) = false ∧ ((strOf nm).toList == [115, 80, 76, 84]) = false ∧ ((strOf nm).toList == [73, 69, 78, 68]) = false) ∨
    (nm = nsBIT ∧ ((strOf nm).toList == [73, 72, 68, 82]) = false ∧ ((strOf nm).toList == [80, 76, 84, 69]) = false ∧ ((strOf nm).toList == [73, 68, 65, 84]) = false ∧ ((strOf nm).toList == [116, 82, 78, 83]) = false ∧ ((strOf nm).toList == [98, 75, 71, 68]) = false ∧ ((strOf nm).toList == [104, 73, 83, 84]) = false ∧ ((strOf nm).toList == [99, 72, 82, 77]) = false ∧ ((strOf nm).toList == [103, 65, 77, 65]) = false ∧ ((strOf nm).toList == [105, 67, 67, 80]) = false ∧ ((strOf nm).toList == [115, 66, 73, 84]) = true ∧ ((strOf nm).toList == [115, 82, 71, 66]) = false ∧ ((strOf nm).toList == [112, 72, 89, 115]) = false ∧ ((strOf nm).toList == [116, 73, 77, 69]) = false ∧ ((strOf nm).toList == [115, 80, 76, 84]) = false ∧ ((strOf nm).toList == [73, 69, 78, 68]) = false) ∨
    (nm = nsRGB ∧ ((strOf nm).toList == [73, 72, 68, 82]) = false ∧ ((strOf nm).toList == [80, 76, 84, 69]) = false ∧ ((strOf nm).toList == [73, 68, 65, 84]) = false ∧ ((strOf nm).toList == [116, 82, 78, 83]) = false ∧ ((strOf nm).toList == [98, 75, 71, 68]) = false ∧ ((strOf nm).toList == [104, 73, 83, 84]) = false ∧ ((strOf nm).toList == [99, 72, 82, 77]) = false ∧ ((strOf nm).toList == [103, 65, 77, 65]) = false ∧ ((strOf nm).toList == [105, 67, 67, 80]) = false ∧ ((strOf nm).toList == [115, 66, 73, 84]) = false ∧ ((strOf nm).toList == [115, 82, 71, 66]) = true ∧ ((strOf nm).toList == [112, 72, 89, 115]) = false ∧ ((strOf nm).toList == [116, 73, 77, 69]) = false ∧ ((strOf nm).toList == [115, 80, 76, 84]) = false ∧ ((strOf nm).toList == [73, 69, 78, 68]) = false) ∨
    (nm = npHYs ∧ ((strOf nm).toList == [73, 72, 68, 82]) = false ∧ ((strOf nm).toList == [80, 76, 84, 69]) = false ∧ ((strOf nm).toList == [73, 68, 65, 84]) = false ∧ ((strOf nm).toList == [116, 82, 78, 83]) = false ∧ ((strOf nm).toList == [98, 75, 71, 68]) = false ∧ ((strOf nm).toList == [104, 73, 83, 84]) = false ∧ ((strOf nm).toList == [99, 72, 82, 77]) = false ∧ ((strOf nm).toList == [103, 65, 77, 65]) = false ∧ ((strOf nm).toList == [105, 67, 67, 80]) = false ∧ ((strOf nm).toList == [115, 66, 73, 84]) = false ∧ ((strOf nm).toList == [115, 82, 71, 66]) = false ∧ ((strOf nm).toList == [112, 72, 89, 115]) = true ∧ ((strOf nm).toList == [116, 73, 77, 69]) = false ∧ ((strOf nm).toList == [115, 80, 76, 84]) = false ∧ ((strOf nm).toList == [73, 69, 78, 68]) = false) ∨
    (nm = ntIME ∧ ((strOf nm).toList == [73, 72, 68, 82]) = false ∧ ((strOf nm).toList == [80, 76, 84, 69]) = false ∧ ((strOf nm).toList == [73, 68, 65, 84]) = false ∧ ((strOf nm).toList == [116, 82, 78, 83]) = false ∧ ((strOf nm).toList == [98, 75, 71, 68]) = false ∧ ((strOf nm).toList == [104, 73, 83, 84]) = false ∧ ((strOf nm).toList == [99, 72, 82, 77]) = false ∧ ((strOf nm).toList == [103, 65, 77, 65]) = false ∧ ((strOf nm).toList == [105, 67, 67, 80]) = false ∧ ((strOf nm).toList == [115, 66, 73, 84]) = false ∧ ((strOf nm).toList == [115, 82, 71, 66]) = false ∧ ((strOf nm).toList == [112, 72, 89, 115]) = false ∧ ((strOf nm).toList == [116, 73, 77, 69]) = true ∧ ((strOf nm).toList == [115, 80, 76, 84]) = false ∧ ((strOf nm).toList == [73, 69, 78, 68]) = false) ∨
    (nm = nsPLT ∧ ((strOf nm).toList == [73, 72, 68, 82]) = false ∧ ((strOf nm).toList == [80, 76, 84, 69]) = false ∧ ((strOf nm).toList == [73, 68, 65, 84]) = false ∧ ((strOf nm).toList == [116, 82, 78, 83]) = false ∧ ((strOf nm).toList == [98, 75, 71, 68]) = false ∧ ((strOf nm).toList == [104, 73, 83, 84]) = false ∧ ((strOf nm).toList == [99, 72, 82, 77]) = false ∧ ((strOf nm).toList == [103, 65, 77, 65]) = false ∧ ((strOf nm).toList == [105, 67, 67, 80]) = false ∧ ((strOf nm).toList == [115, 66, 73, 84]) = false ∧ ((strOf nm).toList == [115, 82, 71, 66]) = false ∧ ((strOf nm).toList == [112, 72, 89, 115]) = false ∧ ((strOf nm).toList == [116, 73, 77, 69]) = false ∧ ((strOf nm).toList == [115, 80, 76, 84]) = true ∧ ((strOf nm).toList == [73, 69, 78, 68]) = false) ∨
    (nm = iend ∧ ((strOf nm).toList == [73, 72, 68, 82]) = false ∧ ((strOf nm).toList == [80, 76, 84, 69]) = false ∧ ((strOf nm).toList == [73, 68, 65, 84]) = false ∧ ((strOf nm).toList == [116, 82, 78, 83]) = false ∧ ((strOf nm).toList == [98, 75, 71, 68]) = false ∧ ((strOf nm).toList == [104, 73, 83, 84]) = false ∧ ((strOf nm).toList == [99, 72, 82, 77]) = false ∧ ((strOf nm).toList == [103, 65, 77, 65]) = false ∧ ((strOf nm).toList == [105, 67, 67, 80]) = false ∧ ((strOf nm).toList == [115, 66, 73, 84]) = false ∧ ((strOf nm).toList == [115, 82, 71, 66]) = false ∧ ((strOf nm).toList == [112, 72, 89, 115]) = false ∧ ((strOf nm).toList == [116, 73, 77, 69]) = false ∧ ((strOf nm).toList == [115, 80, 76, 84]) = false ∧ ((strOf nm).toList == [73, 69, 78, 68]) = true) ∨
    (nm ∉ namesL ∧ ((strOf nm).toList == [73, 72, 68, 82]) = false ∧ ((strOf nm).toList == [80, 76, 84, 69]) = false ∧ ((strOf nm).toList == [73, 68, 65, 84]) = false ∧ ((strOf nm).toList == [116, 82, 78, 83]) = false ∧ ((strOf nm).toList == [98, 75, 71, 68]) = false ∧ ((strOf nm).toList == [104, 73, 83, 84]) = false ∧ ((strOf nm).toList == [99, 72, 82, 77]) = false ∧ ((strOf nm).toList == [103, 65, 77, 65]) = false ∧ ((strOf nm).toList == [105, 67, 67, 80]) = false ∧ ((strOf nm).toList == [115, 66, 73, 84]) = false ∧ ((strOf nm).toList == [115, 82, 71, 66]) = false ∧ ((strOf nm).toList == [112, 72, 89, 115]) = false ∧ ((strOf nm).toList == [116, 73, 77, 69]) = false ∧ ((strOf nm).toList == [115, 80, 76, 84]) = false ∧ ((strOf nm).toList == [73, 69, 78, 68]) = false) := by
  rcases known_name (nm := nm) with hnm | hnm | hnm | hnm | hnm | hnm | hnm | hnm | hnm | hnm | hnm | hnm | hnm | hnm | hnm | hnm
  · exact Or.inl (⟨hnm, by rw [hnm]; kernel_rfl, by rw [hnm]; kernel_rfl, by rw [hnm]; kernel_rfl, by rw [hnm]; kernel_rfl, by rw [hnm]; kernel_rfl, by rw [hnm]; kernel_rfl, by rw [hnm]; kernel_rfl, by rw [hnm]; kernel_rfl, by rw [hnm]; kernel_rfl, by rw [hnm]; kernel_rfl, by rw [hnm]; kernel_rfl, by rw [hnm]; kernel_rfl, by rw [hnm]; kernel_rfl, by rw [hnm]; kernel_rfl, by rw [hnm]; kernel_rfl⟩)
  · exact Or.inr (Or.inl (⟨hnm, by rw [hnm]; kernel_rfl, by rw [hnm]; kernel_rfl, by rw [hnm]; kernel_rfl, by rw [hnm]; kernel_rfl, by rw [hnm]; kernel_rfl, by rw [hnm]; kernel_rfl, by rw [hnm]; kernel_rfl, by rw [hnm]; kernel_rfl, by rw [hnm]; kernel_rfl, by rw [hnm]; kernel_rfl, by rw [hnm]; kernel_rfl, by rw [hnm]; kernel_rfl, by rw [hnm]; kernel_rfl, by rw [hnm]; kernel_rfl, by rw [hnm]; kernel_rfl⟩))
  · exact Or.inr (Or.inr (Or.inl (⟨hnm, by rw [hnm]; kernel_rfl, by rw [hnm]; kernel_rfl, by rw [hnm]; kernel_rfl, by rw [hnm]; kernel_rfl, by rw [hnm]; kernel_rfl, by rw [hnm]; kernel_rfl, by rw [hnm]; kernel_rfl, by rw [hnm]; kernel_rfl, by rw [hnm]; kernel_rfl, by rw [hnm]; kernel_rfl, by rw [hnm]; kernel_rfl, by rw [hnm]; kernel_rfl, by rw [hnm]; kernel_rfl, by rw [hnm]; kernel_rfl, by rw [hnm]; kernel_rfl⟩)))
  · exact Or.inr (Or.inr (Or.inr (Or.inl (⟨hnm, by rw [hnm]; kernel_rfl, by rw [hnm]; kernel_rfl, by rw [hnm]; kernel_rfl, by rw [hnm]; kernel_rfl, by rw [hnm]; kernel_rfl, by rw [hnm]; kernel_rfl, by rw [hnm]; kernel_rfl, by rw [hnm]; kernel_rfl, by rw [hnm]; kernel_rfl, by rw [hnm]; kernel_rfl, by rw [hnm]; kernel_rfl, by rw [hnm]; kernel_rfl, by rw [hnm]; kernel_rfl, by rw [hnm]; kernel_rfl, by rw [hnm]; kernel_rfl⟩))))
  · exact Or.inr (Or.inr (Or.inr (Or.inr (Or.inl (⟨hnm, by rw [hnm]; kernel_rfl, by rw [hnm]; kernel_rfl, by rw [hnm]; kernel_rfl, by rw [hnm]; kernel_rfl, by rw [hnm]; kernel_rfl, by rw [hnm]; kernel_rfl, by rw [hnm]; kernel_rfl, by rw [hnm]; kernel_rfl, by rw [hnm]; kernel_rfl, by rw [hnm]; kernel_rfl, by rw [hnm]; kernel_rfl, by rw [hnm]; kernel_rfl, by rw [hnm]; kernel_rfl, by rw [hnm]; kernel_rfl, by rw [hnm]; kernel_rfl⟩)))))
  · exact Or.inr (Or.inr (Or.inr (Or.inr (Or.inr (Or.inl (⟨hnm, by rw [hnm]; kernel_rfl, by rw [hnm]; kernel_rfl, by rw [hnm]; kernel_rfl, by rw [hnm]; kernel_rfl, by rw [hnm]; kernel_rfl, by rw [hnm]; kernel_rfl, by rw [hnm]; kernel_rfl, by rw [hnm]; kernel_rfl, by rw [hnm]; kernel_rfl, by rw [hnm]; kernel_rfl, by rw [hnm]; kernel_rfl, by rw [hnm]; kernel_rfl, by rw [hnm]; kernel_rfl, by rw [hnm]; kernel_rfl, by rw [hnm]; kernel_rfl⟩))))))
  · exact Or.inr (Or.inr (Or.inr (Or.inr (Or.inr (Or.inr (Or.inl (⟨hnm, by rw [hnm]; kernel_rfl, by rw [hnm]; kernel_rfl, by rw [hnm]; kernel_rfl, by rw [hnm]; kernel_rfl, by rw [hnm]; kernel_rfl, by rw [hnm]; kernel_rfl, by rw [hnm]; kernel_rfl, by rw [hnm]; kernel_rfl, by rw [hnm]; kernel_rfl, by rw [hnm]; kernel_rfl, by rw [hnm]; kernel_rfl, by rw [hnm]; kernel_rfl, by rw [hnm]; kernel_rfl, by rw [hnm]; kernel_rfl, by rw [hnm]; kernel_rfl⟩)))))))
  · exact Or.inr (Or.inr (Or.inr (Or.inr (Or.inr (Or.inr (Or.inr (Or.inl (⟨hnm, by rw [hnm]; kernel_rfl, by rw [hnm]; kernel_rfl, by rw [hnm]; kernel_rfl, by rw [hnm]; kernel_rfl, by rw [hnm]; kernel_rfl, by rw [hnm]; kernel_rfl, by rw [hnm]; kernel_rfl, by rw [hnm]; kernel_rfl, by rw [hnm]; kernel_rfl, by rw [hnm]; kernel_rfl, by rw [hnm]; kernel_rfl, by rw [hnm]; kernel_rfl, by rw [hnm]; kernel_rfl, by rw [hnm]; kernel_rfl, by rw [hnm]; kernel_rfl⟩))))))))
  · exact Or.inr (Or.inr (Or.inr (Or.inr (Or.inr (Or.inr (Or.inr (Or.inr (Or.inl (⟨hnm, by rw [hnm]; kernel_rfl, by rw [hnm]; kernel_rfl, by rw [hnm]; kernel_rfl, by rw [hnm]; kernel_rfl, by rw [hnm]; kernel_rfl, by rw [hnm]; kernel_rfl, by rw [hnm]; kernel_rfl, by rw [hnm]; kernel_rfl, by rw [hnm]; kernel_rfl, by rw [hnm]; kernel_rfl, by rw [hnm]; kernel_rfl, by rw [hnm]; kernel_rfl, by rw [hnm]; kernel_rfl, by rw [hnm]; kernel_rfl, by rw [hnm]; kernel_rfl⟩)))))))))
  · exact Or.inr (Or.inr (Or.inr (Or.inr (Or.inr (Or.inr (Or.inr (Or.inr (Or.inr (Or.inl (⟨hnm, by rw [hnm]; kernel_rfl, by rw [hnm]; kernel_rfl, by rw [hnm]; kernel_rfl, by rw [hnm]; kernel_rfl, by rw [hnm]; kernel_rfl, by rw [hnm]; kernel_rfl, by rw [hnm]; kernel_rfl, by rw [hnm]; kernel_rfl, by rw [hnm]; kernel_rfl, by rw [hnm]; kernel_rfl, by rw [hnm]; kernel_rfl, by rw [hnm]; kernel_rfl, by rw [hnm]; kernel_rfl, by rw [hnm]; kernel_rfl, by rw [hnm]; kernel_rfl⟩))))))))))
  · exact Or.inr (Or.inr (Or.inr (Or.inr (Or.inr (Or.inr (Or.inr (Or.inr (Or.inr (Or.inr (Or.inl (⟨hnm, by rw [hnm]; kernel_rfl, by rw [hnm]; kernel_rfl, by rw [hnm]; kernel_rfl, by rw [hnm]; kernel_rfl, by rw [hnm]; kernel_rfl, by rw [hnm]; kernel_rfl, by rw [hnm]; kernel_rfl, by rw [hnm]; kernel_rfl, by rw [hnm]; kernel_rfl, by rw [hnm]; kernel_rfl, by rw [hnm]; kernel_rfl, by rw [hnm]; kernel_rfl, by rw [hnm]; kernel_rfl, by rw [hnm]; kernel_rfl, by rw [hnm]; kernel_rfl⟩)))))))))))
  · exact Or.inr (Or.inr (Or.inr (Or.inr (Or.inr (Or.inr (Or.inr (Or.inr (Or.inr (Or.inr (Or.inr (Or.inl (⟨hnm, by rw [hnm]; kernel_rfl, by rw [hnm]; kernel_rfl, by rw [hnm]; kernel_rfl, by rw [hnm]; kernel_rfl, by rw [hnm]; kernel_rfl, by rw [hnm]; kernel_rfl, by rw [hnm]; kernel_rfl, by rw [hnm]; kernel_rfl, by rw [hnm]; kernel_rfl, by rw [hnm]; kernel_rfl, by rw [hnm]; kernel_rfl, by rw [hnm]; kernel_rfl, by rw [hnm]; kernel_rfl, by rw [hnm]; kernel_rfl, by rw [hnm]; kernel_rfl⟩))))))))))))
  · exact Or.inr (Or.inr (Or.inr (Or.inr (Or.inr (Or.inr (Or.inr (Or.inr (Or.inr (Or.inr (Or.inr (Or.inr (Or.inl (⟨hnm, by rw [hnm]; kernel_rfl, by rw [hnm]; kernel_rfl, by rw [hnm]; kernel_rfl, by rw [hnm]; kernel_rfl, by rw [hnm]; kernel_rfl, by rw [hnm]; kernel_rfl, by rw [hnm]; kernel_rfl, by rw [hnm]; kernel_rfl, by rw [hnm]; kernel_rfl, by rw [hnm]; kernel_rfl, by rw [hnm]; kernel_rfl, by rw [hnm]; kernel_rfl, by rw [hnm]; kernel_rfl, by rw [hnm]; kernel_rfl, by rw [hnm]; kernel_rfl⟩)))))))))))))
  · exact Or.inr (Or.inr (Or.inr (Or.inr (Or.inr (Or.inr (Or.inr (Or.inr (Or.inr (Or.inr (Or.inr (Or.inr (Or.inr (Or.inl (⟨hnm, by rw [hnm]; kernel_rfl, by rw [hnm]; kernel_rfl, by rw [hnm]; kernel_rfl, by rw [hnm]; kernel_rfl, by rw [hnm]; kernel_rfl, by rw [hnm]; kernel_rfl, by rw [hnm]; kernel_rfl, by rw [hnm]; kernel_rfl, by rw [hnm]; kernel_rfl, by rw [hnm]; kernel_rfl, by rw [hnm]; kernel_rfl, by rw [hnm]; kernel_rfl, by rw [hnm]; kernel_rfl, by rw [hnm]; kernel_rfl, by rw [hnm]; kernel_rfl⟩))))))))))))))
  · exact Or.inr (Or.inr (Or.inr (Or.inr (Or.inr (Or.inr (Or.inr (Or.inr (Or.inr (Or.inr (Or.inr (Or.inr (Or.inr (Or.inr (Or.inl (⟨hnm, by rw [hnm]; kernel_rfl, by rw [hnm]; kernel_rfl, by rw [hnm]; kernel_rfl, by rw [hnm]; kernel_rfl, by rw [hnm]; kernel_rfl, by rw [hnm]; kernel_rfl, by rw [hnm]; kernel_rfl, by rw [hnm]; kernel_rfl, by rw [hnm]; kernel_rfl, by rw [hnm]; kernel_rfl, by rw [hnm]; kernel_rfl, by rw [hnm]; kernel_rfl, by rw [hnm]; kernel_rfl, by rw [hnm]; kernel_rfl, by rw [hnm]; kernel_rfl⟩)))))))))))))))
  · exact Or.inr (Or.inr (Or.inr (Or.inr (Or.inr (Or.inr (Or.inr (Or.inr (Or.inr (Or.inr (Or.inr (Or.inr (Or.inr (Or.inr (Or.inr ((⟨hnm, no_lit hnm _ (by decide), no_lit hnm _ (by decide), no_lit hnm _ (by decide), no_lit hnm _ (by decide), no_lit hnm _ (by decide), no_lit hnm _ (by decide), no_lit hnm _ (by decide), no_lit hnm _ (by decide), no_lit hnm _ (by decide), no_lit hnm _ (by decide), no_lit hnm _ (by decide), no_lit hnm _ (by decide), no_lit hnm _ (by decide), no_lit hnm _ (by decide), no_lit hnm _ (by decide)⟩))))))))))))))))
end Go.Proofs.YtlgjjoglajgbeaaDoor
