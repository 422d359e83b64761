/- A JPEG's segments as plain lists: their bytes, how they are read, what is good. By an AI agent. -/
import Derived.Test.YtlljooncoingnaaSPut
namespace Go.Proofs.Ytlljooncoingnaa
set_option linter.unusedVariables false
set_option linter.unusedSimpArgs false

/-! ## stuffed bytes -/
def stuff1 (c : UInt8) : List UInt8 := if c = 255 then [255, 0] else [c]
def stuffL (l : List UInt8) : List UInt8 := (l.map stuff1).flatten
/-- the bytes of stuffed ones, what is left -/
def unst : List UInt8 → List UInt8 × List UInt8
  | [] => ([], [])
  | [c] => if c = 255 then ([], [c]) else ([c], [])
  | c :: d :: r => if c = 255 then (if d = 0 then (255 :: (unst r).1, (unst r).2) else ([], c :: d :: r)) else (c :: (unst (d :: r)).1, (unst (d :: r)).2)
theorem unst_plain (c : UInt8) (r : List UInt8) (h : c ≠ 255) : unst (c :: r) = (c :: (unst r).1, (unst r).2) := by
  cases r with
  | nil => simp [unst, h]
  | cons d r => simp [unst, h]
theorem unst_pair (r : List UInt8) : unst (255 :: 0 :: r) = (255 :: (unst r).1, (unst r).2) := by simp [unst]
theorem unst_stop (d : UInt8) (r : List UInt8) (h : d ≠ 0) : unst (255 :: d :: r) = ([], 255 :: d :: r) := by simp [unst, h]
theorem unst_last : unst [255] = ([], [255]) := by simp [unst]
theorem stuffL_cons (c : UInt8) (l : List UInt8) : stuffL (c :: l) = stuff1 c ++ stuffL l := by simp [stuffL]
theorem unst_stuff : ∀ (p q : List UInt8), unst (stuffL p ++ q) = (p ++ (unst q).1, (unst q).2)
  | [], q => by simp [stuffL]
  | c :: p, q => by
    rw [stuffL_cons]
    unfold stuff1
    split
    · rename_i h
      subst h
      show unst (255 :: 0 :: (stuffL p ++ q)) = _
      rw [unst_pair, unst_stuff p q]; rfl
    · rename_i h
      show unst (c :: (stuffL p ++ q)) = _
      rw [unst_plain _ _ h, unst_stuff p q]; rfl
/-- what was taken is what stuffed bytes say -/
theorem unst_split : ∀ (l : List UInt8), l = stuffL (unst l).1 ++ (unst l).2 ∧ ((unst l).2 = [] ∨ (unst l).2 = [255] ∨ ∃ d r, d ≠ 0 ∧ (unst l).2 = 255 :: d :: r)
  | [] => ⟨rfl, .inl rfl⟩
  | [c] => by
    by_cases h : c = 255
    · subst h; exact ⟨rfl, .inr (.inl rfl)⟩
    · rw [unst_plain c [] h]; simp [unst, stuffL, stuff1, h]
  | c :: d :: r => by
    by_cases h : c = 255
    · subst h
      by_cases hd : d = 0
      · subst hd
        rw [unst_pair]
        obtain ⟨h1, h2⟩ := unst_split r
        refine ⟨?_, h2⟩
        rw [stuffL_cons]
        show 255 :: 0 :: r = 255 :: 0 :: (stuffL (unst r).1 ++ (unst r).2)
        rw [← h1]
      · rw [unst_stop _ _ hd]
        exact ⟨rfl, .inr (.inr ⟨d, r, hd, rfl⟩)⟩
    · rw [unst_plain _ _ h]
      obtain ⟨h1, h2⟩ := unst_split (d :: r)
      refine ⟨?_, h2⟩
      rw [stuffL_cons]
      simp only [stuff1, h, if_false]
      show c :: d :: r = c :: (stuffL (unst (d :: r)).1 ++ (unst (d :: r)).2)
      rw [← h1]
theorem stuffL_len (l : List UInt8) : l.length ≤ (stuffL l).length ∧ (stuffL l).length ≤ 2 * l.length := by
  induction l with
  | nil => simp [stuffL]
  | cons c l ih =>
    rw [stuffL_cons, List.length_append, List.length_cons]
    unfold stuff1
    split <;> simp <;> omega
/-- a beginning of stuffed bytes leaves nothing or ff -/
theorem unst_cut : ∀ (p l : List UInt8), l <+: stuffL p → (unst l).2 = [] ∨ (unst l).2 = [255]
  | [], l, h => by
    have : l = [] := by simpa [stuffL] using h
    subst this; exact .inl rfl
  | c :: p, l, h => by
    rw [stuffL_cons] at h
    unfold stuff1 at h
    split at h
    · match l, h with
      | [], _ => exact .inl rfl
      | [x], h =>
        have : x = 255 := by simpa [List.cons_prefix_cons] using h
        subst this; exact .inr rfl
      | x :: y :: l, h =>
        simp only [List.cons_append, List.nil_append, List.cons_prefix_cons] at h
        obtain ⟨rfl, rfl, h⟩ := h
        rw [unst_pair]
        exact unst_cut p l h
    · rename_i hc
      match l, h with
      | [], _ => exact .inl rfl
      | x :: l, h =>
        simp only [List.cons_append, List.nil_append, List.cons_prefix_cons] at h
        obtain ⟨h1, h2⟩ := h
        subst h1
        rw [unst_plain _ _ hc]
        exact unst_cut p l h2

/-! ## markers, data, intervals -/
def notFF (c : UInt8) : Bool := c == 255
def markM : List UInt8 → Nat ⊕ (UInt8 × List UInt8)
  | [] => .inl 8
  | c :: r => if c ≠ 255 then .inl 2 else match r.dropWhile notFF with
    | [] => .inl 8
    | b :: r' => .inr (b, r')
def dataM (l : List UInt8) : Nat ⊕ (List UInt8 × List UInt8) :=
  if l.length < 2 then .inl 8 else if numL (l.take 2) < 2 then .inl 2 else if l.length < numL (l.take 2) then .inl 8 else .inr ((l.drop 2).take (numL (l.take 2) - 2), l.drop (numL (l.take 2)))
def ivF : Nat → List UInt8 → List (List UInt8) → Nat ⊕ (List (List UInt8) × List UInt8)
  | 0, _, _ => .inl 8
  | f + 1, l, acc => match markM (unst l).2 with
    | .inl e => .inl e
    | .inr (c, r) => if c.toNat < 208 ∨ 216 ≤ c.toNat then .inr (acc ++ [(unst l).1], (unst l).2) else if c.toNat ≠ 208 + acc.length % 8 then .inl 2 else ivF f r (acc ++ [(unst l).1])
def markedU (c : UInt8) : Bool := decide (1 < c.toNat) && decide (c.toNat < 255) && (decide (c.toNat < 208) || decide (216 < c.toNat))
/-- a marker, data, intervals -/
abbrev Itm := Int × List UInt8 × List (List UInt8)
def segF : Nat → List UInt8 → List Itm → List Itm × Nat
  | 0, _, _ => ([], 8)
  | f + 1, l, acc => match markM l with
    | .inl e => ([], e)
    | .inr (c, r) => if c = 217 then (if r ≠ [] then ([], 2) else (acc, 0)) else if !markedU c then ([], 2) else match dataM r with
      | .inl e => ([], e)
      | .inr (d, r2) => if c = 218 then (match ivF (r2.length + 1) r2 [] with
        | .inl e => ([], e)
        | .inr (ivs, r3) => segF f r3 (acc ++ [((c.toNat : Int), d, ivs)])) else segF f r2 (acc ++ [((c.toNat : Int), d, [])])
def parseS (l : List UInt8) : List Itm × Nat :=
  if 1048576 < l.length then ([], 4) else if l.take 2 ≠ [255, 216] then ([], 2) else segF l.length (l.drop 2) []
/-! ## what is written -/
def ivsL : Nat → List (List UInt8) → List UInt8
  | _, [] => []
  | k, p :: r => (if 0 < k then [255, UInt8.ofNat (208 + (k - 1) % 8)] else []) ++ stuffL p ++ ivsL (k + 1) r
def itemL (it : Itm) : List UInt8 := [255, UInt8.ofNat it.1.toNat] ++ putL 2 (2 + it.2.1.length) ++ it.2.1 ++ ivsL 0 it.2.2
def writeS (its : List Itm) : List UInt8 := [255, 216] ++ ((its.map itemL).flatten ++ [255, 217])
def goodI (it : Itm) : Bool := decide (1 < it.1) && decide (it.1 < 255) && (decide (it.1 < 208) || decide (216 < it.1)) && decide (it.1 ≠ 217) && decide (it.2.1.length ≤ 65533) &&
  (if it.1 = 218 then decide (1 ≤ it.2.2.length) && decide (it.2.2.length ≤ 65536) else decide (it.2.2.length = 0))

theorem putL_two (n : Nat) : putL 2 n = [UInt8.ofNat (n / 256), UInt8.ofNat n] := by
  simp [putL, List.range_succ]
theorem numL_put2 (n : Nat) (h : n < 65536) : numL (putL 2 n) = n := by
  rw [putL_two]
  simp only [numL, List.foldl_cons, List.foldl_nil, UInt8.toNat_ofNat']
  omega
theorem two (l : List UInt8) (h : l.length = 2) : ∃ a b, l = [a, b] := by
  match l, h with
  | [a, b], _ => exact ⟨a, b, rfl⟩
theorem put2_num (l : List UInt8) (h : l.length = 2) : putL 2 (numL l) = l := by
  obtain ⟨a, b, rfl⟩ := two l h
  rw [putL_two]
  simp only [numL, List.foldl_cons, List.foldl_nil]
  have ha := a.toNat_lt; have hb := b.toNat_lt
  congr 1
  · apply UInt8.toNat_inj.1; rw [UInt8.toNat_ofNat']; omega
  congr 1
  · apply UInt8.toNat_inj.1; rw [UInt8.toNat_ofNat']; omega

/-! ## what a marker takes -/
theorem markM_pair (c : UInt8) (r : List UInt8) (h : c ≠ 255) : markM (255 :: c :: r) = .inr (c, r) := by
  have e : (c :: r).dropWhile notFF = c :: r := List.dropWhile_cons_of_neg (by simp [notFF, h])
  simp only [markM, e]
  simp
theorem markM_some {l : List UInt8} {c : UInt8} {r : List UInt8} (h : markM l = .inr (c, r)) : ∃ n, l = 255 :: (List.replicate n 255 ++ c :: r) ∧ c ≠ 255 := by
  cases l with
  | nil => simp [markM] at h
  | cons x t =>
    simp only [markM] at h
    split at h
    · cases h
    · rename_i hx
      have hx' := Decidable.not_not.1 hx
      subst hx'
      induction t with
      | nil => simp at h
      | cons y t ih =>
        by_cases hy : y = 255
        · subst hy
          have : (255 :: t).dropWhile notFF = t.dropWhile notFF := by simp [List.dropWhile, notFF]
          rw [this] at h
          obtain ⟨n, h1, h2⟩ := ih h
          refine ⟨n + 1, ?_, h2⟩
          rw [h1]; simp [List.replicate_succ]
        · have : (y :: t).dropWhile notFF = y :: t := List.dropWhile_cons_of_neg (by simp [notFF, hy])
          rw [this] at h
          simp only [Sum.inr.injEq, Prod.mk.injEq] at h
          obtain ⟨rfl, rfl⟩ := h
          exact ⟨0, rfl, hy⟩
theorem markM_make (n : Nat) (c : UInt8) (r : List UInt8) (h : c ≠ 255) : markM (255 :: (List.replicate n 255 ++ c :: r)) = .inr (c, r) := by
  have : ∀ n, (List.replicate n (255 : UInt8) ++ c :: r).dropWhile notFF = c :: r := fun n => by
    induction n with
    | zero => simp [List.dropWhile, notFF, h]
    | succ n ih => simp only [List.replicate_succ, List.cons_append]; rw [List.dropWhile_cons_of_pos (by simp [notFF])]; exact ih
  simp only [markM, this]
  simp
theorem markM_ffs (n : Nat) : markM (255 :: List.replicate n 255) = .inl 8 := by
  have : ∀ n, (List.replicate n (255 : UInt8)).dropWhile notFF = [] := fun n => by
    induction n with
    | zero => rfl
    | succ n ih => simp only [List.replicate_succ]; rw [List.dropWhile_cons_of_pos (by simp [notFF])]; exact ih
  simp only [markM, this]
  simp
theorem markM_more {l : List UInt8} {c : UInt8} {r : List UInt8} (h : markM l = .inr (c, r)) (x : List UInt8) : markM (l ++ x) = .inr (c, r ++ x) := by
  obtain ⟨n, rfl, hc⟩ := markM_some h
  have := markM_make n c (r ++ x) hc
  simpa using this
/-- a beginning: what is missing is missed, or what is left is a beginning -/
theorem markM_cut {l : List UInt8} {c : UInt8} {r : List UInt8} (h : markM l = .inr (c, r)) (k : Nat) (hk : k < l.length) : markM (l.take k) = .inl 8 ∨ ∃ j, j < r.length ∧ markM (l.take k) = .inr (c, r.take j) := by
  obtain ⟨n, rfl, hc⟩ := markM_some h
  cases k with
  | zero => exact .inl rfl
  | succ k =>
    rw [List.take_succ_cons]
    by_cases h1 : k ≤ n
    · left
      rw [List.take_append_of_le_length (by simpa using h1), List.take_replicate, Nat.min_eq_left h1]
      exact markM_ffs k
    · right
      obtain ⟨j, rfl⟩ : ∃ j, k = n + (j + 1) := ⟨k - n - 1, by omega⟩
      have : (List.replicate n (255 : UInt8) ++ c :: r).take (n + (j + 1)) = List.replicate n 255 ++ c :: r.take j := by
        rw [List.take_append]; simp
      rw [this]
      exact ⟨j, by simp at hk; omega, markM_make n c _ hc⟩
theorem markM_short {l : List UInt8} {c : UInt8} {r : List UInt8} (h : markM l = .inr (c, r)) : r.length + 2 ≤ l.length := by
  obtain ⟨n, rfl, hc⟩ := markM_some h
  simp
/-! ## what data takes -/
theorem dataM_some {l d r : List UInt8} (h : dataM l = .inr (d, r)) : l = putL 2 (2 + d.length) ++ d ++ r ∧ d.length ≤ 65533 := by
  unfold dataM at h
  split at h
  · cases h
  split at h
  · cases h
  split at h
  · cases h
  rename_i h1 h2 h3
  simp only [Sum.inr.injEq, Prod.mk.injEq] at h
  obtain ⟨rfl, rfl⟩ := h
  have hlt := numL_lt l 2
  generalize hn : numL (l.take 2) = n at *
  have e : ((l.drop 2).take (n - 2)).length = n - 2 := by rw [List.length_take, List.length_drop]; omega
  have ep : putL 2 n = l.take 2 := by rw [← hn]; exact put2_num _ (by rw [List.length_take]; omega)
  refine ⟨?_, by omega⟩
  rw [e, show 2 + (n - 2) = n by omega, ep, List.append_assoc]
  have d1 : l.drop 2 = (l.drop 2).take (n - 2) ++ l.drop n := by
    have := (List.take_append_drop (n - 2) (l.drop 2)).symm; rw [List.drop_drop] at this; rwa [show 2 + (n - 2) = n by omega] at this
  rw [← d1, List.take_append_drop]
theorem dataM_make (d r : List UInt8) (h : d.length ≤ 65533) : dataM (putL 2 (2 + d.length) ++ d ++ r) = .inr (d, r) := by
  have t : (putL 2 (2 + d.length) ++ d ++ r).take 2 = putL 2 (2 + d.length) := by
    rw [List.append_assoc, List.take_append_of_le_length (by simp [putL_length]), List.take_of_length_le (by simp [putL_length])]
  have n : numL (putL 2 (2 + d.length)) = 2 + d.length := numL_put2 _ (by omega)
  have len : (putL 2 (2 + d.length) ++ d ++ r).length = 2 + d.length + r.length := by simp [putL_length]; omega
  have d1 : (putL 2 (2 + d.length) ++ d ++ r).drop 2 = d ++ r := by
    rw [List.append_assoc, List.drop_append_of_le_length (by simp [putL_length]), List.drop_of_length_le (by simp [putL_length]), List.nil_append]
  unfold dataM
  rw [t, n, len, if_neg (by omega), if_neg (by omega), if_neg (by omega), d1, show 2 + d.length - 2 = d.length by omega, ← List.drop_drop, d1]
  simp
theorem dataM_more {l d r : List UInt8} (h : dataM l = .inr (d, r)) (x : List UInt8) : dataM (l ++ x) = .inr (d, r ++ x) := by
  obtain ⟨rfl, hd⟩ := dataM_some h
  rw [List.append_assoc]
  exact dataM_make d _ hd
theorem dataM_cut {l d r : List UInt8} (h : dataM l = .inr (d, r)) (k : Nat) (hk : k < l.length) : dataM (l.take k) = .inl 8 ∨ ∃ j, j < r.length ∧ dataM (l.take k) = .inr (d, r.take j) := by
  obtain ⟨rfl, hd⟩ := dataM_some h
  have len : (putL 2 (2 + d.length) ++ d ++ r).length = 2 + d.length + r.length := by simp [putL_length]; omega
  rw [len] at hk
  by_cases h1 : k < 2
  · left
    unfold dataM
    rw [if_pos (by rw [List.length_take, len]; omega)]
  by_cases h2 : k < 2 + d.length
  · left
    have t : ((putL 2 (2 + d.length) ++ d ++ r).take k).take 2 = putL 2 (2 + d.length) := by
      rw [List.take_take, Nat.min_eq_left (by omega), List.append_assoc, List.take_append_of_le_length (by simp [putL_length]), List.take_of_length_le (by simp [putL_length])]
    unfold dataM
    rw [t, numL_put2 _ (by omega), List.length_take, len, if_neg (by omega), if_neg (by omega), if_pos (by omega)]
  · right
    obtain ⟨j, rfl⟩ : ∃ j, k = 2 + d.length + j := ⟨k - (2 + d.length), by omega⟩
    refine ⟨j, by omega, ?_⟩
    have : (putL 2 (2 + d.length) ++ d ++ r).take (2 + d.length + j) = putL 2 (2 + d.length) ++ d ++ r.take j := by
      rw [List.take_append, List.take_of_length_le (by simp [putL_length])]
      simp [putL_length]
    rw [this]
    exact dataM_make d _ hd
theorem dataM_short {l d r : List UInt8} (h : dataM l = .inr (d, r)) : l.length = 2 + d.length + r.length := by
  obtain ⟨rfl, _⟩ := dataM_some h
  simp [putL_length]; omega
/-! ## intervals -/
theorem unst_len (l : List UInt8) : l.length = (stuffL (unst l).1).length + (unst l).2.length := by
  conv => lhs; rw [(unst_split l).1]
  rw [List.length_append]
theorem unst_more {l : List UInt8} {c : UInt8} {r : List UInt8} (h : markM (unst l).2 = .inr (c, r)) (x : List UInt8) : unst (l ++ x) = ((unst l).1, (unst l).2 ++ x) := by
  obtain ⟨h1, h2⟩ := unst_split l
  rcases h2 with h2 | h2 | ⟨d, q, hd, h2⟩
  · rw [h2] at h; simp [markM] at h
  · rw [h2] at h; simp [markM] at h
  · conv => lhs; rw [h1, h2, List.append_assoc]
    rw [unst_stuff]
    show ((unst l).1 ++ (unst (255 :: d :: (q ++ x))).1, (unst (255 :: d :: (q ++ x))).2) = _
    rw [unst_stop _ _ hd, h2]; simp
theorem unst_take {l : List UInt8} {c : UInt8} {r : List UInt8} (h : markM (unst l).2 = .inr (c, r)) (k : Nat) (hk : k < l.length) :
    markM (unst (l.take k)).2 = .inl 8 ∨ ∃ j, j < (unst l).2.length ∧ 2 ≤ j ∧ unst (l.take k) = ((unst l).1, (unst l).2.take j) := by
  obtain ⟨h1, h2⟩ := unst_split l
  have hlen := unst_len l
  rcases h2 with h2 | h2 | ⟨d, q, hd, h2⟩
  · rw [h2] at h; simp [markM] at h
  · rw [h2] at h; simp [markM] at h
  · have one : markM ([] : List UInt8) = .inl 8 := rfl
    have two : markM [255] = .inl 8 := rfl
    by_cases hk1 : k ≤ (stuffL (unst l).1).length
    · left
      have : l.take k <+: stuffL (unst l).1 := by
        conv => lhs; rw [h1]
        rw [List.take_append_of_le_length hk1]
        exact List.take_prefix _ _
      rcases unst_cut _ _ this with e | e <;> rw [e] <;> rfl
    · obtain ⟨j, rfl⟩ : ∃ j, k = (stuffL (unst l).1).length + (j + 1) := ⟨k - (stuffL (unst l).1).length - 1, by omega⟩
      have e : l.take ((stuffL (unst l).1).length + (j + 1)) = stuffL (unst l).1 ++ 255 :: (d :: q).take j := by
        have e1 : (stuffL (unst l).1 ++ (unst l).2).take ((stuffL (unst l).1).length + (j + 1)) = stuffL (unst l).1 ++ 255 :: (d :: q).take j := by
          rw [List.take_length_add_append, h2]; rfl
        rw [← h1] at e1; exact e1
      cases j with
      | zero =>
        left
        rw [e, unst_stuff]
        rfl
      | succ j =>
        right
        refine ⟨j + 2, by omega, by omega, ?_⟩
        rw [e, unst_stuff]
        show ((unst l).1 ++ (unst (255 :: d :: q.take j)).1, (unst (255 :: d :: q.take j)).2) = _
        rw [unst_stop _ _ hd, h2]; simp
theorem ivF_more : ∀ (f : Nat) (l : List UInt8) (acc ivs : List (List UInt8)) (r x : List UInt8), ivF f l acc = .inr (ivs, r) → ivF f (l ++ x) acc = .inr (ivs, r ++ x)
  | 0, l, acc, ivs, r, x, h => by simp [ivF] at h
  | f + 1, l, acc, ivs, r, x, h => by
    unfold ivF at h ⊢
    cases hm : markM (unst l).2 with
    | inl e => rw [hm] at h; cases h
    | inr p =>
      obtain ⟨c, r'⟩ := p
      rw [hm] at h
      rw [unst_more hm x, markM_more hm x]
      simp only at h ⊢
      split at h
      · rename_i h1
        rw [if_pos h1]
        simp only [Sum.inr.injEq, Prod.mk.injEq] at h
        rw [h.1, h.2]
      · rename_i h1
        rw [if_neg h1]
        split at h
        · cases h
        · rename_i h2
          rw [if_neg h2]
          exact ivF_more f r' _ ivs r x h
theorem ivF_cut : ∀ (f : Nat) (l : List UInt8) (acc ivs : List (List UInt8)) (r : List UInt8) (k : Nat), ivF f l acc = .inr (ivs, r) → k < l.length → ivF f (l.take k) acc = .inl 8 ∨ ∃ j, j < r.length ∧ ivF f (l.take k) acc = .inr (ivs, r.take j)
  | 0, l, acc, ivs, r, k, h, _ => by simp [ivF] at h
  | f + 1, l, acc, ivs, r, k, h, hk => by
    unfold ivF at h ⊢
    cases hm : markM (unst l).2 with
    | inl e => rw [hm] at h; cases h
    | inr p =>
      obtain ⟨c, r'⟩ := p
      rw [hm] at h
      rcases unst_take hm k hk with h8 | ⟨j, hj, hj2, ej⟩
      · left; rw [h8]
      · rw [ej]
        rcases markM_cut hm j hj with h8 | ⟨i, hi, ei⟩
        · left; simp only [h8]
        · simp only [ei]
          simp only at h
          split at h
          · rename_i h1
            rw [if_pos h1]
            simp only [Sum.inr.injEq, Prod.mk.injEq] at h
            right
            exact ⟨j, by rw [← h.2]; exact hj, by rw [← h.1, ← h.2]⟩
          · rename_i h1
            rw [if_neg h1]
            split at h
            · cases h
            · rename_i h2
              rw [if_neg h2]
              exact ivF_cut f r' _ ivs r i h hi
/-- fuel enough is enough -/
theorem ivF_fuel : ∀ (f g : Nat) (l : List UInt8) (acc : List (List UInt8)), l.length < f → l.length < g → ivF f l acc = ivF g l acc
  | 0, _, _, _, h, _ => absurd h (Nat.not_lt_zero _)
  | _, 0, _, _, _, h => absurd h (Nat.not_lt_zero _)
  | f + 1, g + 1, l, acc, hf, hg => by
    unfold ivF
    cases hm : markM (unst l).2 with
    | inl e => rfl
    | inr p =>
      obtain ⟨c, r⟩ := p
      have h1 := markM_short hm
      have h2 := unst_len l
      simp only
      split
      · rfl
      · split
        · rfl
        · exact ivF_fuel f g r _ (by omega) (by omega)
theorem ivF_le : ∀ (f : Nat) (l : List UInt8) (acc ivs : List (List UInt8)) (r : List UInt8), ivF f l acc = .inr (ivs, r) → r.length ≤ l.length
| 0, l, acc, ivs, r, h => by simp [ivF] at h
| f + 1, l, acc, ivs, r, h => by
  unfold ivF at h
  cases hm : markM (unst l).2 with
  | inl e => rw [hm] at h; cases h
  | inr p =>
    obtain ⟨c, r'⟩ := p
    have h1 := markM_short hm
    have h2 := unst_len l
    rw [hm] at h
    simp only at h
    split at h
    · simp only [Sum.inr.injEq, Prod.mk.injEq] at h
      rw [← h.2]; omega
    · split at h
      · cases h
      · have := ivF_le f r' _ ivs r h
        omega
theorem segF_fuel : ∀ (f g : Nat) (l : List UInt8) (acc : List Itm), l.length < f → l.length < g → segF f l acc = segF g l acc
  | 0, _, _, _, h, _ => absurd h (Nat.not_lt_zero _)
  | _, 0, _, _, _, h => absurd h (Nat.not_lt_zero _)
  | f + 1, g + 1, l, acc, hf, hg => by
    unfold segF
    cases hm : markM l with
    | inl e => rfl
    | inr p =>
      obtain ⟨c, r⟩ := p
      have h1 := markM_short hm
      simp only
      split
      · rfl
      · split
        · rfl
        · cases hd : dataM r with
          | inl e => rfl
          | inr q =>
            obtain ⟨d, r2⟩ := q
            have h2 := dataM_short hd
            simp only
            split
            · cases hi : ivF (r2.length + 1) r2 [] with
              | inl e => rfl
              | inr s =>
                obtain ⟨ivs, r3⟩ := s
                have h3 : r3.length ≤ r2.length := ivF_le _ _ _ _ _ hi
                exact segF_fuel f g r3 _ (by omega) (by omega)
            · exact segF_fuel f g r2 _ (by omega) (by omega)
end Go.Proofs.Ytlljooncoingnaa
