/- Units of several parts hold each place of a part once: plain laws. By an AI agent. -/
import Derived.Test.YtbcbfnkpnfbfjaaOncU
import Derived.Test.YtbcbfnkpnfbfjaaUnitI
namespace Go.Proofs.Ytbcbfnkpnfbfjaa
open Go.RowKit Go.BigFrame
set_option linter.unusedVariables false
set_option linter.unusedSimpArgs false

def numsO (k : Nat) : List Int := (List.range k).map fun i : Nat => (i : Int)
theorem numsO_succ (k : Nat) : vIs (numsO (k + 1)) = vIs (numsO k) ++ [.int .i64 (k : Int)] := by
  unfold numsO vIs
  rw [List.range_succ]
  simp [vI]
theorem numsO_length (k : Nat) : (numsO k).length = k := by simp [numsO]
theorem numsO_get (n : Nat) (hn : 1 ≤ n) : (numsO n).getD 0 0 = 0 := by
  obtain ⟨m, rfl⟩ : ∃ m, n = m + 1 := ⟨n - 1, by omega⟩
  simp [numsO, List.range_succ_eq_map]
theorem mem_numsO {n : Nat} {z : Int} : z ∈ numsO n ↔ ∃ i : Nat, i < n ∧ z = (i : Int) := by
  unfold numsO
  simp only [List.mem_map, List.mem_range]
  constructor
  · rintro ⟨a, h, e⟩; exact ⟨a, h, e.symm⟩
  · rintro ⟨a, h, e⟩; exact ⟨a, h, e.symm⟩
/-- an element that a filter keeps, in what the filter keeps -/
theorem filter_at {α : Type} (p : α → Bool) : ∀ (u : List α) (j : Nat) (hj : j < u.length), p (u[j]'hj) = true → (u.filter p)[((u.take j).filter p).length]? = some (u[j]'hj)
  | [], j, hj, _ => by simp at hj
  | a :: u, 0, hj, h => by
    simp only [List.getElem_cons_zero] at h
    simp [h]
  | a :: u, j + 1, hj, h => by
    have hj' : j < u.length := by simpa using hj
    have ih := filter_at p u j hj' (by simpa using h)
    rcases hp : p a with _ | _
    · simpa [hp] using ih
    · simpa [hp] using ih
theorem filter_take_succ {α : Type} (p : α → Bool) (u : List α) (j : Nat) (hj : j < u.length) : ((u.take (j + 1)).filter p).length = ((u.take j).filter p).length + (if p (u[j]'hj) then 1 else 0) := by
  rw [List.take_succ_eq_append_getElem hj, List.filter_append, List.length_append]
  rcases h : p (u[j]'hj) with _ | _ <;> simp [h]
/-- the cells of one part in a unit -/
theorem unit_filter (P : PicL) (c row col : Nat) (k : Int) : ∀ (ps : List Int), ps.Nodup → k ∈ ps → (unitAt P c row col ps).filter (fun x => x.1 == k) = (List.range (partN P k)).map (partU P c row col k)
  | [], _, h => by simp at h
  | a :: ps, hn, h => by
    have e : unitAt P c row col (a :: ps) = (List.range (partN P a)).map (partU P c row col a) ++ unitAt P c row col ps := by simp [unitAt]
    rw [e, List.filter_append]
    have hn' := List.nodup_cons.1 hn
    have hself : ∀ b : Int, b ≠ k → ((List.range (partN P b)).map (partU P c row col b)).filter (fun x => x.1 == k) = [] := fun b hb => by
      rw [List.filter_eq_nil_iff]
      intro x hx
      obtain ⟨i, _, rfl⟩ := List.mem_map.1 hx
      simpa [partU] using hb
    by_cases hak : a = k
    · subst hak
      have h2 : (unitAt P c row col ps).filter (fun x => x.1 == a) = [] := by
        rw [List.filter_eq_nil_iff]
        intro x hx
        unfold unitAt at hx
        obtain ⟨b, hb, hx⟩ := List.mem_flatMap.1 hx
        obtain ⟨i, _, rfl⟩ := List.mem_map.1 hx
        have : b ≠ a := fun e => hn'.1 (e ▸ hb)
        simpa [partU] using this
      rw [h2, List.append_nil, List.filter_eq_self]
      intro x hx
      obtain ⟨i, _, rfl⟩ := List.mem_map.1 hx
      simp [partU]
    · rw [hself a hak, List.nil_append]
      exact unit_filter P c row col k ps hn'.2 (by simpa [Ne.symm hak] using h)
theorem numsO_nodup (n : Nat) : (numsO n).Nodup := by
  unfold numsO
  have := List.nodup_range (n := n)
  exact List.Pairwise.map _ (fun a b h e => h (Int.ofNat_inj.1 e)) this
theorem unitsF_many (P : PicL) (n q : Nat) (hn : 2 ≤ n) : unitsF P (numsO n) q = unitAt P (colsN P 0) (q / colsN P 0) (q % colsN P 0) (numsO n) := by
  have h : ∃ a b l, numsO n = a :: b :: l := by
    rcases hl : numsO n with _ | ⟨a, _ | ⟨b, l⟩⟩
    · have := numsO_length n; rw [hl] at this; simp at this; omega
    · have := numsO_length n; rw [hl] at this; simp at this; omega
    · exact ⟨a, b, l, rfl⟩
  have e : unitsF P (numsO n) q = severalF P (numsO n) q := by
    obtain ⟨a, b, l, h⟩ := h
    rw [h]; rfl
  rw [e]
  unfold severalF
  rw [numsO_get n (by omega)]
theorem unitsN_many (P : PicL) (n : Nat) (hn : 2 ≤ n) : unitsN P (numsO n) = if unitsOk P (numsO n) then rowsN P 0 * colsN P 0 else 0 := by
  have h : ∃ a b l, numsO n = a :: b :: l := by
    rcases hl : numsO n with _ | ⟨a, _ | ⟨b, l⟩⟩
    · have := numsO_length n; rw [hl] at this; simp at this; omega
    · have := numsO_length n; rw [hl] at this; simp at this; omega
    · exact ⟨a, b, l, rfl⟩
  have e : unitsN P (numsO n) = if unitsOk P (numsO n) then severalN P (numsO n) else 0 := by
    obtain ⟨a, b, l, h⟩ := h
    unfold unitsN
    rw [h]
  rw [e]
  unfold severalN
  rw [numsO_get n (by omega)]
theorem sizeL_zero {P : PicL} {k : Int} (h : mostL P k = none) : sizeL P k = (0, 0) := by unfold sizeL; rw [h]
theorem ownL_zero {P : PicL} {k : Int} (h : mostL P k = none) : ownL P k = (0, 0) := by unfold ownL; rw [h]
theorem upI_pos (a b : Int) (ha : 1 ≤ a) (hb : 1 ≤ b) : 1 ≤ upI a b := by
  unfold upI
  have h : b * 1 ≤ a + b - 1 := by omega
  exact (Int.le_ediv_iff_mul_le (by omega)).2 (by rw [Int.mul_comm]; exact h)
theorem sizeL_pos {P : PicL} {k : Int} {h v : Int} (hm : mostL P k = some (h, v)) : (sizeL P k).1 ≠ 0 := by
  obtain ⟨_, hw, hh, hf, h14, v14⟩ := mostL_some hm
  obtain ⟨ph1, pv1, _⟩ := part_in hm
  have u := upI_pos P.w (8 * h) (by omega) (by omega)
  unfold sizeL
  rw [hm]
  have := Int.mul_le_mul (show (1 : Int) ≤ (partAt P k).h by omega) u (by omega) (by omega)
  simp only
  omega
theorem mostL_part {P : PicL} {k j : Int} (hk : 0 ≤ k ∧ k < (P.parts.length : Int)) (hj : 0 ≤ j ∧ j < (P.parts.length : Int)) : mostL P k = mostL P j := by
  unfold mostL headOk
  have a1 : decide (k < 0) = decide (j < 0) := by rw [decide_eq_decide]; omega
  have a2 : decide ((P.parts.length : Int) ≤ k) = decide ((P.parts.length : Int) ≤ j) := by rw [decide_eq_decide]; omega
  rw [a1, a2]
/-- own blocks of one part: as many as units -/
theorem own_units (P : PicL) (k : Int) : (ownL P k).1 * (ownL P k).2 = ((unitsN P [k] : Nat) : Int) := by
  have o := ownL_in P k
  rcases hm : mostL P k with _ | ⟨h, v⟩
  · have hz := unitsOk_false (P := P) (ps := [k]) (k := k) (by simp) (by rw [sizeL_zero hm])
    rw [ownL_zero hm, hz]; rfl
  · have hz : unitsOk P [k] = true := unitsOk_true (P := P) (ps := [k]) (fun x hx => by
      simp only [List.mem_singleton] at hx; subst hx; exact sizeL_pos hm)
    have e : unitsN P [k] = singleN P k := by unfold unitsN; rw [hz]; rfl
    rw [e]
    unfold singleN ownH ownW
    rw [Int.natCast_mul, Int.toNat_of_nonneg o.1.1, Int.toNat_of_nonneg o.2.1, Int.mul_comm]
/-- blocks of a part: as many as units of all parts hold -/
theorem size_units (P : PicL) (n k : Nat) (hn : 2 ≤ n) (hk : k < n) (hP : P.parts.length = n) : (sizeL P (k : Int)).1 * (sizeL P (k : Int)).2 = ((unitsN P (numsO n) * partN P (k : Int) : Nat) : Int) := by
  rcases hm : mostL P (k : Int) with _ | ⟨h, v⟩
  · have hz := unitsOk_false (P := P) (ps := numsO n) (k := (k : Int)) (mem_numsO.2 ⟨k, hk, rfl⟩) (by rw [sizeL_zero hm])
    rw [sizeL_zero hm, hz]; simp
  · have hall : ∀ x ∈ numsO n, mostL P x = some (h, v) := fun x hx => by
      obtain ⟨i, hi, rfl⟩ := mem_numsO.1 hx
      rw [← hm]
      exact mostL_part (by omega) (by omega)
    have hz : unitsOk P (numsO n) = true := unitsOk_true (P := P) (ps := numsO n) (fun x hx => sizeL_pos (hall x hx))
    rw [unitsN_many P n hn, hz, if_pos rfl]
    have h0 : mostL P 0 = some (h, v) := hall 0 (mem_numsO.2 ⟨0, by omega, rfl⟩)
    obtain ⟨e1, e2⟩ := size_colsU P (k : Int) 0 hm h0
    obtain ⟨H, V, ok⟩ := partOk_of (sizeL_pos hm)
    rw [e1, e2, ok.n, ok.h, ok.v]
    push_cast
    generalize ((colsN P 0 : Nat) : Int) = c
    generalize ((rowsN P 0 : Nat) : Int) = r
    rw [Int.mul_assoc, Int.mul_comm (r * c), Int.mul_assoc, Int.mul_comm r c, ← Int.mul_assoc c, Int.mul_comm c, Int.mul_assoc]
/-- the next cell of the part: its place, which is new -/
theorem cell_place (P : PicL) (n k q j : Nat) (hn : 2 ≤ n) (hk : k < n) (hP : P.parts.length = n) (hq : q < unitsN P (numsO n)) {u : List (Int × Int)} (hu : unitsF P (numsO n) q = u) (hj : j < u.length) (hc : (u[j]'hj).1 = (k : Int)) :
    ∃ c f g : Nat, 0 < c ∧ 0 < f ∧ 0 < g ∧ partN P (k : Int) = f * g ∧ colsN P 0 = c ∧ (partAt P (k : Int)).h.toNat = f ∧ (partAt P (k : Int)).v.toNat = g ∧ q / c < rowsN P 0 ∧
      ((u.take j).filter (fun x => x.1 == (k : Int))).length < f * g ∧ (u[j]'hj).2 = ((placeM c f g (q / c) (q % c) ((u.take j).filter (fun x => x.1 == (k : Int))).length : Nat) : Int) := by
  subst hu
  have hok : unitsOk P (numsO n) = true := by
    by_cases h : unitsOk P (numsO n) = true
    · exact h
    · rw [unitsN_many P n hn, if_neg h] at hq; omega
  rw [unitsN_many P n hn, hok, if_pos rfl] at hq
  have hs : (sizeL P (k : Int)).1 ≠ 0 := by
    unfold unitsOk at hok
    have := List.all_eq_true.1 hok (k : Int) (mem_numsO.2 ⟨k, hk, rfl⟩)
    simpa using this
  obtain ⟨H, V, ok⟩ := partOk_of hs
  have hf := filter_at (fun x : Int × Int => x.1 == (k : Int)) _ j hj (by simpa using hc)
  have c0 : 0 < colsN P 0 := by
    rcases Nat.eq_zero_or_pos (colsN P 0) with h | h
    · rw [h] at hq; simp at hq
    · exact h
  generalize hcnt : (((unitsF P (numsO n) q).take j).filter (fun x => x.1 == (k : Int))).length = cnt at hf ⊢
  generalize hx : (unitsF P (numsO n) q)[j]'hj = x at hf hc ⊢
  rw [unitsF_many P n q hn, unit_filter P _ _ _ _ _ (numsO_nodup n) (mem_numsO.2 ⟨k, hk, rfl⟩)] at hf
  obtain ⟨hlt, hfx⟩ := List.getElem?_eq_some_iff.1 hf
  simp only [List.length_map, List.length_range] at hlt
  simp only [List.getElem_map, List.getElem_range] at hfx
  have h0 := ok.h1
  have v0 := ok.v1
  refine ⟨colsN P 0, (partAt P (k : Int)).h.toNat, (partAt P (k : Int)).v.toNat, c0, by rw [ok.h]; simp; omega, by rw [ok.v]; simp; omega, by rw [ok.n, ok.h, ok.v]; simp, rfl, rfl, rfl, ?_, ?_, ?_⟩
  · exact Nat.div_lt_of_lt_mul (by rw [Nat.mul_comm]; exact hq)
  · rw [ok.n] at hlt; rw [ok.h, ok.v]; simpa using hlt
  · rw [← hfx, partU_place P _ _ _ _ _ (by rw [ok.h]; omega) (by rw [ok.v]; omega)]
/-- how many cells of the part a unit holds -/
theorem cells_unit (P : PicL) (n k q : Nat) (hn : 2 ≤ n) (hk : k < n) : ((unitsF P (numsO n) q).filter (fun x => x.1 == (k : Int))).length = partN P (k : Int) := by
  rw [unitsF_many P n q hn, unit_filter P _ _ _ _ _ (numsO_nodup n) (mem_numsO.2 ⟨k, hk, rfl⟩)]
  simp
/-- the q-th unit of one part -/
theorem single_place (P : PicL) (k : Int) (q : Nat) (hq : q < unitsN P [k]) : ∃ p : Nat, unitsF P [k] q = [(k, (p : Int))] ∧ p = placeS (sizeL P k).1.toNat (ownW P k) q ∧ 0 < ownW P k ∧ ownW P k ≤ (sizeL P k).1.toNat ∧
    (p : Int) ≤ 100000000000 ∧ 0 < (sizeL P k).1 ∧ (0 ≤ (p : Int) % (sizeL P k).1 ∧ (p : Int) % (sizeL P k).1 < (ownL P k).1) ∧ (0 ≤ (p : Int) / (sizeL P k).1 ∧ (p : Int) / (sizeL P k).1 < (ownL P k).2) := by
  have o := ownL_in P k
  have s := sizeL_in P k
  obtain ⟨l1, l2⟩ := own_le_size P k
  have hu : q < ownH P k * ownW P k := by
    unfold unitsN at hq
    split at hq
    · exact hq
    · omega
  obtain ⟨ow, how⟩ : ∃ z, ownW P k = z := ⟨_, rfl⟩
  obtain ⟨oh, hoh⟩ : ∃ z, ownH P k = z := ⟨_, rfl⟩
  have o0 : 0 < ow := by
    rcases Nat.eq_zero_or_pos ow with h | h
    · rw [how, h, Nat.mul_zero] at hu; omega
    · exact h
  have e1 : (ownL P k).1 = (ow : Int) := by rw [← how]; unfold ownW; rw [Int.toNat_of_nonneg o.1.1]
  have e2 : (ownL P k).2 = (oh : Int) := by rw [← hoh]; unfold ownH; rw [Int.toNat_of_nonneg o.2.1]
  obtain ⟨sw, hsw⟩ : ∃ z : Nat, (sizeL P k).1 = (z : Int) := ⟨_, (Int.toNat_of_nonneg s.1.1).symm⟩
  refine ⟨placeS (sizeL P k).1.toNat (ownW P k) q, singleF_place P k q, rfl, by rw [how]; exact o0, ?_, ?_⟩
  · rw [hsw, how]; rw [hsw, e1] at l1; simp; omega
  rw [hsw] at l1 s ⊢
  rw [e1, e2] at o ⊢
  rw [e1] at l1
  rw [how, hoh] at hu
  rw [how]
  simp only [Int.toNat_natCast]
  have hs : ow ≤ sw := by omega
  obtain ⟨h1, h2⟩ := placeS_mod (q := q) o0 hs
  have h3 := Nat.mod_lt q o0
  have h4 : q / ow < oh := Nat.div_lt_of_lt_mul (by rw [Nat.mul_comm]; exact hu)
  have h5 : placeS sw ow q ≤ 262140 * 262140 + 262140 := by
    unfold placeS
    exact Nat.add_le_add (Nat.mul_le_mul (by omega) (by omega)) (by omega)
  have e3 : ((placeS sw ow q : Nat) : Int) % (sw : Int) = ((q % ow : Nat) : Int) := by rw [← h1]; simp
  have e4 : ((placeS sw ow q : Nat) : Int) / (sw : Int) = ((q / ow : Nat) : Int) := by rw [← h2]; simp
  rw [e3, e4]
  generalize q / ow = dd at h4 ⊢
  generalize q % ow = mm at h3 ⊢
  refine ⟨by omega, by omega, ⟨by omega, by omega⟩, by omega, by omega⟩
theorem own_units_le (P : PicL) (k : Int) : unitsN P [k] ≤ 68717379600 := by
  have h := own_units P k
  have o := ownL_in P k
  have := mul_in (a := (ownL P k).1) (b := (ownL P k).2) (m := 262140) (n := 262140) (by omega) (by omega)
  omega
theorem size_units_le (P : PicL) (n k : Nat) (hn : 2 ≤ n) (hk : k < n) (hP : P.parts.length = n) : unitsN P (numsO n) * partN P (k : Int) ≤ 68717379600 := by
  have h := size_units P n k hn hk hP
  have o := sizeL_in P (k : Int)
  have := mul_in (a := (sizeL P (k : Int)).1) (b := (sizeL P (k : Int)).2) (m := 262140) (n := 262140) (by omega) (by omega)
  omega
/-- the keys after q units and i cells of the next one -/
def placeP (P : PicL) (k : Int) (q i : Nat) : Nat := placeM (colsN P 0) (partAt P k).h.toNat (partAt P k).v.toNat (q / colsN P 0) (q % colsN P 0) i
def PlK (P : PicL) (k : Int) (q i : Nat) (ks : List Int) : Prop :=
  ks.length = q * partN P k + i ∧ ∀ z ∈ ks, ∃ q' i', i' < (partAt P k).h.toNat * (partAt P k).v.toNat ∧ (q' < q ∨ q' = q ∧ i' < i) ∧ z = ((placeP P k q' i' : Nat) : Int)
theorem PlK.zero (P : PicL) (k : Int) : PlK P k 0 0 [] := ⟨by simp, by simp⟩
def cntK (k : Int) (u : List (Int × Int)) : Nat := (u.filter (fun x => x.1 == k)).length
theorem cntK_zero (k : Int) (u : List (Int × Int)) : cntK k (u.take 0) = 0 := by simp [cntK]
theorem PlK.skip {P : PicL} {k : Int} {q : Nat} {ks : List Int} {u : List (Int × Int)} {j : Nat} (h : PlK P k q (cntK k (u.take j)) ks) (hj : j < u.length) (hne : (u[j]'hj).1 ≠ k) : PlK P k q (cntK k (u.take (j + 1))) ks := by
  have e : cntK k (u.take (j + 1)) = cntK k (u.take j) := by
    unfold cntK
    rw [filter_take_succ _ u j hj]
    simp [hne]
  rw [e]; exact h
theorem PlK.cell {P : PicL} {n k q j : Nat} {ks : List Int} {u : List (Int × Int)} (hn : 2 ≤ n) (hk : k < n) (hP : P.parts.length = n) (hq : q < unitsN P (numsO n)) (hu : unitsF P (numsO n) q = u) (h : PlK P (k : Int) q (cntK (k : Int) (u.take j)) ks) (hj : j < u.length) (hc : (u[j]'hj).1 = (k : Int)) :
    ∃ p : Nat, (u[j]'hj).2 = (p : Int) ∧ p < unitsN P (numsO n) * partN P (k : Int) ∧ (p : Int) ∉ ks ∧ ks.length < unitsN P (numsO n) * partN P (k : Int) ∧ PlK P (k : Int) q (cntK (k : Int) (u.take (j + 1))) ((p : Int) :: ks) := by
  obtain ⟨c, f, g, c0, f0, g0, hN, hcl, hf, hg, hr, hi, hp⟩ := cell_place P n k q j hn hk hP hq hu hj hc
  have hcn : ((u.take j).filter (fun x => x.1 == (k : Int))).length = cntK (k : Int) (u.take j) := rfl
  rw [hcn] at hi hp
  have e : cntK (k : Int) (u.take (j + 1)) = cntK (k : Int) (u.take j) + 1 := by
    unfold cntK
    rw [filter_take_succ _ u j hj]
    simp [hc]
  have hpp : placeP P (k : Int) q (cntK (k : Int) (u.take j)) = placeM c f g (q / c) (q % c) (cntK (k : Int) (u.take j)) := by unfold placeP; rw [hcl, hf, hg]
  rw [e]
  generalize cntK (k : Int) (u.take j) = i at h hi hp hpp ⊢
  refine ⟨_, hp, ?_, ?_, ?_, by rw [List.length_cons, h.1]; omega, ?_⟩
  · have hlt := placeM_lt (c := c) (f := f) (g := g) f0 hr (Nat.mod_lt q c0) hi
    rw [hN]
    have hok : unitsOk P (numsO n) = true := by
      by_cases h : unitsOk P (numsO n) = true
      · exact h
      · rw [unitsN_many P n hn, if_neg h] at hq; omega
    rw [unitsN_many P n hn, hok, if_pos rfl, hcl]
    have e2 : rowsN P 0 * c * (f * g) = g * rowsN P 0 * (f * c) := by
      generalize rowsN P 0 = r
      rw [Nat.mul_comm g r, Nat.mul_assoc r c, Nat.mul_assoc r g]
      congr 1
      rw [Nat.mul_comm f g, Nat.mul_comm f c, ← Nat.mul_assoc, ← Nat.mul_assoc, Nat.mul_comm c g]
    rw [e2]; exact hlt
  · refine fresh_many c0 f0 g0 hi fun z hz => ?_
    obtain ⟨q', i', h1, h2, h3⟩ := h.2 z hz
    rw [hf, hg] at h1
    refine ⟨q', i', h1, h2, ?_⟩
    rw [h3]; unfold placeP; rw [hcl, hf, hg]
  · rw [h.1, hN]
    exact Nat.lt_of_lt_of_le (show q * (f * g) + i < (q + 1) * (f * g) by rw [Nat.succ_mul]; omega) (Nat.mul_le_mul_right _ hq)
  · intro z hz
    rcases List.mem_cons.1 hz with rfl | hz
    · exact ⟨q, i, by rw [hf, hg]; exact hi, .inr ⟨rfl, by omega⟩, by rw [hpp]⟩
    · obtain ⟨q', i', h1, h2, h3⟩ := h.2 z hz
      exact ⟨q', i', h1, by omega, h3⟩
theorem PlK.unit {P : PicL} {n k q : Nat} {ks : List Int} {u : List (Int × Int)} (hn : 2 ≤ n) (hk : k < n) (hu : unitsF P (numsO n) q = u) (h : PlK P (k : Int) q (cntK (k : Int) (u.take u.length)) ks) : PlK P (k : Int) (q + 1) 0 ks := by
  have e : cntK (k : Int) (u.take u.length) = partN P (k : Int) := by
    rw [List.take_length, ← hu]
    exact cells_unit P n k q hn hk
  rw [e] at h
  refine ⟨by rw [h.1, Nat.succ_mul]; omega, fun z hz => ?_⟩
  obtain ⟨q', i', h1, h2, h3⟩ := h.2 z hz
  exact ⟨q', i', h1, by omega, h3⟩
end Go.Proofs.Ytbcbfnkpnfbfjaa
