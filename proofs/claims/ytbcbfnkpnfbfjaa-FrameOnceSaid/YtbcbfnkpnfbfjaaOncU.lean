/- Units go over each place once: plain laws. By an AI agent. -/
import Derived.Test.YtbcbfnkpnfbfjaaUnitP
namespace Go.Proofs.Ytbcbfnkpnfbfjaa
open Go.RowKit Go.BigFrame
set_option linter.unusedVariables false
set_option linter.unusedSimpArgs false

theorem upI_le {a b m : Int} (hb : 0 < b) (h : a ≤ b * m) : upI a b ≤ m := by
  unfold upI
  refine Int.le_of_lt_add_one (Int.ediv_lt_of_lt_mul hb ?_)
  rw [Int.add_mul, Int.one_mul, Int.mul_comm m b]
  omega
theorem upI_ge (a b : Int) (hb : 0 < b) : a ≤ b * upI a b := by
  unfold upI
  have h1 := Int.mul_ediv_add_emod (a + b - 1) b
  have h3 := Int.emod_lt_of_pos (a + b - 1) hb
  omega
/-- own blocks are no more than a part's blocks -/
theorem own_le_one {w f m : Int} (hm : 0 < m) (hf : 0 ≤ f) : upI (upI (w * f) m) 8 ≤ f * upI w (8 * m) := by
  apply upI_le (by omega)
  apply upI_le hm
  have h1 := upI_ge w (8 * m) (by omega)
  have h2 := Int.mul_le_mul_of_nonneg_right h1 hf
  have e : m * (8 * (f * upI w (8 * m))) = 8 * m * upI w (8 * m) * f := by
    generalize upI w (8 * m) = u
    rw [Int.mul_comm f u, ← Int.mul_assoc 8 u f, ← Int.mul_assoc m, ← Int.mul_assoc m, Int.mul_comm m 8]
  rw [e]
  exact h2
theorem own_le_size (P : PicL) (k : Int) : (ownL P k).1 ≤ (sizeL P k).1 ∧ (ownL P k).2 ≤ (sizeL P k).2 := by
  unfold ownL sizeL
  rcases hm : mostL P k with _ | ⟨h, v⟩
  · simp
  · obtain ⟨ph1, pv1, _⟩ := part_in hm
    exact ⟨own_le_one (by omega) (by omega), own_le_one (by omega) (by omega)⟩
/-- the place of the q-th unit of one part -/
def placeS (sw ow : Nat) (q : Nat) : Nat := q / ow * sw + q % ow
theorem placeS_mod {sw ow q : Nat} (ho : 0 < ow) (hs : ow ≤ sw) : placeS sw ow q % sw = q % ow ∧ placeS sw ow q / sw = q / ow := by
  have h1 := Nat.mod_lt q ho
  unfold placeS
  refine ⟨?_, ?_⟩
  · rw [Nat.mul_comm, Nat.mul_add_mod, Nat.mod_eq_of_lt (by omega)]
  · rw [Nat.mul_comm, Nat.mul_add_div (by omega), Nat.div_eq_of_lt (show q % ow < sw by omega), Nat.add_zero]
theorem placeS_inj {sw ow q r : Nat} (ho : 0 < ow) (hs : ow ≤ sw) (h : placeS sw ow q = placeS sw ow r) : q = r := by
  obtain ⟨a1, a2⟩ := placeS_mod (q := q) ho hs
  obtain ⟨b1, b2⟩ := placeS_mod (q := r) ho hs
  rw [h] at a1 a2
  rw [← Nat.div_add_mod q ow, ← Nat.div_add_mod r ow, ← a1, ← a2, ← b1, ← b2]
/-- a part's place in the unit at a row and a column -/
def placeM (c f g row col i : Nat) : Nat := (row * g + i / f) * (c * f) + (col * f + i % f)
theorem placeM_parts {c f g row col i : Nat} (hf : 0 < f) (hg : 0 < g) (hc : col < c) (hi : i < f * g) :
    placeM c f g row col i / (c * f) / g = row ∧ placeM c f g row col i % (c * f) / f = col ∧ placeM c f g row col i / (c * f) % g = i / f ∧ placeM c f g row col i % (c * f) % f = i % f := by
  have h1 := Nat.mod_lt i hf
  have hlt : col * f + i % f < c * f := Nat.lt_of_lt_of_le (by rw [Nat.succ_mul]; omega : col * f + i % f < (col + 1) * f) (Nat.mul_le_mul_right _ hc)
  have hcf : 0 < c * f := by omega
  have hig : i / f < g := Nat.div_lt_of_lt_mul hi
  have e1 : placeM c f g row col i / (c * f) = row * g + i / f := by
    unfold placeM
    rw [Nat.mul_comm (row * g + i / f), Nat.mul_add_div hcf, Nat.div_eq_of_lt hlt, Nat.add_zero]
  have e2 : placeM c f g row col i % (c * f) = col * f + i % f := by
    unfold placeM
    rw [Nat.mul_comm (row * g + i / f), Nat.mul_add_mod, Nat.mod_eq_of_lt hlt]
  rw [e1, e2]
  refine ⟨?_, ?_, ?_, ?_⟩
  · rw [Nat.mul_comm, Nat.mul_add_div hg, Nat.div_eq_of_lt hig, Nat.add_zero]
  · rw [Nat.mul_comm, Nat.mul_add_div hf, Nat.div_eq_of_lt h1, Nat.add_zero]
  · rw [Nat.mul_comm, Nat.mul_add_mod, Nat.mod_eq_of_lt hig]
  · rw [Nat.mul_comm, Nat.mul_add_mod, Nat.mod_eq_of_lt h1]
theorem placeM_inj {c f g row col i row' col' i' : Nat} (hf : 0 < f) (hg : 0 < g) (hc : col < c) (hi : i < f * g) (hc' : col' < c) (hi' : i' < f * g)
    (h : placeM c f g row col i = placeM c f g row' col' i') : row = row' ∧ col = col' ∧ i = i' := by
  obtain ⟨a1, a2, a3, a4⟩ := placeM_parts (row := row) hf hg hc hi
  obtain ⟨b1, b2, b3, b4⟩ := placeM_parts (row := row') hf hg hc' hi'
  rw [h] at a1 a2 a3 a4
  refine ⟨a1.symm.trans b1, a2.symm.trans b2, ?_⟩
  rw [← Nat.div_add_mod i f, ← Nat.div_add_mod i' f, ← a3, ← a4, ← b3, ← b4]
theorem placeM_lt {c f g r row col i : Nat} (hf : 0 < f) (hr : row < r) (hc : col < c) (hi : i < f * g) : placeM c f g row col i < (g * r) * (f * c) := by
  have h1 := Nat.mod_lt i hf
  have hlt : col * f + i % f < c * f := Nat.lt_of_lt_of_le (by rw [Nat.succ_mul]; omega : col * f + i % f < (col + 1) * f) (Nat.mul_le_mul_right _ hc)
  have hig : i / f < g := Nat.div_lt_of_lt_mul hi
  have hrow : row * g + i / f < r * g := Nat.lt_of_lt_of_le (by rw [Nat.succ_mul]; omega : row * g + i / f < (row + 1) * g) (Nat.mul_le_mul_right _ hr)
  unfold placeM
  rw [Nat.mul_comm g r, Nat.mul_comm f c]
  exact at_lt hrow hlt
theorem fresh_single {sw ow q : Nat} {ks : List Int} (ho : 0 < ow) (hs : ow ≤ sw) (h : ∀ z ∈ ks, ∃ q', q' < q ∧ z = ((placeS sw ow q' : Nat) : Int)) : ((placeS sw ow q : Nat) : Int) ∉ ks := by
  intro hm
  obtain ⟨q', hq, e⟩ := h _ hm
  have := placeS_inj ho hs (Int.ofNat_inj.1 e)
  omega
theorem fresh_many {c f g q i : Nat} {ks : List Int} (hc : 0 < c) (hf : 0 < f) (hg : 0 < g) (hi : i < f * g)
    (h : ∀ z ∈ ks, ∃ q' i', i' < f * g ∧ (q' < q ∨ q' = q ∧ i' < i) ∧ z = ((placeM c f g (q' / c) (q' % c) i' : Nat) : Int)) : ((placeM c f g (q / c) (q % c) i : Nat) : Int) ∉ ks := by
  intro hm
  obtain ⟨q', i', hi', hq, e⟩ := h _ hm
  obtain ⟨e1, e2, e3⟩ := placeM_inj hf hg (Nat.mod_lt q hc) hi (Nat.mod_lt q' hc) hi' (Int.ofNat_inj.1 e)
  have : q = q' := by rw [← Nat.div_add_mod q c, ← Nat.div_add_mod q' c, e1, e2]
  omega
/-- the q-th unit of one part, by its place -/
theorem singleF_place (P : PicL) (k : Int) (q : Nat) : singleF P k q = [(k, ((placeS (sizeL P k).1.toNat (ownW P k) q : Nat) : Int))] := by
  have h := (sizeL_in P k).1
  unfold singleF placeS
  rw [Int.natCast_add, Int.natCast_mul, Int.toNat_of_nonneg h.1]
/-- a part's cell of a unit, by its place -/
theorem partU_place (P : PicL) (cols row col : Nat) (k : Int) (i : Nat) (hh : 0 ≤ (partAt P k).h) (hv : 0 ≤ (partAt P k).v) :
    partU P cols row col k i = (k, ((placeM cols (partAt P k).h.toNat (partAt P k).v.toNat row col i : Nat) : Int)) := by
  unfold partU placeM
  obtain ⟨f, hf⟩ := Int.eq_ofNat_of_zero_le hh
  obtain ⟨g, hg⟩ := Int.eq_ofNat_of_zero_le hv
  rw [hf, hg]
  simp only [Int.toNat_natCast, Prod.mk.injEq, true_and]
  push_cast
  rw [Int.mul_assoc]
  omega
/-- a part's blocks across and down, in several parts' units -/
theorem size_colsU (P : PicL) (k j : Int) {h v : Int} (hk : mostL P k = some (h, v)) (hj : mostL P j = some (h, v)) :
    (sizeL P k).1 = (partAt P k).h * (colsN P j : Nat) ∧ (sizeL P k).2 = (partAt P k).v * (rowsN P j : Nat) := by
  obtain ⟨_, hw, hh, hf, h14, v14⟩ := mostL_some hk
  have u1 := upI_in P.w (8 * h) (by omega) (by omega)
  have u2 := upI_in P.h (8 * v) (by omega) (by omega)
  unfold sizeL colsN rowsN
  rw [hk, hj]
  simp only
  rw [Int.toNat_of_nonneg u1.1, Int.toNat_of_nonneg u2.1]
  exact ⟨rfl, rfl⟩
end Go.Proofs.Ytbcbfnkpnfbfjaa
