/- Pictures cut, plain. By an AI agent. -/
import Derived.Test.YtnhalnjdlkdnkaaChk
namespace Go.Proofs.Ytnhalnjdlkdnkaa
set_option linter.unusedVariables false
set_option linter.unusedSimpArgs false
set_option maxRecDepth 20000

def kin (p : PartL) : Int × Int × Int × Int := (p.id, p.h, p.v, p.tq)
theorem kin_maxH {ps qs : List PartL} (h : ps.map kin = qs.map kin) : maxH ps = maxH qs := by
  have e : ∀ l : List PartL, maxH l = (l.map kin).foldl (fun m q => if m < q.2.1 then q.2.1 else m) 0 := fun l => by unfold maxH; rw [List.foldl_map]; rfl
  rw [e, e, h]
theorem kin_maxV {ps qs : List PartL} (h : ps.map kin = qs.map kin) : maxV ps = maxV qs := by
  have e : ∀ l : List PartL, maxV l = (l.map kin).foldl (fun m q => if m < q.2.2.1 then q.2.2.1 else m) 0 := fun l => by unfold maxV; rw [List.foldl_map]; rfl
  rw [e, e, h]
theorem kin_fac {ps qs : List PartL} (h : ps.map kin = qs.map kin) : ps.all facOk = qs.all facOk := by
  have e : ∀ l : List PartL, l.all facOk = (l.map kin).all fun q => factorB q.2.1 && factorB q.2.2.1 := fun l => by rw [List.all_map]; rfl
  rw [e, e, h]
theorem kin_len {ps qs : List PartL} (h : ps.map kin = qs.map kin) : ps.length = qs.length := by
  have := congrArg List.length h
  simpa using this
theorem kin_at {ps qs : List PartL} (h : ps.map kin = qs.map kin) (k : Nat) (h1 : k < ps.length) (h2 : k < qs.length) : kin ps[k] = kin qs[k] := by
  have e : (ps.map kin)[k]? = (qs.map kin)[k]? := by rw [h]
  rw [List.getElem?_map, List.getElem?_map, List.getElem?_eq_getElem h1, List.getElem?_eq_getElem h2] at e
  simpa using e
theorem partAt_nat {P : PicL} {k : Nat} (h : k < P.parts.length) : partAt P (k : Int) = P.parts[k] := by unfold partAt; simp [h]
theorem kin_partAt {P Q : PicL} (h : P.parts.map kin = Q.parts.map kin) (k : Int) : (partAt P k).h = (partAt Q k).h ∧ (partAt P k).v = (partAt Q k).v := by
  unfold partAt
  by_cases hk : k.toNat < P.parts.length
  · have hk' : k.toNat < Q.parts.length := by rw [← kin_len h]; exact hk
    have e := kin_at h k.toNat hk hk'
    simp only [List.getD_eq_getElem?_getD, List.getElem?_eq_getElem hk, List.getElem?_eq_getElem hk', Option.getD_some]
    unfold kin at e
    simp only [Prod.mk.injEq] at e
    exact ⟨e.2.1, e.2.2.1⟩
  · have hk' : ¬ k.toNat < Q.parts.length := by rw [← kin_len h]; exact hk
    simp only [List.getD_eq_getElem?_getD, List.getElem?_eq_none (Nat.not_lt.1 hk), List.getElem?_eq_none (Nat.not_lt.1 hk'), Option.getD_none]
    exact ⟨trivial, trivial⟩
theorem kin_most {P Q : PicL} (h : P.parts.map kin = Q.parts.map kin) (hw : P.w = Q.w) (hh : P.h = Q.h) (k : Int) : mostL P k = mostL Q k := by
  unfold mostL headOk
  rw [kin_maxH h, kin_maxV h, kin_fac h, kin_len h, hw, hh]
theorem kin_size {P Q : PicL} (h : P.parts.map kin = Q.parts.map kin) (hw : P.w = Q.w) (hh : P.h = Q.h) (k : Int) : sizeL P k = sizeL Q k := by
  unfold sizeL
  rw [kin_most h hw hh, (kin_partAt h k).1, (kin_partAt h k).2, hw, hh]
theorem kin_own {P Q : PicL} (h : P.parts.map kin = Q.parts.map kin) (hw : P.w = Q.w) (hh : P.h = Q.h) (k : Int) : ownL P k = ownL Q k := by
  unfold ownL
  rw [kin_most h hw hh, (kin_partAt h k).1, (kin_partAt h k).2, hw, hh]
/-- a picture whose parts have the blocks that they should have -/
structure Fit (P : PicL) : Prop where
  n : 1 ≤ P.parts.length ∧ P.parts.length ≤ 4
  w : 1 ≤ P.w ∧ P.w ≤ 65535
  h : 1 ≤ P.h ∧ P.h ≤ 65535
  fac : P.parts.all facOk = true
  pt : ∀ k (hk : k < P.parts.length), (P.parts[k]).wide = (sizeL P (k : Int)).1 ∧ (P.parts[k]).high = (sizeL P (k : Int)).2 ∧ ((P.parts[k]).bs.length : Int) = (sizeL P (k : Int)).1 * (sizeL P (k : Int)).2 ∧ (sizeL P (k : Int)).1 * (sizeL P (k : Int)).2 ≤ 65536
theorem most_of {P : PicL} (hw : 1 ≤ P.w ∧ P.w ≤ 65535) (hh : 1 ≤ P.h ∧ P.h ≤ 65535) (hf : P.parts.all facOk = true) (k : Nat) (hk : k < P.parts.length) : mostL P (k : Int) = some (maxH P.parts, maxV P.parts) := by
  unfold mostL headOk sidedB
  rw [hf]
  have h1 : decide ((k : Int) < 0) = false := by rw [decide_eq_false_iff_not]; omega
  have h2 : decide ((P.parts.length : Int) ≤ (k : Int)) = false := by rw [decide_eq_false_iff_not]; omega
  rw [h1, h2, decide_eq_true hw.1, decide_eq_true hw.2, decide_eq_true hh.1, decide_eq_true hh.2]
  rfl
theorem Fit.most {P : PicL} (F : Fit P) (k : Nat) (hk : k < P.parts.length) : mostL P (k : Int) = some (maxH P.parts, maxV P.parts) := most_of F.w F.h F.fac k hk
theorem size_of {P : PicL} (hw : 1 ≤ P.w ∧ P.w ≤ 65535) (hh : 1 ≤ P.h ∧ P.h ≤ 65535) (hf : P.parts.all facOk = true) (k : Nat) (hk : k < P.parts.length) : sizeL P (k : Int) = ((P.parts[k]).h * upI P.w (8 * maxH P.parts), (P.parts[k]).v * upI P.h (8 * maxV P.parts)) := by
  unfold sizeL
  rw [most_of hw hh hf k hk, partAt_nat hk]
theorem own_of {P : PicL} (hw : 1 ≤ P.w ∧ P.w ≤ 65535) (hh : 1 ≤ P.h ∧ P.h ≤ 65535) (hf : P.parts.all facOk = true) (k : Nat) (hk : k < P.parts.length) : ownL P (k : Int) = (upI (upI (P.w * (P.parts[k]).h) (maxH P.parts)) 8, upI (upI (P.h * (P.parts[k]).v) (maxV P.parts)) 8) := by
  unfold ownL
  rw [most_of hw hh hf k hk, partAt_nat hk]
theorem fac_at {P : PicL} (hf : P.parts.all facOk = true) (k : Nat) (hk : k < P.parts.length) : (1 ≤ (P.parts[k]).h ∧ (P.parts[k]).h ≤ 4) ∧ (1 ≤ (P.parts[k]).v ∧ (P.parts[k]).v ≤ 4) := by
  have := fac_in (List.all_eq_true.1 hf _ (List.getElem_mem hk))
  omega
theorem max_of {P : PicL} (hf : P.parts.all facOk = true) (hn : 1 ≤ P.parts.length) : (1 ≤ maxH P.parts ∧ maxH P.parts ≤ 4) ∧ (1 ≤ maxV P.parts ∧ maxV P.parts ≤ 4) := by
  obtain ⟨h1, h2, h3, h4, h5, _⟩ := max_in _ P.parts rfl hf
  have := h5 (by intro e; rw [e] at hn; simp at hn)
  omega
theorem le_max {P : PicL} (hf : P.parts.all facOk = true) (k : Nat) (hk : k < P.parts.length) : (P.parts[k]).h ≤ maxH P.parts ∧ (P.parts[k]).v ≤ maxV P.parts := by
  obtain ⟨_, _, _, _, _, h⟩ := max_in _ P.parts rfl hf
  exact h _ (List.getElem_mem hk)
/-! ## rounded up -/
theorem upI_mono {a b m : Int} (h : a ≤ b) (hm : 0 < m) : upI a m ≤ upI b m := by
  unfold upI
  exact Int.ediv_le_ediv hm (by omega)
theorem upI_add (a c m : Int) (hm : 0 < m) : upI (c * m + a) m = c + upI a m := by
  unfold upI
  rw [show c * m + a + m - 1 = (a + m - 1) + c * m by omega, Int.add_mul_ediv_right _ _ (by omega)]
  omega
theorem upI_pos {a m : Int} (h : 1 ≤ a) (hm : 0 < m) : 1 ≤ upI a m := by
  unfold upI
  exact Int.le_ediv_of_mul_le hm (by omega)
theorem upI_mul (c m : Int) (hm : 0 < m) : upI (c * m) m = c := by
  have := upI_add 0 c m hm
  rw [Int.add_zero] at this
  rw [this]
  unfold upI
  rw [Int.zero_add, Int.ediv_eq_zero_of_lt (by omega) (by omega)]
  omega
/-! ## cut -/
def sidesL (P : PicL) (w h : Int) : PicL := { P with w := w, h := h }
def rowAt (x : PartL) (c r i : Int) : Nat := ((r * x.v + i) * x.wide + c * x.h).toNat
def rowL (x : PartL) (c r sw i : Int) : List (List Int) := (x.bs.drop (rowAt x c r i)).take sw.toNat
def gathL (x : PartL) (c r sw : Int) (n : Nat) : List (List Int) := (List.range n).flatMap fun i => rowL x c r sw (i : Nat)
theorem gath_succ (x : PartL) (c r sw : Int) (n : Nat) : gathL x c r sw (n + 1) = gathL x c r sw n ++ rowL x c r sw (n : Nat) := by
  unfold gathL
  rw [List.range_succ, List.flatMap_append]
  simp
def cutB (x : PartL) (c r : Int) (s o : Int × Int) : List (List Int) := shTo s.1 o.1 o.2 (gathL x c r s.1 s.2.toNat) (gathL x c r s.1 s.2.toNat).length
def cutX (x : PartL) (c r : Int) (s o : Int × Int) : PartL := { x with wide := s.1, high := s.2, bs := cutB x c r s o }
def cutP (P : PicL) (c r w h : Int) (k : Nat) (x : PartL) : PartL := cutX x c r (sizeL (sidesL P w h) (k : Int)) (ownL (sidesL P w h) (k : Int))
def cutL (P : PicL) (c r w h : Int) : PicL := { sidesL P w h with parts := P.parts.mapIdx (cutP P c r w h) }
/-- it lies within the picture -/
structure In (P : PicL) (c r w h : Int) : Prop where
  c0 : 0 ≤ c
  r0 : 0 ≤ r
  w1 : 1 ≤ w
  h1 : 1 ≤ h
  x : c * (8 * maxH P.parts) + w ≤ P.w
  y : r * (8 * maxV P.parts) + h ≤ P.h
theorem In.sides {P : PicL} {c r w h : Int} (F : Fit P) (I : In P c r w h) : (1 ≤ w ∧ w ≤ P.w) ∧ (1 ≤ h ∧ h ≤ P.h) ∧ (c ≤ 65535) ∧ (r ≤ 65535) := by
  obtain ⟨m1, m2⟩ := max_of F.fac F.n.1
  have h1 : 0 ≤ c * (8 * maxH P.parts) := Int.mul_nonneg I.c0 (by omega)
  have h2 : 0 ≤ r * (8 * maxV P.parts) := Int.mul_nonneg I.r0 (by omega)
  have h3 : c * 1 ≤ c * (8 * maxH P.parts) := Int.mul_le_mul_of_nonneg_left (by omega) I.c0
  have h4 : r * 1 ≤ r * (8 * maxV P.parts) := Int.mul_le_mul_of_nonneg_left (by omega) I.r0
  have := I.x
  have := I.y
  have := I.w1
  have := I.h1
  have := F.w
  have := F.h
  omega
/-- how a part's new sizes lie in its old ones -/
theorem cut_sizes {P : PicL} {c r w h : Int} (F : Fit P) (I : In P c r w h) (k : Nat) (hk : k < P.parts.length) :
    (1 ≤ (sizeL (sidesL P w h) (k : Int)).1 ∧ c * (P.parts[k]).h + (sizeL (sidesL P w h) (k : Int)).1 ≤ (P.parts[k]).wide) ∧ (1 ≤ (sizeL (sidesL P w h) (k : Int)).2 ∧ r * (P.parts[k]).v + (sizeL (sidesL P w h) (k : Int)).2 ≤ (P.parts[k]).high) := by
  obtain ⟨m1, m2⟩ := max_of F.fac F.n.1
  obtain ⟨f1, f2⟩ := fac_at F.fac k hk
  obtain ⟨hw, hh, _, _⟩ := I.sides F
  obtain ⟨a1, a2, _, _⟩ := F.pt k hk
  rw [a1, a2, size_of F.w F.h F.fac k hk, size_of (P := sidesL P w h) ⟨by show 1 ≤ w; omega, by show w ≤ 65535; have := F.w; omega⟩ ⟨by show 1 ≤ h; omega, by show h ≤ 65535; have := F.h; omega⟩ F.fac k hk]
  show (1 ≤ (P.parts[k]).h * upI w (8 * maxH P.parts) ∧ c * (P.parts[k]).h + (P.parts[k]).h * upI w (8 * maxH P.parts) ≤ (P.parts[k]).h * upI P.w (8 * maxH P.parts)) ∧ (1 ≤ (P.parts[k]).v * upI h (8 * maxV P.parts) ∧ r * (P.parts[k]).v + (P.parts[k]).v * upI h (8 * maxV P.parts) ≤ (P.parts[k]).v * upI P.h (8 * maxV P.parts))
  have u1 := upI_pos hw.1 (show 0 < 8 * maxH P.parts by omega)
  have u2 := upI_pos hh.1 (show 0 < 8 * maxV P.parts by omega)
  have v1 := upI_mono I.x (show 0 < 8 * maxH P.parts by omega)
  have v2 := upI_mono I.y (show 0 < 8 * maxV P.parts by omega)
  rw [upI_add _ _ _ (by omega)] at v1 v2
  have p1 : 1 * 1 ≤ (P.parts[k]).h * upI w (8 * maxH P.parts) := Int.mul_le_mul f1.1 u1 (by omega) (by omega)
  have p2 : 1 * 1 ≤ (P.parts[k]).v * upI h (8 * maxV P.parts) := Int.mul_le_mul f2.1 u2 (by omega) (by omega)
  have q1 := Int.mul_le_mul_of_nonneg_left v1 (show 0 ≤ (P.parts[k]).h by omega)
  have q2 := Int.mul_le_mul_of_nonneg_left v2 (show 0 ≤ (P.parts[k]).v by omega)
  rw [Int.mul_add] at q1 q2
  rw [Int.mul_comm c, Int.mul_comm r]
  omega
theorem prod_le {a b c d : Int} (ha : 0 ≤ a) (hb : 0 ≤ b) (h1 : a ≤ c) (h2 : b ≤ d) : a * b ≤ c * d := Int.mul_le_mul h1 h2 hb (by omega)
theorem cut_prod {P : PicL} {c r w h : Int} (F : Fit P) (I : In P c r w h) (k : Nat) (hk : k < P.parts.length) : (sizeL (sidesL P w h) (k : Int)).1 * (sizeL (sidesL P w h) (k : Int)).2 ≤ (sizeL P (k : Int)).1 * (sizeL P (k : Int)).2 := by
  obtain ⟨⟨s1, s2⟩, s3, s4⟩ := cut_sizes F I k hk
  obtain ⟨f1, f2⟩ := fac_at F.fac k hk
  obtain ⟨a1, a2, _, _⟩ := F.pt k hk
  have h1 : 0 ≤ c * (P.parts[k]).h := Int.mul_nonneg I.c0 (by omega)
  have h2 : 0 ≤ r * (P.parts[k]).v := Int.mul_nonneg I.r0 (by omega)
  rw [← a1, ← a2]
  exact prod_le (by omega) (by omega) (by omega) (by omega)
/-- a row of the cut lies within the part's blocks -/
theorem row_in {P : PicL} {c r w h : Int} (F : Fit P) (I : In P c r w h) (k : Nat) (hk : k < P.parts.length) (i : Int) (hi : 0 ≤ i ∧ i < (sizeL (sidesL P w h) (k : Int)).2) :
    0 ≤ (r * (P.parts[k]).v + i) * (P.parts[k]).wide + c * (P.parts[k]).h ∧ (r * (P.parts[k]).v + i) * (P.parts[k]).wide + c * (P.parts[k]).h + (sizeL (sidesL P w h) (k : Int)).1 ≤ (P.parts[k]).bs.length := by
  obtain ⟨⟨s1, s2⟩, s3, s4⟩ := cut_sizes F I k hk
  obtain ⟨f1, f2⟩ := fac_at F.fac k hk
  obtain ⟨a1, a2, a3, _⟩ := F.pt k hk
  have h1 : 0 ≤ c * (P.parts[k]).h := Int.mul_nonneg I.c0 (by omega)
  have h2 : 0 ≤ r * (P.parts[k]).v := Int.mul_nonneg I.r0 (by omega)
  rw [a3, ← a1, ← a2, Int.mul_comm (P.parts[k]).wide]
  have h3 : 0 ≤ (r * (P.parts[k]).v + i) * (P.parts[k]).wide := Int.mul_nonneg (by omega) (by omega)
  have h4 : (r * (P.parts[k]).v + i + 1) * (P.parts[k]).wide ≤ (P.parts[k]).high * (P.parts[k]).wide := Int.mul_le_mul_of_nonneg_right (by omega) (by omega)
  rw [Int.add_mul, Int.one_mul] at h4
  omega
theorem rowL_len {P : PicL} {c r w h : Int} (F : Fit P) (I : In P c r w h) (k : Nat) (hk : k < P.parts.length) (i : Int) (hi : 0 ≤ i ∧ i < (sizeL (sidesL P w h) (k : Int)).2) : (rowL P.parts[k] c r (sizeL (sidesL P w h) (k : Int)).1 i).length = (sizeL (sidesL P w h) (k : Int)).1.toNat := by
  obtain ⟨h1, h2⟩ := row_in F I k hk i hi
  unfold rowL rowAt
  rw [List.length_take, List.length_drop]
  obtain ⟨⟨s1, _⟩, _, _⟩ := cut_sizes F I k hk
  omega
theorem gath_len {P : PicL} {c r w h : Int} (F : Fit P) (I : In P c r w h) (k : Nat) (hk : k < P.parts.length) : ∀ n : Nat, (n : Int) ≤ (sizeL (sidesL P w h) (k : Int)).2 → (gathL P.parts[k] c r (sizeL (sidesL P w h) (k : Int)).1 n).length = n * (sizeL (sidesL P w h) (k : Int)).1.toNat
  | 0, _ => by simp [gathL]
  | n + 1, hn => by
    rw [gath_succ, List.length_append, gath_len F I k hk n (by omega), rowL_len F I k hk (n : Nat) (by omega), Nat.add_mul, Nat.one_mul]
end Go.Proofs.Ytnhalnjdlkdnkaa
