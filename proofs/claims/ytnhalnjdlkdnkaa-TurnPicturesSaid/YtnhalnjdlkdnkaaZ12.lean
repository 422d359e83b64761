/- Pictures cut, plain. By an AI agent. An append onto an own row as one step of a region that draws. By an AI agent. A region that draws its order, walked in an order of one's own: an operation that yields its value in every world that meets C may be taken first; any other must be the only one that may come up. By an AI agent; over the kit's theory of orders. turn.cut: what its walk leans on. By an AI agent. Good pictures, cut, are good: plain. By an AI agent. Pictures cropped: plain. By an AI agent. -/
import Derived.Test.YtnhalnjdlkdnkaaZ09
import Derived.Test.YtnhalnjdlkdnkaaZ01
import Derived.Deep.RegionHeld3
import Derived.Test.YtnhalnjdlkdnkaaZ06
import Derived.Test.YtnhalnjdlkdnkaaZ11
import Derived.Deep.RegionLawGrows
namespace Go.Proofs.Ytnhalnjdlkdnkaa
set_option linter.unusedVariables false
set_option linter.unusedSimpArgs false
set_option maxRecDepth 20000

def kin (p : PartL) : Int × Int × Int × Int := (p.id, p.h, p.v, p.tq)
theorem kin_maxH {ps qs : List PartL} (h : ps.map kin = qs.map kin) : maxH ps = maxH qs := by
  have e : ∀ l : List PartL, maxH l = (l.map kin).foldl (fun m q => if m < q.2.1 then q.2.1 else m) 0 := fun l => by unfold maxH; rw [List.foldl_map]; rfl
  rw [e, e, h]
theorem kin_maxV {ps qs : List PartL} (h : ps.map kin = qs.map kin) : maxV ps = maxV qs := by
  have e : ∀ l : List PartL, maxV l = (l.map kin).foldl (fun m q => if m < q.2.2.1 then q.2.2.1 else m) 0 := fun l => by unfold maxV; rw [List.foldl_map]; rfl
  rw [e, e, h]
theorem kin_fac {ps qs : List PartL} (h : ps.map kin = qs.map kin) : ps.all facOk = qs.all facOk := by
  have e : ∀ l : List PartL, l.all facOk = (l.map kin).all fun q => factorB q.2.1 && factorB q.2.2.1 := fun l => by rw [List.all_map]; rfl
  rw [e, e, h]
theorem kin_len {ps qs : List PartL} (h : ps.map kin = qs.map kin) : ps.length = qs.length := by
  have := congrArg List.length h
  simpa using this
theorem kin_at {ps qs : List PartL} (h : ps.map kin = qs.map kin) (k : Nat) (h1 : k < ps.length) (h2 : k < qs.length) : kin ps[k] = kin qs[k] := by
  have e : (ps.map kin)[k]? = (qs.map kin)[k]? := by rw [h]
  rw [List.getElem?_map, List.getElem?_map, List.getElem?_eq_getElem h1, List.getElem?_eq_getElem h2] at e
  simpa using e
theorem partAt_nat {P : PicL} {k : Nat} (h : k < P.parts.length) : partAt P (k : Int) = P.parts[k] := by unfold partAt; simp [h]
theorem kin_partAt {P Q : PicL} (h : P.parts.map kin = Q.parts.map kin) (k : Int) : (partAt P k).h = (partAt Q k).h ∧ (partAt P k).v = (partAt Q k).v := by
  unfold partAt
  by_cases hk : k.toNat < P.parts.length
  · have hk' : k.toNat < Q.parts.length := by rw [← kin_len h]; exact hk
    have e := kin_at h k.toNat hk hk'
    simp only [List.getD_eq_getElem?_getD, List.getElem?_eq_getElem hk, List.getElem?_eq_getElem hk', Option.getD_some]
    unfold kin at e
    simp only [Prod.mk.injEq] at e
    exact ⟨e.2.1, e.2.2.1⟩
  · have hk' : ¬ k.toNat < Q.parts.length := by rw [← kin_len h]; exact hk
    simp only [List.getD_eq_getElem?_getD, List.getElem?_eq_none (Nat.not_lt.1 hk), List.getElem?_eq_none (Nat.not_lt.1 hk'), Option.getD_none]
    exact ⟨trivial, trivial⟩
theorem kin_most {P Q : PicL} (h : P.parts.map kin = Q.parts.map kin) (hw : P.w = Q.w) (hh : P.h = Q.h) (k : Int) : mostL P k = mostL Q k := by
  unfold mostL headOk
  rw [kin_maxH h, kin_maxV h, kin_fac h, kin_len h, hw, hh]
theorem kin_size {P Q : PicL} (h : P.parts.map kin = Q.parts.map kin) (hw : P.w = Q.w) (hh : P.h = Q.h) (k : Int) : sizeL P k = sizeL Q k := by
  unfold sizeL
  rw [kin_most h hw hh, (kin_partAt h k).1, (kin_partAt h k).2, hw, hh]
theorem kin_own {P Q : PicL} (h : P.parts.map kin = Q.parts.map kin) (hw : P.w = Q.w) (hh : P.h = Q.h) (k : Int) : ownL P k = ownL Q k := by
  unfold ownL
  rw [kin_most h hw hh, (kin_partAt h k).1, (kin_partAt h k).2, hw, hh]
/-- a picture whose parts have the blocks that they should have -/
structure Fit (P : PicL) : Prop where
  n : 1 ≤ P.parts.length ∧ P.parts.length ≤ 4
  w : 1 ≤ P.w ∧ P.w ≤ 65535
  h : 1 ≤ P.h ∧ P.h ≤ 65535
  fac : P.parts.all facOk = true
  pt : ∀ k (hk : k < P.parts.length), (P.parts[k]).wide = (sizeL P (k : Int)).1 ∧ (P.parts[k]).high = (sizeL P (k : Int)).2 ∧ ((P.parts[k]).bs.length : Int) = (sizeL P (k : Int)).1 * (sizeL P (k : Int)).2 ∧ (sizeL P (k : Int)).1 * (sizeL P (k : Int)).2 ≤ 65536
theorem most_of {P : PicL} (hw : 1 ≤ P.w ∧ P.w ≤ 65535) (hh : 1 ≤ P.h ∧ P.h ≤ 65535) (hf : P.parts.all facOk = true) (k : Nat) (hk : k < P.parts.length) : mostL P (k : Int) = some (maxH P.parts, maxV P.parts) := by
  unfold mostL headOk sidedB
  rw [hf]
  have h1 : decide ((k : Int) < 0) = false := by rw [decide_eq_false_iff_not]; omega
  have h2 : decide ((P.parts.length : Int) ≤ (k : Int)) = false := by rw [decide_eq_false_iff_not]; omega
  rw [h1, h2, decide_eq_true hw.1, decide_eq_true hw.2, decide_eq_true hh.1, decide_eq_true hh.2]
  rfl
theorem Fit.most {P : PicL} (F : Fit P) (k : Nat) (hk : k < P.parts.length) : mostL P (k : Int) = some (maxH P.parts, maxV P.parts) := most_of F.w F.h F.fac k hk
theorem size_of {P : PicL} (hw : 1 ≤ P.w ∧ P.w ≤ 65535) (hh : 1 ≤ P.h ∧ P.h ≤ 65535) (hf : P.parts.all facOk = true) (k : Nat) (hk : k < P.parts.length) : sizeL P (k : Int) = ((P.parts[k]).h * upI P.w (8 * maxH P.parts), (P.parts[k]).v * upI P.h (8 * maxV P.parts)) := by
  unfold sizeL
  rw [most_of hw hh hf k hk, partAt_nat hk]
theorem own_of {P : PicL} (hw : 1 ≤ P.w ∧ P.w ≤ 65535) (hh : 1 ≤ P.h ∧ P.h ≤ 65535) (hf : P.parts.all facOk = true) (k : Nat) (hk : k < P.parts.length) : ownL P (k : Int) = (upI (upI (P.w * (P.parts[k]).h) (maxH P.parts)) 8, upI (upI (P.h * (P.parts[k]).v) (maxV P.parts)) 8) := by
  unfold ownL
  rw [most_of hw hh hf k hk, partAt_nat hk]
theorem fac_at {P : PicL} (hf : P.parts.all facOk = true) (k : Nat) (hk : k < P.parts.length) : (1 ≤ (P.parts[k]).h ∧ (P.parts[k]).h ≤ 4) ∧ (1 ≤ (P.parts[k]).v ∧ (P.parts[k]).v ≤ 4) := by
  have := fac_in (List.all_eq_true.1 hf _ (List.getElem_mem hk))
  omega
theorem max_of {P : PicL} (hf : P.parts.all facOk = true) (hn : 1 ≤ P.parts.length) : (1 ≤ maxH P.parts ∧ maxH P.parts ≤ 4) ∧ (1 ≤ maxV P.parts ∧ maxV P.parts ≤ 4) := by
  obtain ⟨h1, h2, h3, h4, h5, _⟩ := max_in _ P.parts rfl hf
  have := h5 (by intro e; rw [e] at hn; simp at hn)
  omega
theorem le_max {P : PicL} (hf : P.parts.all facOk = true) (k : Nat) (hk : k < P.parts.length) : (P.parts[k]).h ≤ maxH P.parts ∧ (P.parts[k]).v ≤ maxV P.parts := by
  obtain ⟨_, _, _, _, _, h⟩ := max_in _ P.parts rfl hf
  exact h _ (List.getElem_mem hk)
/-! ## rounded up -/
theorem upI_mono {a b m : Int} (h : a ≤ b) (hm : 0 < m) : upI a m ≤ upI b m := by
  unfold upI
  exact Int.ediv_le_ediv hm (by omega)
theorem upI_add (a c m : Int) (hm : 0 < m) : upI (c * m + a) m = c + upI a m := by
  unfold upI
  rw [show c * m + a + m - 1 = (a + m - 1) + c * m by omega, Int.add_mul_ediv_right _ _ (by omega)]
  omega
theorem upI_pos {a m : Int} (h : 1 ≤ a) (hm : 0 < m) : 1 ≤ upI a m := by
  unfold upI
  exact Int.le_ediv_of_mul_le hm (by omega)
theorem upI_mul (c m : Int) (hm : 0 < m) : upI (c * m) m = c := by
  have := upI_add 0 c m hm
  rw [Int.add_zero] at this
  rw [this]
  unfold upI
  rw [Int.zero_add, Int.ediv_eq_zero_of_lt (by omega) (by omega)]
  omega
/-! ## cut -/
def sidesL (P : PicL) (w h : Int) : PicL := { P with w := w, h := h }
def rowAt (x : PartL) (c r i : Int) : Nat := ((r * x.v + i) * x.wide + c * x.h).toNat
def rowL (x : PartL) (c r sw i : Int) : List (List Int) := (x.bs.drop (rowAt x c r i)).take sw.toNat
def gathL (x : PartL) (c r sw : Int) (n : Nat) : List (List Int) := (List.range n).flatMap fun i => rowL x c r sw (i : Nat)
theorem gath_succ (x : PartL) (c r sw : Int) (n : Nat) : gathL x c r sw (n + 1) = gathL x c r sw n ++ rowL x c r sw (n : Nat) := by
  unfold gathL
  rw [List.range_succ, List.flatMap_append]
  simp
def cutB (x : PartL) (c r : Int) (s o : Int × Int) : List (List Int) := shTo s.1 o.1 o.2 (gathL x c r s.1 s.2.toNat) (gathL x c r s.1 s.2.toNat).length
def cutX (x : PartL) (c r : Int) (s o : Int × Int) : PartL := { x with wide := s.1, high := s.2, bs := cutB x c r s o }
def cutP (P : PicL) (c r w h : Int) (k : Nat) (x : PartL) : PartL := cutX x c r (sizeL (sidesL P w h) (k : Int)) (ownL (sidesL P w h) (k : Int))
def cutL (P : PicL) (c r w h : Int) : PicL := { sidesL P w h with parts := P.parts.mapIdx (cutP P c r w h) }
/-- it lies within the picture -/
structure In (P : PicL) (c r w h : Int) : Prop where
  c0 : 0 ≤ c
  r0 : 0 ≤ r
  w1 : 1 ≤ w
  h1 : 1 ≤ h
  x : c * (8 * maxH P.parts) + w ≤ P.w
  y : r * (8 * maxV P.parts) + h ≤ P.h
theorem In.sides {P : PicL} {c r w h : Int} (F : Fit P) (I : In P c r w h) : (1 ≤ w ∧ w ≤ P.w) ∧ (1 ≤ h ∧ h ≤ P.h) ∧ (c ≤ 65535) ∧ (r ≤ 65535) := by
  obtain ⟨m1, m2⟩ := max_of F.fac F.n.1
  have h1 : 0 ≤ c * (8 * maxH P.parts) := Int.mul_nonneg I.c0 (by omega)
  have h2 : 0 ≤ r * (8 * maxV P.parts) := Int.mul_nonneg I.r0 (by omega)
  have h3 : c * 1 ≤ c * (8 * maxH P.parts) := Int.mul_le_mul_of_nonneg_left (by omega) I.c0
  have h4 : r * 1 ≤ r * (8 * maxV P.parts) := Int.mul_le_mul_of_nonneg_left (by omega) I.r0
  have := I.x
  have := I.y
  have := I.w1
  have := I.h1
  have := F.w
  have := F.h
  omega
/-- how a part's new sizes lie in its old ones -/
theorem cut_sizes {P : PicL} {c r w h : Int} (F : Fit P) (I : In P c r w h) (k : Nat) (hk : k < P.parts.length) :
    (1 ≤ (sizeL (sidesL P w h) (k : Int)).1 ∧ c * (P.parts[k]).h + (sizeL (sidesL P w h) (k : Int)).1 ≤ (P.parts[k]).wide) ∧ (1 ≤ (sizeL (sidesL P w h) (k : Int)).2 ∧ r * (P.parts[k]).v + (sizeL (sidesL P w h) (k : Int)).2 ≤ (P.parts[k]).high) := by
  obtain ⟨m1, m2⟩ := max_of F.fac F.n.1
  obtain ⟨f1, f2⟩ := fac_at F.fac k hk
  obtain ⟨hw, hh, _, _⟩ := I.sides F
  obtain ⟨a1, a2, _, _⟩ := F.pt k hk
  rw [a1, a2, size_of F.w F.h F.fac k hk, size_of (P := sidesL P w h) ⟨by show 1 ≤ w; omega, by show w ≤ 65535; have := F.w; omega⟩ ⟨by show 1 ≤ h; omega, by show h ≤ 65535; have := F.h; omega⟩ F.fac k hk]
  show (1 ≤ (P.parts[k]).h * upI w (8 * maxH P.parts) ∧ c * (P.parts[k]).h + (P.parts[k]).h * upI w (8 * maxH P.parts) ≤ (P.parts[k]).h * upI P.w (8 * maxH P.parts)) ∧ (1 ≤ (P.parts[k]).v * upI h (8 * maxV P.parts) ∧ r * (P.parts[k]).v + (P.parts[k]).v * upI h (8 * maxV P.parts) ≤ (P.parts[k]).v * upI P.h (8 * maxV P.parts))
  have u1 := upI_pos hw.1 (show 0 < 8 * maxH P.parts by omega)
  have u2 := upI_pos hh.1 (show 0 < 8 * maxV P.parts by omega)
  have v1 := upI_mono I.x (show 0 < 8 * maxH P.parts by omega)
  have v2 := upI_mono I.y (show 0 < 8 * maxV P.parts by omega)
  rw [upI_add _ _ _ (by omega)] at v1 v2
  have p1 : 1 * 1 ≤ (P.parts[k]).h * upI w (8 * maxH P.parts) := Int.mul_le_mul f1.1 u1 (by omega) (by omega)
  have p2 : 1 * 1 ≤ (P.parts[k]).v * upI h (8 * maxV P.parts) := Int.mul_le_mul f2.1 u2 (by omega) (by omega)
  have q1 := Int.mul_le_mul_of_nonneg_left v1 (show 0 ≤ (P.parts[k]).h by omega)
  have q2 := Int.mul_le_mul_of_nonneg_left v2 (show 0 ≤ (P.parts[k]).v by omega)
  rw [Int.mul_add] at q1 q2
  rw [Int.mul_comm c, Int.mul_comm r]
  omega
theorem prod_le {a b c d : Int} (ha : 0 ≤ a) (hb : 0 ≤ b) (h1 : a ≤ c) (h2 : b ≤ d) : a * b ≤ c * d := Int.mul_le_mul h1 h2 hb (by omega)
theorem cut_prod {P : PicL} {c r w h : Int} (F : Fit P) (I : In P c r w h) (k : Nat) (hk : k < P.parts.length) : (sizeL (sidesL P w h) (k : Int)).1 * (sizeL (sidesL P w h) (k : Int)).2 ≤ (sizeL P (k : Int)).1 * (sizeL P (k : Int)).2 := by
  obtain ⟨⟨s1, s2⟩, s3, s4⟩ := cut_sizes F I k hk
  obtain ⟨f1, f2⟩ := fac_at F.fac k hk
  obtain ⟨a1, a2, _, _⟩ := F.pt k hk
  have h1 : 0 ≤ c * (P.parts[k]).h := Int.mul_nonneg I.c0 (by omega)
  have h2 : 0 ≤ r * (P.parts[k]).v := Int.mul_nonneg I.r0 (by omega)
  rw [← a1, ← a2]
  exact prod_le (by omega) (by omega) (by omega) (by omega)
/-- a row of the cut lies within the part's blocks -/
theorem row_in {P : PicL} {c r w h : Int} (F : Fit P) (I : In P c r w h) (k : Nat) (hk : k < P.parts.length) (i : Int) (hi : 0 ≤ i ∧ i < (sizeL (sidesL P w h) (k : Int)).2) :
    0 ≤ (r * (P.parts[k]).v + i) * (P.parts[k]).wide + c * (P.parts[k]).h ∧ (r * (P.parts[k]).v + i) * (P.parts[k]).wide + c * (P.parts[k]).h + (sizeL (sidesL P w h) (k : Int)).1 ≤ (P.parts[k]).bs.length := by
  obtain ⟨⟨s1, s2⟩, s3, s4⟩ := cut_sizes F I k hk
  obtain ⟨f1, f2⟩ := fac_at F.fac k hk
  obtain ⟨a1, a2, a3, _⟩ := F.pt k hk
  have h1 : 0 ≤ c * (P.parts[k]).h := Int.mul_nonneg I.c0 (by omega)
  have h2 : 0 ≤ r * (P.parts[k]).v := Int.mul_nonneg I.r0 (by omega)
  rw [a3, ← a1, ← a2, Int.mul_comm (P.parts[k]).wide]
  have h3 : 0 ≤ (r * (P.parts[k]).v + i) * (P.parts[k]).wide := Int.mul_nonneg (by omega) (by omega)
  have h4 : (r * (P.parts[k]).v + i + 1) * (P.parts[k]).wide ≤ (P.parts[k]).high * (P.parts[k]).wide := Int.mul_le_mul_of_nonneg_right (by omega) (by omega)
  rw [Int.add_mul, Int.one_mul] at h4
  omega
theorem rowL_len {P : PicL} {c r w h : Int} (F : Fit P) (I : In P c r w h) (k : Nat) (hk : k < P.parts.length) (i : Int) (hi : 0 ≤ i ∧ i < (sizeL (sidesL P w h) (k : Int)).2) : (rowL P.parts[k] c r (sizeL (sidesL P w h) (k : Int)).1 i).length = (sizeL (sidesL P w h) (k : Int)).1.toNat := by
  obtain ⟨h1, h2⟩ := row_in F I k hk i hi
  unfold rowL rowAt
  rw [List.length_take, List.length_drop]
  obtain ⟨⟨s1, _⟩, _, _⟩ := cut_sizes F I k hk
  omega
theorem gath_len {P : PicL} {c r w h : Int} (F : Fit P) (I : In P c r w h) (k : Nat) (hk : k < P.parts.length) : ∀ n : Nat, (n : Int) ≤ (sizeL (sidesL P w h) (k : Int)).2 → (gathL P.parts[k] c r (sizeL (sidesL P w h) (k : Int)).1 n).length = n * (sizeL (sidesL P w h) (k : Int)).1.toNat
  | 0, _ => by simp [gathL]
  | n + 1, hn => by
    rw [gath_succ, List.length_append, gath_len F I k hk n (by omega), rowL_len F I k hk (n : Nat) (by omega), Nat.add_mul, Nat.one_mul]
end Go.Proofs.Ytnhalnjdlkdnkaa

namespace Go.Proofs.Ytnhalnjdlkdnkaa
open Go.RowKit

theorem step_app {P : Program} {ops : Array Oper} {o : Oper} {a : Act} {w : World} {K : Act → World → Prop} {Q : Exit → Act → World → Prop} {E : Prop} {t e : TypeId} {z : Value} {size bytes : Nat} (T : ElemTy P t e z size bytes) (hg : o.guard = none) (s x : Operand)
    (ho : o.op = .call { callee := .builtin .append, args := #[s, x], argTypes := #[t, t] }) (base : Nat)
    (v : Value) (n : Nat) (xs : List Value) (hs : a.eval s = v) (hown : w.ownsRow base e size v n xs) (src : Value) (m : Nat) (news : List Value) (hx : a.eval x = src) (hsrc : SlN size w src m news) (h1 : ∀ u ∈ news, u.oneCell' = true)
    (hbytes : (n + m) * bytes ≤ 140737488355328) (h63 : n + m ≤ 140737488355328) (hbase : base ≤ w.heap.size)
    (h : ∀ v' w', w'.ownsRow base e size v' (n + m) (xs ++ news) → w.grownBy w' v.ownBlock → K (a.put o.dst v') w') :
    if Region.wanted o (yielded ops a.tmps) = true then Oper.wp P o a w K Q else E := by
  have hw : Region.wanted o (yielded ops a.tmps) = true := by simp [Region.wanted, hg]
  rw [if_pos hw]
  obtain ⟨v', w', hr, h2, h3, _⟩ := run_app (P := P) w T o.type base v n xs hown src m news hsrc h1 hbytes h63 hbase
  unfold Oper.wp execOp
  simp only [ho, resolve, invoke, builtin, Sem.run_bind, Sem.run_pure, Result.andThen_ok, List.map_toArray, List.map_cons, List.map_nil, hs, hx, hr]
  exact h v' w' h2 h3
/-- what is owned is owned in a later world -/
theorem owns_old {w w' : World} {base : Nat} {e : TypeId} {size : Nat} {v : Value} {n : Nat} {xs : List Value} (h : w.ownsRow base e size v n xs) (hb : Below w.heap.size w w') : w'.ownsRow base e size v n xs := by
  refine ⟨h.1, ?_⟩
  rcases h.2 with h | ⟨g, cap, cur, hv, hg, hc, hr⟩
  · exact .inl h
  · refine .inr ⟨g, cap, cur, hv, hg, ?_, hr⟩
    rw [hb.block g (Array.getElem?_eq_some_iff.1 hc).1]
    exact hc
end Go.Proofs.Ytnhalnjdlkdnkaa

namespace Go.Proofs.Ytnhalnjdlkdnkaa
open Go.RowKit
set_option linter.unusedVariables false
set_option linter.unusedSimpArgs false

section
variable {P : Program} {ops : Array Oper} {md : Region.Mode} {C : World → Prop} {Q : Exit → Act → World → Prop}

def permB (md : Region.Mode) (ops : Array Oper) : List (Nat × Bool) → Array Bool → Bool
  | [], listed => (Region.ready md ops listed).isEmpty
  | (k, true) :: ms, listed => (Region.ready md ops listed).contains k && Region.free md ops listed k && permB md ops ms (listed.setIfInBounds k true)
  | (k, false) :: ms, listed => (Region.ready md ops listed == [k]) && permB md ops ms (listed.setIfInBounds k true)
def wpPerm (P : Program) (ops : Array Oper) (C : World → Prop) (Q : Exit → Act → World → Prop) : List (Nat × Bool) → Act → World → Prop
  | [], a, w => Q .normal a w
  | (k, true) :: ms, a, w => ∃ o, ops[k]? = some o ∧ ∃ v, YieldsIf P ops C o v a ∧ wpPerm P ops C Q ms (a.put o.dst v) w
  | (k, false) :: ms, a, w => ∃ o, ops[k]? = some o ∧ ∀ K : Act → World → Prop, Shut (∀ a' w', C w' → (C w' → wpPerm P ops C Q ms a' w') → K a' w') →
      if Region.wanted o (yielded ops a.tmps) = true then Oper.wp P o a w K (strictQ Q) else K (a.put o.dst undef) w
theorem perm_take {l : List Oper} {k : Nat} {o : Oper} {ms : List (Nat × Bool)} {a : Act} {w : World} (ho : l[k]? = some o) (h : ∃ v, YieldsIf P l.toArray C o v a ∧ wpPerm P l.toArray C Q ms (a.put o.dst v) w) : wpPerm P l.toArray C Q ((k, true) :: ms) a w := ⟨o, by simpa using ho, h⟩
theorem perm_step {l : List Oper} {k : Nat} {o : Oper} {ms : List (Nat × Bool)} {a : Act} {w : World} (ho : l[k]? = some o) (h : ∀ K : Act → World → Prop, Shut (∀ a' w', C w' → (C w' → wpPerm P l.toArray C Q ms a' w') → K a' w') →
    if Region.wanted o (yielded l.toArray a.tmps) = true then Oper.wp P o a w K (strictQ Q) else K (a.put o.dst undef) w) : wpPerm P l.toArray C Q ((k, false) :: ms) a w := ⟨o, by simpa using ho, h⟩
theorem perm_done {a : Act} {w : World} (h : Q .normal a w) : wpPerm P ops C Q [] a w := h
theorem wpAnyH_perm (hsel : Region.noSelect ops = true) : ∀ (ms : List (Nat × Bool)) (listed : Array Bool) (a : Act) (w : World), permB md ops ms listed = true → C w → wpPerm P ops C Q ms a w → wpAnyH P md ops (strictQ Q) C ms.length listed a w := by
  intro ms
  induction ms with
  | nil =>
    intro listed a w hB hC h
    simp only [permB, List.isEmpty_iff] at hB
    exact ⟨hB, h⟩
  | cons m ms ih =>
    intro listed a w hB hC h
    obtain ⟨k, b⟩ := m
    cases b with
    | true =>
      simp only [permB, Bool.and_eq_true] at hB
      obtain ⟨o, h0, v, hy, hr⟩ := h
      exact wpAnyH_take h0 hsel hB.1.2 hB.1.1 (fun _ _ _ h => h) hy hC (ih _ _ _ hB.2 hC hr)
    | false =>
      simp only [permB, Bool.and_eq_true, beq_iff_eq] at hB
      obtain ⟨o, h0, hh⟩ := h
      exact wpAnyH_ready (rs := [k]) hB.1 (by simp) (AllReadyH.cons h0 (fun K hK => hh K (fun a' w' hC' hW => hK a' w' hC' (fun hC2 => ih _ _ _ hB.2 hC2 (hW hC2)))) AllReadyH.nil)
theorem wp_region_perm {id : Nat} {a : Act} {w : World} {l : List Oper} (C : World → Prop) (ms : List (Nat × Bool)) (hm : P.follows .mixedOrders = true)
    (hB : (Region.noSelect l.toArray && decide (l.length = ms.length) && permB .any l.toArray ms (Array.replicate l.toArray.size false)) = true) (hC : C w.drew)
    (h : C w.drew → wpPerm P l.toArray C Q ms a w.drew) : (Code.region id l.toArray true).wp P Q a w := by
  simp only [Bool.and_eq_true, decide_eq_true_eq] at hB
  have H := wpAnyH_perm (md := .any) hB.1.1 ms _ a w.drew hB.2 hC (h hC)
  rw [← hB.1.2] at H
  exact wp_region_any hm (wpAny_strict _ _ _ _ (wpAny_of_held _ _ _ _ (by simpa using H)))
end
end Go.Proofs.Ytnhalnjdlkdnkaa

namespace Go.Proofs.Ytnhalnjdlkdnkaa
open Go.RowKit Go.BigFrame
set_option linter.unusedVariables false
set_option linter.unusedSimpArgs false
set_option maxRecDepth 20000

theorem mkBlk0 (n : Nat) (h : n ≤ 100000000) : ∃ O : Obj, (∀ w, (Instr.makeSlice 68 (.int .i64 0) (.int .i64 (n : Int))).run Try.prog w = .ok (.slice (some ⟨w.heap.size, 0, none⟩) 0 n) (w.alloc O)) ∧ ∀ w : World, (w.alloc O).ownsRow w.heap.size 23 64 (.slice (some ⟨w.heap.size, 0, none⟩) 0 n) 0 [] := by
  obtain ⟨i, hi, hz, hsz, hby⟩ := tyB.hi
  refine ⟨.cells (madeCells (arr zero64).cells (n * 64)) 23, fun w => ?_, fun w => ?_⟩
  · have hr := run_make (P := Try.prog) w 68 23 i _ tyB.ht hi hz .i64 .i64 0 (n : Int) (Int.le_refl _) (by omega) (by rw [hby]; omega) (by omega)
    simp only [Int.toNat_zero, Int.toNat_natCast, hsz] at hr
    exact hr
  · exact World.ownsRow_made w _ n (Nat.le_refl _) (by unfold maxLen; omega) (by rw [size_madeCells])
/-! ## the row of parts, one of them being made anew -/
structure MidR (base : Nat) (w : World) (g n c : Nat) (done : List (PartL × Value)) (q : PartL × Value) (rest : List (PartL × Value)) : Prop where
  row : w.ownsRow base 70 7 (.slice (some ⟨g, 0, none⟩) n c) n (cellsW vPart (done ++ q :: rest))
  bk : ∀ p ∈ done, BkO base w p.2 p.1.bs
theorem MidR.old {base : Nat} {w w' : World} {g n c : Nat} {done : List (PartL × Value)} {q : PartL × Value} {rest : List (PartL × Value)} (h : MidR base w g n c done q rest) (hb : Below w.heap.size w w') : MidR base w' g n c done q rest :=
  ⟨owns_below h.row hb, fun p hp => (h.bk p hp).old hb⟩
theorem MidR.ty {base : Nat} {w w' : World} {t : TypeId} {g n c : Nat} {done : List (PartL × Value)} {q : PartL × Value} {rest : List (PartL × Value)} (h : MidR base w g n c done q rest) (k : KeepTy t w w') (h1 : 70 ≠ t) (h2 : 23 ≠ t) : MidR base w' g n c done q rest :=
  ⟨owns_ty h.row k h1, fun p hp => ⟨owns_ty (h.bk p hp).row k h2, (h.bk p hp).all⟩⟩
theorem mid_at {α : Type} (done : List α) (q : α) (rest : List α) : ∃ h, (done ++ q :: rest)[done.length]'h = q := ⟨by simp, by simp⟩
theorem MidR.cell {base : Nat} {w : World} {g n c k : Nat} {done : List (PartL × Value)} {q : PartL × Value} {rest : List (PartL × Value)} (h : MidR base w g n c done q rest) (hk : done.length = k) (hn : k < n) (j : Nat) (hj : j < 7) : w.cell? ⟨g, k * 7 + j, none⟩ = (vPart q.1 q.2)[j]? := by
  subst hk
  obtain ⟨h1, h2⟩ := mid_at done q rest
  rw [h.row.cellAt _ (mul_add_lt hn hj), cellsW_at vPart_len _ _ _ h1 hj, h2]
theorem MidR.cells {base : Nat} {w : World} {g n c k : Nat} {done : List (PartL × Value)} {q : PartL × Value} {rest : List (PartL × Value)} (h : MidR base w g n c done q rest) (hk : done.length = k) (hn : k < n) :
    w.cell? ⟨g, k * 7, none⟩ = some (.int .i64 q.1.id) ∧ w.cell? ⟨g, k * 7 + 1, none⟩ = some (.int .i64 q.1.h) ∧ w.cell? ⟨g, k * 7 + 2, none⟩ = some (.int .i64 q.1.v) ∧ w.cell? ⟨g, k * 7 + 3, none⟩ = some (.int .i64 q.1.tq) ∧ w.cell? ⟨g, k * 7 + 4, none⟩ = some (.int .i64 q.1.wide) ∧ w.cell? ⟨g, k * 7 + 5, none⟩ = some (.int .i64 q.1.high) ∧ w.cell? ⟨g, k * 7 + 6, none⟩ = some q.2 :=
  ⟨h.cell hk hn 0 (by decide), h.cell hk hn 1 (by decide), h.cell hk hn 2 (by decide), h.cell hk hn 3 (by decide), h.cell hk hn 4 (by decide), h.cell hk hn 5 (by decide), h.cell hk hn 6 (by decide)⟩
theorem MidR.frozen {base : Nat} {w : World} {g n c : Nat} {done : List (PartL × Value)} {q : PartL × Value} {rest : List (PartL × Value)} (h : MidR base w g n c done q rest) (j : Nat) : w.frozen? ⟨g, j, none⟩ = false := h.row.frozenAt j
theorem MidR.heap {base : Nat} {w : World} {g n c : Nat} {done : List (PartL × Value)} {q : PartL × Value} {rest : List (PartL × Value)} (h : MidR base w g n c done q rest) : base ≤ g ∧ g < w.heap.size ∧ ∃ C, w.heap[g]? = some (.cells C 70 (0, 0)) := by
  rcases h.row.2 with ⟨h1, _⟩ | ⟨g', cap, cur, h1, hg, hc, _⟩
  · simp at h1
  · simp only [Value.slice.injEq, Option.some.injEq, Addr.mk.injEq, and_true, true_and] at h1
    obtain ⟨rfl, rfl⟩ := h1
    exact ⟨hg, (Array.getElem?_eq_some_iff.1 hc).1, cur, hc⟩
theorem MidR.set {base : Nat} {w : World} {g n c k : Nat} {done : List (PartL × Value)} {q : PartL × Value} {rest : List (PartL × Value)} (h : MidR base w g n c done q rest) (hk : done.length = k) (j : Nat) (hj : j < 7) (u : Value) (q' : PartL × Value) (hq : vPart q'.1 q'.2 = (vPart q.1 q.2).set j u) :
    MidR base (w.setCell ⟨g, k * 7 + j, none⟩ u) g n c done q' rest := by
  subst hk
  obtain ⟨h1, h2⟩ := mid_at done q rest
  obtain ⟨_, _, C, hC⟩ := h.heap
  have hs := (World.ownsRow.stored h.row (done.length * 7 + j) u).1
  rw [cellsW_set vPart_len _ _ _ h1 hj u q' (by rw [h2]; exact hq)] at hs
  rw [show (done ++ q :: rest).set done.length q' = done ++ q' :: rest by rw [List.set_append_right _ _ (Nat.le_refl _), Nat.sub_self]; rfl] at hs
  exact ⟨hs, fun p hp => ⟨owns_other (h.bk p hp).row hC (by decide), (h.bk p hp).all⟩⟩
theorem MidR.pts {base : Nat} {w : World} {g n c : Nat} {done : List (PartL × Value)} {q : PartL × Value} {rest : List (PartL × Value)} (h : MidR base w g n c done q rest) (hn : (done ++ q :: rest).length = n) (hd : ∀ p ∈ done, PartB p.1) (hq : PartB q.1 ∧ Bks w q.2 q.1.bs) (hr : ∀ p ∈ rest, PartB p.1 ∧ Bks w p.2 p.1.bs) :
    Pts w (.slice (some ⟨g, 0, none⟩) n c) ((done ++ q :: rest).map (·.1)) := by
  subst hn
  refine rows_pts (sl_of_owns h.row) fun p hp => ?_
  rw [List.mem_append, List.mem_cons] at hp
  rcases hp with hp | rfl | hp
  · exact ⟨hd p hp, (h.bk p hp).bks⟩
  · exact hq
  · exact hr p hp
theorem kin_cut (P : PicL) (c r w h : Int) : (cutL P c r w h).parts.map kin = P.parts.map kin := by
  unfold cutL
  apply List.ext_getElem (by simp)
  intro i h1 h2
  simp [cutP, cutX, kin]
theorem cut_part (P : PicL) (c r w h : Int) (k : Nat) (hk : k < P.parts.length) : (cutL P c r w h).parts.length = P.parts.length ∧ ∀ h1, (cutL P c r w h).parts[k]'h1 = cutP P c r w h k P.parts[k] := by
  unfold cutL
  exact ⟨by simp, fun h1 => by simp⟩
/-- the picture while its parts are made anew -/
def midL (P : PicL) (w h : Int) (ps : List PartL) : PicL := { sidesL P w h with parts := ps }
theorem mid_size (P : PicL) (w h : Int) (ps : List PartL) (hk : ps.map kin = P.parts.map kin) (k : Int) : sizeL (midL P w h ps) k = sizeL (sidesL P w h) k ∧ ownL (midL P w h ps) k = ownL (sidesL P w h) k :=
  ⟨kin_size (P := midL P w h ps) (Q := sidesL P w h) hk rfl rfl k, kin_own (P := midL P w h ps) (Q := sidesL P w h) hk rfl rfl k⟩
theorem mid_kin {P : PicL} {c r w h : Int} {done rest : List PartL} {p : PartL} {k : Nat} (hd : done = (cutL P c r w h).parts.take k) (hk : k < P.parts.length) (hp : kin p = kin P.parts[k]) (hr : rest = P.parts.drop (k + 1)) : (done ++ p :: rest).map kin = P.parts.map kin := by
  subst hd hr
  rw [List.map_append, List.map_take, kin_cut, List.map_cons, List.map_drop, hp]
  have h1 : k < (P.parts.map kin).length := by simpa using hk
  have e := List.take_append_drop k (P.parts.map kin)
  rw [List.drop_eq_getElem_cons h1, List.getElem_map] at e
  exact e
theorem mid_shown {P : PicL} {c r w h : Int} (F : Fit P) (I : In P c r w h) {k : Nat} (hk : k < P.parts.length) {ps : List PartL} (hkin : ps.map kin = P.parts.map kin) (x : PartL) (hx : x.bs = gathL P.parts[k] c r (sizeL (sidesL P w h) (k : Int)).1 (sizeL (sidesL P w h) (k : Int)).2.toNat) (hps : ps[k]? = some x) :
    shownL (midL P w h ps) (k : Int) = cutB P.parts[k] c r (sizeL (sidesL P w h) (k : Int)) (ownL (sidesL P w h) (k : Int)) := by
  obtain ⟨e1, e2⟩ := mid_size P w h ps hkin (k : Int)
  have e3 : partAt (midL P w h ps) (k : Int) = x := by
    unfold partAt midL
    simp only [Int.toNat_natCast, List.getD_eq_getElem?_getD, hps, Option.getD_some]
  obtain ⟨⟨s1, s2⟩, s3, s4⟩ := cut_sizes F I k hk
  have hl := gath_len F I k hk (sizeL (sidesL P w h) (k : Int)).2.toNat (by omega)
  have hf : fullB (midL P w h ps) (k : Int) = true := by
    unfold fullB
    rw [e1, e3, hx, hl]
    rw [Bool.and_eq_true, Bool.not_eq_true', decide_eq_false_iff_not, decide_eq_true_eq]
    refine ⟨by omega, ?_⟩
    rw [Int.natCast_mul, Int.mul_comm, Int.toNat_of_nonneg (by omega), Int.toNat_of_nonneg (by omega)]
  unfold shownL
  rw [if_pos hf, e1, e2, e3, hx]
  rfl
/-- the boxes of turn.cut -/
structure CutX (w : World) (B : Nat) (P Q : PicL) (q0 q1 q2 q3 pv rv kv : Value) (W : World) : Prop where
  a : PBox W B Q q0 q1 q2 q3 rv kv
  z : ZBox W (B + 1)
  o : PBox W (B + 1 + 1) P q0 q1 q2 q3 pv kv
  l : Below B w W
theorem CutX.lt {w : World} {B : Nat} {P Q : PicL} {q0 q1 q2 q3 pv rv kv : Value} {W : World} (h : CutX w B P Q q0 q1 q2 q3 pv rv kv W) : B + 1 + 1 < W.heap.size := (Array.getElem?_eq_some_iff.1 h.o).1
theorem CutX.old {w : World} {B : Nat} {P Q : PicL} {q0 q1 q2 q3 pv rv kv : Value} {W W' : World} (h : CutX w B P Q q0 q1 q2 q3 pv rv kv W) (hb : Below W.heap.size W W') : CutX w B P Q q0 q1 q2 q3 pv rv kv W' :=
  ⟨h.a.old hb, h.z.old hb, h.o.old hb, h.l.trans (hb.mono (by have := h.lt; omega))⟩
theorem CutX.set {w : World} {B : Nat} {P Q : PicL} {q0 q1 q2 q3 pv rv kv : Value} {W : World} (h : CutX w B P Q q0 q1 q2 q3 pv rv kv W) {g j : Nat} {C : Array Value} {fr : Nat × Nat} {u : Value} (hg : B ≤ g) (hC : W.heap[g]? = some (.cells C 70 fr)) : CutX w B P Q q0 q1 q2 q3 pv rv kv (W.setCell ⟨g, j, none⟩ u) :=
  ⟨heap_other h.a hC (by decide), heap_other h.z hC (by decide), heap_other h.o hC (by decide), below_set h.l hg⟩
theorem MidR.cutX {base : Nat} {w W : World} {B : Nat} {P Q : PicL} {q0 q1 q2 q3 pv rv kv u : Value} {g n c j : Nat} {done : List (PartL × Value)} {q : PartL × Value} {rest : List (PartL × Value)} (m : MidR base W g n c done q rest) (h : CutX w B P Q q0 q1 q2 q3 pv rv kv W) (hb : B ≤ base) : CutX w B P Q q0 q1 q2 q3 pv rv kv (W.setCell ⟨g, j, none⟩ u) := by
  obtain ⟨h1, _, C, hC⟩ := m.heap
  exact h.set (by omega) hC
theorem HalfP.mid {base : Nat} {w : World} {g n c k : Nat} {rs done : List (PartL × Value)} {q : PartL × Value} (h : HalfP base w (.slice (some ⟨g, 0, none⟩) n c) rs done) (hn : rs.length = n) (hk : done.length = k) (hkn : k < rs.length) (hq : rs[k] = q) : MidR base w g n c done q (rs.drop (k + 1)) := by
  subst hk hn
  have hr := h.row
  rw [List.drop_eq_getElem_cons hkn, hq] at hr
  exact ⟨hr, h.bk⟩
/-- the numbers on the way to a row -/
theorem row_bounds {P : PicL} {c r w h : Int} (F : Fit P) (I : In P c r w h) (k : Nat) (hk : k < P.parts.length) (i : Int) (hi : 0 ≤ i ∧ i < (sizeL (sidesL P w h) (k : Int)).2) :
    (0 ≤ r * (P.parts[k]).v ∧ r * (P.parts[k]).v ≤ 262140) ∧ (0 ≤ r * (P.parts[k]).v + i ∧ r * (P.parts[k]).v + i ≤ 1000000) ∧ (0 ≤ (r * (P.parts[k]).v + i) * (P.parts[k]).wide ∧ (r * (P.parts[k]).v + i) * (P.parts[k]).wide ≤ 65536) ∧ (0 ≤ c * (P.parts[k]).h ∧ c * (P.parts[k]).h ≤ 262140) ∧
      ∃ at_ : Nat, (r * (P.parts[k]).v + i) * (P.parts[k]).wide + c * (P.parts[k]).h = (at_ : Int) ∧ rowAt P.parts[k] c r i = at_ ∧ at_ + (sizeL (sidesL P w h) (k : Int)).1.toNat ≤ (P.parts[k]).bs.length := by
  obtain ⟨h1, h2⟩ := row_in F I k hk i hi
  obtain ⟨_, _, hc, hr⟩ := I.sides F
  obtain ⟨f1, f2⟩ := fac_at F.fac k hk
  obtain ⟨⟨s1, _⟩, s3, s4⟩ := cut_sizes F I k hk
  obtain ⟨a1, a2, a3, a4⟩ := F.pt k hk
  have g1 := mul_in (a := r) (b := (P.parts[k]).v) (m := 65535) (n := 4) ⟨I.r0, hr⟩ (by omega)
  have g2 := mul_in (a := c) (b := (P.parts[k]).h) (m := 65535) (n := 4) ⟨I.c0, hc⟩ (by omega)
  have g3 : 0 ≤ (r * (P.parts[k]).v + i) * (P.parts[k]).wide := Int.mul_nonneg (by omega) (by omega)
  have SI := szL_in P (k : Int)
  have SI2 := szL_in (sidesL P w h) (k : Int)
  refine ⟨by omega, by omega, ⟨g3, by omega⟩, by omega, ((r * (P.parts[k]).v + i) * (P.parts[k]).wide + c * (P.parts[k]).h).toNat, by omega, rfl, by omega⟩
theorem bks_sub {w : World} {xb xo n cap : Nat} {bs : List (List Int)} (h : Bks w (.slice (some ⟨xb, xo, none⟩) n cap) bs) (a m : Nat) (ham : a + m ≤ bs.length) : SlN 64 w (.slice (some ⟨xb, xo + a * 64, none⟩) m (cap - a)) m (fB ((bs.drop a).take m)) := by
  have hl : ((bs.drop a).take m).length = m := by rw [List.length_take, List.length_drop]; omega
  have hb : Bks w (.slice (some ⟨xb, xo + a * 64, none⟩) m (cap - a)) ((bs.drop a).take m) := by
    obtain ⟨a', c', hv, hc, hx⟩ := h
    simp only [Value.slice.injEq] at hv
    obtain ⟨rfl, _, rfl⟩ := hv
    refine ⟨some ⟨xb, xo + a * 64, none⟩, cap - a, by rw [hl], by rw [hl]; omega, fun i hi => ?_⟩
    rw [hl] at hi
    obtain ⟨b, off, cs, ha, h1, h2, h3⟩ := hx (a + i) (by omega)
    simp only [Option.some.injEq, Addr.mk.injEq, and_true] at ha
    obtain ⟨rfl, rfl⟩ := ha
    refine ⟨xb, xo + a * 64, cs, rfl, h1, fun j u hj => ?_, ?_⟩
    · have := h2 j u hj
      rwa [show xo + (a + i) * 64 + j = xo + a * 64 + i * 64 + j by rw [Nat.add_mul]; omega] at this
    · simpa using h3
  have := hb.sl
  rwa [hl] at this
theorem wrapN (n : Nat) (h : n ≤ 1000000) : wrap64 (n : Int) = (n : Int) ∧ IntKind.i64.wrap (n : Int) = (n : Int) := ⟨IntWalk.wrap64_in _ (by omega), IntWalk.i64_in _ (by omega)⟩
theorem wrapZ (z : Int) (h : 0 ≤ z ∧ z ≤ 10000000) : wrap64 z = z ∧ IntKind.i64.wrap z = z := ⟨IntWalk.wrap64_in _ (by omega), IntWalk.i64_in _ (by omega)⟩
theorem subFacts (a s len cap : Nat) (h1 : a + s ≤ len) (h2 : len ≤ cap) (h3 : 1 ≤ s) (h4 : a ≤ 400000) (h5 : s ≤ 262140) : ∃ E : Nat, wrap64 ((a : Int) + (s : Int)) = (E : Int) ∧ IntKind.i64.wrap ((a : Int) + (s : Int)) = (E : Int) ∧ (E : Int) ≤ (cap : Int) ∧ a ≤ E ∧ E - a = s ∧ ¬ cap = a :=
  ⟨a + s, by rw [(wrapZ _ (by omega)).1]; omega, by rw [(wrapZ _ (by omega)).2]; omega, by omega, by omega, by omega, by omega⟩
/-- a block of cells of another type stays where an own row grows -/
theorem heap_grown {w w' : World} {v : Value} {base : Nat} {e : TypeId} {size n : Nat} {xs : List Value} (hv : w.ownsRow base e size v n xs) (hg : w.grownBy w' v.ownBlock) {B : Nat} {C : Array Value} {t : TypeId} {fr : Nat × Nat} (hB : w.heap[B]? = some (.cells C t fr)) (ht : t ≠ e) : w'.heap[B]? = some (.cells C t fr) := by
  rw [hg.block B (Array.getElem?_eq_some_iff.1 hB).1 (fun h => ?_)]
  · exact hB
  rcases hv.2 with ⟨rfl, _⟩ | ⟨g', cap', cur', rfl, _, hg', _⟩
  · simp [Value.ownBlock] at h
  · simp only [Value.ownBlock, Option.some.injEq] at h
    subst h
    rw [hB] at hg'
    simp only [Option.some.injEq, Obj.cells.injEq] at hg'
    exact ht hg'.2.1
theorem CutX.grown {w : World} {B : Nat} {P Q : PicL} {q0 q1 q2 q3 pv rv kv : Value} {W W' : World} (h : CutX w B P Q q0 q1 q2 q3 pv rv kv W) {v : Value} {base size n : Nat} {xs : List Value} (hv : W.ownsRow base 23 size v n xs) (hg : W.grownBy W' v.ownBlock) (hb : B ≤ base) : CutX w B P Q q0 q1 q2 q3 pv rv kv W' :=
  ⟨heap_grown hv hg h.a (by decide), heap_grown hv hg h.z (by decide), heap_grown hv hg h.o (by decide), h.l.grown hg (by have := h.lt; omega) fun k hk => Nat.le_trans hb (hv.lt k hk).1⟩
theorem rowL_all {x : PartL} (h : All64 x.bs) (c r s i : Int) : All64 (rowL x c r s i) := (h.drop _).take _
/-- a row appended -/
theorem BkO.more {base : Nat} {w : World} {v : Value} {x : PartL} {c r : Int} {s y : Nat} (ho : w.ownsRow base 23 64 v ((gathL x c r (s : Int) y).length + s) (fB (gathL x c r (s : Int) y) ++ fB (rowL x c r (s : Int) (y : Int)))) (h1 : All64 (gathL x c r (s : Int) y)) (h2 : All64 x.bs) (hl : (rowL x c r (s : Int) (y : Int)).length = s) : BkO base w v (gathL x c r (s : Int) (y + 1)) := by
  rw [gath_succ]
  refine ⟨?_, h1.app (rowL_all h2 _ _ _ _)⟩
  rw [List.length_append, fB_app, hl]
  exact ho
theorem BkO.other {base : Nat} {w : World} {v : Value} {bs : List (List Int)} (h : BkO base w v bs) {B j : Nat} {C : Array Value} {t : TypeId} {fr : Nat × Nat} {u : Value} (hB : w.heap[B]? = some (.cells C t fr)) (ht : 23 ≠ t) : BkO base (w.setCell ⟨B, j, none⟩ u) v bs := ⟨owns_other h.row hB ht, h.all⟩
theorem PtB.setOther {w : World} {T g j : Nat} {p : PartL} {x u : Value} (h : PtB w T p x) (hne : g ≠ T) : PtB (w.setCell ⟨g, j, none⟩ u) T p x := by
  unfold PtB
  rw [Go.Deep.blk_setCell_other _ _ _ _ (by simp only; omega)]
  exact h
theorem cellsW_mid {α : Type} (c : α → Value → List Value) (done : List (α × Value)) (q : α × Value) (rest : List (α × Value)) : cellsW c (done ++ q :: rest) = cellsW c done ++ (c q.1 q.2 ++ cellsW c rest) := by
  unfold cellsW
  rw [List.flatMap_append, List.flatMap_cons]
theorem MidR.same {base : Nat} {w : World} {g n c : Nat} {done : List (PartL × Value)} {q q' : PartL × Value} {rest : List (PartL × Value)} (h : MidR base w g n c done q rest) (hq : vPart q'.1 q'.2 = vPart q.1 q.2) : MidR base w g n c done q' rest :=
  ⟨by have := h.row; rw [cellsW_mid] at this ⊢; rw [hq]; exact this, h.bk⟩
theorem partB_new {p : PartL} (h : PartB p) (s t : Nat) (hs : s ≤ 262140 ∧ t ≤ 262140) (l : List (List Int)) (hl : l.length ≤ 140737488351232) : PartB { p with wide := (s : Int), high := (t : Int), bs := l } :=
  ⟨h.id, h.h, h.v, h.tq, by unfold R64; simp only; omega, by unfold R64; simp only; omega, hl⟩
theorem cutB_len (x : PartL) (c r : Int) (s o : Int × Int) : (cutB x c r s o).length = (gathL x c r s.1 s.2.toNat).length := by unfold cutB; rw [shTo_length]
theorem mid_len {done : List (PartL × Value)} {x : PartL} {rest : List (PartL × Value)} {k : Nat} (h : done.length = k) : (done.map (·.1) ++ x :: rest.map (·.1))[k]? = some x := by
  subst h
  rw [List.getElem?_append_right (by simp)]
  simp
theorem cut_take {P : PicL} {c r w h : Int} {k : Nat} (hk : k < P.parts.length) {p : PartL} (hp : P.parts[k] = p) : (cutL P c r w h).parts.take (k + 1) = (cutL P c r w h).parts.take k ++ [cutP P c r w h k p] := by
  obtain ⟨h1, h2⟩ := cut_part P c r w h k hk
  have h3 : k < (cutL P c r w h).parts.length := by rw [h1]; exact hk
  rw [List.take_succ_eq_append_getElem h3, h2 h3, hp]
/-- the row's end: one part more is made anew -/
theorem MidR.half {base : Nat} {w : World} {g n c k : Nat} {rs done : List (PartL × Value)} {q : PartL × Value} (h : MidR base w g n c done q (rs.drop (k + 1))) (hn : rs.length = n) (hk : done.length = k) (hkn : k < n) (hd : ∀ p ∈ done, PartB p.1) (hq : PartB q.1) (hb : BkO base w q.2 q.1.bs)
    (hs : done.Pairwise fun p q => p.2.ownBlock = none ∨ p.2.ownBlock ≠ q.2.ownBlock) (hM : ∀ p ∈ done, p.2.ownBlock = none ∨ p.2.ownBlock ≠ q.2.ownBlock) : HalfP base w (.slice (some ⟨g, 0, none⟩) n c) rs (done ++ [q]) := by
  subst hk hn
  refine ⟨by rw [List.length_append]; simp; omega, ?_, fun p hp => ?_, fun p hp => ?_, ?_⟩
  · rw [List.length_append, List.length_singleton, List.append_assoc]
    exact h.row
  · rw [List.mem_append] at hp
    rcases hp with hp | hp
    · exact hd p hp
    · rw [List.mem_singleton.1 hp]; exact hq
  · rw [List.mem_append] at hp
    rcases hp with hp | hp
    · exact h.bk p hp
    · rw [List.mem_singleton.1 hp]; exact hb
  · rw [List.pairwise_append]
    refine ⟨hs, List.pairwise_singleton _ _, fun p hp q' hq' => ?_⟩
    rw [List.mem_singleton.1 hq']
    exact hM p hp
theorem row_wraps {r v y wd c h : Int} {a : Nat} (rb1 : 0 ≤ r * v ∧ r * v ≤ 262140) (rb2 : 0 ≤ r * v + y ∧ r * v + y ≤ 1000000) (rb3 : 0 ≤ (r * v + y) * wd ∧ (r * v + y) * wd ≤ 65536) (rb4 : 0 ≤ c * h ∧ c * h ≤ 262140) (rb5 : (r * v + y) * wd + c * h = (a : Int)) :
    ∃ A1 A2 A3 A4 : Int, (wrap64 (r * v) = A1 ∧ IntKind.i64.wrap (r * v) = A1) ∧ (wrap64 (A1 + y) = A2 ∧ IntKind.i64.wrap (A1 + y) = A2) ∧ (wrap64 (A2 * wd) = A3 ∧ IntKind.i64.wrap (A2 * wd) = A3) ∧ (wrap64 (c * h) = A4 ∧ IntKind.i64.wrap (c * h) = A4) ∧ (wrap64 (A3 + A4) = (a : Int) ∧ IntKind.i64.wrap (A3 + A4) = (a : Int)) := by
  refine ⟨r * v, r * v + y, (r * v + y) * wd, c * h, wrapZ _ (by omega), wrapZ _ (by omega), wrapZ _ (by omega), wrapZ _ (by omega), ?_⟩
  rw [rb5]
  exact wrapN a (by omega)
theorem step_wrap (k n : Nat) (h : k < n) (hn : n ≤ 1000000) : IntKind.i64.wrap ((k : Int) + 1) = (k : Int) + 1 := (wrapZ _ (by omega)).2
theorem dec_lt {a b : Nat} (h : a < b) : decide ((a : Int) < (b : Int)) = true ∧ decide (a < b) = true := ⟨decide_eq_true (Int.ofNat_lt.2 h), decide_eq_true h⟩
theorem rows_le (y s t N : Nat) (hy : y < t) (h : (s : Int) * (t : Int) = (N : Int)) (hN : N ≤ 65536) : y * s ≤ 65536 := by
  have h1 : y * s ≤ t * s := Nat.mul_le_mul_right _ (Nat.le_of_lt hy)
  have h2 : ((t * s : Nat) : Int) = (s : Int) * (t : Int) := by push_cast; rw [Int.mul_comm]
  omega
theorem rows_all (y s t N : Nat) (hy : y = t) (h : (s : Int) * (t : Int) = (N : Int)) (hN : N ≤ 65536) : y * s ≤ 65536 := by
  subst hy
  have h2 : ((y * s : Nat) : Int) = (s : Int) * (y : Int) := by push_cast; rw [Int.mul_comm]
  omega
theorem app_bounds (a s : Nat) (h : a ≤ 65536) (hs : s ≤ 262140) : (a + s) * 512 ≤ 140737488355328 ∧ a + s ≤ 140737488355328 := by omega
theorem at_small (a s len : Nat) (h : a + s ≤ len) (hl : len ≤ 400000) : a ≤ 400000 := by omega
end Go.Proofs.Ytnhalnjdlkdnkaa

namespace Go.Proofs.Ytnhalnjdlkdnkaa
set_option linter.unusedVariables false
set_option linter.unusedSimpArgs false
set_option maxRecDepth 20000

theorem sum_ge (P : PicL) : ∀ (n k : Nat), k < n → (sizeL P (k : Int)).1 * (sizeL P (k : Int)).2 ≤ sumTo P n
  | 0, k, h => by omega
  | n + 1, k, h => by
    have SI := szL_in P (n : Int)
    have mm := mul_in (a := (sizeL P (n : Int)).1) (b := (sizeL P (n : Int)).2) (m := 262140) (n := 262140) SI.1 SI.2
    have s0 := sumTo_in P n
    unfold sumTo
    by_cases e : k = n
    · subst e; omega
    · have := sum_ge P n k (by omega); omega
structure GoodS (P : PicL) : Prop where
  n : 1 ≤ P.parts.length ∧ P.parts.length ≤ 4
  w : 1 ≤ P.w ∧ P.w ≤ 65535
  h : 1 ≤ P.h ∧ P.h ≤ 65535
  r : 0 ≤ P.restart ∧ P.restart ≤ 65535
  px : P.w * P.h ≤ 262144
  sum : sumTo P P.parts.length ≤ 65536
  part : ∀ k : Nat, k < P.parts.length → partB P (k : Int) = true
  qs : quantsB P 4 = true
  ks : P.kept.all segB = true
theorem good_iff (P : PicL) : goodB P = true ↔ GoodS P := by
  unfold goodB topB partsB tooB sidedB
  simp only [Bool.and_eq_true, decide_eq_true_eq, Bool.not_eq_true', Bool.or_eq_false_iff, decide_eq_false_iff_not]
  constructor
  · rintro ⟨⟨⟨⟨⟨⟨⟨⟨⟨h1, h2⟩, h3, h4⟩, h5, h6⟩, h7⟩, h8⟩, h9, h10⟩, h11⟩, h12⟩, h13⟩
    exact ⟨⟨h1, h2⟩, ⟨h3, h4⟩, ⟨h5, h6⟩, ⟨h7, h8⟩, by omega, by omega, fun k hk => List.all_eq_true.1 h11 k (List.mem_range.2 hk), h12, h13⟩
  · intro G
    exact ⟨⟨⟨⟨⟨⟨⟨⟨⟨G.n.1, G.n.2⟩, G.w⟩, G.h⟩, G.r.1⟩, G.r.2⟩, by have := G.px; omega, by have := G.sum; omega⟩, List.all_eq_true.2 fun k hk => G.part k (List.mem_range.1 hk)⟩, G.qs⟩, G.ks⟩
theorem head_facts {P : PicL} {k : Nat} (hk : k < P.parts.length) (h : headB P (k : Int) = true) : (sizeL P (k : Int)).1 ≠ 0 ∧ (0 ≤ P.parts[k].id ∧ P.parts[k].id ≤ 255) ∧ (0 ≤ P.parts[k].tq ∧ P.parts[k].tq ≤ 3) ∧ P.parts[k].wide = (sizeL P (k : Int)).1 ∧ P.parts[k].high = (sizeL P (k : Int)).2 ∧ (P.parts[k].bs.length : Int) = (sizeL P (k : Int)).1 * (sizeL P (k : Int)).2 := by
  unfold headB at h
  rw [partAt_nat hk] at h
  simp only [Bool.and_eq_true, decide_eq_true_eq, Bool.not_eq_true', decide_eq_false_iff_not] at h
  obtain ⟨⟨⟨⟨⟨⟨⟨h1, h2⟩, h3⟩, h4⟩, h5⟩, h6⟩, h7⟩, h8⟩ := h
  exact ⟨h1, ⟨h2, h3⟩, ⟨h4, h5⟩, h6, h7, h8⟩
theorem part_facts {P : PicL} {k : Nat} (hk : k < P.parts.length) (h : partB P (k : Int) = true) : headB P (k : Int) = true ∧ (P.parts.take k).all (otherId P.parts[k]) = true ∧ P.parts[k].bs.all blkB = true ∧ P.parts[k].bs = shownL P (k : Int) := by
  unfold partB idB at h
  rw [partAt_nat hk] at h
  simp only [Bool.and_eq_true, decide_eq_true_eq, Int.toNat_natCast] at h
  obtain ⟨⟨⟨h1, h2⟩, h3⟩, h4⟩ := h
  exact ⟨h1, h2, h3, h4⟩
theorem GoodS.fit {P : PicL} (G : GoodS P) : Fit P := by
  have h0 := head_facts (by have := G.n; omega) (part_facts (by have := G.n; omega) (G.part 0 (by have := G.n; omega))).1
  have hf : P.parts.all facOk = true := by
    have h := h0.1
    unfold sizeL at h
    rcases hm : mostL P ((0 : Nat) : Int) with _ | ⟨a, b⟩
    · rw [hm] at h; simp at h
    · unfold mostL at hm
      split at hm
      · rename_i hc
        simp only [Bool.and_eq_true] at hc
        exact hc.2
      · cases hm
  refine ⟨G.n, G.w, G.h, hf, fun k hk => ?_⟩
  obtain ⟨_, _, _, h1, h2, h3⟩ := head_facts hk (part_facts hk (G.part k hk)).1
  exact ⟨h1, h2, h3, Int.le_trans (sum_ge P _ k hk) G.sum⟩
theorem sum_le {P Q : PicL} (hn : ∀ k : Nat, k < P.parts.length → (sizeL Q (k : Int)).1 * (sizeL Q (k : Int)).2 ≤ (sizeL P (k : Int)).1 * (sizeL P (k : Int)).2) : ∀ n, n ≤ P.parts.length → sumTo Q n ≤ sumTo P n
  | 0, _ => by simp [sumTo]
  | n + 1, h => by
    unfold sumTo
    have := sum_le hn n (by omega)
    have := hn n (by omega)
    omega
theorem shB_idem (sw ow oh : Int) (i : Nat) (b : List Int) : shB sw ow oh i (shB sw ow oh i b) = shB sw ow oh i b := by
  unfold shB
  split <;> rfl
theorem shTo_idem (sw ow oh : Int) (bs : List (List Int)) (n : Nat) : shTo sw ow oh (shTo sw ow oh bs n) n = shTo sw ow oh bs n := by
  apply List.ext_getElem (by simp [shTo])
  intro i h1 h2
  have hi : i < bs.length := by rw [shTo_length] at h2; exact h2
  rw [shTo_at _ _ _ _ _ _ (by rw [shTo_length]; exact hi), shTo_at _ _ _ _ _ _ hi]
  split
  · rw [shB_idem]
  · rfl
theorem zero_blk : blkB zero64 = true := by decide
theorem shTo_mem {sw ow oh : Int} {bs : List (List Int)} {n : Nat} {b : List Int} (h : b ∈ shTo sw ow oh bs n) : b = zero64 ∨ b ∈ bs := by
  obtain ⟨i, hi, rfl⟩ := List.getElem_of_mem h
  rw [shTo_length] at hi
  rw [shTo_at _ _ _ _ _ _ hi]
  split
  · unfold shB
    split
    · exact .inl rfl
    · exact .inr (List.getElem_mem hi)
  · exact .inr (List.getElem_mem hi)
theorem gath_mem {x : PartL} {c r sw : Int} {n : Nat} {b : List Int} (h : b ∈ gathL x c r sw n) : b ∈ x.bs := by
  unfold gathL at h
  obtain ⟨i, _, hb⟩ := List.mem_flatMap.1 h
  exact List.mem_of_mem_drop (List.mem_of_mem_take hb)
theorem kin_id {ps qs : List PartL} (h : ps.map kin = qs.map kin) (k : Nat) (p q : PartL) (hp : p.id = q.id) : (ps.take k).all (otherId p) = (qs.take k).all (otherId q) := by
  have e : ∀ (l : List PartL) (z : PartL), (l.take k).all (otherId z) = ((l.map kin).take k).all fun t => !decide (z.id = t.1) := fun l z => by rw [← List.map_take, List.all_map]; rfl
  rw [e, e, h, hp]
theorem kin_used {ps qs : List PartL} (h : ps.map kin = qs.map kin) (t : Int) : usedB ps t = usedB qs t := by
  have e : ∀ l : List PartL, usedB l t = (l.map kin).any fun q => decide (q.2.2.2 = t) := fun l => by unfold usedB; rw [List.any_map]; rfl
  rw [e, e, h]
theorem quants_same {P Q : PicL} (h : ∀ t : Int, usedB Q.parts t = usedB P.parts t) (hq : ∀ j, qL Q j = qL P j) : quantsB Q 4 = quantsB P 4 := by
  unfold quantsB
  congr 1
  funext j
  unfold quantB
  rw [h, hq]
theorem cutL_size (P : PicL) (c r w h : Int) (k : Int) : sizeL (cutL P c r w h) k = sizeL (sidesL P w h) k ∧ ownL (cutL P c r w h) k = ownL (sidesL P w h) k :=
  ⟨kin_size (P := cutL P c r w h) (Q := sidesL P w h) (kin_cut P c r w h) rfl rfl k, kin_own (P := cutL P c r w h) (Q := sidesL P w h) (kin_cut P c r w h) rfl rfl k⟩
theorem good_cut {P : PicL} {c r w h : Int} (G : GoodS P) (I : In P c r w h) : GoodS (cutL P c r w h) := by
  have F := G.fit
  obtain ⟨hw, hh, _, _⟩ := I.sides F
  have hl : (cutL P c r w h).parts.length = P.parts.length := by unfold cutL; simp
  have hW := F.w
  have hH := F.h
  refine ⟨by rw [hl]; exact G.n, ⟨hw.1, by show w ≤ 65535; omega⟩, ⟨hh.1, by show h ≤ 65535; omega⟩, G.r, ?_, ?_, fun k hk => ?_, ?_, G.ks⟩
  · show w * h ≤ 262144
    exact Int.le_trans (prod_le (by omega) (by omega) hw.2 hh.2) G.px
  · rw [hl]
    refine Int.le_trans (sum_le (fun k hk => ?_) _ (Nat.le_refl _)) G.sum
    rw [(cutL_size P c r w h (k : Int)).1]
    exact cut_prod F I k hk
  · have hkP : k < P.parts.length := by rw [hl] at hk; exact hk
    obtain ⟨e1, e2⟩ := cutL_size P c r w h (k : Int)
    have ep := (cut_part P c r w h k hkP).2 hk
    obtain ⟨⟨s1, s2⟩, s3, s4⟩ := cut_sizes F I k hkP
    obtain ⟨p1, p2, p3, p4⟩ := part_facts hkP (G.part k hkP)
    obtain ⟨h1, h2, h3, h4, h5, h6⟩ := head_facts hkP p1
    have gl := gath_len F I k hkP (sizeL (sidesL P w h) (k : Int)).2.toNat (by omega)
    have bl : (((cutL P c r w h).parts[k]).bs.length : Int) = (sizeL (sidesL P w h) (k : Int)).1 * (sizeL (sidesL P w h) (k : Int)).2 := by
      rw [ep]
      show ((cutB P.parts[k] c r _ _).length : Int) = _
      rw [cutB_len, gl, Int.natCast_mul, Int.mul_comm, Int.toNat_of_nonneg (by omega), Int.toNat_of_nonneg (by omega)]
    have hb : ((cutL P c r w h).parts[k]).bs = cutB P.parts[k] c r (sizeL (sidesL P w h) (k : Int)) (ownL (sidesL P w h) (k : Int)) := by rw [ep]; rfl
    have hhd : headB (cutL P c r w h) (k : Int) = true := by
      unfold headB
      rw [partAt_nat hk, e1, bl]
      simp only [Bool.and_eq_true, decide_eq_true_eq, Bool.not_eq_true', decide_eq_false_iff_not]
      rw [ep]
      exact ⟨⟨⟨⟨⟨⟨⟨by omega, h2.1⟩, h2.2⟩, h3.1⟩, h3.2⟩, rfl⟩, rfl⟩, trivial⟩
    have hfull : fullB (cutL P c r w h) (k : Int) = true := by
      unfold fullB
      rw [partAt_nat hk, e1, bl]
      simp only [Bool.and_eq_true, decide_eq_true_eq, Bool.not_eq_true', decide_eq_false_iff_not]
      exact ⟨by omega, trivial⟩
    unfold partB idB
    rw [hhd, partAt_nat hk]
    simp only [Bool.true_and, Bool.and_eq_true, decide_eq_true_eq, Int.toNat_natCast]
    refine ⟨⟨?_, ?_⟩, ?_⟩
    · rw [kin_id (kin_cut P c r w h) k _ P.parts[k] (by rw [ep]; rfl)]
      exact p2
    · rw [List.all_eq_true]
      intro b hbm
      rw [hb] at hbm
      rcases shTo_mem hbm with rfl | hbm
      · exact zero_blk
      · exact List.all_eq_true.1 p3 b (gath_mem hbm)
    · unfold shownL
      rw [if_pos hfull, e1, e2, partAt_nat hk, hb]
      unfold cutB
      rw [shTo_length]
      exact (shTo_idem _ _ _ _ _).symm
  · rw [quants_same (P := P) (fun t => kin_used (kin_cut P c r w h) t) (fun j => rfl)]
    exact G.qs
end Go.Proofs.Ytnhalnjdlkdnkaa

namespace Go.Proofs.Ytnhalnjdlkdnkaa
set_option linter.unusedVariables false
set_option linter.unusedSimpArgs false
set_option maxRecDepth 20000

def minI (a b : Int) : Int := if b < a then b else a
def cropW (x w W a : Int) : Int := x + minI w (W - x) - x / a * a
def rangeC (P : PicL) (x y w h : Int) : Bool := decide (x < 0) || decide (y < 0) || decide (w < 1) || decide (h < 1) || decide (P.w ≤ x) || decide (P.h ≤ y)
def offB (P : PicL) (x y : Int) (pf : Bool) : Bool := pf && (decide (x % (8 * maxH P.parts) ≠ 0) || decide (y % (8 * maxV P.parts) ≠ 0))
def zeroP : PicL := ⟨0, 0, [], [], [], [], [], 0, []⟩
def cropE (P : PicL) (x y w h : Int) (pf : Bool) : Int := if goodB P = false then 6 else if rangeC P x y w h = true then 7 else if offB P x y pf = true then 5 else 0
def cropIn (P : PicL) (x y w h : Int) : PicL := cutL P (x / (8 * maxH P.parts)) (y / (8 * maxV P.parts)) (cropW x w P.w (8 * maxH P.parts)) (cropW y h P.h (8 * maxV P.parts))
def cropL (P : PicL) (x y w h : Int) (pf : Bool) : PicL := if cropE P x y w h pf = 0 then cropIn P x y w h else zeroP
/-- the numbers of one side -/
theorem crop_side {x w W a : Int} (hx : 0 ≤ x) (hW : x < W) (hw : 1 ≤ w) (ha : 0 < a) (hWl : W ≤ 65535) :
    (0 ≤ x / a) ∧ 1 ≤ cropW x w W a ∧ x / a * a + cropW x w W a ≤ W ∧ (0 ≤ x / a * a ∧ x / a * a ≤ x) ∧ (1 ≤ minI w (W - x) ∧ minI w (W - x) ≤ W - x) := by
  have h1 : 0 ≤ x / a := Int.ediv_nonneg hx (by omega)
  have h2 : x / a * a ≤ x := Int.ediv_mul_le x (by omega)
  have h3 : 0 ≤ x / a * a := Int.mul_nonneg h1 (by omega)
  have h4 : 1 ≤ minI w (W - x) ∧ minI w (W - x) ≤ W - x := by unfold minI; split <;> omega
  unfold cropW
  omega
theorem crop_in {P : PicL} {x y w h : Int} (F : Fit P) (hr : rangeC P x y w h = false) : In P (x / (8 * maxH P.parts)) (y / (8 * maxV P.parts)) (cropW x w P.w (8 * maxH P.parts)) (cropW y h P.h (8 * maxV P.parts)) := by
  unfold rangeC at hr
  simp only [Bool.or_eq_false_iff, decide_eq_false_iff_not] at hr
  obtain ⟨⟨⟨⟨⟨h1, h2⟩, h3⟩, h4⟩, h5⟩, h6⟩ := hr
  obtain ⟨m1, m2⟩ := max_of F.fac F.n.1
  have a := crop_side (x := x) (w := w) (W := P.w) (a := 8 * maxH P.parts) (by omega) (by omega) (by omega) (by omega) F.w.2
  have b := crop_side (x := y) (w := h) (W := P.h) (a := 8 * maxV P.parts) (by omega) (by omega) (by omega) (by omega) F.h.2
  exact ⟨a.1, b.1, a.2.1, b.2.1, a.2.2.1, b.2.2.1⟩
theorem crop_good {P : PicL} {x y w h : Int} {pf : Bool} (he : cropE P x y w h pf = 0) : goodB P = true ∧ rangeC P x y w h = false ∧ offB P x y pf = false := by
  unfold cropE at he
  split at he
  · cases he
  · split at he
    · cases he
    · split at he
      · cases he
      · rename_i h1 h2 h3
        exact ⟨by simpa using h1, by simpa using h2, by simpa using h3⟩
theorem crop_zero {P : PicL} {x y w h : Int} {pf : Bool} (he : cropE P x y w h pf ≠ 0) : cropL P x y w h pf = zeroP := by unfold cropL; rw [if_neg he]
end Go.Proofs.Ytnhalnjdlkdnkaa
