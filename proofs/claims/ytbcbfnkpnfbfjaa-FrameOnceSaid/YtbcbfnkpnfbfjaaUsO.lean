/- Own rows of units: a slice of slices of pairs that the call has made. The document's places. By an AI agent. -/
import Derived.Test.YtbcbfnkpnfbfjaaUnitI
import Derived.Deep.Onto
namespace Go.Proofs.Ytbcbfnkpnfbfjaa
open Go.RowKit Go.BigFrame
set_option linter.unusedVariables false
set_option linter.unusedSimpArgs false

theorem tyU : ElemTy Try.prog 30 36 (.slice none 0 0) 1 24 := elemTy Try.underlying30 (by kernel_rfl) rfl (by decide)
theorem tyP2 : ElemTy Try.prog 36 39 (.agg #[.int .i64 0, .int .i64 0]) 2 16 := elemTy Try.underlying36 (by kernel_rfl) rfl (by decide)
theorem own_ne {w : World} {b1 b2 : Nat} {e1 e2 : TypeId} {s1 s2 : Nat} {v1 v2 : Value} {n1 n2 : Nat} {xs1 xs2 : List Value} (h1 : w.ownsRow b1 e1 s1 v1 n1 xs1) (h2 : w.ownsRow b2 e2 s2 v2 n2 xs2) (he : e1 ≠ e2) : v1.ownBlock = none ∨ v1.ownBlock ≠ v2.ownBlock := by
  rcases h1.2 with ⟨rfl, _⟩ | ⟨g, cap, cur, rfl, _, hg, _⟩
  · exact .inl rfl
  rcases h2.2 with ⟨rfl, _⟩ | ⟨g', cap', cur', rfl, _, hg', _⟩
  · right; simp [Value.ownBlock]
  right
  intro e
  simp only [Value.ownBlock, Option.some.injEq] at e
  subst e
  rw [hg] at hg'
  simp only [Option.some.injEq, Obj.cells.injEq] at hg'
  exact he hg'.2.1
/-- a unit, its slice -/
abbrev UvP := List (Int × Int) × Value
structure UsO (base : Nat) (w : World) (v : Value) (ps : List UvP) : Prop where
  row : w.ownsRow base 36 1 v ps.length (ps.map (·.2))
  data : ∀ p ∈ ps, w.ownsRow base 39 2 p.2 p.1.length (vUnit p.1)
theorem UsO.nil (base : Nat) (w : World) : UsO base w (.slice none 0 0) [] := ⟨World.ownsRow_nil _ _ _ _, fun p hp => by simp at hp⟩
theorem UsO.old {base : Nat} {w w' : World} {v : Value} {ps : List UvP} (h : UsO base w v ps) (hb : Below w.heap.size w w') : UsO base w' v ps :=
  ⟨owns_below h.row hb, fun p hp => owns_below (h.data p hp) hb⟩
theorem UsO.mono {base base' : Nat} {w : World} {v : Value} {ps : List UvP} (h : UsO base w v ps) (hb : base' ≤ base) : UsO base' w v ps :=
  ⟨World.ownsRow.mono h.row hb, fun p hp => World.ownsRow.mono (h.data p hp) hb⟩
theorem UsO.snoc {base : Nat} {w w' : World} {v v' : Value} {ps : List UvP} {u : List (Int × Int)} {x : Value} (h : UsO base w v ps) (hp : w.ownsRow base 39 2 x u.length (vUnit u)) (hg : w.grownBy w' v.ownBlock) (ho : w'.ownsRow base 36 1 v' (ps.length + 1) (ps.map (·.2) ++ [x])) : UsO base w' v' (ps ++ [(u, x)]) := by
  refine ⟨by rw [List.length_append]; simpa using ho, fun q hq => ?_⟩
  rw [List.mem_append] at hq
  rcases hq with hq | hq
  · exact (h.data q hq).kept hg (own_ne (h.data q hq) h.row (by decide))
  · have : q = (u, x) := by simpa using hq
    subst this
    exact hp.kept hg (own_ne hp h.row (by decide))
/-- what stands in the rows -/
theorem UsO.read {base : Nat} {w : World} {v : Value} {ps : List UvP} (h : UsO base w v ps) : ∃ a c, v = .slice a ps.length c ∧ ∀ i (hi : i < ps.length), ∃ b o, a = some ⟨b, o, none⟩ ∧ w.cell? ⟨b, o + i, none⟩ = some ps[i].2 ∧ UnitV w ps[i].2 ps[i].1 := by
  have hs := sl_of_owns h.row
  rcases hs.2 with ⟨a, c, hv, hn⟩ | ⟨b, o, c, hv, _, _, hx⟩
  · exact ⟨a, c, hv, fun i hi => by omega⟩
  · exact ⟨_, c, hv, fun i hi => ⟨b, o, rfl, hx i _ (by simp [hi]), sl_of_owns (h.data _ (List.getElem_mem hi))⟩⟩
def unitsL (P : PicL) (ps : List Int) : List (List (Int × Int)) := (List.range (unitsN P ps)).map (unitsF P ps)
/-- what the document's Units answers -/
def UsOut (w : World) (us : List (List (Int × Int))) (e : Ending) (w' : World) : Prop := ∃ v ps, e = .returned v ∧ UsO w.heap.size w' v ps ∧ ps.map (·.1) = us ∧ Below w.heap.size w w'
theorem size_cols {P : PicL} {k : Int} (h : (sizeL P k).1 ≠ 0) : (sizeL P k).1 = (partAt P k).h * upI P.w (8 * maxH P.parts) := by
  have hm := mostL_of h
  unfold sizeL
  rw [hm]
theorem refplace {row cols col H V y x : Nat} {wide : Int} (h1 : 1 ≤ H ∧ H ≤ 4) (v1 : 1 ≤ V ∧ V ≤ 4) (hr : row ≤ 1000) (hc : cols ≤ 1000) (hcl : col ≤ 1000) (hy : y < V) (hx : x < H) (hw : wide = (H : Int) * (cols : Int)) :
    ∃ m1 m2 m3 m4 m5 m6 : Int, IntKind.i64.wrap ((row : Int) * (V : Int)) = m1 ∧ IntKind.i64.wrap (m1 + (y : Int)) = m2 ∧ IntKind.i64.wrap (wide * m2) = m3 ∧ IntKind.i64.wrap ((col : Int) * (H : Int)) = m4 ∧ IntKind.i64.wrap (m3 + m4) = m5 ∧ IntKind.i64.wrap (m5 + (x : Int)) = m6 ∧
      m6 = ((row : Int) * (V : Int) + ((y * H + x : Nat) : Int) / (H : Int)) * (cols : Int) * (H : Int) + (col : Int) * (H : Int) + ((y * H + x : Nat) : Int) % (H : Int) := by
  have a1 := mul_in (a := (row : Int)) (b := (V : Int)) (m := 1000) (n := 4) (by omega) (by omega)
  have a2 := mul_in (a := (H : Int)) (b := (cols : Int)) (m := 4) (n := 1000) (by omega) (by omega)
  rw [← hw] at a2
  have a3 := mul_in (a := wide) (b := (row : Int) * (V : Int) + (y : Int)) (m := 4000) (n := 5000) (by omega) (by omega)
  have a4 := mul_in (a := (col : Int)) (b := (H : Int)) (m := 1000) (n := 4) (by omega) (by omega)
  refine ⟨_, _, _, _, _, _, IntWalk.i64_in _ (by omega), IntWalk.i64_in _ (by omega), IntWalk.i64_in _ (by omega), IntWalk.i64_in _ (by omega), IntWalk.i64_in _ (by omega), IntWalk.i64_in _ (by omega), ?_⟩
  have d : ((y * H + x : Nat) : Int) / (H : Int) = (y : Int) := by
    rw [← Int.natCast_ediv, Nat.mul_comm, Nat.mul_add_div (by omega), Nat.div_eq_of_lt hx, Nat.add_zero]
  have m : ((y * H + x : Nat) : Int) % (H : Int) = (x : Int) := by
    rw [← Int.natCast_emod, Nat.mul_comm, Nat.mul_add_mod, Nat.mod_eq_of_lt hx]
  rw [d, m, hw]
  congr 2
  rw [Int.mul_comm (H : Int) (cols : Int), Int.mul_comm, ← Int.mul_assoc]
end Go.Proofs.Ytbcbfnkpnfbfjaa
