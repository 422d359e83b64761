/- The units of a scan, as plain data; what an iterator over units is told. By an AI agent. -/
import Derived.Test.YtbcbfnkpnfbfjaaRangeU
import Derived.Test.YtbcbfnkpnfbfjaaSizes
namespace Go.Proofs.Ytbcbfnkpnfbfjaa
open Go.RowKit Go.BigFrame
set_option linter.unusedVariables false
set_option linter.unusedSimpArgs false

def vUnit (u : List (Int × Int)) : List Value := u.flatMap fun c => [.int .i64 c.1, .int .i64 c.2]
theorem vUnit_length (u : List (Int × Int)) : (vUnit u).length = u.length * 2 := by
  unfold vUnit
  induction u with
  | nil => rfl
  | cons c u ih => rw [List.flatMap_cons, List.length_append, ih, List.length_cons]; simp; omega
theorem vUnit_app (u v : List (Int × Int)) : vUnit (u ++ v) = vUnit u ++ vUnit v := by unfold vUnit; rw [List.flatMap_append]
/-- a slice of cells reads as a unit -/
def UnitV (W : World) (x : Value) (u : List (Int × Int)) : Prop := SlN 2 W x u.length (vUnit u)

/-- a part's own blocks across and down -/
def ownW (P : PicL) (k : Int) : Nat := (ownL P k).1.toNat
def ownH (P : PicL) (k : Int) : Nat := (ownL P k).2.toNat
/-- the q-th unit of one part -/
def singleF (P : PicL) (k : Int) (q : Nat) : List (Int × Int) := [(k, ((q / ownW P k : Nat) : Int) * (sizeL P k).1 + ((q % ownW P k : Nat) : Int))]
def singleN (P : PicL) (k : Int) : Nat := ownH P k * ownW P k
/-- a part's blocks in the unit at a row and a column -/
def partU (P : PicL) (cols row col : Nat) (k : Int) (i : Nat) : Int × Int :=
  (k, ((row : Int) * (partAt P k).v + (i : Int) / (partAt P k).h) * (cols : Int) * (partAt P k).h + (col : Int) * (partAt P k).h + (i : Int) % (partAt P k).h)
def partN (P : PicL) (k : Int) : Nat := ((partAt P k).h * (partAt P k).v).toNat
def unitAt (P : PicL) (cols row col : Nat) (ps : List Int) : List (Int × Int) := ps.flatMap fun k => (List.range (partN P k)).map (partU P cols row col k)
def colsN (P : PicL) (k : Int) : Nat := match mostL P k with | none => 0 | some (h, _) => (upI P.w (8 * h)).toNat
def rowsN (P : PicL) (k : Int) : Nat := match mostL P k with | none => 0 | some (_, v) => (upI P.h (8 * v)).toNat
def severalF (P : PicL) (ps : List Int) (q : Nat) : List (Int × Int) := unitAt P (colsN P (ps.getD 0 0)) (q / colsN P (ps.getD 0 0)) (q % colsN P (ps.getD 0 0)) ps
def severalN (P : PicL) (ps : List Int) : Nat := rowsN P (ps.getD 0 0) * colsN P (ps.getD 0 0)
def unitsOk (P : PicL) (ps : List Int) : Bool := ps.all fun k => !decide ((sizeL P k).1 = 0)
/-- how many units there are, and the q-th -/
def unitsN (P : PicL) (ps : List Int) : Nat := if unitsOk P ps then (match ps with | [] => 0 | [k] => singleN P k | _ => severalN P ps) else 0
def unitsF (P : PicL) (ps : List Int) (q : Nat) : List (Int × Int) := match ps with | [k] => singleF P k q | _ => severalF P ps q

theorem sizeL_in (P : PicL) (k : Int) : (0 ≤ (sizeL P k).1 ∧ (sizeL P k).1 ≤ 262140) ∧ 0 ≤ (sizeL P k).2 ∧ (sizeL P k).2 ≤ 262140 := by
  unfold sizeL
  rcases hm : mostL P k with _ | ⟨h, v⟩
  · simp
  · obtain ⟨hk, hw, hh, hf, h14, v14⟩ := mostL_some hm
    obtain ⟨ph1, pv1, _⟩ := part_in hm
    have u1 := upI_in P.w (8 * h) (by omega) (by omega)
    have u2 := upI_in P.h (8 * v) (by omega) (by omega)
    exact ⟨mul_in (a := (partAt P k).h) (b := upI P.w (8 * h)) (m := 4) (n := 65535) (by omega) (by omega), mul_in (a := (partAt P k).v) (b := upI P.h (8 * v)) (m := 4) (n := 65535) (by omega) (by omega)⟩
theorem ownL_in (P : PicL) (k : Int) : (0 ≤ (ownL P k).1 ∧ (ownL P k).1 ≤ 262140) ∧ 0 ≤ (ownL P k).2 ∧ (ownL P k).2 ≤ 262140 := by
  unfold ownL
  rcases hm : mostL P k with _ | ⟨h, v⟩
  · simp
  · obtain ⟨hk, hw, hh, hf, h14, v14⟩ := mostL_some hm
    obtain ⟨ph1, pv1, _⟩ := part_in hm
    have b1 := mul_in (a := P.w) (b := (partAt P k).h) (m := 65535) (n := 4) (by omega) (by omega)
    have b2 := mul_in (a := P.h) (b := (partAt P k).v) (m := 65535) (n := 4) (by omega) (by omega)
    have u1 := upI_in (P.w * (partAt P k).h) h (by omega) (by omega)
    have u2 := upI_in (P.h * (partAt P k).v) v (by omega) (by omega)
    have u3 := upI_in (upI (P.w * (partAt P k).h) h) 8 (by omega) (by omega)
    have u4 := upI_in (upI (P.h * (partAt P k).v) v) 8 (by omega) (by omega)
    simp only
    omega
theorem singleF_at (P : PicL) (k : Int) (y x : Nat) (hx : x < ownW P k) : singleF P k (y * ownW P k + x) = [(k, (y : Int) * (sizeL P k).1 + (x : Int))] := by
  unfold singleF
  have h1 : (y * ownW P k + x) / ownW P k = y := by
    rw [Nat.mul_comm, Nat.mul_add_div (by omega), Nat.div_eq_of_lt hx, Nat.add_zero]
  have h2 : (y * ownW P k + x) % ownW P k = x := by
    rw [Nat.mul_comm, Nat.mul_add_mod, Nat.mod_eq_of_lt hx]
  rw [h1, h2]
theorem severalF_at (P : PicL) (ps : List Int) (y x : Nat) (hx : x < colsN P (ps.getD 0 0)) : severalF P ps (y * colsN P (ps.getD 0 0) + x) = unitAt P (colsN P (ps.getD 0 0)) y x ps := by
  unfold severalF
  generalize colsN P (ps.getD 0 0) = c at hx ⊢
  have h1 : (y * c + x) / c = y := by
    rw [Nat.mul_comm, Nat.mul_add_div (by omega), Nat.div_eq_of_lt hx, Nat.add_zero]
  have h2 : (y * c + x) % c = x := by
    rw [Nat.mul_comm, Nat.mul_add_mod, Nat.mod_eq_of_lt hx]
  rw [h1, h2]
theorem at_lt {y x h w : Nat} (hy : y < h) (hx : x < w) : y * w + x < h * w :=
  Nat.lt_of_lt_of_le (by rw [Nat.succ_mul]; omega : y * w + x < (y + 1) * w) (Nat.mul_le_mul_right _ hy)

/-- what the yield of a walk over N units does -/
def Feed (n ll : Nat) (bs : List Nat) (U N : Nat) (F : Nat → List (Int × Int)) (J Jx : List Value → World → Prop) : Prop :=
  ∀ pre x W1, U ≤ W1.heap.size → J pre W1 → (pre.length < N ∧ UnitV W1 x (F pre.length)) → YieldAt Fence.wide n Try.prog ll #[x] W1 fun e W' =>
    (e = .returned (.bool true) ∧ J (pre ++ [x]) W' ∧ KeepU bs U W1 W') ∨ (e = .returned (.bool false) ∧ Jx (pre ++ [x]) W' ∧ KeepU bs U W1 W')
end Go.Proofs.Ytbcbfnkpnfbfjaa
