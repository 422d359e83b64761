/- Blocks of 64 numbers: as values, compared, in rows. By an AI agent. -/
import Derived.Test.YtnhalnjdlkdnkaaProg
import Derived.Test.YtnhalnjdlkdnkaaInts
import Derived.Test.YtnhalnjdlkdnkaaApp
import Derived.DeepKeys
namespace Go.Proofs.Ytnhalnjdlkdnkaa
open Go.RowKit
set_option linter.unusedVariables false
set_option linter.unusedSimpArgs false

def arr (l : List Int) : Value := .agg (vIs l).toArray
def In64 (l : List Int) : Prop := ∀ x ∈ l, -9223372036854775808 ≤ x ∧ x ≤ 9223372036854775807
theorem mapM_some {α β : Type} (f : α → Option β) (g : α → β) : ∀ l : List α, (∀ x ∈ l, f x = some (g x)) → l.mapM f = some (l.map g)
  | [], _ => rfl
  | x :: l, h => by
    rw [List.mapM_cons, h x (by simp), mapM_some f g l (fun y hy => h y (by simp [hy]))]
    rfl
theorem lits_block (l : List Int) (h : l.length = 64) (hin : In64 l) (d : Nat) : ∃ la, Try.prog.keyLits (d + 2) 23 (vIs l) = some la := by
  have hu : Try.prog.underlying 23 = some (.array 64 3) := by kernel_rfl
  have hui : Try.prog.underlying 3 = some (.int .i64) := by kernel_rfl
  have hc : Try.prog.cellsOf 23 = 64 := by kernel_rfl
  have hci : Try.prog.cellsOf 3 = 1 := by kernel_rfl
  refine ⟨((List.range 64).map fun i => [Lit.int .i64 (l.getD i 0)]).flatten, ?_⟩
  unfold Program.keyLits
  rw [hu]
  simp only [hc, hci, vIs_length, h, if_true]
  rw [mapM_some _ (fun i => [Lit.int .i64 (l.getD i 0)])]
  · rfl
  · intro i hi
    have hil : i < l.length := by rw [h]; exact List.mem_range.1 hi
    have e1 : ((vIs l).drop (i * 1)).take 1 = [Value.int .i64 (l.getD i 0)] := by
      rw [Nat.mul_one, List.drop_eq_getElem_cons (by rw [vIs_length]; exact hil)]
      simp [vIs, vI, List.getElem?_eq_getElem hil]
    rw [e1]
    unfold Program.keyLits
    rw [hui]
    have hm : l.getD i 0 ∈ l := by
      rw [List.getD_eq_getElem?_getD, List.getElem?_eq_getElem hil]
      exact List.getElem_mem _
    have hb := hin _ hm
    generalize l.getD i 0 = y at hb
    have hwf : (Lit.int .i64 y).wf = true := by simp [Lit.wf, IntKind.min, IntKind.max, IntKind.signed, IntKind.bits]; omega
    simp only [hwf, and_self, if_true]
theorem same_in (l : List Int) (h : l.length = 64) (hin : In64 l) (w : World) : (Op.equalIn 10000 23 (arr l) (arr l)).run Try.prog w = .ok true w := by
  obtain ⟨la, hla⟩ := lits_block l h hin 0
  have hk : Try.prog.keyTypeAt 2 23 = true := by kernel_rfl
  have hf : (arr l).formed Try.prog 23 = true := by
    have hu : Try.prog.underlying 23 = some (.array 64 3) := by kernel_rfl
    have hc : Try.prog.cellsOf 23 = 64 := by kernel_rfl
    unfold arr
    simp [Value.formed, hu, vIs_length, h, hc]
  have hcs : (arr l).cells.toList = vIs l := by simp [arr, Value.cells]
  obtain ⟨r, hr, hi⟩ := run_equalIn_deep 9998 2 23 hk w 2 2 (arr l) (arr l) la la hf hf (by rw [hcs]; exact hla) (by rw [hcs]; exact hla)
  rw [hi.2 rfl] at hr
  exact hr
theorem eql_same (l : List Int) (h : l.length = 64) (hin : In64 l) (w : World) : (binOp .eql 23 (arr l) (arr l)).run Try.prog w = .ok (.bool true) w := by
  have := same_in l h hin w
  unfold arr at this ⊢
  rw [run_eql_struct, this]
  rfl
theorem neq_same (l : List Int) (h : l.length = 64) (hin : In64 l) (w : World) : (binOp .neq 23 (arr l) (arr l)).run Try.prog w = .ok (.bool false) w := by
  have := same_in l h hin w
  unfold arr at this ⊢
  rw [run_neq_struct, this]
  rfl
end Go.Proofs.Ytnhalnjdlkdnkaa
