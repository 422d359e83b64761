/- == of arrays of three ints. By an AI agent. -/
import Derived.Test.YtfmkcpilljfidaaProg
import Derived.Test.YtfmkcpilljfidaaLib
namespace Go.Proofs.Ytfmkcpilljfidaa
open Go.RowKit
set_option linter.unusedVariables false
set_option linter.unusedSimpArgs false

theorem eq3 (a0 a1 a2 b0 b1 b2 : Int) (w : World) : (Op.equalIn 10000 62 (.agg #[.int .i64 a0, .int .i64 a1, .int .i64 a2]) (.agg #[.int .i64 b0, .int .i64 b1, .int .i64 b2])).run Try.prog w = .ok (a0 == b0 && (a1 == b1 && a2 == b2)) w := by
  have hu : Try.prog.underlying 62 = some (.array 3 3) := by kernel_rfl
  have hi : Try.prog.underlying 3 = some (.int .i64) := by kernel_rfl
  have hs : ∀ W, (sizeOf 3).run Try.prog W = .ok 1 W := fun W => by kernel_rfl
  have p0 : ∀ (x y z : Value) W, (part 3 #[x, y, z] (0 * 1)).run Try.prog W = .ok x W := fun _ _ _ _ => by kernel_rfl
  have p1 : ∀ (x y z : Value) W, (part 3 #[x, y, z] (1 * 1)).run Try.prog W = .ok y W := fun _ _ _ _ => by kernel_rfl
  have p2 : ∀ (x y z : Value) W, (part 3 #[x, y, z] (2 * 1)).run Try.prog W = .ok z W := fun _ _ _ _ => by kernel_rfl
  have he : ∀ (a b : Int) W, (Op.equalIn 9999 3 (.int .i64 a) (.int .i64 b)).run Try.prog W = .ok (a == b) W := fun a b W => run_equalIn_int W 9998 3 .i64 .i64 a b hi
  show (Op.equalIn (9999 + 1) _ _ _).run _ _ = _
  unfold Op.equalIn
  simp only [Sem.run_bind, run_underlying hu, Result.andThen_ok, hs]
  rw [Std.Legacy.Range.forIn_eq_forIn_range']
  have hr : List.range' 0 ([:3] : Std.Legacy.Range).size 1 = [0, 1, 2] := rfl
  simp only [hr, List.forIn_cons, List.forIn_nil, Sem.run_bind, p0, p1, p2, he, Result.andThen_ok]
  by_cases h0 : a0 = b0 <;> by_cases h1 : a1 = b1 <;> by_cases h2 : a2 = b2 <;> simp [h0, h1, h2, Sem.run_bind, Sem.run_pure, p0, p1, p2, he]
end Go.Proofs.Ytfmkcpilljfidaa
