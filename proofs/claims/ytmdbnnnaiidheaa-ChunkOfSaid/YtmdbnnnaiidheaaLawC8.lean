/- ChunkOf: the law itself. By an AI agent. -/
import Derived.Test.YtmdbnnnaiidheaaLawC7
namespace Go.Proofs.Ytmdbnnnaiidheaa
open Go.RowKit Go.BigFrame
set_option linter.unusedVariables false
set_option linter.unusedSimpArgs false

set_option maxHeartbeats 1600000 in
theorem lawOf_any (v : Value) (ls : List Chk) (nm : List UInt8) (M : Int) (u : Value) (l : List UInt8) (w : World) (hc : Cks w v ls) (hcl : ls.length ≤ 140737488351232) (hcn : ∀ c ∈ ls, c.1.length ≤ 140737488351232) (hcd : ∀ c ∈ ls, c.2.length ≤ 140737488351232) (hM : -9223372036854775808 ≤ M ∧ M ≤ 9223372036854775807) (hb : Bs w u l) (hl : l.length ≤ 140737488351232) :
    Calls Try.prog 8 #[.agg #[v, .string (strOf nm), .int .i64 M, u]] w fun e w' => e = .returned (.bool true) ∧ Below w.heap.size w w' := by
  have HC := Lib.hid hc
  have HB := Lib.hid hb
  have HCN := Lib.hid hcn
  have HCD := Lib.hid hcd
  obtain ⟨a0, c0, rfl, _⟩ := hc
  obtain ⟨a1, c1, rfl⟩ := hb.len
  have HM := Lib.hid hM
  have HL := Lib.hid hl
  have HCL := Lib.hid hcl
  clear hb hcn hcd hM hl hcl
  go_enter Try.func8, Try.ntmps8
  have ba : Below w.heap.size w (w.alloc (.cells #[.slice a0 ls.length c0, .string (strOf nm), .int .i64 M, .slice a1 l.length c1] 50)) := (Below.refl _ _).alloc (Nat.le_refl _) _
  have BA := Lib.hid ba
  clear ba
  go_wp2_with fail
  refine (found_any _ ls nm M _ l _ (HC.out.old BA.out) HCL.out HCN.out HCD.out HM.out (HB.out.old BA.out) HL.out).mono ?_
  rintro e w2 ⟨rfl, hb2⟩
  have B2 := Lib.hid (BA.out.trans (hb2.mono BA.out.size))
  clear hb2
  go_wp2_with fail
  go_ret
  exact ⟨rfl, B2.out⟩
end Go.Proofs.Ytmdbnnnaiidheaa
