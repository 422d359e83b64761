/- unicode.IsLower below 128, by the listed table unicode.properties. By an AI agent. -/
import Derived.Test.YtlgjjoglajgbeaaDoorRows
import Derived.Test.YtlgjjoglajgbeaaDoorNmP
import Derived.LaidMore
import Derived.MakeChecks
import Derived.ProofKit
namespace Go.Proofs.YtlgjjoglajgbeaaDoor
open Go.RowKit
set_option linter.unusedVariables false
set_option linter.unusedSimpArgs false

def propsL : List (DataW Unit) := match (Rows.laid_unicode_properties : DataW Unit) with | .agg ps => ps | _ => []
theorem props_eq : (Rows.laid_unicode_properties : DataW Unit) = .agg propsL := rfl
def propZ (r : Nat) : Int := match propsL[r]? with | some (.lit (.int .u8 z)) => z | _ => 0
def litU8 : Option (DataW Unit) → Bool | some (.lit (.int .u8 _)) => true | _ => false
theorem props_len : propsL.length = 256 := by kernel_rfl
theorem props_lits : ((List.range 256).all fun r => litU8 propsL[r]?) = true := by kernel_rfl
theorem props_get (r : Nat) (h : r < 256) : propsL[r]? = some (.lit (.int .u8 (propZ r))) := by
  have h1 := List.all_eq_true.1 props_lits r (List.mem_range.2 h)
  unfold propZ
  generalize propsL[r]? = o at h1 ⊢
  unfold litU8 at h1
  split at h1
  · rfl
  · cases h1
/-- the table lies in block 0 -/
def TabP (w : World) : Prop := ∀ r : Nat, r < 256 → w.cell? ⟨0, r, none⟩ = some (.int .u8 (propZ r))
theorem TabP.old {w w' : World} (h : TabP w) (hb : Below w.heap.size w w') : TabP w' := fun r hr => by
  have h1 := h r hr
  have hlt := World.block_lt_of_cell? _ _ h1
  rw [World.cell?_of_block (hb.block 0 hlt)]; exact h1
theorem low_lits : ((List.range 128).all fun c => !((decide (97 ≤ c) && decide (c ≤ 122)) || (decide (65 ≤ c) && decide (c ≤ 90))) || ((bits .and .u8 (propZ c) 96 == 64) == (decide (97 ≤ c) && decide (c ≤ 122)))) = true := by kernel_rfl
theorem low_letter (c : UInt8) (h : letterU c = true) : c.toNat < 128 ∧ (bits .and .u8 (propZ c.toNat) 96 == 64) = smallU c := by
  have hc : c.toNat < 128 := by
    unfold letterU smallU at h
    simp only [Bool.or_eq_true, Bool.and_eq_true, decide_eq_true_eq] at h
    omega
  refine ⟨hc, ?_⟩
  have h1 := List.all_eq_true.1 low_lits c.toNat (List.mem_range.2 hc)
  unfold letterU smallU at h
  rw [h] at h1
  simpa [smallU] using h1
theorem isLower_any (r : Nat) (w : World) (hr : r < 128) (ht : TabP w) : Calls Tryd.prog 48 #[.int .i32 (r : Int)] w fun e w' => e = .returned (.bool (bits .and .u8 (propZ r) 96 == 64)) ∧ w = w' := by
  have hc := ht r (by omega)
  have hr1 : (r : Int) ≤ 255 := by omega
  generalize propZ r = z at hc ⊢
  have h2 : ((r : Nat) : Int) < 128 := by omega
  clear hr
  go_enter Tryd.func48, Tryd.ntmps48
  go_wp2
  go_ret
  exact ⟨rfl, rfl⟩
/-- the listed table lies in block 0 when the call begins -/
theorem tab_of {W : World} {rest : List (String × DataW Unit)} (h : laidMetH Tryd.prog (("unicode.properties", Rows.laid_unicode_properties) :: rest) W) (hh : ((("unicode.properties", (Rows.laid_unicode_properties : DataW Unit)) :: rest).all fun x => x.2.handleName?.isNone) = true) : TabP W := by
  intro r hr
  rw [MakeChecks.laidMetH_plain _ _ _ hh] at h
  obtain ⟨ps, ⟨g, t, cs, fuel, p, q, hg, ht, hv, hd, _, _⟩, _, _⟩ := h
  obtain rfl := Option.some.inj ((show Tryd.prog.globalNamed "unicode.properties" = some 0 by kernel_rfl).symm.trans hg)
  obtain rfl := Option.some.inj ((show (Tryd.prog.globals[0]?).map (·.type) = some 83 by kernel_rfl).symm.trans ht)
  obtain ⟨xs, m, _, ex, _, hl, hel⟩ := DataW.trod_array Tryd.underlying83 hd
  have c5 : Tryd.prog.cellsOf 5 = 1 := by kernel_rfl
  have hE := hel r hr
  rw [c5, Nat.mul_one, List.getElem?_eq_getElem (by omega)] at hE
  obtain ⟨z, e1, e2, _⟩ := DataW.trod_int Tryd.underlying5 hE
  have e3 : (xs.map (·.1)) = propsL := (DataW.agg.inj (Prod.mk.inj (ex.symm.trans rfl)).1)
  have e4 : (xs.map (·.1))[r]? = some (.lit (.int .u8 (propZ r))) := by rw [e3]; exact props_get r hr
  rw [List.getElem?_map, List.getElem?_eq_getElem (by omega : r < xs.length), e2] at e4
  have hz : z = propZ r := by
    simp only [Option.map_some, Option.some.injEq, DataW.lit.injEq, Lit.int.injEq, true_and] at e4
    exact e4
  rw [World.var?_cell hg hv r, ← hz]
  have : cs.toList[r]? = some (.int .u8 z) := by
    have h0 : ((cs.toList.drop r).take 1)[0]? = some (.int .u8 z) := by rw [e1]; rfl
    simpa using h0
  simpa using this
end Go.Proofs.YtlgjjoglajgbeaaDoor
