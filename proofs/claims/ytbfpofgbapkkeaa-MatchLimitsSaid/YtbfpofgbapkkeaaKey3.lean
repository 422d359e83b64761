/- Maps from three bytes to ints, that the call has made, as functions. By an AI agent. -/
import Derived.Test.YtbfpofgbapkkeaaProg
import Derived.Maps.OwnSet
import Derived.Maps.OwnOps
import Derived.Maps.Views
import Derived.DeepKeys4
import Derived.MapViews
namespace Go.Proofs.Ytbfpofgbapkkeaa
open Go.RowKit Go.Maps
set_option linter.unusedVariables false
set_option linter.unusedSimpArgs false

theorem laidOut3 : laidOutB Try.prog = true := by kernel_rfl
theorem row3 : (43 : TypeId) < Try.prog.types.size := of_decide_eq_true (by kernel_rfl)
theorem wide3 : (match Try.prog.underlying 43 with | some (.array _ _) | some (.struct _) => true | _ => false) = true := by rw [Try.underlying43]
theorem law3 : Keyed Try.prog 43 := Keyed.of_law (deep_law_laid laidOut3 (m := 2) (by omega) row3 (by kernel_rfl) wide3)
def key3 (x y z : UInt8) : Value := .agg #[.int .u8 (x.toNat : Int), .int .u8 (y.toNat : Int), .int .u8 (z.toNat : Int)]
def lit3 (x y z : UInt8) : Lit := .string (keyBytes [.int .u8 (x.toNat : Int), .int .u8 (y.toNat : Int), .int .u8 (z.toNat : Int)])
theorem key_lit (x y z : UInt8) : keyOf Try.prog 43 (key3 x y z) = some (lit3 x y z) := by
  have hx : (Lit.int .u8 (x.toNat : Int)).wf = true := by have := x.toNat_lt; simp [Lit.wf, IntKind.min, IntKind.max, IntKind.signed, IntKind.bits]; omega
  have hy : (Lit.int .u8 (y.toNat : Int)).wf = true := by have := y.toNat_lt; simp [Lit.wf, IntKind.min, IntKind.max, IntKind.signed, IntKind.bits]; omega
  have hz : (Lit.int .u8 (z.toNat : Int)).wf = true := by have := z.toNat_lt; simp [Lit.wf, IntKind.min, IntKind.max, IntKind.signed, IntKind.bits]; omega
  have hC : Try.prog.cellsOf 43 = 3 := by kernel_rfl
  have hB : Try.prog.cellsOf 5 = 1 := by kernel_rfl
  have hK : Try.prog.keyType 43 = true := by kernel_rfl
  have h8 : Try.prog.underlying 5 = some (.int .u8) := Try.underlying5
  have h1 : ∀ d n, (Lit.int .u8 n).wf = true → Try.prog.keyLits (d + 1) 5 [.int .u8 n] = some [.int .u8 n] := fun d n h => by
    unfold Program.keyLits; rw [h8]; simp [h]
  obtain ⟨d, hd⟩ : ∃ d, Try.prog.types.size + 1 = d + 2 := ⟨Try.prog.types.size - 1, by have : 1 ≤ Try.prog.types.size := of_decide_eq_true (by kernel_rfl); omega⟩
  unfold keyOf
  rw [Try.underlying43]
  simp only [hK, Bool.true_and]
  rw [if_pos (by simp [Value.formed, Try.underlying43, hC, key3]), hd]
  have e : Try.prog.keyLits (d + 2) 43 (key3 x y z).cells.toList = some [.int .u8 (x.toNat : Int), .int .u8 (y.toNat : Int), .int .u8 (z.toNat : Int)] := by
    unfold Program.keyLits; rw [Try.underlying43]
    simp [hC, hB, key3, Value.cells, List.range_succ, h1 _ _ hx, h1 _ _ hy, h1 _ _ hz]
  rw [e]
  rfl
theorem lit3_bytes (x y z : UInt8) : lit3 x y z = .string [x, y, z] := by
  have h : ∀ x : UInt8, Lit.keyBytes (.int .u8 (x.toNat : Int)) = [x] := fun x => by
    have hx := x.toNat_lt
    have e : ((x.toNat : Int) % 2 ^ (IntKind.u8).bits).toNat = x.toNat := by simp [IntKind.bits]; omega
    rw [Lit.keyBytes, e]
    simp [IntKind.bits, bytesBE, bytesLE]
  unfold lit3 keyBytes
  simp [h]
theorem lit3_inj {x y z x' y' z' : UInt8} (h : lit3 x y z = lit3 x' y' z') : (x, y, z) = (x', y', z') := by
  rw [lit3_bytes, lit3_bytes] at h
  simpa using h
theorem lit3_key (x y z : UInt8) : WideAt.IsKeyLit (lit3 x y z) := trivial

/-- block b is a map of at most n entries that answers as f -/
def Map3 (w : World) (b n : Nat) (f : UInt8 × UInt8 × UInt8 → Option Int) : Prop :=
  ∃ D : DataW Unit, w.ownsMap Try.prog 43 (plainElem Try.prog 3) b n D ∧ IsMap D ∧ ∀ k, (f k = none ∧ Maps.has D (lit3 k.1 k.2.1 k.2.2) = false) ∨ ∃ v : Int, f k = some v ∧ Maps.has D (lit3 k.1 k.2.1 k.2.2) = true ∧ ∀ d, D.atKey (lit3 k.1 k.2.1 k.2.2) d = .lit (.int .i64 v)
theorem Map3.made (w : World) : Map3 (w.alloc (.map #[] 0)) w.heap.size 0 (fun _ => none) :=
  ⟨.map [], World.ownsMap_made _ _ _ _, isMap_empty, fun k => .inl ⟨rfl, has_false_of_atKey fun z => rfl⟩⟩
theorem Map3.kept {w w' : World} {b n : Nat} {f} {row : Option Nat} (h : Map3 w b n f) (hg : w.grownBy w' row) (hne : some b ≠ row) : Map3 w' b n f := by
  obtain ⟨D, h1, h2, h3⟩ := h
  exact ⟨D, h1.kept hg hne, h2, h3⟩
theorem Map3.mono {w : World} {b n m : Nat} {f} (h : Map3 w b n f) (hm : n ≤ m) : Map3 w b m f := by
  obtain ⟨D, h1, h2, h3⟩ := h
  exact ⟨D, h1.mono hm, h2, h3⟩
theorem Map3.congr {w : World} {b n : Nat} {f g} (h : Map3 w b n f) (hfg : ∀ k, f k = g k) : Map3 w b n g := by
  have : f = g := funext hfg
  subst this; exact h
theorem zero3 (w : World) : (zeroValue 3).run Try.prog w = .ok (.int .i64 0) w := by kernel_rfl

theorem wpList_look3 {w : World} {ops : Array Oper} {rest : List Oper} {o : Oper} {a : Act} {Q : Exit → Act → World → Prop}
    (hg : o.guard = none) (m x : Operand) (hop : o.op = Op.lookup 42 m x true) (b n : Nat) (f : UInt8 × UInt8 × UInt8 → Option Int) (hm : a.eval m = .map (some b)) (hown : Map3 w b n f) (p q r : UInt8) (hx : a.eval x = key3 p q r)
    (hK : wpList Try.prog ops Q rest (a.put o.dst (.tuple #[.int .i64 ((f (p, q, r)).getD 0), .bool (f (p, q, r)).isSome])) w) : wpList Try.prog ops Q (o :: rest) a w := by
  obtain ⟨D, h1, h2, h3⟩ := hown
  refine wpList_lookup_own_ok_int (H := Unit) w hg m x 42 hop 43 3 .i64 law3 Try.underlying42 Try.underlying3 (zero3 w) b n D hm h1 _ (lit3 p q r) hx (key_lit p q r) fun c hat hwc => ?_
  rcases h3 (p, q, r) with ⟨e1, e2⟩ | ⟨v, e1, e2, e3⟩
  · rw [e2]
    rw [e1] at hK
    rw [atKey_of_not_has e2] at hat
    cases hat
    exact hK
  · rw [e2]
    rw [e1] at hK
    rw [e3] at hat
    cases hat
    exact hK
theorem wpList_look3' {w : World} {ops : Array Oper} {rest : List Oper} {o : Oper} {a : Act} {Q : Exit → Act → World → Prop}
    (hg : o.guard = none) (m x : Operand) (hop : o.op = Op.lookup 42 m x false) (b n : Nat) (f : UInt8 × UInt8 × UInt8 → Option Int) (hm : a.eval m = .map (some b)) (hown : Map3 w b n f) (p q r : UInt8) (hx : a.eval x = key3 p q r)
    (hK : wpList Try.prog ops Q rest (a.put o.dst (.int .i64 ((f (p, q, r)).getD 0))) w) : wpList Try.prog ops Q (o :: rest) a w := by
  obtain ⟨D, h1, h2, h3⟩ := hown
  refine wpList_lookup_own_int (H := Unit) w hg m x 42 hop 43 3 .i64 law3 Try.underlying42 Try.underlying3 (zero3 w) b n D hm h1 _ (lit3 p q r) hx (key_lit p q r) fun c hat hwc => ?_
  rcases h3 (p, q, r) with ⟨e1, e2⟩ | ⟨v, e1, e2, e3⟩
  · rw [e1] at hK
    rw [atKey_of_not_has e2] at hat
    cases hat
    exact hK
  · rw [e1] at hK
    rw [e3] at hat
    cases hat
    exact hK
theorem wpList_store3 {w : World} {ops : Array Oper} {rest : List Oper} {o : Oper} {a : Act} {Q : Exit → Act → World → Prop}
    (hg : o.guard = none) (m x y : Operand) (hop : o.op = Op.mapUpdate 42 m x y) (b n : Nat) (f : UInt8 × UInt8 × UInt8 → Option Int) (hm : a.eval m = .map (some b)) (hown : Map3 w b n f) (hn : n < maxLen) (p q r : UInt8) (hx : a.eval x = key3 p q r)
    (v : Int) (hv : a.eval y = .int .i64 v) (hwf : (Lit.int .i64 v).wf = true)
    (hK : ∀ w', Map3 w' b (n + 1) (fun k => if k = (p, q, r) then some v else f k) → w.grownBy w' (some b) → wpList Try.prog ops Q rest (a.put o.dst undef) w') : wpList Try.prog ops Q (o :: rest) a w := by
  obtain ⟨D, h1, h2, h3⟩ := hown
  refine wpList_mapUpdate_own (H := Unit) w hg m x y 42 hop 43 3 law3 Try.underlying42 (plainElem Try.prog 3) b n D hm h1 hn _ _ (lit3 p q r) hx hv (key_lit p q r) (.lit (.int .i64 v)) [] (plainElem_int Try.underlying3 hwf) fun w' hown' hg' => ?_
  refine hK w' ⟨D.put (lit3 p q r) (.lit (.int .i64 v)), hown', ?_, fun k => ?_⟩ hg'
  · exact h2.put _ _
  · show ((if k = (p, q, r) then some v else f k) = none ∧ _) ∨ ∃ v_1, (if k = (p, q, r) then some v else f k) = some v_1 ∧ _
    by_cases e : k = (p, q, r)
    · subst e
      refine .inr ⟨v, by simp, ?_, fun d => atKey_put_same h2 (lit3_key _ _ _) _ _⟩
      exact has_true_of_atKey (fun d => atKey_put_same h2 (lit3_key _ _ _) _ d)
    · have hne : lit3 k.1 k.2.1 k.2.2 ≠ lit3 p q r := fun h => e (lit3_inj h)
      rw [if_neg e]
      rcases h3 k with ⟨e1, e2⟩ | ⟨u, e1, e2, e3⟩
      · refine .inl ⟨e1, has_false_of_atKey fun d => ?_⟩
        rw [atKey_put_other hne]
        exact atKey_of_not_has e2 d
      · have at' : ∀ d, (D.put (lit3 p q r) (.lit (.int .i64 v))).atKey (lit3 k.1 k.2.1 k.2.2) d = .lit (.int .i64 u) := fun d => by rw [atKey_put_other hne]; exact e3 d
        exact .inr ⟨u, e1, has_true_of_atKey at', at'⟩
end Go.Proofs.Ytbfpofgbapkkeaa
