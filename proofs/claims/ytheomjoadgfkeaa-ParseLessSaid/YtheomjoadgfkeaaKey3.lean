/- Maps from three bytes to ints, that the call has made, as functions. By an AI agent. -/
import Derived.Test.YtheomjoadgfkeaaProg
import Derived.Maps.OwnSet
import Derived.Maps.OwnOps
import Derived.Maps.Views
import Derived.DeepKeys4
import Derived.MapViews
namespace Go.Proofs.Ytheomjoadgfkeaa
open Go.RowKit Go.Maps
set_option linter.unusedVariables false
set_option linter.unusedSimpArgs false
set_option maxRecDepth 100000

theorem laidOut3 : laidOutB Try.prog = true := by kernel_rfl
theorem row3 : (97 : TypeId) < Try.prog.types.size := of_decide_eq_true (by kernel_rfl)
theorem wide3 : (match Try.prog.underlying 97 with | some (.array _ _) | some (.struct _) => true | _ => false) = true := by rw [Try.underlying97]
theorem law3 : Keyed Try.prog 97 := Keyed.of_law (deep_law_laid laidOut3 (m := 2) (by omega) row3 (by kernel_rfl) wide3)
def key3 (x y z : UInt8) : Value := .agg #[.int .u8 (x.toNat : Int), .int .u8 (y.toNat : Int), .int .u8 (z.toNat : Int)]
def lit3 (x y z : UInt8) : Lit := .string (keyBytes [.int .u8 (x.toNat : Int), .int .u8 (y.toNat : Int), .int .u8 (z.toNat : Int)])
theorem key_lit (x y z : UInt8) : keyOf Try.prog 97 (key3 x y z) = some (lit3 x y z) := by
  have hx : (Lit.int .u8 (x.toNat : Int)).wf = true := by have := x.toNat_lt; simp [Lit.wf, IntKind.min, IntKind.max, IntKind.signed, IntKind.bits]; omega
  have hy : (Lit.int .u8 (y.toNat : Int)).wf = true := by have := y.toNat_lt; simp [Lit.wf, IntKind.min, IntKind.max, IntKind.signed, IntKind.bits]; omega
  have hz : (Lit.int .u8 (z.toNat : Int)).wf = true := by have := z.toNat_lt; simp [Lit.wf, IntKind.min, IntKind.max, IntKind.signed, IntKind.bits]; omega
  have hC : Try.prog.cellsOf 97 = 3 := by kernel_rfl
  have hB : Try.prog.cellsOf 5 = 1 := by kernel_rfl
  have hK : Try.prog.keyType 97 = true := by kernel_rfl
  have h8 : Try.prog.underlying 5 = some (.int .u8) := Try.underlying5
  have h1 : ∀ d n, (Lit.int .u8 n).wf = true → Try.prog.keyLits (d + 1) 5 [.int .u8 n] = some [.int .u8 n] := fun d n h => by
    unfold Program.keyLits; rw [h8]; simp [h]
  obtain ⟨d, hd⟩ : ∃ d, Try.prog.types.size + 1 = d + 2 := ⟨Try.prog.types.size - 1, by have : 1 ≤ Try.prog.types.size := of_decide_eq_true (by kernel_rfl); omega⟩
  unfold keyOf
  rw [Try.underlying97]
  simp only [hK, Bool.true_and]
  rw [if_pos (by simp [Value.formed, Try.underlying97, hC, key3]), hd]
  have e : Try.prog.keyLits (d + 2) 97 (key3 x y z).cells.toList = some [.int .u8 (x.toNat : Int), .int .u8 (y.toNat : Int), .int .u8 (z.toNat : Int)] := by
    unfold Program.keyLits; rw [Try.underlying97]
    simp [hC, hB, key3, Value.cells, List.range_succ, h1 _ _ hx, h1 _ _ hy, h1 _ _ hz]
  rw [e]
  rfl
theorem lit3_bytes (x y z : UInt8) : lit3 x y z = .string [x, y, z] := by
  have h : ∀ x : UInt8, Lit.keyBytes (.int .u8 (x.toNat : Int)) = [x] := fun x => by
    have hx := x.toNat_lt
    have e : ((x.toNat : Int) % 2 ^ (IntKind.u8).bits).toNat = x.toNat := by simp [IntKind.bits]; omega
    rw [Lit.keyBytes, e]
    simp [IntKind.bits, bytesBE, bytesLE]
  unfold lit3 keyBytes
  simp [h]
theorem lit3_inj {x y z x' y' z' : UInt8} (h : lit3 x y z = lit3 x' y' z') : (x, y, z) = (x', y', z') := by
  rw [lit3_bytes, lit3_bytes] at h
  simpa using h
theorem lit3_key (x y z : UInt8) : WideAt.IsKeyLit (lit3 x y z) := trivial

/-- block b is a map of at most n entries that answers as f -/
def Map3 (w : World) (b n : Nat) (f : UInt8 × UInt8 × UInt8 → Option Int) : Prop :=
  ∃ D : DataW Unit, w.ownsMap Try.prog 97 (plainElem Try.prog 3) b n D ∧ IsMap D ∧ ∀ k, (f k = none ∧ Maps.has D (lit3 k.1 k.2.1 k.2.2) = false) ∨ ∃ v : Int, f k = some v ∧ Maps.has D (lit3 k.1 k.2.1 k.2.2) = true ∧ ∀ d, D.atKey (lit3 k.1 k.2.1 k.2.2) d = .lit (.int .i64 v)
theorem Map3.made (w : World) : Map3 (w.alloc (.map #[] 0)) w.heap.size 0 (fun _ => none) :=
  ⟨.map [], World.ownsMap_made _ _ _ _, isMap_empty, fun k => .inl ⟨rfl, has_false_of_atKey fun z => rfl⟩⟩
theorem Map3.kept {w w' : World} {b n : Nat} {f} {row : Option Nat} (h : Map3 w b n f) (hg : w.grownBy w' row) (hne : some b ≠ row) : Map3 w' b n f := by
  obtain ⟨D, h1, h2, h3⟩ := h
  exact ⟨D, h1.kept hg hne, h2, h3⟩
theorem Map3.mono {w : World} {b n m : Nat} {f} (h : Map3 w b n f) (hm : n ≤ m) : Map3 w b m f := by
  obtain ⟨D, h1, h2, h3⟩ := h
  exact ⟨D, h1.mono hm, h2, h3⟩
theorem Map3.congr {w : World} {b n : Nat} {f g} (h : Map3 w b n f) (hfg : ∀ k, f k = g k) : Map3 w b n g := by
  have : f = g := funext hfg
  subst this; exact h
theorem zero3 (w : World) : (zeroValue 3).run Try.prog w = .ok (.int .i64 0) w := by kernel_rfl

theorem wpList_look3 {w : World} {ops : Array Oper} {rest : List Oper} {o : Oper} {a : Act} {Q : Exit → Act → World → Prop}
    (hg : o.guard = none) (m x : Operand) (hop : o.op = Op.lookup 96 m x true) (b n : Nat) (f : UInt8 × UInt8 × UInt8 → Option Int) (hm : a.eval m = .map (some b)) (hown : Map3 w b n f) (p q r : UInt8) (hx : a.eval x = key3 p q r)
    (hK : wpList Try.prog ops Q rest (a.put o.dst (.tuple #[.int .i64 ((f (p, q, r)).getD 0), .bool (f (p, q, r)).isSome])) w) : wpList Try.prog ops Q (o :: rest) a w := by
  obtain ⟨D, h1, h2, h3⟩ := hown
  refine wpList_lookup_own_ok_int (H := Unit) w hg m x 96 hop 97 3 .i64 law3 Try.underlying96 Try.underlying3 (zero3 w) b n D hm h1 _ (lit3 p q r) hx (key_lit p q r) fun c hat hwc => ?_
  rcases h3 (p, q, r) with ⟨e1, e2⟩ | ⟨v, e1, e2, e3⟩
  · rw [e2]
    rw [e1] at hK
    rw [atKey_of_not_has e2] at hat
    cases hat
    exact hK
  · rw [e2]
    rw [e1] at hK
    rw [e3] at hat
    cases hat
    exact hK
theorem wpList_look3' {w : World} {ops : Array Oper} {rest : List Oper} {o : Oper} {a : Act} {Q : Exit → Act → World → Prop}
    (hg : o.guard = none) (m x : Operand) (hop : o.op = Op.lookup 96 m x false) (b n : Nat) (f : UInt8 × UInt8 × UInt8 → Option Int) (hm : a.eval m = .map (some b)) (hown : Map3 w b n f) (p q r : UInt8) (hx : a.eval x = key3 p q r)
    (hK : wpList Try.prog ops Q rest (a.put o.dst (.int .i64 ((f (p, q, r)).getD 0))) w) : wpList Try.prog ops Q (o :: rest) a w := by
  obtain ⟨D, h1, h2, h3⟩ := hown
  refine wpList_lookup_own_int (H := Unit) w hg m x 96 hop 97 3 .i64 law3 Try.underlying96 Try.underlying3 (zero3 w) b n D hm h1 _ (lit3 p q r) hx (key_lit p q r) fun c hat hwc => ?_
  rcases h3 (p, q, r) with ⟨e1, e2⟩ | ⟨v, e1, e2, e3⟩
  · rw [e1] at hK
    rw [atKey_of_not_has e2] at hat
    cases hat
    exact hK
  · rw [e1] at hK
    rw [e3] at hat
    cases hat
    exact hK
theorem wpList_store3 {w : World} {ops : Array Oper} {rest : List Oper} {o : Oper} {a : Act} {Q : Exit → Act → World → Prop}
    (hg : o.guard = none) (m x y : Operand) (hop : o.op = Op.mapUpdate 96 m x y) (b n : Nat) (f : UInt8 × UInt8 × UInt8 → Option Int) (hm : a.eval m = .map (some b)) (hown : Map3 w b n f) (hn : n < maxLen) (p q r : UInt8) (hx : a.eval x = key3 p q r)
    (v : Int) (hv : a.eval y = .int .i64 v) (hwf : (Lit.int .i64 v).wf = true)
    (hK : ∀ w', Map3 w' b (n + 1) (fun k => if k = (p, q, r) then some v else f k) → w.grownBy w' (some b) → wpList Try.prog ops Q rest (a.put o.dst undef) w') : wpList Try.prog ops Q (o :: rest) a w := by
  obtain ⟨D, h1, h2, h3⟩ := hown
  refine wpList_mapUpdate_own (H := Unit) w hg m x y 96 hop 97 3 law3 Try.underlying96 (plainElem Try.prog 3) b n D hm h1 hn _ _ (lit3 p q r) hx hv (key_lit p q r) (.lit (.int .i64 v)) [] (plainElem_int Try.underlying3 hwf) fun w' hown' hg' => ?_
  refine hK w' ⟨D.put (lit3 p q r) (.lit (.int .i64 v)), hown', ?_, fun k => ?_⟩ hg'
  · exact h2.put _ _
  · show ((if k = (p, q, r) then some v else f k) = none ∧ _) ∨ ∃ v_1, (if k = (p, q, r) then some v else f k) = some v_1 ∧ _
    by_cases e : k = (p, q, r)
    · subst e
      refine .inr ⟨v, by simp, ?_, fun d => atKey_put_same h2 (lit3_key _ _ _) _ _⟩
      exact has_true_of_atKey (fun d => atKey_put_same h2 (lit3_key _ _ _) _ d)
    · have hne : lit3 k.1 k.2.1 k.2.2 ≠ lit3 p q r := fun h => e (lit3_inj h)
      rw [if_neg e]
      rcases h3 k with ⟨e1, e2⟩ | ⟨u, e1, e2, e3⟩
      · refine .inl ⟨e1, has_false_of_atKey fun d => ?_⟩
        rw [atKey_put_other hne]
        exact atKey_of_not_has e2 d
      · have at' : ∀ d, (D.put (lit3 p q r) (.lit (.int .i64 v))).atKey (lit3 k.1 k.2.1 k.2.2) d = .lit (.int .i64 u) := fun d => by rw [atKey_put_other hne]; exact e3 d
        exact .inr ⟨u, e1, has_true_of_atKey at', at'⟩

/-! ## m[k] op= v -/
theorem Map3.update {w : World} {b n : Nat} {f : UInt8 × UInt8 × UInt8 → Option Int} (hown : Map3 w b n f) (hn : n < maxLen) (p q r : UInt8) (v : Int) (hwf : (Lit.int .i64 v).wf = true) :
    ∃ w', (Instr.mapUpdate 96 (.map (some b)) (key3 p q r) (.int .i64 v)).run Try.prog w = .ok () w' ∧ Map3 w' b (n + 1) (fun k => if k = (p, q, r) then some v else f k) ∧ w.grownBy w' (some b) := by
  obtain ⟨D, h1, h2, h3⟩ := hown
  obtain ⟨w', hr, h1', hg'⟩ := h1.update law3 Try.underlying96 hn (key_lit p q r) (plainElem_int Try.underlying3 hwf)
  refine ⟨w', hr, ⟨D.put (lit3 p q r) (.lit (.int .i64 v)), h1', h2.put _ _, fun k => ?_⟩, hg'⟩
  show ((if k = (p, q, r) then some v else f k) = none ∧ _) ∨ ∃ v_1, (if k = (p, q, r) then some v else f k) = some v_1 ∧ _
  by_cases e : k = (p, q, r)
  · subst e
    refine .inr ⟨v, by simp, ?_, fun d => atKey_put_same h2 (lit3_key _ _ _) _ _⟩
    exact has_true_of_atKey (fun d => atKey_put_same h2 (lit3_key _ _ _) _ d)
  · have hne : lit3 k.1 k.2.1 k.2.2 ≠ lit3 p q r := fun h => e (lit3_inj h)
    rw [if_neg e]
    rcases h3 k with ⟨e1, e2⟩ | ⟨u, e1, e2, e3⟩
    · refine .inl ⟨e1, has_false_of_atKey fun d => ?_⟩
      rw [atKey_put_other hne]
      exact atKey_of_not_has e2 d
    · have at' : ∀ d, (D.put (lit3 p q r) (.lit (.int .i64 v))).atKey (lit3 k.1 k.2.1 k.2.2) d = .lit (.int .i64 u) := fun d => by rw [atKey_put_other hne]; exact e3 d
      exact .inr ⟨u, e1, has_true_of_atKey at', at'⟩
open Go.ChangeMaps (setBlock) in
theorem run_entryStore {P : Program} {T : TypeId} {W : World} {b : Nat} {es : Array MapEntry} {clock i : Nat} {st : Int} {v : Value} (hb1 : W.heap[b]? = some (.map es clock)) (hfi : es.findIdx? (fun e => (e.born : Int) == st) = some i) :
    (Instr.entryStore T (.map (some b)) (.int .i64 st) v).run P W = .ok () (setBlock W b (.map (es.modify i fun e => { e with val := v }) clock)) := by
  simp [Instr.entryStore, MapKept.run_getObj_map hb1, asInt, asIntOf, hfi, MapKept.run_setObj_map _ hb1, Result.andThen, setBlock]
open Go.ChangeMaps (setBlock) in
theorem Map3.incr {w : World} {b n : Nat} {f : UInt8 × UInt8 × UInt8 → Option Int} (hown : Map3 w b n f) (hn : n < maxLen) (p q r : UInt8) :
    ∃ (W1 : World) (v0 : Value) (st : Int), (Instr.mapEntry 96 (.map (some b)) (key3 p q r)).run Try.prog w = .ok (.tuple #[v0, .int .i64 st]) W1 ∧
      Map3 W1 b (n + 1) (fun k => if k = (p, q, r) then some ((f k).getD 0) else f k) ∧
      ∀ v : Int, (Lit.int .i64 v).wf = true → ∃ W2, (Instr.entryStore 96 (.map (some b)) (.int .i64 st) (.int .i64 v)).run Try.prog W1 = .ok () W2 ∧ Map3 W2 b (n + 1) (fun k => if k = (p, q, r) then some v else f k) ∧ w.grownBy W2 (some b) := by
  have hup := fun v hwf => hown.update hn p q r v hwf
  obtain ⟨D, ⟨es, clock, hb, F, hs, hD⟩, h2, h3⟩ := hown
  have hst := F.stamped
  rw [MapKept.stamped_iff] at hst
  obtain ⟨t1, t2, t3⟩ := hst
  have hu : Try.prog.underlying 96 = some (.map 97 3) := Try.underlying96
  rcases law3.find w (key_lit p q r) es.toList F.keys with ⟨h1, hno⟩ | ⟨j, e0, h1, hj, hk0⟩
  · -- a new key
    have hf0 : (f (p, q, r)).getD 0 = 0 := by
      rcases h3 (p, q, r) with ⟨e1, _⟩ | ⟨u, e1, e2, e3⟩
      · rw [e1]; rfl
      · exfalso
        rcases Maps.fit_look (H := Unit) false law3 hu (zero3 w) hb F (key_lit p q r) with ⟨_, _, hat⟩ | ⟨e0, y, hm, hk, _⟩
        · have h9 := e3 (.lit (.bool true))
          rw [hD, hat] at h9
          cases h9
        · exact hno e0 hm hk
    have up : ∀ v : Int, (Instr.mapUpdate 96 (.map (some b)) (key3 p q r) (.int .i64 v)).run Try.prog w = .ok () (setBlock w b (.map (es.push ⟨key3 p q r, .int .i64 v, clock⟩) (clock + 1))) := fun v => by
      simp [Instr.mapUpdate, run_underlying hu, MapKept.run_getObj_map hb, law3.check w false (key_lit p q r), h1, MapKept.run_setObj_map _ hb, Result.andThen, setBlock]
    have hb1 : (setBlock w b (.map (es.push ⟨key3 p q r, .int .i64 0, clock⟩) (clock + 1))).heap[b]? = some (.map (es.push ⟨key3 p q r, .int .i64 0, clock⟩) (clock + 1)) := Go.ChangeMaps.heap_setBlock_same hb _
    refine ⟨setBlock w b (.map (es.push ⟨key3 p q r, .int .i64 0, clock⟩) (clock + 1)), .int .i64 0, clock, ?_, ?_, fun v hwf => ?_⟩
    · simp [Instr.mapEntry, run_underlying hu, MapKept.run_getObj_map hb, law3.check w false (key_lit p q r), h1, zero3, MapKept.run_setObj_map _ hb, Result.andThen, setBlock, goInt]
    · obtain ⟨w', hr, hM, _⟩ := hup 0 (by decide)
      rw [up] at hr
      cases hr
      exact hM.congr (fun k => by
        by_cases e : k = (p, q, r)
        · subst e; rw [if_pos rfl, if_pos rfl, hf0]
        · rw [if_neg e, if_neg e])
    · obtain ⟨w', hr, hM, hg⟩ := hup v hwf
      rw [up] at hr
      cases hr
      refine ⟨_, ?_, hM, hg⟩
      have hfi : (es.push ⟨key3 p q r, .int .i64 0, clock⟩).findIdx? (fun e => (e.born : Int) == (clock : Int)) = some es.size := by
        rw [Array.findIdx?_eq_some_iff_getElem]
        refine ⟨by simp, by simp, fun j hj => ?_⟩
        have hj' : j < es.size := hj
        rw [Array.getElem_push_lt hj']
        have := t1 es[j] (by simp)
        simp only [beq_iff_eq]
        omega
      have hmod : (es.push ⟨key3 p q r, .int .i64 0, clock⟩).modify es.size (fun e => { e with val := .int .i64 v }) = es.push ⟨key3 p q r, .int .i64 v, clock⟩ := by
        apply Array.ext (by simp)
        intro i hi1 hi2
        rw [Array.getElem_modify]
        by_cases e : es.size = i
        · subst e; simp
        · have hlt : i < es.size := by simp at hi2; omega
          simp [e, Array.getElem_push_lt hlt]
      rw [run_entryStore hb1 hfi, hmod]
      simp [setBlock]
  · -- a key that is there
    have hj' : es[j]? = some e0 := by simpa using hj
    obtain ⟨hjl, hje⟩ := Array.getElem?_eq_some_iff.1 hj'
    have hm0 : e0 ∈ es.toList := List.mem_of_getElem? hj
    have hval : e0.val = .int .i64 ((f (p, q, r)).getD 0) ∧ (Lit.int .i64 ((f (p, q, r)).getD 0)).wf = true := by
      rcases Maps.fit_look (H := Unit) false law3 hu (zero3 w) hb F (key_lit p q r) with ⟨_, hne, _⟩ | ⟨e1, y, hm1, hk1, hrun, hR, hat, _⟩
      · exact absurd hk0 (hne e0 hm0)
      · have hee : e1.val = e0.val := by
          simp [Instr.lookup, run_underlying hu, MapKept.run_getObj_map hb, law3.check w _ (key_lit p q r), h1, Result.andThen] at hrun
          exact hrun.symm
        rw [hee] at hR
        obtain ⟨c, hc, hy, hwf⟩ := plainElem_int_inv Try.underlying3 hR
        rcases h3 (p, q, r) with ⟨_, e4⟩ | ⟨u, e4, e5, e6⟩
        · exfalso
          have h7 := atKey_of_not_has e4 (.lit (.bool true))
          rw [hD, hat, hy] at h7
          cases h7
        · have h8 := e6 (.lit (.bool true))
          rw [hD, hat, hy] at h8
          cases h8
          rw [e4, hc]
          exact ⟨rfl, hwf⟩
    have up : ∀ v : Value, (Instr.mapUpdate 96 (.map (some b)) (key3 p q r) v).run Try.prog w = .ok () (setBlock w b (.map (es.modify j (fun e' => { e' with key := key3 p q r, val := v })) clock)) := fun v => by
      simp [Instr.mapUpdate, run_underlying hu, MapKept.run_getObj_map hb, law3.check w false (key_lit p q r), h1, hj', hk0, law3.stays w (key_lit p q r), MapKept.run_setObj_map _ hb, Result.andThen, setBlock]
    have hme : es.modify j (fun e' => { e' with key := key3 p q r }) = es.modify j (fun e' => { e' with key := key3 p q r, val := e0.val }) := by
      apply Array.ext (by simp)
      intro i hi1 hi2
      rw [Array.getElem_modify, Array.getElem_modify]
      by_cases e : j = i
      · subst e; simp [hje]
      · simp [e]
    have hb1 : (setBlock w b (.map (es.modify j (fun e' => { e' with key := key3 p q r })) clock)).heap[b]? = some (.map (es.modify j (fun e' => { e' with key := key3 p q r })) clock) := Go.ChangeMaps.heap_setBlock_same hb _
    refine ⟨setBlock w b (.map (es.modify j (fun e' => { e' with key := key3 p q r })) clock), e0.val, e0.born, ?_, ?_, fun v hwf => ?_⟩
    · simp [Instr.mapEntry, run_underlying hu, MapKept.run_getObj_map hb, law3.check w false (key_lit p q r), h1, hj', hk0, law3.stays w (key_lit p q r), MapKept.run_setObj_map _ hb, Result.andThen, setBlock, goInt]
    · obtain ⟨w', hr, hM, _⟩ := hup _ hval.2
      rw [← hval.1, up, ← hme] at hr
      cases hr
      exact hM.congr (fun k => by
        by_cases e : k = (p, q, r)
        · subst e; rfl
        · rw [if_neg e, if_neg e])
    · obtain ⟨w', hr, hM, hg⟩ := hup v hwf
      rw [up] at hr
      cases hr
      refine ⟨_, ?_, hM, hg⟩
      have hfi : (es.modify j (fun e' => { e' with key := key3 p q r })).findIdx? (fun e => (e.born : Int) == (e0.born : Int)) = some j := by
        rw [Array.findIdx?_eq_some_iff_getElem]
        refine ⟨by simpa using hjl, by simp [Array.getElem_modify, hje], fun i hi => ?_⟩
        have hil : i < es.size := by omega
        rw [Array.getElem_modify, if_neg (by omega)]
        have hne : es[i].born ≠ e0.born := by
          have h5 := List.pairwise_iff_getElem.1 (List.pairwise_map.1 t2) i j (by simpa using hil) (by simpa using hjl) hi
          simpa [hje] using h5
        simp only [beq_iff_eq]
        omega
      have hmod : (es.modify j (fun e' => { e' with key := key3 p q r })).modify j (fun e => { e with val := .int .i64 v }) = es.modify j (fun e' => { e' with key := key3 p q r, val := .int .i64 v }) := by
        apply Array.ext (by simp)
        intro i hi1 hi2
        rw [Array.getElem_modify, Array.getElem_modify, Array.getElem_modify]
        by_cases e : j = i
        · subst e; simp
        · simp [e]
      rw [run_entryStore hb1 hfi, hmod]
      simp [setBlock]
theorem Map3.look {w : World} {b n : Nat} {f : UInt8 × UInt8 × UInt8 → Option Int} (hown : Map3 w b n f) (p q r : UInt8) :
    (Instr.lookup 96 (.map (some b)) (key3 p q r) false).run Try.prog w = .ok (.int .i64 ((f (p, q, r)).getD 0)) w := by
  obtain ⟨D, h1, h2, h3⟩ := hown
  obtain ⟨c, hr, hat, _⟩ := h1.lookup_int law3 Try.underlying96 Try.underlying3 (zero3 w) (key_lit p q r)
  rw [hr]
  rcases h3 (p, q, r) with ⟨e1, e2⟩ | ⟨v, e1, e2, e3⟩
  · rw [atKey_of_not_has e2] at hat
    cases hat
    rw [e1]; rfl
  · rw [e3] at hat
    cases hat
    rw [e1]; rfl
end Go.Proofs.Ytheomjoadgfkeaa
