/- Program-independent helpers: slices that read as lists, rows that a call owns, append from any slice. By an AI agent. Bytes and slices of structs that came in, opened (a spare place counts, too). By an AI agent. Slices of ints that read as lists. By an AI agent. Slices whose elements take several cells: read as lists; a slice that came in, opened. By an AI agent. Pictures: as plain data, how they lie in memory, opened where they come in. By an AI agent. Appends that say where the row lies; what an own row's growth leaves alone. By an AI agent. Blocks of 64 numbers: as values, compared, in rows. By an AI agent. Small words for loops over iterators. By an AI agent. Slices of blocks: own rows of them, one stored, one loaded; == of blocks. By an AI agent. -/
import Derived.WalkKit
import Derived.WalkSpells
import Derived.Lib.Hide
import Derived.Lib.Strings
import Derived.Lib.SlBytesConst
import Derived.Lib.SmallJoins
import Derived.Laws.Tables
import Derived.Laws.AppendOwnNone
import Derived.Laws.BitsAllLaws
import Derived.Laws.BitsLemmas
import Derived.Test.YtnhalnjdlkdnkaaProg
import Derived.WideShapes
import Derived.ChangeArms
import Derived.OpenShut
import Derived.SizedLaws
import Derived.Deep.SlicePairs
import Derived.Deep.Slices
import Derived.Maps.AppendAt
import Derived.Deep.MidRow
import Derived.DeepKeys
import Derived.RangeFuncNested
import Derived.RangeFuncBound
import Derived.RangeFuncCalls
import Derived.RangeFuncLeaves
import Derived.RangeFuncBox
import Derived.Deep.Onto
namespace Go.Proofs.Ytnhalnjdlkdnkaa
open Go.RowKit

/-! ## a place where the walk stops -/
def Stop (p : Prop) : Prop := p
theorem stop {p : Prop} (h : Stop p) : p := h
theorem unstop {p : Prop} (h : p) : Stop p := h

/-! ## numbers -/
theorem vi {k : IntKind} {a b : Int} (h : a = b) : Value.int k a = Value.int k b := by rw [h]
theorem ri {k : IntKind} {a b : Int} (h : a = b) : Ending.returned (.int k a) = .returned (.int k b) := by rw [h]
theorem rt2 {k k' : IntKind} {a b a' b' : Int} (h : a = a') (h' : b = b') : Ending.returned (.tuple #[.int k a, .int k' b]) = .returned (.tuple #[.int k a', .int k' b']) := by rw [h, h']
theorem rb {a b : Bool} (h : a = b) : Ending.returned (.bool a) = .returned (.bool b) := by rw [h]

theorem ofInt64 (a : Nat) (ha : a < 2 ^ 63) : (BitVec.ofInt 64 (a : Int)).toNat = a := by
  rw [BitVec.ofInt_natCast, BitVec.toNat_ofNat]; exact Nat.mod_eq_of_lt (by omega)
theorem and64 (a b : Nat) (ha : a < 2 ^ 63) (hb : b < 2 ^ 63) : bits .and .i64 (a : Int) (b : Int) = ((a &&& b : Nat) : Int) := by
  have hx : a &&& b < 2 ^ 63 := Nat.and_lt_two_pow _ (by omega)
  show IntKind.i64.wrap ((BitVec.ofInt 64 (a : Int) &&& BitVec.ofInt 64 (b : Int)).toNat : Int) = _
  rw [BitVec.toNat_and, ofInt64 a ha, ofInt64 b hb, IntKind.wrap_i64]
  omega
theorem or64 (a b : Nat) (ha : a < 2 ^ 63) (hb : b < 2 ^ 63) : bits .or .i64 (a : Int) (b : Int) = ((a ||| b : Nat) : Int) := by
  have hx : a ||| b < 2 ^ 63 := Nat.or_lt_two_pow (by omega) (by omega)
  show IntKind.i64.wrap ((BitVec.ofInt 64 (a : Int) ||| BitVec.ofInt 64 (b : Int)).toNat : Int) = _
  rw [BitVec.toNat_or, ofInt64 a ha, ofInt64 b hb, IntKind.wrap_i64]
  omega
theorem xor64 (a b : Nat) (ha : a < 2 ^ 63) (hb : b < 2 ^ 63) : bits .xor .i64 (a : Int) (b : Int) = ((a ^^^ b : Nat) : Int) := by
  have hx : a ^^^ b < 2 ^ 63 := Nat.xor_lt_two_pow (by omega) (by omega)
  show IntKind.i64.wrap ((BitVec.ofInt 64 (a : Int) ^^^ BitVec.ofInt 64 (b : Int)).toNat : Int) = _
  rw [BitVec.toNat_xor, ofInt64 a ha, ofInt64 b hb, IntKind.wrap_i64]
  omega
/-- the low bits of a number -/
theorem low64 (a k : Nat) (ha : a < 2 ^ 63) (hk : k < 63) : bits .and .i64 (a : Int) ((2 ^ k - 1 : Nat) : Int) = ((a % 2 ^ k : Nat) : Int) := by
  have h2 : 2 ^ k ≤ 2 ^ 62 := Nat.pow_le_pow_right (by decide) (by omega)
  rw [and64 a _ ha (by omega), Nat.and_two_pow_sub_one_eq_mod]
/-- a high part or a low part -/
theorem glue64 (a b k : Nat) (hb : b < 2 ^ k) (ha : a * 2 ^ k + b < 2 ^ 63) : bits .or .i64 ((a * 2 ^ k : Nat) : Int) (b : Int) = ((a * 2 ^ k + b : Nat) : Int) := by
  rw [or64 _ _ (by omega) (by omega)]
  congr 1
  rw [Nat.mul_comm, ← Nat.two_pow_add_eq_or_of_lt hb a]

theorem add_at (b off j : Nat) : (⟨b, off, none⟩ : Addr).add j = ⟨b, off + j, none⟩ := by
  unfold Addr.add
  split <;> simp_all

/-! ## slices that read as a list of cells -/
/-- The slice value v has n elements of 'size' cells each; its cells are xs. -/
def SlN (size : Nat) (w : World) (v : Value) (n : Nat) (xs : List Value) : Prop :=
  xs.length = n * size ∧ ((∃ a cap, v = .slice a n cap ∧ n = 0) ∨ ∃ b off cap, v = .slice (some ⟨b, off, none⟩) n cap ∧ n ≤ cap ∧ 0 < n ∧ ∀ i u, xs[i]? = some u → w.cell? ⟨b, off + i, none⟩ = some u)
/-- elements of one cell -/
def Sl (w : World) (v : Value) (xs : List Value) : Prop := SlN 1 w v xs.length xs

def vB (c : UInt8) : Value := .int .u8 (c.toNat : Int)
def vBs (l : List UInt8) : List Value := l.map vB
theorem vBs_length (l : List UInt8) : (vBs l).length = l.length := by simp [vBs]
theorem vBs_append (a b : List UInt8) : vBs (a ++ b) = vBs a ++ vBs b := by simp [vBs]

/-- A byte slice reads as the list. -/
def Bs (w : World) (v : Value) (l : List UInt8) : Prop := SlN 1 w v l.length (vBs l)
/-- A slice of byte slices reads as the lists. -/
def Bss (w : World) (v : Value) (ls : List (List UInt8)) : Prop := ∃ vs, SlN 1 w v ls.length vs ∧ ∀ i (h : i < ls.length), ∃ x, vs[i]? = some x ∧ Bs w x ls[i]

theorem below_drewN {B : Nat} {a w : World} (h : Below B a w) (n : Nat) : Below B a (w.drewN n) := ⟨h.os, h.tape, h.output, h.size, h.block⟩
/-- What is below the heap's size reads as before. -/
theorem cell_old {w w' : World} (hb : Below w.heap.size w w') {a : Addr} {u : Value} (h : w.cell? a = some u) : w'.cell? a = some u := by
  rw [hb.cell (World.block_lt_of_cell? w a h)]; exact h
theorem SlN.old {size : Nat} {w w' : World} {v : Value} {n : Nat} {xs : List Value} (h : SlN size w v n xs) (hb : Below w.heap.size w w') : SlN size w' v n xs := by
  refine ⟨h.1, ?_⟩
  rcases h.2 with h | ⟨b, off, cap, hv, hc, hn, hx⟩
  · exact .inl h
  · exact .inr ⟨b, off, cap, hv, hc, hn, fun i u hu => cell_old hb (hx i u hu)⟩
theorem Bs.old {w w' : World} {v : Value} {l : List UInt8} (h : Bs w v l) (hb : Below w.heap.size w w') : Bs w' v l := SlN.old h hb
theorem Bss.old {w w' : World} {v : Value} {ls : List (List UInt8)} (h : Bss w v ls) (hb : Below w.heap.size w w') : Bss w' v ls := by
  obtain ⟨vs, h1, h2⟩ := h
  exact ⟨vs, h1.old hb, fun i hi => let ⟨x, hx, hx2⟩ := h2 i hi; ⟨x, hx, hx2.old hb⟩⟩
/-- only one block of the call's own has turned -/
theorem SlN.grown {size : Nat} {w w' : World} {v : Value} {n : Nat} {xs : List Value} {row : Option Nat} (h : SlN size w v n xs) (hg : w.grownBy w' row) (hne : v.ownBlock = none ∨ v.ownBlock ≠ row) : SlN size w' v n xs := by
  refine ⟨h.1, ?_⟩
  rcases h.2 with h | ⟨b, off, cap, hv, hc, hn, hx⟩
  · exact .inl h
  · refine .inr ⟨b, off, cap, hv, hc, hn, fun i u hu => hg.cell (hx i u hu) ?_⟩
    subst hv
    simpa [Value.ownBlock] using hne

theorem Bs.shape {w : World} {v : Value} {l : List UInt8} (h : Bs w v l) :
    (∃ a cap, v = .slice a 0 cap ∧ l = []) ∨ ∃ b off cap, v = .slice (some ⟨b, off, none⟩) l.length cap ∧ l.length ≤ cap ∧ 0 < l.length ∧ ∀ i (h : i < l.length), w.cell? ⟨b, off + i, none⟩ = some (.int .u8 ((l[i].toNat : Nat) : Int)) := by
  rcases h.2 with ⟨a, cap, hv, hn⟩ | ⟨b, off, cap, hv, hc, hn, hx⟩
  · have hl : l = [] := List.eq_nil_of_length_eq_zero hn
    subst hl
    exact .inl ⟨a, cap, hv, rfl⟩
  · exact .inr ⟨b, off, cap, hv, hc, hn, fun i hi => hx i _ (by simp [vBs, vB, hi])⟩
theorem Bs.read {w : World} {v : Value} {l : List UInt8} (h : Bs w v l) :
    ∃ a cap, v = .slice a l.length cap ∧ ∀ i (h : i < l.length), ∃ b off, a = some ⟨b, off, none⟩ ∧ w.cell? ⟨b, off + i, none⟩ = some (.int .u8 ((l[i].toNat : Nat) : Int)) := by
  rcases h.shape with ⟨a, cap, rfl, rfl⟩ | ⟨b, off, cap, rfl, _, _, hx⟩
  · exact ⟨a, cap, rfl, fun i hi => absurd hi (Nat.not_lt_zero i)⟩
  · exact ⟨_, cap, rfl, fun i hi => ⟨b, off, rfl, hx i hi⟩⟩
theorem Bss.read {w : World} {v : Value} {ls : List (List UInt8)} (h : Bss w v ls) :
    ∃ a cap, v = .slice a ls.length cap ∧ ∀ i (h : i < ls.length), ∃ b off x, a = some ⟨b, off, none⟩ ∧ w.cell? ⟨b, off + i, none⟩ = some x ∧ Bs w x ls[i] := by
  obtain ⟨vs, ⟨_, h⟩, hel⟩ := h
  rcases h with ⟨a, cap, rfl, h0⟩ | ⟨b, off, cap, rfl, _, _, hx⟩
  · exact ⟨a, cap, rfl, fun i hi => absurd hi (by omega)⟩
  · exact ⟨_, cap, rfl, fun i hi => let ⟨x, h1, h2⟩ := hel i hi; ⟨b, off, x, rfl, hx i x h1, h2⟩⟩
theorem Bs.len {w : World} {v : Value} {l : List UInt8} (h : Bs w v l) : ∃ a cap, v = .slice a l.length cap := by
  rcases h.2 with ⟨a, cap, hv, _⟩ | ⟨b, off, cap, hv, _⟩
  · exact ⟨a, cap, hv⟩
  · exact ⟨_, cap, hv⟩
theorem Bs.drewN {w : World} {v : Value} {l : List UInt8} (h : Bs w v l) (q : Nat) : Bs (w.drewN q) v l := h.old (below_drewN (Below.refl _ _) q)
theorem Bs.nil (w : World) (a : Option Addr) (cap : Nat) : Bs w (.slice a 0 cap) [] := ⟨rfl, .inl ⟨a, cap, rfl, rfl⟩⟩

/-- an owned row reads as its cells -/
theorem sl_of_owns {w : World} {base : Nat} {e : TypeId} {size : Nat} {v : Value} {n : Nat} {xs : List Value} (h : w.ownsRow base e size v n xs) : SlN size w v n xs := by
  refine ⟨h.1, ?_⟩
  rcases h.2 with ⟨hv, hn⟩ | ⟨g, cap, cur, hv, _, hg, hc, _, hcs, ht⟩
  · exact .inl ⟨none, 0, by rw [hv, hn], hn⟩
  · by_cases hn : n = 0
    · exact .inl ⟨_, cap, hv, hn⟩
    · refine .inr ⟨g, 0, cap, hv, hc, by omega, fun i u hu => ?_⟩
      rw [Nat.zero_add, cell_of_row w g i cur e (0, 0) hg]
      rw [← ht, List.getElem?_take] at hu
      split at hu
      · simpa using hu
      · cases hu

/-! ## append -/
/-- What the program's tables say of a slice type t with elements e: their zero value, their cells, their bytes. -/
structure ElemTy (P : Program) (t e : TypeId) (z : Value) (size bytes : Nat) : Prop where
  ht : P.underlying t = some (.slice e)
  hi : ∃ i, P.info? e = some i ∧ i.zero = some z ∧ i.size = size ∧ i.bytes = bytes
  hz : z.cells.size = size
  pos : 0 < size

theorem elemTy {P : Program} {t e : TypeId} {z : Value} {size bytes : Nat} (ht : P.underlying t = some (.slice e)) (hi : (P.info? e).map (fun i => (i.zero, i.size, i.bytes)) = some (some z, size, bytes)) (hz : z.cells.size = size) (hp : 0 < size) : ElemTy P t e z size bytes := by
  refine ⟨ht, ?_, hz, hp⟩
  cases h : P.info? e with
  | none => simp [h] at hi
  | some i =>
    simp [h] at hi
    exact ⟨i, rfl, hi.1, hi.2.1, hi.2.2⟩

theorem run_app {P : Program} (w : World) {t e : TypeId} {z : Value} {size bytes : Nat} (T : ElemTy P t e z size bytes) (ty : TypeId) (base : Nat)
    (v : Value) (n : Nat) (xs : List Value) (hown : w.ownsRow base e size v n xs) (x : Value) (m : Nat) (news : List Value) (hx : SlN size w x m news) (h1 : ∀ u ∈ news, u.oneCell' = true)
    (hbytes : (n + m) * bytes ≤ 140737488355328) (h63 : n + m ≤ 140737488355328) (hbase : base ≤ w.heap.size) :
    ∃ v' w', (Builtin.append_ #[t, t] ty #[v, x]).run P w = .ok v' w' ∧ w'.ownsRow base e size v' (n + m) (xs ++ news) ∧ w.grownBy w' v.ownBlock ∧ (v' = .slice none 0 0 → v = .slice none 0 0 ∧ m = 0) := by
  obtain ⟨i, hi, hz, hsz, hby⟩ := T.hi
  have h63' : n + m ≤ maxLen := by unfold maxLen; omega
  rcases hx.2 with ⟨a, cap, rfl, rfl⟩ | ⟨b, off, cap, rfl, hc, hn, hcell⟩
  · have hnil : news = [] := List.eq_nil_of_length_eq_zero (by simpa using hx.1)
    subst hnil
    cases a with
    | none =>
      refine ⟨v, w, ?_, by simpa using hown, ⟨rfl, rfl, rfl, Nat.le_refl _, fun _ _ _ => rfl⟩, fun h => ⟨h, rfl⟩⟩
      rcases hown.2 with ⟨rfl, rfl⟩ | ⟨g, cap, cur, rfl, _, hg, hnc, _⟩
      · simp [Builtin.append_, run_underlying T.ht, sizeOf, typeInfo, hi, Builtin.lenOf, Builtin.firstCells]
      · simp [Builtin.append_, run_underlying T.ht, sizeOf, typeInfo, hi, Builtin.lenOf, Builtin.firstCells, hnc, storeCells]
    | some ad =>
      obtain ⟨v', w', h⟩ := run_append_own w base t ty e i z size bytes T.ht hi hz hsz hby T.hz T.pos v n xs hown ad 0 cap [] (by simp) (by simp) (by simp) h63' hbytes hbase
      exact ⟨v', w', h.1, h.2.1, h.2.2.1, h.2.2.2.1⟩
  · obtain ⟨v', w', h⟩ := run_append_own w base t ty e i z size bytes T.ht hi hz hsz hby T.hz T.pos v n xs hown ⟨b, off, none⟩ m cap news hx.1 (fun j u hu => by rw [add_at]; exact hcell j u hu) h1 h63' hbytes hbase
    exact ⟨v', w', h.1, h.2.1, h.2.2.1, h.2.2.2.1⟩

theorem wpList_app {P : Program} {w : World} {ops : Array Oper} {rest : List Oper} {o : Oper} {a : Act} {Q : Exit → Act → World → Prop} {t e : TypeId} {z : Value} {size bytes : Nat} (T : ElemTy P t e z size bytes) (hgd : o.guard = none) (s x : Operand)
    (ho : o.op = .call { callee := .builtin .append, args := #[s, x], argTypes := #[t, t] }) (base : Nat)
    (v : Value) (n : Nat) (xs : List Value) (hs : a.eval s = v) (hown : w.ownsRow base e size v n xs) (src : Value) (m : Nat) (news : List Value) (hx : a.eval x = src) (hsrc : SlN size w src m news) (h1 : ∀ u ∈ news, u.oneCell' = true)
    (hbytes : (n + m) * bytes ≤ 140737488355328) (h63 : n + m ≤ 140737488355328) (hbase : base ≤ w.heap.size)
    (h : ∀ v' w', w'.ownsRow base e size v' (n + m) (xs ++ news) → w.grownBy w' v.ownBlock → (v' = .slice none 0 0 → v = .slice none 0 0 ∧ m = 0) → wpList P ops Q rest (a.put o.dst v') w') : wpList P ops Q (o :: rest) a w := by
  refine wpList_plain hgd fun K hK => ?_
  obtain ⟨v', w', hr, h2, h3, h4⟩ := run_app (P := P) w T o.type base v n xs hown src m news hsrc h1 hbytes h63 hbase
  unfold Oper.wp execOp
  simp only [ho, resolve, invoke, builtin, Sem.run_bind, Sem.run_pure, Result.andThen_ok, List.map_toArray, List.map_cons, List.map_nil, hs, hx, hr]
  exact hK _ _ (h v' w' h2 h3 h4)

/-- a literal reads as its cells -/
theorem sl_lit (w : World) (cs : List Value) (e : TypeId) (n : Nat) (hn : cs.length = n) (hm : n ≤ 281474976710656) : SlN 1 (w.alloc (.cells cs.toArray e)) (.slice (some ⟨w.heap.size, 0, none⟩) n n) n cs := by
  have h := World.ownsRow_lit (base := 0) (e := e) (size := 1) w cs.toArray n (Nat.zero_le _) (by unfold maxLen; omega) (by simp [hn])
  exact sl_of_owns h
theorem bs_lit (w : World) (l : List UInt8) (e : TypeId) (n : Nat) (hn : l.length = n) (hm : n ≤ 281474976710656) : Bs (w.alloc (.cells (vBs l).toArray e)) (.slice (some ⟨w.heap.size, 0, none⟩) n n) l := by
  subst hn
  exact sl_lit w (vBs l) e l.length (by simp [vBs]) hm
/-- an owned row that is full is the block -/
theorem owns_full {w : World} {base : Nat} {e : TypeId} {g n : Nat} {xs : List Value} (h : w.ownsRow base e 1 (.slice (some ⟨g, 0, none⟩) n n) n xs) : w.heap[g]? = some (.cells xs.toArray e (0, 0)) := by
  rcases h.2 with ⟨h', _⟩ | ⟨g', cap', cur, h', _, hg, _, _, hcs, htake⟩
  · simp at h'
  · simp only [Value.slice.injEq, Option.some.injEq, Addr.mk.injEq, and_true, true_and] at h'
    obtain ⟨rfl, rfl⟩ := h'
    rw [hg, ← htake, Nat.mul_one, List.take_of_length_le (by rw [Array.length_toList, hcs]; omega)]
/-- a block reads as its cells -/
theorem sl_heap {w : World} {g cap n : Nat} {C : Array Value} {t : TypeId} {fr : Nat × Nat} (h : w.heap[g]? = some (.cells C t fr)) (hn : n = C.size) (hc : n ≤ cap) : SlN 1 w (.slice (some ⟨g, 0, none⟩) n cap) n C.toList := by
  subst hn
  refine ⟨by simp, ?_⟩
  by_cases h0 : C.size = 0
  · exact .inl ⟨_, _, rfl, h0⟩
  · refine .inr ⟨g, 0, cap, rfl, hc, by omega, fun i u hu => ?_⟩
    rw [Nat.zero_add, cell_of_row w g i C t fr h]
    simpa using hu
theorem bs_heap {w : World} {g cap n : Nat} {C : Array Value} {t : TypeId} {fr : Nat × Nat} (l : List UInt8) (h : w.heap[g]? = some (.cells C t fr)) (hl : C.toList = vBs l) (hn : n = l.length) (hc : n ≤ cap) : Bs w (.slice (some ⟨g, 0, none⟩) n cap) l := by
  have := sl_heap h (n := n) (cap := cap) (by rw [hn, ← vBs_length, ← hl]; simp) hc
  rw [hl, hn] at this
  rw [hn]
  exact this
theorem bss_heap {w : World} {g cap n : Nat} {C : Array Value} {t : TypeId} {fr : Nat × Nat} (ls : List (List UInt8)) (h : w.heap[g]? = some (.cells C t fr)) (hn : n = C.size) (hc : n ≤ cap) (hl : n = ls.length) (hel : ∀ i (h : i < ls.length), ∃ x, C.toList[i]? = some x ∧ Bs w x ls[i]) : Bss w (.slice (some ⟨g, 0, none⟩) n cap) ls := by
  have := sl_heap h hn hc
  rw [hl] at this ⊢
  exact ⟨_, this, hel⟩
theorem bss_one {w : World} {g : Nat} {v : Value} {t : TypeId} {fr : Nat × Nat} {l : List UInt8} (h : w.heap[g]? = some (.cells #[v] t fr)) (hb : Bs w v l) : Bss w (.slice (some ⟨g, 0, none⟩) 1 1) [l] :=
  bss_heap [l] h rfl (Nat.le_refl _) rfl fun i hi => by
    obtain rfl : i = 0 := by simp at hi; omega
    exact ⟨v, rfl, hb⟩
/-- a block that was there is there behind an alloc -/
theorem heap_old {w : World} {g : Nat} {o o' : Obj} (h : w.heap[g]? = some o) : (w.alloc o').heap[g]? = some o := by
  rw [heap_alloc_old w o' (Array.getElem?_eq_some_iff.1 h).1]; exact h
theorem heap_new1 (w : World) (o o' : Obj) : ((w.alloc o).alloc o').heap[w.heap.size + 1]? = some o' := by
  have := heap_alloc_new (w.alloc o) o'
  rw [World.size_alloc] at this
  exact this
theorem heap_new0 (w : World) (o o' : Obj) : ((w.alloc o).alloc o').heap[w.heap.size]? = some o := heap_old (heap_alloc_new w o)
theorem heap_new2 (w : World) (o o' o'' : Obj) : (((w.alloc o).alloc o').alloc o'').heap[w.heap.size + 1 + 1]? = some o'' := by
  have := heap_new1 (w.alloc o) o' o''
  rw [World.size_alloc] at this
  exact this
/-- append within the capacity: the value is known -/
theorem wpList_fit {P : Program} {w : World} {ops : Array Oper} {rest : List Oper} {o : Oper} {a : Act} {Q : Exit → Act → World → Prop} {t e : TypeId} {z : Value} {size bytes : Nat} (T : ElemTy P t e z size bytes) (hgd : o.guard = none) (s x : Operand)
    (ho : o.op = .call { callee := .builtin .append, args := #[s, x], argTypes := #[t, t] }) (base g n cap : Nat) (xs : List Value) (hs : a.eval s = .slice (some ⟨g, 0, none⟩) n cap) (hown : w.ownsRow base e size (.slice (some ⟨g, 0, none⟩) n cap) n xs)
    (src : Value) (m : Nat) (news : List Value) (hx : a.eval x = src) (hsrc : SlN size w src m news) (h1 : ∀ u ∈ news, u.oneCell' = true) (hroom : n + m ≤ cap)
    (h : ∀ w', w'.ownsRow base e size (.slice (some ⟨g, 0, none⟩) (n + m) cap) (n + m) (xs ++ news) → w.grownBy w' (some g) → wpList P ops Q rest (a.put o.dst (.slice (some ⟨g, 0, none⟩) (n + m) cap)) w') : wpList P ops Q (o :: rest) a w := by
  obtain ⟨i, hi, hz, hsz, hby⟩ := T.hi
  rcases hsrc.2 with ⟨ao, c, rfl, rfl⟩ | ⟨b, off, c, rfl, hc, hn, hcell⟩
  · have hnil : news = [] := List.eq_nil_of_length_eq_zero (by simpa using hsrc.1)
    subst hnil
    cases ao with
    | none =>
      have hc0 : ∃ c', a.eval x = .slice none 0 c' := ⟨c, hx⟩
      refine wpList_plain hgd fun K hK => ?_
      have hrun : (Builtin.append_ #[t, t] o.type #[.slice (some ⟨g, 0, none⟩) n cap, .slice none 0 c]).run P w = .ok (.slice (some ⟨g, 0, none⟩) n cap) w := by
        simp [Builtin.append_, run_underlying T.ht, sizeOf, typeInfo, hi, Builtin.lenOf, Builtin.firstCells, storeCells, show n ≤ cap by omega]
      unfold Oper.wp execOp
      simp only [ho, resolve, invoke, builtin, Sem.run_bind, Sem.run_pure, Result.andThen_ok, List.map_toArray, List.map_cons, List.map_nil, hs, hx, hrun]
      exact hK _ _ (by simpa using h w (by simpa using hown) ⟨rfl, rfl, rfl, Nat.le_refl _, fun _ _ _ => rfl⟩)
    | some ad => exact wpList_append_fits w hgd s x t ho base e i size T.ht hi hsz g n cap xs hs hown ad 0 c [] hx (by simp) (by simp) (by simp) hroom h
  · exact wpList_append_fits w hgd s x t ho base e i size T.ht hi hsz g n cap xs hs hown ⟨b, off, none⟩ m c news hx hsrc.1 (fun j u hu => by rw [add_at]; exact hcell j u hu) h1 hroom h

/-- make([]T, 0, n) -/
theorem wpList_mk0 {P : Program} {w : World} {ops : Array Oper} {rest : List Oper} {o : Oper} {a : Act} {Q : Exit → Act → World → Prop} {t e : TypeId} {z : Value} {size bytes : Nat} (T : ElemTy P t e z size bytes) (hg : o.guard = none) (l c : Operand) (hop : o.op = Op.makeSlice t l c)
    (kl kc : IntKind) (C : Int) (n : Nat) (hl : a.eval l = .int kl 0) (hc : a.eval c = .int kc C) (hC : C = (n : Int)) (b2 : bytes * n ≤ 281474976710656) (b3 : n ≤ 281474976710656)
    (hK : ∀ w', w'.ownsRow w.heap.size e size (.slice (some ⟨w.heap.size, 0, none⟩) 0 n) 0 [] → Below w.heap.size w w' → w'.heap.size = w.heap.size + 1 → wpList P ops Q rest (a.put o.dst (.slice (some ⟨w.heap.size, 0, none⟩) 0 n)) w') :
    wpList P ops Q (o :: rest) a w := by
  obtain ⟨i, hi, hz, hsz, hby⟩ := T.hi
  refine wpList_plain hg fun K hK' => ?_
  have hr := run_make (P := P) w t e i z T.ht hi hz kl kc 0 (n : Int) (Int.le_refl _) (by omega) (by rw [hby]; omega) (by omega)
  subst hC
  unfold Oper.wp
  simp only [Int.toNat_zero, Int.toNat_natCast] at hr
  simp [execOp, hop, hl, hc, hr, Result.andThen]
  refine hK' _ _ (hK _ (World.ownsRow_made w _ n (Nat.le_refl _) (by unfold maxLen; omega) ?_) ((Below.refl _ _).alloc (Nat.le_refl _) _) (by simp))
  rw [size_madeCells, hsz]

/-- a slice literal without elements -/
theorem own0 (w : World) (e : TypeId) : (w.alloc (.cells #[] e)).ownsRow w.heap.size e 1 (.slice (some ⟨w.heap.size, 0, none⟩) 0 0) 0 [] := World.ownsRow_made w #[] 0 (Nat.le_refl _) (by decide) rfl
theorem run_app_below {w w0 : World} {v : Value} {base : Nat} {e : TypeId} {size n : Nat} {xs : List Value} {w' : World} (hown : w.ownsRow base e size v n xs) (hg : w.grownBy w' v.ownBlock) (hb : Below w0.heap.size w0 w) (hbase : w0.heap.size ≤ base) : Below w0.heap.size w0 w' :=
  hb.grown hg hb.size fun k hk => Nat.le_trans hbase (hown.lt k hk).1

theorem vBs_one (l : List UInt8) : ∀ u ∈ vBs l, u.oneCell' = true := by
  intro u hu
  simp only [vBs, List.mem_map] at hu
  obtain ⟨c, _, rfl⟩ := hu
  rfl

theorem below_setRow {B : Nat} {a w : World} (h : Below B a w) {g : Nat} (hB : B ≤ g) (cs : Array Value) : Below B a (w.setRow g cs) :=
  h.trans ⟨rfl, rfl, rfl, by simp, fun k hk => setRow_other w g k cs (by omega)⟩
/-- a struct or an array literal, its cells told -/
theorem wpList_agg {P : Program} {w : World} {ops : Array Oper} {rest : List Oper} {o : Oper} {a : Act} {Q : Exit → Act → World → Prop} (hg : o.guard = none) (t : TypeId) (parts : Array (Nat × Operand)) (ho : o.op = .build t parts)
    (cells : Array Value) (vs : List (Nat × Value)) (hv : (parts.map fun (i, x) => (i, a.eval x)).toList = vs) (hb : P.built t vs = some cells)
    (h : wpList P ops Q rest (a.put o.dst (.agg cells)) w) : wpList P ops Q (o :: rest) a w := by
  subst hv
  refine wpList_build hg t parts ho (by rw [hb]; rfl) ?_
  rw [hb]
  exact h

/-! ## bytes as a string -/
theorem beq_dec {α : Type} [DecidableEq α] (a b : List α) : (a == b) = decide (a = b) := by
  rw [Bool.eq_iff_iff, beq_iff_eq, decide_eq_true_eq]
def strOf (l : List UInt8) : ByteArray := ⟨l.toArray⟩
theorem strOf_toList (l : List UInt8) : (strOf l).toList = l := by rw [Lib.toList_data]; rfl
theorem strOf_inj {a b : List UInt8} (h : strOf a = strOf b) : a = b := by
  have := congrArg (fun s : ByteArray => s.data.toList) h
  simpa [strOf] using this
theorem strOf_size (l : List UInt8) : (strOf l).size = l.length := by simp [strOf, ByteArray.size]
theorem run_str {P : Program} (w : World) (src e dst : TypeId) (hs : P.underlying src = some (.slice e)) (he : P.underlying e = some (.int .u8)) (hd : P.underlying dst = some .string) {v : Value} {l : List UInt8} (hb : Bs w v l) :
    (convert src dst v).run P w = .ok (.string (strOf l)) w := by
  rcases hb.shape with ⟨a, cap, rfl, rfl⟩ | ⟨b, off, cap, rfl, _, _, hx⟩
  · rw [run_convert_bytes_string w src dst e a 0 cap hs he hd]
    cases a with
    | none => simp [Conv.bytesToString]; rfl
    | some x =>
      rw [run_bytesToString w x 0 cap [] (by simpa using run_loadCells_list (P := P) w x [] (fun j v h => by simp at h))]
      rfl
  · have h := run_convert_bytes_arg (P := P) w src e hs he b off l.length cap (l.map fun c => ((c.toNat : Nat) : Int)) (by simp) (fun i hi => by
      rw [hx i hi]; simp [List.getD, hi]) dst hd
    rw [h]
    congr 2
    apply ByteArray.ext
    apply Array.toList_inj.1
    rw [strOfNums_data]
    simp only [strOf, List.map_map]
    conv => rhs; rw [← List.map_id l]
    apply List.map_congr_left
    intro x _
    simp

/-! ## what came in -/
def bytesOf (zs : List Int) (n : Nat) : List UInt8 := (zs.take n).map fun z => UInt8.ofNat z.toNat
theorem bs_of_ints {w : World} {x : Addr} {n cap : Nat} {zs : List Int} (hl : n ≤ cap) (hz : zs.length = cap) (hcell : ∀ i, i < zs.length → w.cell? (x.add i) = some (.int .u8 (zs.getD i 0))) (hwf : ∀ z ∈ zs, (Lit.int .u8 z).wf = true) :
    Bs w (.slice (some x) n cap) (bytesOf zs n) ∧ (bytesOf zs n).length = n := by
  have hlen : (bytesOf zs n).length = n := by simp [bytesOf]; omega
  refine ⟨⟨by simp [vBs], ?_⟩, hlen⟩
  rw [hlen]
  by_cases hn : n = 0
  · exact .inl ⟨_, _, rfl, hn⟩
  · obtain ⟨b, off, sp⟩ := x
    have hc0 := hcell 0 (by omega)
    have hsp : sp = none := by simpa [Addr.add] using World.cell?_spot hc0
    subst hsp
    refine .inr ⟨b, off, cap, rfl, hl, by omega, fun i u hu => ?_⟩
    have hi : i < n := by have := (List.getElem?_eq_some_iff.1 hu).1; simp [vBs, hlen] at this; exact this
    have hc := hcell i (by omega)
    rw [add_at] at hc
    rw [hc]
    have hg : zs.getD i 0 = zs[i]'(by omega) := by simp [List.getD_eq_getElem?_getD, List.getElem?_eq_getElem (show i < zs.length by omega)]
    rw [hg]
    have hw := hwf (zs[i]'(by omega)) (List.getElem_mem _)
    have hbd : 0 ≤ zs[i]'(by omega) ∧ zs[i]'(by omega) ≤ 255 := by simpa [Lit.wf, IntKind.min, IntKind.max, IntKind.signed, IntKind.bits] using hw
    have hu2 : u = vB (UInt8.ofNat (zs[i]'(by omega)).toNat) := by
      simp only [vBs, bytesOf, List.map_map, List.getElem?_map, List.getElem?_take, hi, if_true, List.getElem?_eq_getElem (show i < zs.length by omega), Option.map_some, Option.some.injEq] at hu
      exact hu.symm
    rw [hu2]
    simp only [vB, Option.some.injEq]
    refine vi ?_
    rw [UInt8.toNat_ofNat']
    omega
end Go.Proofs.Ytnhalnjdlkdnkaa

namespace Go.Proofs.Ytnhalnjdlkdnkaa
open Go.ChangeShapes Go.WideShapes Go.RowKit
set_option linter.unusedVariables false
set_option linter.unusedSimpArgs false

variable {H : Type} {enc : TypeId × Value → H} {w : World} {base : Nat} {spare : Nat → Bool} {held : Bool}
theorem weightsAll_mem {P : Program} {e : TypeId} : ∀ {l : List (DataW H)} {d : DataW H}, d ∈ l → ∀ n ∈ d.weights P e, n ∈ DataW.weightsAll P e l
  | x :: r, d, h, n, hn => by
    rw [DataW.weightsAll, List.mem_append]
    rcases List.mem_cons.1 h with rfl | h
    · exact .inl hn
    · exact .inr (weightsAll_mem h n hn)
/-- bytes that are read: they are few enough -/
theorem bs_of_trod {n : Nat} {v : Value} {y : DataW H × List MemPlace} (h : DataW.trod enc Try.prog w base spare held n 71 [v] = some y) (hb : ∀ k ∈ DataW.weights Try.prog 71 y.1, k ≤ reachBytes) :
    ∃ l : List UInt8, Bs w v l ∧ l.length ≤ 140737488351232 := by
  have hti : Try.prog.underlying 5 = some (.int .u8) := Try.underlying5
  have ht : Try.prog.underlying 71 = some (.slice 5) := Try.underlying71
  rcases open_ints ht hti (by kernel_rfl) h with ⟨hcs, _⟩ | ⟨x, len, c, zs, hcs, _, hl, hm, hz, hd, hcell, hwz⟩
  · simp only [List.cons.injEq, and_true] at hcs
    subst hcs
    exact ⟨[], Bs.nil _ _ _, by simp⟩
  · simp only [List.cons.injEq, and_true] at hcs
    subst hcs
    have hlz : len ≤ zs.length := by rw [hz]; split <;> omega
    have hb1 : Try.prog.bytesOf 5 = 1 := by kernel_rfl
    have h1 := hb (((zs.take len).length + (zs.drop len).length) * 1) (by rw [hd]; simp [DataW.weights, ht, hb1, lits])
    rw [List.length_take, List.length_drop] at h1
    unfold reachBytes at h1
    by_cases h0 : len = 0
    · subst h0
      exact ⟨[], Bs.nil _ _ _, by simp⟩
    · have hlen : (bytesOf zs len).length = len := by simp [bytesOf]; omega
      refine ⟨bytesOf zs len, ⟨by simp [vBs], ?_⟩, by omega⟩
      rw [hlen]
      obtain ⟨b, off, sp⟩ := x
      have hc0 := hcell 0 (by omega)
      have hsp : sp = none := by simpa [Addr.add] using World.cell?_spot hc0
      subst hsp
      refine .inr ⟨b, off, c, rfl, hl, by omega, fun i u hu => ?_⟩
      have hi : i < len := by have := (List.getElem?_eq_some_iff.1 hu).1; simp [vBs, hlen] at this; exact this
      have hc := hcell i (by omega)
      rw [add_at] at hc
      rw [hc]
      have hg : zs.getD i 0 = zs[i]'(by omega) := by simp [List.getD_eq_getElem?_getD, List.getElem?_eq_getElem (show i < zs.length by omega)]
      rw [hg]
      have hw := hwz (zs[i]'(by omega)) (List.getElem_mem _)
      have hbd : 0 ≤ zs[i]'(by omega) ∧ zs[i]'(by omega) ≤ 255 := by simpa [Lit.wf, IntKind.min, IntKind.max, IntKind.signed, IntKind.bits] using hw
      have hu2 : u = vB (UInt8.ofNat (zs[i]'(by omega)).toNat) := by
        simp only [vBs, bytesOf, List.map_map, List.getElem?_map, List.getElem?_take, hi, if_true, List.getElem?_eq_getElem (show i < zs.length by omega), Option.map_some, Option.some.injEq] at hu
        exact hu.symm
      rw [hu2]
      simp only [vB, Option.some.injEq]
      refine vi ?_
      rw [UInt8.toNat_ofNat']
      omega
end Go.Proofs.Ytnhalnjdlkdnkaa

namespace Go.Proofs.Ytnhalnjdlkdnkaa
open Go.RowKit

def vI (n : Int) : Value := .int .i64 n
def vIs (l : List Int) : List Value := l.map vI
theorem vIs_length (l : List Int) : (vIs l).length = l.length := by simp [vIs]
theorem vIs_append (a b : List Int) : vIs (a ++ b) = vIs a ++ vIs b := by simp [vIs]
theorem vIs_one (l : List Int) : ∀ u ∈ vIs l, u.oneCell' = true := by
  intro u hu
  simp only [vIs, List.mem_map] at hu
  obtain ⟨c, _, rfl⟩ := hu
  rfl
/-- A slice of ints reads as the list. -/
def Ns (w : World) (v : Value) (l : List Int) : Prop := SlN 1 w v l.length (vIs l)
theorem Ns.old {w w' : World} {v : Value} {l : List Int} (h : Ns w v l) (hb : Below w.heap.size w w') : Ns w' v l := SlN.old h hb
theorem Ns.drewN {w : World} {v : Value} {l : List Int} (h : Ns w v l) (q : Nat) : Ns (w.drewN q) v l := h.old (below_drewN (Below.refl _ _) q)
theorem Ns.nil (w : World) (a : Option Addr) (cap : Nat) : Ns w (.slice a 0 cap) [] := ⟨rfl, .inl ⟨a, cap, rfl, rfl⟩⟩
theorem Ns.read {w : World} {v : Value} {l : List Int} (h : Ns w v l) :
    ∃ a cap, v = .slice a l.length cap ∧ ∀ i (h : i < l.length), ∃ b off, a = some ⟨b, off, none⟩ ∧ w.cell? ⟨b, off + i, none⟩ = some (.int .i64 l[i]) := by
  rcases h.2 with ⟨a, cap, hv, hn⟩ | ⟨b, off, cap, hv, hc, hn, hx⟩
  · have hl : l = [] := List.eq_nil_of_length_eq_zero hn
    subst hl
    exact ⟨a, cap, hv, fun i hi => absurd hi (Nat.not_lt_zero i)⟩
  · exact ⟨_, cap, hv, fun i hi => ⟨b, off, rfl, hx i _ (by simp [vIs, vI, hi])⟩⟩
theorem Ns.len {w : World} {v : Value} {l : List Int} (h : Ns w v l) : ∃ a cap, v = .slice a l.length cap := by
  obtain ⟨a, cap, hv, _⟩ := h.read
  exact ⟨a, cap, hv⟩
theorem ns_heap {w : World} {g cap n : Nat} {C : Array Value} {t : TypeId} {fr : Nat × Nat} (l : List Int) (h : w.heap[g]? = some (.cells C t fr)) (hl : C.toList = vIs l) (hn : n = l.length) (hc : n ≤ cap) : Ns w (.slice (some ⟨g, 0, none⟩) n cap) l := by
  have := sl_heap h (n := n) (cap := cap) (by rw [hn, ← vIs_length, ← hl]; simp) hc
  rw [hl, hn] at this
  rw [hn]
  exact this
end Go.Proofs.Ytnhalnjdlkdnkaa

namespace Go.Proofs.Ytnhalnjdlkdnkaa
open Go.ChangeShapes Go.WideShapes Go.RowKit
set_option linter.unusedVariables false
set_option linter.unusedSimpArgs false

/-- A slice reads as a list: each element's cells stand for its item. -/
def Els {α : Type} (size : Nat) (Φ : World → List Value → α → Prop) (w : World) (v : Value) (qs : List α) : Prop :=
  ∃ a cap, v = .slice a qs.length cap ∧ qs.length ≤ cap ∧ ∀ i (h : i < qs.length), ∃ b off cs, a = some ⟨b, off, none⟩ ∧ cs.length = size ∧ (∀ j u, cs[j]? = some u → w.cell? ⟨b, off + i * size + j, none⟩ = some u) ∧ Φ w cs qs[i]
theorem Els.old {α : Type} {size : Nat} {Φ : World → List Value → α → Prop} {w w' : World} {v : Value} {qs : List α} (h : Els size Φ w v qs) (hb : Below w.heap.size w w') (hΦ : ∀ cs q, Φ w cs q → Φ w' cs q) : Els size Φ w' v qs := by
  obtain ⟨a, cap, hv, hc, hx⟩ := h
  exact ⟨a, cap, hv, hc, fun i hi => let ⟨b, off, cs, ha, h1, h2, h3⟩ := hx i hi; ⟨b, off, cs, ha, h1, fun j u hj => cell_old hb (h2 j u hj), hΦ _ _ h3⟩⟩
theorem Els.nil {α : Type} (size : Nat) (Φ : World → List Value → α → Prop) (w : World) (a : Option Addr) (cap : Nat) : Els size Φ w (.slice a 0 cap) [] :=
  ⟨a, cap, rfl, Nat.zero_le _, fun i h => absurd h (Nat.not_lt_zero i)⟩
theorem Els.len {α : Type} {size : Nat} {Φ : World → List Value → α → Prop} {w : World} {v : Value} {qs : List α} (h : Els size Φ w v qs) : ∃ a cap, v = .slice a qs.length cap ∧ qs.length ≤ cap := by
  obtain ⟨a, cap, hv, hc, _⟩ := h
  exact ⟨a, cap, hv, hc⟩

variable {H : Type} {enc : TypeId × Value → H} {P : Program} {w : World} {base : Nat} {spare : Nat → Bool} {held : Bool}
theorem open_els {α : Type} [Inhabited α] {t e : TypeId} {fuel : Nat} {v : Value} {x : DataW H × List MemPlace} {size : Nat} {Φ : World → List Value → α → Prop} (ht : P.underlying t = some (.slice e)) (ce : P.cellsOf e = size) (pos : 0 < size) (by1 : 1 ≤ P.bytesOf e)
    (h : DataW.trod enc P w base spare held fuel t [v] = some x) (hb : ∀ k ∈ DataW.weights P t x.1, k ≤ reachBytes)
    (hel : ∀ cs n y, cs.length = size → DataW.trod enc P w base spare held n e cs = some y → (∀ k ∈ DataW.weights P e y.1, k ≤ reachBytes) → ∃ q : α, Φ w cs q) :
    ∃ qs : List α, Els size Φ w v qs ∧ qs.length ≤ 140737488351232 := by
  rcases Go.Deep.open_slice ht h with ⟨hcs, _⟩ | ⟨a, len, cap, m, n, D, Pl, hcs, _, hl, hm, hmm, hx, hi⟩
  · simp only [List.cons.injEq, and_true] at hcs
    subst hcs
    exact ⟨[], Els.nil _ _ _ _ _, by simp⟩
  · simp only [List.cons.injEq, and_true] at hcs
    subst hcs
    have hlm : len ≤ m := by rw [hmm]; split <;> omega
    have hd : x.1 = .slice ((List.range len).map D) ((List.range (m - len)).map fun j => D (len + j)) := by rw [hx]
    have h1 := hb (((List.range len).map D).length + ((List.range (m - len)).map fun j => D (len + j)).length |> (· * P.bytesOf e)) (by
      rw [hd]; simp [DataW.weights, ht])
    simp only [List.length_map, List.length_range, reachBytes] at h1
    have h2 : len * 1 ≤ (len + (m - len)) * P.bytesOf e := Nat.mul_le_mul (by omega) by1
    have key : ∀ i, i < len → ∃ q : List Value × α, q.1.length = size ∧ (∀ j, j < size → w.cell? ((a.add (i * size)).add j) = q.1[j]?) ∧ Φ w q.1 q.2 := by
      intro i hil
      obtain ⟨cs, g1, g2⟩ := hi i (by omega)
      rw [ce] at g1
      obtain ⟨_, g3, g4⟩ := World.cells?_some g1
      obtain ⟨q, hq⟩ := hel cs n _ g3 g2 (fun k hk => hb k (by
        rw [hd]
        simp only [DataW.weights, ht]
        exact List.mem_cons_of_mem _ (List.mem_append_left _ (weightsAll_mem (List.mem_map.2 ⟨i, List.mem_range.2 hil, rfl⟩) _ hk))))
      exact ⟨(cs, q), g3, g4, hq⟩
    obtain ⟨q, hq⟩ := Go.Deep.choose_lt key
    refine ⟨(List.range len).map fun i => (q i).2, ⟨some a, cap, by simp, by simpa using hl, fun i hi => ?_⟩, by simp; omega⟩
    have hil : i < len := by simpa using hi
    obtain ⟨g1, g2, g3⟩ := hq i hil
    obtain ⟨b, off, sp⟩ := a
    have hsp : sp = none := by
      obtain ⟨g1', g2', _⟩ := hq 0 (by omega)
      obtain ⟨u, hu⟩ : ∃ u, (q 0).1[0]? = some u := ⟨_, List.getElem?_eq_getElem (by omega)⟩
      have := World.cell?_spot ((g2' 0 (by omega)).trans hu)
      simpa [Addr.add] using this
    subst hsp
    refine ⟨b, off, (q i).1, rfl, g1, fun j u hj => ?_, by simpa using g3⟩
    have hjs : j < size := by have := (List.getElem?_eq_some_iff.1 hj).1; omega
    have := g2 j hjs
    rw [add_at, add_at] at this
    rw [this, hj]
end Go.Proofs.Ytnhalnjdlkdnkaa

namespace Go.Proofs.Ytnhalnjdlkdnkaa
open Go.ChangeShapes Go.WideShapes Go.RowKit
set_option linter.unusedVariables false
set_option linter.unusedSimpArgs false

def R64 (z : Int) : Prop := -9223372036854775808 ≤ z ∧ z ≤ 9223372036854775807
structure PartL where
  id : Int
  h : Int
  v : Int
  tq : Int
  wide : Int
  high : Int
  bs : List (List Int)
structure PicL where
  w : Int
  h : Int
  q0 : List Int
  q1 : List Int
  q2 : List Int
  q3 : List Int
  parts : List PartL
  restart : Int
  kept : List (Int × List UInt8)
instance : Inhabited PartL := ⟨⟨0, 0, 0, 0, 0, 0, []⟩⟩
def vPart (p : PartL) (x : Value) : List Value := [.int .i64 p.id, .int .i64 p.h, .int .i64 p.v, .int .i64 p.tq, .int .i64 p.wide, .int .i64 p.high, x]
/-- a block's cells -/
def BlkC (_ : World) (cs : List Value) (b : List Int) : Prop := cs = vIs b ∧ b.length = 64 ∧ ∀ z ∈ b, R64 z
def Bks (w : World) (v : Value) (bs : List (List Int)) : Prop := Els 64 BlkC w v bs
structure PartB (p : PartL) : Prop where
  id : R64 p.id
  h : R64 p.h
  v : R64 p.v
  tq : R64 p.tq
  wide : R64 p.wide
  high : R64 p.high
  bs : p.bs.length ≤ 140737488351232
/-- a part's cells -/
def PartC (w : World) (cs : List Value) (p : PartL) : Prop := ∃ x, cs = vPart p x ∧ PartB p ∧ Bks w x p.bs
def Pts (w : World) (v : Value) (ps : List PartL) : Prop := Els 7 PartC w v ps
/-- a segment's cells -/
def SegC (w : World) (cs : List Value) (s : Int × List UInt8) : Prop := ∃ x, cs = [.int .i64 s.1, x] ∧ R64 s.1 ∧ s.2.length ≤ 140737488351232 ∧ Bs w x s.2
def Sgs (w : World) (v : Value) (ks : List (Int × List UInt8)) : Prop := Els 2 SegC w v ks
def vPic (P : PicL) (q0 q1 q2 q3 pv kv : Value) : Array Value := #[.int .i64 P.w, .int .i64 P.h, q0, q1, q2, q3, pv, .int .i64 P.restart, kv]
/-- a picture's cells -/
structure PicC (w : World) (P : PicL) (q0 q1 q2 q3 pv kv : Value) : Prop where
  q0 : Ns w q0 P.q0
  q1 : Ns w q1 P.q1
  q2 : Ns w q2 P.q2
  q3 : Ns w q3 P.q3
  parts : Pts w pv P.parts
  kept : Sgs w kv P.kept
structure PicB (P : PicL) : Prop where
  w : R64 P.w
  h : R64 P.h
  restart : R64 P.restart
  q0 : P.q0.length ≤ 140737488351232
  q1 : P.q1.length ≤ 140737488351232
  q2 : P.q2.length ≤ 140737488351232
  q3 : P.q3.length ≤ 140737488351232
  parts : P.parts.length ≤ 140737488351232
  kept : P.kept.length ≤ 140737488351232
theorem Bks.old {w w' : World} {v : Value} {bs : List (List Int)} (h : Bks w v bs) (hb : Below w.heap.size w w') : Bks w' v bs := Els.old h hb (fun _ _ h => h)
theorem PartC.old {w w' : World} {cs : List Value} {p : PartL} (hb : Below w.heap.size w w') (h : PartC w cs p) : PartC w' cs p := by
  obtain ⟨x, h1, h2, h3⟩ := h
  exact ⟨x, h1, h2, h3.old hb⟩
theorem Pts.old {w w' : World} {v : Value} {ps : List PartL} (h : Pts w v ps) (hb : Below w.heap.size w w') : Pts w' v ps := Els.old h hb (fun _ _ h => PartC.old hb h)
theorem Sgs.old {w w' : World} {v : Value} {ks : List (Int × List UInt8)} (h : Sgs w v ks) (hb : Below w.heap.size w w') : Sgs w' v ks := Els.old h hb (fun _ _ ⟨x, h1, h2, h3, h4⟩ => ⟨x, h1, h2, h3, h4.old hb⟩)
theorem PicC.old {w w' : World} {P : PicL} {q0 q1 q2 q3 pv kv : Value} (h : PicC w P q0 q1 q2 q3 pv kv) (hb : Below w.heap.size w w') : PicC w' P q0 q1 q2 q3 pv kv :=
  ⟨h.q0.old hb, h.q1.old hb, h.q2.old hb, h.q3.old hb, h.parts.old hb, h.kept.old hb⟩

/-! ## opened -/
variable {H : Type} {enc : TypeId × Value → H} {w : World} {base : Nat} {spare : Nat → Bool} {held : Bool}
theorem nums_of_trod {n : Nat} {v : Value} {y : DataW H × List MemPlace} (h : DataW.trod enc Try.prog w base spare held n 31 [v] = some y) (hb : ∀ k ∈ DataW.weights Try.prog 31 y.1, k ≤ reachBytes) :
    ∃ l : List Int, Ns w v l ∧ l.length ≤ 140737488351232 ∧ ∀ z ∈ l, R64 z := by
  have hti : Try.prog.underlying 3 = some (.int .i64) := Try.underlying3
  have ht : Try.prog.underlying 31 = some (.slice 3) := Try.underlying31
  rcases open_ints ht hti (by kernel_rfl) h with ⟨hcs, _⟩ | ⟨x, len, c, zs, hcs, _, hl, hm, hz, hd, hcell, hwz⟩
  · simp only [List.cons.injEq, and_true] at hcs
    subst hcs
    exact ⟨[], Ns.nil _ _ _, by simp, by simp⟩
  · simp only [List.cons.injEq, and_true] at hcs
    subst hcs
    have hlz : len ≤ zs.length := by rw [hz]; split <;> omega
    have hb8 : Try.prog.bytesOf 3 = 8 := by kernel_rfl
    have h8 := hb (((zs.take len).length + (zs.drop len).length) * 8) (by rw [hd]; simp [DataW.weights, ht, hb8, lits])
    rw [List.length_take, List.length_drop] at h8
    unfold reachBytes at h8
    have hlen : (zs.take len).length = len := by rw [List.length_take]; omega
    refine ⟨zs.take len, ⟨by rw [vIs_length]; omega, ?_⟩, by omega, fun z hz => by
      have := hwz z (List.mem_of_mem_take hz)
      unfold R64
      simpa [Lit.wf, IntKind.min, IntKind.max, IntKind.signed, IntKind.bits] using this⟩
    rw [hlen]
    by_cases hn : len = 0
    · exact .inl ⟨_, _, rfl, hn⟩
    · obtain ⟨b, off, sp⟩ := x
      have hc0 := hcell 0 (by omega)
      have hsp : sp = none := by simpa [Addr.add] using World.cell?_spot hc0
      subst hsp
      refine .inr ⟨b, off, c, rfl, hl, by omega, fun i u hu => ?_⟩
      have hi : i < len := by have := (List.getElem?_eq_some_iff.1 hu).1; rw [vIs_length] at this; omega
      have hc := hcell i (by omega)
      rw [add_at] at hc
      rw [hc]
      have e : u = .int .i64 (zs.getD i 0) := by
        simp only [vIs, vI, List.getElem?_map, List.getElem?_take, hi, if_true, List.getElem?_eq_getElem (show i < zs.length by omega), Option.map_some, Option.some.injEq] at hu
        rw [← hu, List.getD_eq_getElem?_getD, List.getElem?_eq_getElem (show i < zs.length by omega)]
        rfl
      rw [e]
theorem num_of_trod {n : Nat} {v : Value} {y : DataW H × List MemPlace} (h : DataW.trod enc Try.prog w base spare held n 3 [v] = some y) : ∃ z : Int, v = .int .i64 z ∧ R64 z := by
  obtain ⟨z, hz, _, hwf⟩ := DataW.trod_int Try.underlying3 h
  simp only [List.cons.injEq, and_true] at hz
  exact ⟨z, hz, by unfold R64; simpa [Lit.wf, IntKind.min, IntKind.max, IntKind.signed, IntKind.bits] using hwf⟩
theorem block_of_trod {n : Nat} {cs : List Value} {y : DataW H × List MemPlace} (hl : cs.length = 64) (h : DataW.trod enc Try.prog w base spare held n 23 cs = some y) : ∃ b, BlkC w cs b := by
  have hI : Try.prog.cellsOf 3 = 1 := by kernel_rfl
  obtain ⟨xs, m, _, _, _, hxl, ha⟩ := DataW.trod_array Try.underlying23 h
  have key : ∀ i, i < 64 → ∃ z : Int, cs[i]? = some (.int .i64 z) ∧ R64 z := by
    intro i hi
    have h4 := ha i hi
    rw [hI, Nat.mul_one, List.getElem?_eq_getElem (by omega), List.drop_eq_getElem_cons (by omega)] at h4
    simp only [List.take_succ_cons, List.take_zero] at h4
    obtain ⟨z, hz, hr⟩ := num_of_trod h4
    exact ⟨z, by rw [List.getElem?_eq_getElem (by omega), hz], hr⟩
  obtain ⟨f, hf⟩ := Go.Deep.choose_lt key
  refine ⟨(List.range 64).map f, ?_, by simp, fun z hz => ?_⟩
  · apply List.ext_getElem?
    intro i
    by_cases hi : i < 64
    · rw [(hf i hi).1]; simp [vIs, vI, hi]
    · rw [List.getElem?_eq_none (by omega), List.getElem?_eq_none (by simp [vIs]; omega)]
  · obtain ⟨i, hi, rfl⟩ := List.mem_map.1 hz
    exact (hf i (List.mem_range.1 hi)).2
theorem blocks_of_trod {n : Nat} {v : Value} {y : DataW H × List MemPlace} (h : DataW.trod enc Try.prog w base spare held n 68 [v] = some y) (hb : ∀ k ∈ DataW.weights Try.prog 68 y.1, k ≤ reachBytes) :
    ∃ bs, Bks w v bs ∧ bs.length ≤ 140737488351232 :=
  open_els Try.underlying68 (by kernel_rfl) (by decide) (of_decide_eq_true (by kernel_rfl)) h hb (fun cs n y hl h _ => block_of_trod hl h)
theorem one {α : Type} {l : List α} {n : Nat} (h : l.length = n + 1) : ∃ x t, l = x :: t ∧ t.length = n := by
  cases l with
  | nil => simp at h
  | cons x t => exact ⟨x, t, rfl, by simpa using h⟩
theorem list7 {α : Type} {l : List α} (h : l.length = 7) : ∃ a b c d e f g, l = [a, b, c, d, e, f, g] := by
  obtain ⟨a, l0, rfl, h0⟩ := one h
  obtain ⟨b, l1, rfl, h1⟩ := one h0
  obtain ⟨c, l2, rfl, h2⟩ := one h1
  obtain ⟨d, l3, rfl, h3⟩ := one h2
  obtain ⟨e, l4, rfl, h4⟩ := one h3
  obtain ⟨f, l5, rfl, h5⟩ := one h4
  obtain ⟨g, l6, rfl, h6⟩ := one h5
  obtain rfl := List.eq_nil_of_length_eq_zero h6
  exact ⟨a, b, c, d, e, f, g, rfl⟩
set_option maxRecDepth 20000 in
theorem part_of_trod {n : Nat} {cs : List Value} {y : DataW H × List MemPlace} (hl : cs.length = 7) (h : DataW.trod enc Try.prog w base spare held n 70 cs = some y) (hb : ∀ k ∈ DataW.weights Try.prog 70 y.1, k ≤ reachBytes) : ∃ p, PartC w cs p := by
  have hI : Try.prog.cellsOf 3 = 1 := by kernel_rfl
  have hS : Try.prog.cellsOf 68 = 1 := by kernel_rfl
  obtain ⟨c0, c1, c2, c3, c4, c5, c6, rfl⟩ := list7 hl
  obtain ⟨ys, m, _, hy, _, hyl, hg⟩ := DataW.trod_struct Try.underlying70 h
  have hyl7 : ys.length = 7 := hyl
  obtain ⟨y0, y1, y2, y3, y4, y5, y6, rfl⟩ := list7 hyl7
  have g0 : DataW.trod enc Try.prog w base spare held m 3 (([c0, c1, c2, c3, c4, c5, c6].drop 0).take (Try.prog.cellsOf 3)) = some y0 := hg 0 _ rfl
  have g1 : DataW.trod enc Try.prog w base spare held m 3 (([c0, c1, c2, c3, c4, c5, c6].drop 1).take (Try.prog.cellsOf 3)) = some y1 := hg 1 _ rfl
  have g2 : DataW.trod enc Try.prog w base spare held m 3 (([c0, c1, c2, c3, c4, c5, c6].drop 2).take (Try.prog.cellsOf 3)) = some y2 := hg 2 _ rfl
  have g3 : DataW.trod enc Try.prog w base spare held m 3 (([c0, c1, c2, c3, c4, c5, c6].drop 3).take (Try.prog.cellsOf 3)) = some y3 := hg 3 _ rfl
  have g4 : DataW.trod enc Try.prog w base spare held m 3 (([c0, c1, c2, c3, c4, c5, c6].drop 4).take (Try.prog.cellsOf 3)) = some y4 := hg 4 _ rfl
  have g5 : DataW.trod enc Try.prog w base spare held m 3 (([c0, c1, c2, c3, c4, c5, c6].drop 5).take (Try.prog.cellsOf 3)) = some y5 := hg 5 _ rfl
  have g6 : DataW.trod enc Try.prog w base spare held m 68 (([c0, c1, c2, c3, c4, c5, c6].drop 6).take (Try.prog.cellsOf 68)) = some y6 := hg 6 _ rfl
  rw [hI] at g0 g1 g2 g3 g4 g5
  rw [hS] at g6
  obtain ⟨z0, rfl, r0⟩ := num_of_trod g0
  obtain ⟨z1, rfl, r1⟩ := num_of_trod g1
  obtain ⟨z2, rfl, r2⟩ := num_of_trod g2
  obtain ⟨z3, rfl, r3⟩ := num_of_trod g3
  obtain ⟨z4, rfl, r4⟩ := num_of_trod g4
  obtain ⟨z5, rfl, r5⟩ := num_of_trod g5
  obtain ⟨bs, hbs, hbl⟩ := blocks_of_trod g6 (fun k hk => hb k (by
    rw [hy]
    simp only [DataW.weights, Try.underlying70]
    exact DataW.weights_mem_each (j := 6) (t := 68) (d := y6.1) rfl rfl k hk))
  exact ⟨⟨z0, z1, z2, z3, z4, z5, bs⟩, c6, rfl, ⟨r0, r1, r2, r3, r4, r5, hbl⟩, hbs⟩
theorem seg_of_trod {n : Nat} {cs : List Value} {y : DataW H × List MemPlace} (hl : cs.length = 2) (h : DataW.trod enc Try.prog w base spare held n 73 cs = some y) (hb : ∀ k ∈ DataW.weights Try.prog 73 y.1, k ≤ reachBytes) : ∃ s, SegC w cs s := by
  have hI : Try.prog.cellsOf 3 = 1 := by kernel_rfl
  have hS : Try.prog.cellsOf 71 = 1 := by kernel_rfl
  obtain ⟨c0, l0, rfl, e1⟩ := one hl
  obtain ⟨c1, l1, rfl, e2⟩ := one e1
  obtain rfl := List.eq_nil_of_length_eq_zero e2
  obtain ⟨ys, m, _, hy, _, hyl, hg⟩ := DataW.trod_struct Try.underlying73 h
  have hyl2 : ys.length = 2 := hyl
  obtain ⟨y0, l2, rfl, e3⟩ := one hyl2
  obtain ⟨y1, l3, rfl, e4⟩ := one e3
  obtain rfl := List.eq_nil_of_length_eq_zero e4
  have g0 : DataW.trod enc Try.prog w base spare held m 3 (([c0, c1].drop 0).take (Try.prog.cellsOf 3)) = some y0 := hg 0 _ rfl
  have g1 : DataW.trod enc Try.prog w base spare held m 71 (([c0, c1].drop 1).take (Try.prog.cellsOf 71)) = some y1 := hg 1 _ rfl
  rw [hI] at g0
  rw [hS] at g1
  obtain ⟨z0, rfl, r0⟩ := num_of_trod g0
  obtain ⟨d, hd, hdl⟩ := bs_of_trod g1 (fun k hk => hb k (by
    rw [hy]
    simp only [DataW.weights, Try.underlying73]
    exact DataW.weights_mem_each (j := 1) (t := 71) (d := y1.1) rfl rfl k hk))
  exact ⟨(z0, d), c1, rfl, r0, hdl, hd⟩
theorem parts_of_trod {n : Nat} {v : Value} {y : DataW H × List MemPlace} (h : DataW.trod enc Try.prog w base spare held n 33 [v] = some y) (hb : ∀ k ∈ DataW.weights Try.prog 33 y.1, k ≤ reachBytes) :
    ∃ ps, Pts w v ps ∧ ps.length ≤ 140737488351232 :=
  open_els Try.underlying33 (by kernel_rfl) (by decide) (of_decide_eq_true (by kernel_rfl)) h hb (fun cs n y hl h hb => part_of_trod hl h hb)
theorem segs_of_trod {n : Nat} {v : Value} {y : DataW H × List MemPlace} (h : DataW.trod enc Try.prog w base spare held n 34 [v] = some y) (hb : ∀ k ∈ DataW.weights Try.prog 34 y.1, k ≤ reachBytes) :
    ∃ ks, Sgs w v ks ∧ ks.length ≤ 140737488351232 :=
  open_els Try.underlying34 (by kernel_rfl) (by decide) (of_decide_eq_true (by kernel_rfl)) h hb (fun cs n y hl h hb => seg_of_trod hl h hb)
theorem list9 {α : Type} {l : List α} (h : l.length = 9) : ∃ a b c d e f g i j, l = [a, b, c, d, e, f, g, i, j] := by
  obtain ⟨a, l0, rfl, h0⟩ := one h
  obtain ⟨b, l1, rfl, h1⟩ := one h0
  obtain ⟨c, d, e, f, g, i, j, rfl⟩ := list7 h1
  exact ⟨a, b, c, d, e, f, g, i, j, rfl⟩
theorem list4 {α : Type} {l : List α} (h : l.length = 4) : ∃ a b c d, l = [a, b, c, d] := by
  obtain ⟨a, l0, rfl, h0⟩ := one h
  obtain ⟨b, l1, rfl, h1⟩ := one h0
  obtain ⟨c, l2, rfl, h2⟩ := one h1
  obtain ⟨d, l3, rfl, h3⟩ := one h2
  obtain rfl := List.eq_nil_of_length_eq_zero h3
  exact ⟨a, b, c, d, rfl⟩
set_option maxRecDepth 20000 in
theorem pic_of_trod {n : Nat} {cs : List Value} {y : DataW H × List MemPlace} (hl : cs.length = 9) (h : DataW.trod enc Try.prog w base spare held n 36 cs = some y) (hb : ∀ k ∈ DataW.weights Try.prog 36 y.1, k ≤ reachBytes) :
    ∃ P q0 q1 q2 q3 pv kv, cs = (vPic P q0 q1 q2 q3 pv kv).toList ∧ PicC w P q0 q1 q2 q3 pv kv ∧ PicB P := by
  have hI : Try.prog.cellsOf 3 = 1 := by kernel_rfl
  have hP : Try.prog.cellsOf 33 = 1 := by kernel_rfl
  have hN : Try.prog.cellsOf 31 = 1 := by kernel_rfl
  have hQ : Try.prog.cellsOf 32 = 4 := by kernel_rfl
  have hS : Try.prog.cellsOf 34 = 1 := by kernel_rfl
  obtain ⟨c0, c1, c2, c3, c4, c5, c6, c7, c8, rfl⟩ := list9 hl
  obtain ⟨ys, m, _, hy, _, hyl, hg⟩ := DataW.trod_struct Try.underlying36 h
  have hyl6 : ys.length = 6 := hyl
  obtain ⟨y0, l0, rfl, e0⟩ := one hyl6
  obtain ⟨y1, l1, rfl, e1⟩ := one e0
  obtain ⟨y2, y3, y4, y5, rfl⟩ := list4 e1
  have g0 : DataW.trod enc Try.prog w base spare held m 3 (([c0, c1, c2, c3, c4, c5, c6, c7, c8].drop 0).take (Try.prog.cellsOf 3)) = some y0 := hg 0 _ rfl
  have g1 : DataW.trod enc Try.prog w base spare held m 3 (([c0, c1, c2, c3, c4, c5, c6, c7, c8].drop 1).take (Try.prog.cellsOf 3)) = some y1 := hg 1 _ rfl
  have g2 : DataW.trod enc Try.prog w base spare held m 32 (([c0, c1, c2, c3, c4, c5, c6, c7, c8].drop 2).take (Try.prog.cellsOf 32)) = some y2 := hg 2 _ rfl
  have g3 : DataW.trod enc Try.prog w base spare held m 33 (([c0, c1, c2, c3, c4, c5, c6, c7, c8].drop 6).take (Try.prog.cellsOf 33)) = some y3 := hg 3 _ rfl
  have g4 : DataW.trod enc Try.prog w base spare held m 3 (([c0, c1, c2, c3, c4, c5, c6, c7, c8].drop 7).take (Try.prog.cellsOf 3)) = some y4 := hg 4 _ rfl
  have g5 : DataW.trod enc Try.prog w base spare held m 34 (([c0, c1, c2, c3, c4, c5, c6, c7, c8].drop 8).take (Try.prog.cellsOf 34)) = some y5 := hg 5 _ rfl
  rw [hI] at g0 g1 g4
  rw [hP] at g3
  rw [hQ] at g2
  rw [hS] at g5
  have wt : DataW.weights Try.prog 36 y.1 = DataW.weightsEach Try.prog [3, 3, 32, 33, 3, 34] [y0.1, y1.1, y2.1, y3.1, y4.1, y5.1] := by
    rw [hy]
    simp only [DataW.weights, Try.underlying36]
    rfl
  rw [wt] at hb
  obtain ⟨z0, rfl, r0⟩ := num_of_trod g0
  obtain ⟨z1, rfl, r1⟩ := num_of_trod g1
  obtain ⟨z4, rfl, r4⟩ := num_of_trod g4
  obtain ⟨ps, hps, hpl⟩ := parts_of_trod g3 (fun k hk => hb k (DataW.weights_mem_each (j := 3) (t := 33) (d := y3.1) rfl rfl k hk))
  obtain ⟨ks, hks, hkl⟩ := segs_of_trod g5 (fun k hk => hb k (DataW.weights_mem_each (j := 5) (t := 34) (d := y5.1) rfl rfl k hk))
  have hbq : ∀ k ∈ DataW.weights Try.prog 32 y2.1, k ≤ reachBytes := fun k hk => hb k (DataW.weights_mem_each (j := 2) (t := 32) (d := y2.1) rfl rfl k hk)
  obtain ⟨xs, m2, _, hx2, _, hxl, ha⟩ := DataW.trod_array Try.underlying32 g2
  obtain ⟨x0, x1, x2, x3, rfl⟩ := list4 hxl
  have wq : DataW.weights Try.prog 32 y2.1 = DataW.weightsAll Try.prog 31 [x0.1, x1.1, x2.1, x3.1] := by
    rw [hx2]
    simp only [DataW.weights, Try.underlying32]
    rfl
  rw [wq] at hbq
  have a0 := ha 0 (by decide)
  have a1 := ha 1 (by decide)
  have a2 := ha 2 (by decide)
  have a3 := ha 3 (by decide)
  rw [hN] at a0 a1 a2 a3
  obtain ⟨l0, n0, s0, _⟩ := nums_of_trod (v := c2) (y := x0) a0 (fun k hk => hbq k (weightsAll_mem (d := x0.1) (by simp) k hk))
  obtain ⟨l1, n1, s1, _⟩ := nums_of_trod (v := c3) (y := x1) a1 (fun k hk => hbq k (weightsAll_mem (d := x1.1) (by simp) k hk))
  obtain ⟨l2, n2, s2, _⟩ := nums_of_trod (v := c4) (y := x2) a2 (fun k hk => hbq k (weightsAll_mem (d := x2.1) (by simp) k hk))
  obtain ⟨l3, n3, s3, _⟩ := nums_of_trod (v := c5) (y := x3) a3 (fun k hk => hbq k (weightsAll_mem (d := x3.1) (by simp) k hk))
  exact ⟨⟨z0, z1, l0, l1, l2, l3, ps, z4, ks⟩, c2, c3, c4, c5, c6, c8, rfl, ⟨n0, n1, n2, n3, hps, hks⟩, ⟨r0, r1, r4, s0, s1, s2, s3, hpl, hkl⟩⟩
set_option maxRecDepth 20000 in
theorem open_picture {r : Reach} {b0 : Nat} {v : Value} {d : DataW H} {p : List MemPlace} {ts : List TypeId} {ds : List (DataW H)} {j : Nat} (hv : Value.okWide Try.prog w r b0 36 v) (h : DataW.Trod enc Try.prog w base spare held 36 v d p)
    (hsz : (DataW.weightsEach Try.prog ts ds).all (· ≤ reachBytes) = true) (htj : ts[j]? = some 36) (hdj : ds[j]? = some d) :
    ∃ P q0 q1 q2 q3 pv kv, v = .agg (vPic P q0 q1 q2 q3 pv kv) ∧ PicC w P q0 q1 q2 q3 pv kv ∧ PicB P := by
  have hC : Try.prog.cellsOf 36 = 9 := by kernel_rfl
  obtain ⟨cs, rfl, hsz9⟩ := okWide_struct Try.underlying36 hv
  rw [hC] at hsz9
  obtain ⟨fuel, hf⟩ := h
  have all : ∀ k ∈ DataW.weights Try.prog 36 d, k ≤ reachBytes := fun k hk => by
    have := List.all_eq_true.1 hsz _ (DataW.weights_mem_each htj hdj k hk)
    simpa using this
  obtain ⟨P, q0, q1, q2, q3, pv, kv, h1, h2, h3⟩ := pic_of_trod (cs := (Value.agg cs).cells.toList) (by simpa [Value.cells] using hsz9) hf all
  refine ⟨P, q0, q1, q2, q3, pv, kv, ?_, h2, h3⟩
  have h4 : cs.toList = (vPic P q0 q1 q2 q3 pv kv).toList := h1
  rw [Array.toList_inj.1 h4]
end Go.Proofs.Ytnhalnjdlkdnkaa

namespace Go.Proofs.Ytnhalnjdlkdnkaa
open Go.RowKit
set_option linter.unusedVariables false
set_option linter.unusedSimpArgs false

theorem run_appAt {P : Program} (w : World) {t e : TypeId} {z : Value} {size bytes : Nat} (T : ElemTy P t e z size bytes) (ty : TypeId) (base : Nat)
    (v : Value) (n : Nat) (xs : List Value) (hown : w.ownsRow base e size v n xs) (x : Value) (m : Nat) (news : List Value) (hx : SlN size w x m news) (h1 : ∀ u ∈ news, u.oneCell' = true)
    (hbytes : (n + m) * bytes ≤ 140737488355328) (h63 : n + m ≤ 140737488355328) (hbase : base ≤ w.heap.size) :
    ∃ v' w', (Builtin.append_ #[t, t] ty #[v, x]).run P w = .ok v' w' ∧ w'.ownsRow base e size v' (n + m) (xs ++ news) ∧ w.grownBy w' v.ownBlock ∧ (v'.ownBlock = v.ownBlock ∨ v'.ownBlock = some w.heap.size) := by
  obtain ⟨i, hi, hz, hsz, hby⟩ := T.hi
  have h63' : n + m ≤ maxLen := by unfold maxLen; omega
  rcases hx.2 with ⟨a, cap, rfl, rfl⟩ | ⟨b, off, cap, rfl, hc, hn, hcell⟩
  · have hnil : news = [] := List.eq_nil_of_length_eq_zero (by simpa using hx.1)
    subst hnil
    cases a with
    | none =>
      refine ⟨v, w, ?_, by simpa using hown, ⟨rfl, rfl, rfl, Nat.le_refl _, fun _ _ _ => rfl⟩, .inl rfl⟩
      rcases hown.2 with ⟨rfl, rfl⟩ | ⟨g, cap, cur, rfl, _, hg, hnc, _⟩
      · simp [Builtin.append_, run_underlying T.ht, sizeOf, typeInfo, hi, Builtin.lenOf, Builtin.firstCells]
      · simp [Builtin.append_, run_underlying T.ht, sizeOf, typeInfo, hi, Builtin.lenOf, Builtin.firstCells, hnc, storeCells]
    | some ad =>
      obtain ⟨v', w', h⟩ := run_append_own_at w base t ty e i z size bytes T.ht hi hz hsz hby T.hz T.pos v n xs hown ad 0 cap [] (by simp) (by simp) (by simp) h63' hbytes hbase
      exact ⟨v', w', h.1, h.2.1, h.2.2.1, h.2.2.2.2⟩
  · obtain ⟨v', w', h⟩ := run_append_own_at w base t ty e i z size bytes T.ht hi hz hsz hby T.hz T.pos v n xs hown ⟨b, off, none⟩ m cap news hx.1 (fun j u hu => by rw [add_at]; exact hcell j u hu) h1 h63' hbytes hbase
    exact ⟨v', w', h.1, h.2.1, h.2.2.1, h.2.2.2.2⟩

theorem wpList_appAt {P : Program} {w : World} {ops : Array Oper} {rest : List Oper} {o : Oper} {a : Act} {Q : Exit → Act → World → Prop} {t e : TypeId} {z : Value} {size bytes : Nat} (T : ElemTy P t e z size bytes) (hgd : o.guard = none) (s x : Operand)
    (ho : o.op = .call { callee := .builtin .append, args := #[s, x], argTypes := #[t, t] }) (base : Nat)
    (v : Value) (n : Nat) (xs : List Value) (hs : a.eval s = v) (hown : w.ownsRow base e size v n xs) (src : Value) (m : Nat) (news : List Value) (hx : a.eval x = src) (hsrc : SlN size w src m news) (h1 : ∀ u ∈ news, u.oneCell' = true)
    (hbytes : (n + m) * bytes ≤ 140737488355328) (h63 : n + m ≤ 140737488355328) (hbase : base ≤ w.heap.size)
    (h : ∀ v' w', w'.ownsRow base e size v' (n + m) (xs ++ news) → w.grownBy w' v.ownBlock → (v'.ownBlock = v.ownBlock ∨ v'.ownBlock = some w.heap.size) → wpList P ops Q rest (a.put o.dst v') w') : wpList P ops Q (o :: rest) a w := by
  refine wpList_plain hgd fun K hK => ?_
  obtain ⟨v', w', hr, h2, h3, h4⟩ := run_appAt (P := P) w T o.type base v n xs hown src m news hsrc h1 hbytes h63 hbase
  unfold Oper.wp execOp
  simp only [ho, resolve, invoke, builtin, Sem.run_bind, Sem.run_pure, Result.andThen_ok, List.map_toArray, List.map_cons, List.map_nil, hs, hx, hr]
  exact hK _ _ (h v' w' h2 h3 h4)

/-- From (w0, v0) on only v0's row has turned; v lies there or in a block that is new. -/
def Gr (w0 : World) (v0 : Value) (w : World) (v : Value) : Prop := w0.grownBy w v0.ownBlock ∧ (v.ownBlock = v0.ownBlock ∨ ∃ k, v.ownBlock = some k ∧ w0.heap.size ≤ k)
theorem Gr.refl (w : World) (v : Value) : Gr w v w v := ⟨⟨rfl, rfl, rfl, Nat.le_refl _, fun _ _ _ => rfl⟩, .inl rfl⟩
theorem Gr.below {w0 w w' : World} {v0 v : Value} (h : Gr w0 v0 w v) (hb : Below w.heap.size w w') : Gr w0 v0 w' v :=
  ⟨⟨hb.os.trans h.1.os, hb.tape.trans h.1.tape, hb.output.trans h.1.output, Nat.le_trans h.1.size hb.size, fun k hk hne => by
    rw [hb.block k (Nat.lt_of_lt_of_le hk h.1.size)]; exact h.1.block k hk hne⟩, h.2⟩
theorem Gr.app {w0 w w' : World} {v0 v v' : Value} (h : Gr w0 v0 w v) (hg : w.grownBy w' v.ownBlock) (hv : v'.ownBlock = v.ownBlock ∨ v'.ownBlock = some w.heap.size) : Gr w0 v0 w' v' := by
  refine ⟨⟨hg.os.trans h.1.os, hg.tape.trans h.1.tape, hg.output.trans h.1.output, Nat.le_trans h.1.size hg.size, fun k hk hne => ?_⟩, ?_⟩
  · rw [hg.block k (Nat.lt_of_lt_of_le hk h.1.size), h.1.block k hk hne]
    rcases h.2 with h2 | ⟨q, h2, hq⟩
    · rw [h2]; exact hne
    · rw [h2]; intro he; have := Option.some.inj he; omega
  · rcases hv with hv | hv
    · rw [hv]; exact h.2
    · exact .inr ⟨_, hv, h.1.size⟩
theorem Gr.trans {w0 w1 w2 : World} {v0 v1 v2 : Value} (h : Gr w0 v0 w1 v1) (h' : Gr w1 v1 w2 v2) : Gr w0 v0 w2 v2 := by
  refine ⟨⟨h'.1.os.trans h.1.os, h'.1.tape.trans h.1.tape, h'.1.output.trans h.1.output, Nat.le_trans h.1.size h'.1.size, fun k hk hne => ?_⟩, ?_⟩
  · rw [h'.1.block k (Nat.lt_of_lt_of_le hk h.1.size), h.1.block k hk hne]
    rcases h.2 with h2 | ⟨q, h2, hq⟩
    · rw [h2]; exact hne
    · rw [h2]; intro he; have := Option.some.inj he; omega
  · rcases h'.2 with h2 | ⟨q, h2, hq⟩
    · rw [h2]; exact h.2
    · exact .inr ⟨q, h2, Nat.le_trans h.1.size hq⟩
theorem Gr.heap {w0 w : World} {v0 v : Value} (h : Gr w0 v0 w v) {k : Nat} {o : Obj} (hk : w0.heap[k]? = some o) (hne : some k ≠ v0.ownBlock) : w.heap[k]? = some o := by
  rw [h.1.block k (Array.getElem?_eq_some_iff.1 hk).1 hne]; exact hk
theorem Gr.cell {w0 w : World} {v0 v : Value} (h : Gr w0 v0 w v) {a : Addr} {u : Value} (hc : w0.cell? a = some u) (hne : some a.block ≠ v0.ownBlock) : w.cell? a = some u := by
  rw [World.cell?_of_block (h.1.block a.block (World.block_lt_of_cell? w0 a hc) hne)]; exact hc
theorem Gr.size {w0 w : World} {v0 v : Value} (h : Gr w0 v0 w v) : w0.heap.size ≤ w.heap.size := h.1.size
/-- the row of an own slice is no block that has been made since -/
theorem own_new {w : World} {base : Nat} {e : TypeId} {size : Nat} {v : Value} {n : Nat} {xs : List Value} (h : w.ownsRow base e size v n xs) {k : Nat} (hk : w.heap.size ≤ k) : some k ≠ v.ownBlock := by
  intro he
  have := (h.lt k he.symm).2
  omega
theorem own_low {w : World} {base : Nat} {e : TypeId} {size : Nat} {v : Value} {n : Nat} {xs : List Value} (h : w.ownsRow base e size v n xs) {k : Nat} (hk : k < base) : some k ≠ v.ownBlock := by
  intro he
  have := (h.lt k he.symm).1
  omega
end Go.Proofs.Ytnhalnjdlkdnkaa

namespace Go.Proofs.Ytnhalnjdlkdnkaa
open Go.RowKit
set_option linter.unusedVariables false
set_option linter.unusedSimpArgs false

def arr (l : List Int) : Value := .agg (vIs l).toArray
def In64 (l : List Int) : Prop := ∀ x ∈ l, -9223372036854775808 ≤ x ∧ x ≤ 9223372036854775807
theorem mapM_some {α β : Type} (f : α → Option β) (g : α → β) : ∀ l : List α, (∀ x ∈ l, f x = some (g x)) → l.mapM f = some (l.map g)
  | [], _ => rfl
  | x :: l, h => by
    rw [List.mapM_cons, h x (by simp), mapM_some f g l (fun y hy => h y (by simp [hy]))]
    rfl
theorem lits_block (l : List Int) (h : l.length = 64) (hin : In64 l) (d : Nat) : ∃ la, Try.prog.keyLits (d + 2) 23 (vIs l) = some la := by
  have hu : Try.prog.underlying 23 = some (.array 64 3) := by kernel_rfl
  have hui : Try.prog.underlying 3 = some (.int .i64) := by kernel_rfl
  have hc : Try.prog.cellsOf 23 = 64 := by kernel_rfl
  have hci : Try.prog.cellsOf 3 = 1 := by kernel_rfl
  refine ⟨((List.range 64).map fun i => [Lit.int .i64 (l.getD i 0)]).flatten, ?_⟩
  unfold Program.keyLits
  rw [hu]
  simp only [hc, hci, vIs_length, h, if_true]
  rw [mapM_some _ (fun i => [Lit.int .i64 (l.getD i 0)])]
  · rfl
  · intro i hi
    have hil : i < l.length := by rw [h]; exact List.mem_range.1 hi
    have e1 : ((vIs l).drop (i * 1)).take 1 = [Value.int .i64 (l.getD i 0)] := by
      rw [Nat.mul_one, List.drop_eq_getElem_cons (by rw [vIs_length]; exact hil)]
      simp [vIs, vI, List.getElem?_eq_getElem hil]
    rw [e1]
    unfold Program.keyLits
    rw [hui]
    have hm : l.getD i 0 ∈ l := by
      rw [List.getD_eq_getElem?_getD, List.getElem?_eq_getElem hil]
      exact List.getElem_mem _
    have hb := hin _ hm
    generalize l.getD i 0 = y at hb
    have hwf : (Lit.int .i64 y).wf = true := by simp [Lit.wf, IntKind.min, IntKind.max, IntKind.signed, IntKind.bits]; omega
    simp only [hwf, and_self, if_true]
theorem same_in (l : List Int) (h : l.length = 64) (hin : In64 l) (w : World) : (Op.equalIn 10000 23 (arr l) (arr l)).run Try.prog w = .ok true w := by
  obtain ⟨la, hla⟩ := lits_block l h hin 0
  have hk : Try.prog.keyTypeAt 2 23 = true := by kernel_rfl
  have hf : (arr l).formed Try.prog 23 = true := by
    have hu : Try.prog.underlying 23 = some (.array 64 3) := by kernel_rfl
    have hc : Try.prog.cellsOf 23 = 64 := by kernel_rfl
    unfold arr
    simp [Value.formed, hu, vIs_length, h, hc]
  have hcs : (arr l).cells.toList = vIs l := by simp [arr, Value.cells]
  obtain ⟨r, hr, hi⟩ := run_equalIn_deep 9998 2 23 hk w 2 2 (arr l) (arr l) la la hf hf (by rw [hcs]; exact hla) (by rw [hcs]; exact hla)
  rw [hi.2 rfl] at hr
  exact hr
theorem eql_same (l : List Int) (h : l.length = 64) (hin : In64 l) (w : World) : (binOp .eql 23 (arr l) (arr l)).run Try.prog w = .ok (.bool true) w := by
  have := same_in l h hin w
  unfold arr at this ⊢
  rw [run_eql_struct, this]
  rfl
theorem neq_same (l : List Int) (h : l.length = 64) (hin : In64 l) (w : World) : (binOp .neq 23 (arr l) (arr l)).run Try.prog w = .ok (.bool false) w := by
  have := same_in l h hin w
  unfold arr at this ⊢
  rw [run_neq_struct, this]
  rfl
end Go.Proofs.Ytnhalnjdlkdnkaa

namespace Go.Proofs.Ytnhalnjdlkdnkaa
open Go.RowKit
set_option linter.unusedVariables false
set_option linter.unusedSimpArgs false

theorem keepsFrom_below {B : Nat} {V X : World} (h : Below V.heap.size V X) : KeepsFrom B V X := ⟨h.size, fun k o _ hk _ => (h.block k (Array.getElem?_eq_some_iff.1 hk).1).trans hk⟩
theorem keepsFrom_set {B : Nat} (V : World) (a : Addr) (v : Value) : KeepsFrom B V (V.setCell a v) := (KeepsOthers.setCell _ _ _).from _
/-- a block of cells abides -/
theorem heap_own {β : Type} (b : Nat) (o : Obj) (ho : o.isCells = true) : Own (fun (_ : β) V => V.heap[b]? = some o) := fun s X Y row hs hg hr => by
  show Y.heap[b]? = some o
  rw [hg.block b (Array.getElem?_eq_some_iff.1 hs).1 (fun e => by obtain ⟨o', ho', hc⟩ := hr b e.symm; rw [hs] at ho'; cases ho'; rw [ho] at hc; cases hc)]
  exact hs
theorem ownFrom_size {β : Type} (B n : Nat) : OwnFrom B (fun (_ : β) V => n ≤ V.heap.size) := fun _ _ _ _ hs hg _ => Nat.le_trans hs hg.size
/-- a block below B abides, whatever it is -/
theorem ownFrom_low {β : Type} {B b : Nat} (hb : b < B) (o : Obj) : OwnFrom B (fun (_ : β) V => V.heap[b]? = some o) := fun s X Y row hs hg hr => by
  show Y.heap[b]? = some o
  rw [hg.block b (Array.getElem?_eq_some_iff.1 hs).1 (fun e => by have := (hr b e.symm).1; omega)]
  exact hs
theorem ownFrom_boxed {β : Type} (B b : Nat) (t : TypeId) (f : β → Value) : OwnFrom B (fun s V => Boxed V b t (f s)) := Own.from (boxed_own b t f) B
theorem slN_own {β : Type} (size : Nat) (v : Value) (n : Nat) (xs : List Value) : Own (fun (_ : β) V => SlN size V v n xs) := fun s X Y row hs hg hr => by
  refine ⟨hs.1, ?_⟩
  rcases hs.2 with h | ⟨b, off, cap, hv, hc, hn, hx⟩
  · exact .inl h
  · exact .inr ⟨b, off, cap, hv, hc, hn, fun i u hu => cell_kept (hx i u hu) hg hr⟩
/-- a store into a block that the slice does not lie in -/
theorem SlN.setOther {size : Nat} {w : World} {v : Value} {n : Nat} {xs : List Value} (h : SlN size w v n xs) {a : Addr} (u : Value) (hne : ∀ b off cap, v = .slice (some ⟨b, off, none⟩) n cap → b ≠ a.block) : SlN size (w.setCell a u) v n xs := by
  refine ⟨h.1, ?_⟩
  rcases h.2 with h | ⟨b, off, cap, hv, hc, hn, hx⟩
  · exact .inl h
  · exact .inr ⟨b, off, cap, hv, hc, hn, fun i q hq => by rw [World.cell?_of_block (Go.Deep.blk_setCell_other _ _ _ _ (hne b off cap hv))]; exact hx i q hq⟩
theorem SlN.low {size : Nat} {w : World} {v : Value} {n : Nat} {xs : List Value} (h : SlN size w v n xs) {b off cap : Nat} (hv : v = .slice (some ⟨b, off, none⟩) n cap) (hn : 0 < n) (hs : 0 < size) : b < w.heap.size := by
  rcases h.2 with ⟨a, c, hv', h0⟩ | ⟨b', off', c, hv', hc, hn', hx⟩
  · omega
  · rw [hv] at hv'
    simp only [Value.slice.injEq, Option.some.injEq, Addr.mk.injEq, and_true, true_and] at hv'
    obtain ⟨⟨rfl, rfl⟩, rfl⟩ := hv'
    have hl : 0 < xs.length := by rw [h.1]; exact Nat.mul_pos hn hs
    exact World.block_lt_of_cell? _ _ (hx 0 xs[0] (List.getElem?_eq_getElem hl))
theorem owns_below {w w' : World} {base : Nat} {e : TypeId} {size : Nat} {v : Value} {n : Nat} {xs : List Value} (h : w.ownsRow base e size v n xs) (hb : Below w.heap.size w w') : w'.ownsRow base e size v n xs := by
  refine ⟨h.1, ?_⟩
  rcases h.2 with h | ⟨g, cap, cur, hv, hg, hc, hr⟩
  · exact .inl h
  · refine .inr ⟨g, cap, cur, hv, hg, ?_, hr⟩
    rw [hb.block g (Array.getElem?_eq_some_iff.1 hc).1]
    exact hc
theorem boxed_below {V X : World} {b : Nat} {t : TypeId} {v : Value} (h : Boxed V b t v) (hb : Below V.heap.size V X) : Boxed X b t v := (hb.block b h.lt).trans h
theorem boxed_low {n : Nat} {V X : World} {b : Nat} {t : TypeId} {v : Value} (h : Boxed V b t v) (hb : Below n V X) (hn : b < n) : Boxed X b t v := (hb.block b hn).trans h
end Go.Proofs.Ytnhalnjdlkdnkaa

namespace Go.Proofs.Ytnhalnjdlkdnkaa
open Go.RowKit
set_option linter.unusedVariables false
set_option linter.unusedSimpArgs false

/-- 64 numbers -/
def Blk64 (b : List Int) : Prop := b.length = 64 ∧ ∀ z ∈ b, R64 z
def All64 (bs : List (List Int)) : Prop := ∀ b ∈ bs, Blk64 b
def zero64 : List Int := List.replicate 64 0
theorem blk_zero : Blk64 zero64 := ⟨rfl, fun z hz => by rw [zero64, List.mem_replicate] at hz; rw [hz.2]; unfold R64; omega⟩
theorem Blk64.in64 {b : List Int} (h : Blk64 b) : In64 b := fun x hx => h.2 x hx
/-- the cells of blocks -/
def fB (bs : List (List Int)) : List Value := bs.flatMap vIs
theorem fB_cons (b : List Int) (bs : List (List Int)) : fB (b :: bs) = vIs b ++ fB bs := List.flatMap_cons
theorem fB_app (a b : List (List Int)) : fB (a ++ b) = fB a ++ fB b := by unfold fB; rw [List.flatMap_append]
theorem fB_length {bs : List (List Int)} (h : All64 bs) : (fB bs).length = bs.length * 64 := by
  induction bs with
  | nil => rfl
  | cons b t ih =>
    rw [fB_cons, List.length_append, vIs_length, (h b (by simp)).1, ih (fun x hx => h x (by simp [hx])), List.length_cons]
    omega
theorem All64.take {bs : List (List Int)} (h : All64 bs) (n : Nat) : All64 (bs.take n) := fun b hb => h b (List.mem_of_mem_take hb)
theorem All64.drop {bs : List (List Int)} (h : All64 bs) (n : Nat) : All64 (bs.drop n) := fun b hb => h b (List.mem_of_mem_drop hb)
theorem All64.app {ps bs : List (List Int)} (h : All64 ps) (k : All64 bs) : All64 (ps ++ bs) := fun b hb => (List.mem_append.1 hb).elim (h b) (k b)
theorem All64.set {bs : List (List Int)} (h : All64 bs) (i : Nat) {b : List Int} (hb : Blk64 b) : All64 (bs.set i b) := fun x hx => by
  rcases List.mem_or_eq_of_mem_set hx with h2 | h2
  · exact h x h2
  · exact h2 ▸ hb
theorem All64.at {bs : List (List Int)} (h : All64 bs) (i : Nat) (hi : i < bs.length) : Blk64 bs[i] := h _ (List.getElem_mem hi)
theorem fB_at {bs : List (List Int)} (h : All64 bs) (i j : Nat) (hi : i < bs.length) (hj : j < 64) : (fB bs)[i * 64 + j]? = (vIs bs[i])[j]? := by
  induction bs generalizing i with
  | nil => simp at hi
  | cons b t ih =>
    have hb := (h b (by simp)).1
    rw [fB_cons]
    cases i with
    | zero => rw [Nat.zero_mul, Nat.zero_add, List.getElem?_append_left (by rw [vIs_length]; omega)]; rfl
    | succ i =>
      rw [List.getElem?_append_right (by rw [vIs_length]; omega), vIs_length, hb, show (i + 1) * 64 + j - 64 = i * 64 + j by omega]
      exact ih (fun x hx => h x (by simp [hx])) i (by simpa using hi)
theorem fB_set {bs : List (List Int)} (h : All64 bs) (i : Nat) (hi : i < bs.length) (b : List Int) : fB (bs.set i b) = (fB bs).take (i * 64) ++ vIs b ++ (fB bs).drop (i * 64 + 64) := by
  rw [List.set_eq_take_append_cons_drop, if_pos hi, fB_app, fB_cons]
  have h1 : fB bs = fB (bs.take i) ++ (vIs bs[i] ++ fB (bs.drop (i + 1))) := by
    conv => lhs; rw [← List.take_append_drop i bs, List.drop_eq_getElem_cons hi]
    rw [fB_app, fB_cons]
  have l1 : (fB (bs.take i)).length = i * 64 := by rw [fB_length (h.take i), List.length_take, Nat.min_eq_left (by omega)]
  have l2 : (vIs bs[i]).length = 64 := by rw [vIs_length]; exact (h.at i hi).1
  rw [h1]
  have e1 : (fB (bs.take i) ++ (vIs bs[i] ++ fB (bs.drop (i + 1)))).take (i * 64) = fB (bs.take i) := List.take_left' l1
  have e2 : (fB (bs.take i) ++ (vIs bs[i] ++ fB (bs.drop (i + 1)))).drop (i * 64 + 64) = fB (bs.drop (i + 1)) := by
    rw [← List.append_assoc]; exact List.drop_left' (by rw [List.length_append]; omega)
  rw [e1, e2, List.append_assoc]

/-- stores side by side into an own row -/
theorem owns_setCells {base : Nat} {e : TypeId} {size g n cap : Nat} (vs : List Value) : ∀ (o : Nat) (w : World) (xs : List Value), w.ownsRow base e size (.slice (some ⟨g, 0, none⟩) n cap) n xs → o + vs.length ≤ xs.length →
    (w.setCells g o vs).ownsRow base e size (.slice (some ⟨g, 0, none⟩) n cap) n (xs.take o ++ vs ++ xs.drop (o + vs.length)) ∧ w.grownBy (w.setCells g o vs) (some g) := by
  induction vs with
  | nil =>
    intro o w xs h ho
    simp only [World.setCells, List.append_nil, List.length_nil, Nat.add_zero, List.take_append_drop]
    exact ⟨h, ⟨rfl, rfl, rfl, Nat.le_refl _, fun _ _ _ => rfl⟩⟩
  | cons v r ih =>
    intro o w xs h ho
    simp only [List.length_cons] at ho ⊢
    obtain ⟨h1, g1⟩ := h.stored o v
    obtain ⟨h2, g2⟩ := ih (o + 1) _ _ h1 (by rw [List.length_set]; omega)
    refine ⟨?_, ⟨g2.os.trans g1.os, g2.tape.trans g1.tape, g2.output.trans g1.output, Nat.le_trans g1.size g2.size, fun k hk hne => (g2.block k (Nat.lt_of_lt_of_le hk g1.size) hne).trans (g1.block k hk hne)⟩⟩
    have e : (xs.set o v).take (o + 1) ++ r ++ (xs.set o v).drop (o + 1 + r.length) = xs.take o ++ (v :: r) ++ xs.drop (o + (r.length + 1)) := by
      rw [List.drop_set_of_lt (by omega), List.take_set, List.set_eq_take_append_cons_drop, if_pos (by rw [List.length_take]; omega), List.take_take, Nat.min_eq_left (by omega), List.drop_of_length_le (by rw [List.length_take]; omega)]
      simp only [List.append_assoc, List.cons_append, List.nil_append]
      congr 4
      omega
    rw [e] at h2
    exact h2
/-- an own row of blocks -/
structure BkO (base : Nat) (w : World) (v : Value) (bs : List (List Int)) : Prop where
  row : w.ownsRow base 23 64 v bs.length (fB bs)
  all : All64 bs
theorem BkO.nil (base : Nat) (w : World) : BkO base w (.slice none 0 0) [] := ⟨World.ownsRow_nil _ _ _ _, fun b hb => by simp at hb⟩
theorem BkO.old {base : Nat} {w w' : World} {v : Value} {bs : List (List Int)} (h : BkO base w v bs) (hb : Below w.heap.size w w') : BkO base w' v bs := ⟨owns_below h.row hb, h.all⟩
theorem BkO.mono {base base' : Nat} {w : World} {v : Value} {bs : List (List Int)} (h : BkO base w v bs) (hb : base' ≤ base) : BkO base' w v bs := ⟨World.ownsRow.mono h.row hb, h.all⟩
theorem BkO.shape {base : Nat} {w : World} {v : Value} {bs : List (List Int)} (h : BkO base w v bs) : ∃ a c, v = .slice a bs.length c := by
  rcases h.row.2 with ⟨rfl, h0⟩ | ⟨g, cap, cur, rfl, _⟩
  · exact ⟨_, _, by rw [h0]⟩
  · exact ⟨_, _, rfl⟩
theorem BkO.got {base : Nat} {w : World} {v : Value} {bs : List (List Int)} (h : BkO base w v bs) (h0 : 0 < bs.length) : ∃ g c, v = .slice (some ⟨g, 0, none⟩) bs.length c ∧ base ≤ g ∧ g < w.heap.size := by
  rcases h.row.2 with ⟨rfl, h1⟩ | ⟨g, cap, cur, rfl, _⟩
  · omega
  · exact ⟨g, cap, rfl, (h.row.lt g rfl).1, (h.row.lt g rfl).2⟩
theorem BkO.range {base g c : Nat} {w : World} {n : Nat} {bs : List (List Int)} (h : BkO base w (.slice (some ⟨g, 0, none⟩) n c) bs) (i : Nat) (hi : i < bs.length) : w.rangeAt g (i * 64) (vIs bs[i]) := fun j v hj => by
  obtain ⟨a, c', e⟩ := h.shape
  simp only [Value.slice.injEq] at e
  obtain ⟨_, rfl, _⟩ := e
  have hj64 : j < 64 := by have := (List.getElem?_eq_some_iff.1 hj).1; rw [vIs_length, (h.all.at i hi).1] at this; exact this
  rw [h.row.cellAt _ (by omega), fB_at h.all i j hi hj64]
  exact hj
theorem BkO.there {base g c : Nat} {w : World} {n : Nat} {bs : List (List Int)} (h : BkO base w (.slice (some ⟨g, 0, none⟩) n c) bs) (i : Nat) (hi : i < bs.length) : w.there g (i * 64) 64 := fun j hj => by
  obtain ⟨a, c', e⟩ := h.shape
  simp only [Value.slice.injEq] at e
  obtain ⟨_, rfl, _⟩ := e
  refine ⟨?_, h.row.frozenAt _⟩
  rw [h.row.cellAt _ (by omega), List.getElem?_eq_getElem (by rw [fB_length h.all]; omega)]
  rfl
theorem BkO.stored {base g c : Nat} {w : World} {n : Nat} {bs : List (List Int)} (h : BkO base w (.slice (some ⟨g, 0, none⟩) n c) bs) (i : Nat) (hi : i < bs.length) {b : List Int} (hb : Blk64 b) :
    BkO base (w.setCells g (i * 64) (vIs b)) (.slice (some ⟨g, 0, none⟩) n c) (bs.set i b) ∧ w.grownBy (w.setCells g (i * 64) (vIs b)) (some g) := by
  obtain ⟨a, c', e⟩ := h.shape
  simp only [Value.slice.injEq] at e
  obtain ⟨_, rfl, _⟩ := e
  have hv : (vIs b).length = 64 := by rw [vIs_length]; exact hb.1
  obtain ⟨h1, h2⟩ := owns_setCells (vIs b) (i * 64) w (fB bs) h.row (by rw [hv, fB_length h.all]; omega)
  refine ⟨⟨?_, h.all.set i hb⟩, h2⟩
  rw [hv, ← fB_set h.all i hi b] at h1
  rw [List.length_set]
  exact h1
/-- blocks that can be read -/
theorem Bks.range {w : World} {v : Value} {bs : List (List Int)} (h : Bks w v bs) : All64 bs ∧ ∃ a c, v = .slice a bs.length c ∧ bs.length ≤ c ∧ ∀ i (hi : i < bs.length), ∃ b o, a = some ⟨b, o, none⟩ ∧ w.rangeAt b (o + i * 64) (vIs bs[i]) := by
  obtain ⟨a, c, hv, hc, hx⟩ := h
  refine ⟨fun b hb => ?_, a, c, hv, hc, fun i hi => ?_⟩
  · obtain ⟨i, hi, rfl⟩ := List.mem_iff_getElem.1 hb
    obtain ⟨_, _, _, _, _, _, h1, h2, h3⟩ := hx i hi
    exact ⟨h2, h3⟩
  · obtain ⟨b, o, cs, ha, hl, hcell, rfl, _, _⟩ := hx i hi
    exact ⟨b, o, ha, fun j u hu => hcell j u hu⟩
/-- ... and read as one row of cells -/
theorem Bks.sl {w : World} {v : Value} {bs : List (List Int)} (h : Bks w v bs) : SlN 64 w v bs.length (fB bs) := by
  obtain ⟨hall, a, c, hv, hc, hx⟩ := h.range
  refine ⟨fB_length hall, ?_⟩
  by_cases h0 : bs.length = 0
  · exact .inl ⟨a, c, hv, h0⟩
  · obtain ⟨b, o, rfl, _⟩ := hx 0 (by omega)
    refine .inr ⟨b, o, c, hv, hc, by omega, fun i u hu => ?_⟩
    have hil : i < bs.length * 64 := by have := (List.getElem?_eq_some_iff.1 hu).1; rw [fB_length hall] at this; exact this
    have hd : i / 64 < bs.length := by omega
    have e : i / 64 * 64 + i % 64 = i := by omega
    rw [← e, fB_at hall _ _ hd (by omega)] at hu
    obtain ⟨b', o', h1, h2⟩ := hx (i / 64) hd
    simp only [Option.some.injEq, Addr.mk.injEq, and_true] at h1
    obtain ⟨rfl, rfl⟩ := h1
    have := h2 _ _ hu
    rwa [Nat.add_assoc, e] at this
theorem BkO.bks {base : Nat} {w : World} {v : Value} {bs : List (List Int)} (h : BkO base w v bs) : Bks w v bs := by
  rcases Nat.eq_zero_or_pos bs.length with h0 | h0
  · obtain rfl := List.eq_nil_of_length_eq_zero h0
    obtain ⟨a, c, rfl⟩ := h.shape
    exact Els.nil _ _ _ _ _
  · obtain ⟨g, c, rfl, _⟩ := h.got h0
    rcases h.row.2 with ⟨h1, _⟩ | ⟨g', cap, cur, h1, _, _, hc, _⟩
    · simp at h1
    · simp only [Value.slice.injEq, Option.some.injEq, Addr.mk.injEq, and_true, true_and] at h1
      obtain ⟨rfl, rfl⟩ := h1
      exact ⟨_, _, rfl, hc, fun i hi => ⟨g, 0, vIs bs[i], rfl, by rw [vIs_length]; exact (h.all.at i hi).1, fun j u hj => by rw [Nat.zero_add]; exact h.range i hi j u hj, rfl, (h.all.at i hi).1, (h.all.at i hi).2⟩⟩
theorem tyB : ElemTy Try.prog 68 23 (arr zero64) 64 512 := elemTy Try.underlying68 (by kernel_rfl) rfl (by decide)
theorem fB_one (bs : List (List Int)) : ∀ u ∈ fB bs, u.oneCell' = true := by
  intro u hu
  simp only [fB, List.mem_flatMap, vIs, List.mem_map] at hu
  obtain ⟨b, _, z, _, rfl⟩ := hu
  rfl

theorem map_inj {α β : Type} {f : α → β} (hf : ∀ a b, f a = f b → a = b) : ∀ {l m : List α}, l.map f = m.map f → l = m
  | [], [], _ => rfl
  | [], _ :: _, h => by simp at h
  | _ :: _, [], h => by simp at h
  | x :: l, y :: m, h => by
    simp only [List.map_cons, List.cons.injEq] at h
    rw [hf _ _ h.1, map_inj hf h.2]
/-! ## == of blocks -/
theorem flat_lits (l : List Int) (n : Nat) (h : l.length = n) : ((List.range n).map fun i => [Lit.int .i64 (l.getD i 0)]).flatten = l.map (Lit.int .i64) := by
  subst h
  induction l with
  | nil => rfl
  | cons x t ih =>
    rw [List.length_cons, List.range_succ_eq_map, List.map_cons, List.map_map, List.flatten_cons, List.map_cons]
    have : (fun i => [Lit.int .i64 ((x :: t).getD i 0)]) ∘ Nat.succ = fun i => [Lit.int .i64 (t.getD i 0)] := by funext i; simp
    rw [this, ih]
    rfl
theorem lits_all (l : List Int) (h : l.length = 64) (hin : In64 l) (d : Nat) : Try.prog.keyLits (d + 2) 23 (vIs l) = some (l.map (Lit.int .i64)) := by
  have hu : Try.prog.underlying 23 = some (.array 64 3) := by kernel_rfl
  have hui : Try.prog.underlying 3 = some (.int .i64) := by kernel_rfl
  have hc : Try.prog.cellsOf 23 = 64 := by kernel_rfl
  have hci : Try.prog.cellsOf 3 = 1 := by kernel_rfl
  rw [← flat_lits l 64 h]
  unfold Program.keyLits
  rw [hu]
  simp only [hc, hci, vIs_length, h, if_true]
  rw [mapM_some _ (fun i => [Lit.int .i64 (l.getD i 0)])]
  · rfl
  · intro i hi
    have hil : i < l.length := by rw [h]; exact List.mem_range.1 hi
    have e1 : ((vIs l).drop (i * 1)).take 1 = [Value.int .i64 (l.getD i 0)] := by
      rw [Nat.mul_one, List.drop_eq_getElem_cons (by rw [vIs_length]; exact hil)]
      simp [vIs, vI, List.getElem?_eq_getElem hil]
    rw [e1]
    unfold Program.keyLits
    rw [hui]
    have hm : l.getD i 0 ∈ l := by
      rw [List.getD_eq_getElem?_getD, List.getElem?_eq_getElem hil]
      exact List.getElem_mem _
    have hb := hin _ hm
    generalize l.getD i 0 = y at hb
    have hwf : (Lit.int .i64 y).wf = true := by simp [Lit.wf, IntKind.min, IntKind.max, IntKind.signed, IntKind.bits]; omega
    simp only [hwf, and_self, if_true]
theorem eq_in {l m : List Int} (hl : Blk64 l) (hm : Blk64 m) (w : World) : (Op.equalIn 10000 23 (arr l) (arr m)).run Try.prog w = .ok (decide (l = m)) w := by
  have hk : Try.prog.keyTypeAt 2 23 = true := by kernel_rfl
  have hf : ∀ l : List Int, l.length = 64 → (arr l).formed Try.prog 23 = true := fun l h => by
    have hu : Try.prog.underlying 23 = some (.array 64 3) := by kernel_rfl
    have hc : Try.prog.cellsOf 23 = 64 := by kernel_rfl
    unfold arr
    simp [Value.formed, hu, vIs_length, h, hc]
  have hcs : ∀ l, (arr l).cells.toList = vIs l := fun l => by simp [arr, Value.cells]
  obtain ⟨r, hr, hi⟩ := run_equalIn_deep 9998 2 23 hk w 2 2 (arr l) (arr m) _ _ (hf l hl.1) (hf m hm.1) (by rw [hcs]; exact lits_all l hl.1 hl.in64 0) (by rw [hcs]; exact lits_all m hm.1 hm.in64 0)
  have hinj : l.map (Lit.int .i64) = m.map (Lit.int .i64) ↔ l = m := ⟨fun h => map_inj (fun a b e => by simpa using e) h, fun h => by rw [h]⟩
  rw [hinj] at hi
  have : r = decide (l = m) := by rw [Bool.eq_iff_iff, decide_eq_true_eq]; exact hi
  rw [this] at hr
  exact hr
theorem eql_blk {l m : List Int} (hl : Blk64 l) (hm : Blk64 m) (w : World) : (binOp .eql 23 (arr l) (arr m)).run Try.prog w = .ok (.bool (decide (l = m))) w := by
  have := eq_in hl hm w
  unfold arr at this ⊢
  rw [run_eql_struct, this]
  rfl
theorem neq_blk {l m : List Int} (hl : Blk64 l) (hm : Blk64 m) (w : World) : (binOp .neq 23 (arr l) (arr m)).run Try.prog w = .ok (.bool (!decide (l = m))) w := by
  have := eq_in hl hm w
  unfold arr at this ⊢
  rw [run_neq_struct, this]
  rfl
end Go.Proofs.Ytnhalnjdlkdnkaa
