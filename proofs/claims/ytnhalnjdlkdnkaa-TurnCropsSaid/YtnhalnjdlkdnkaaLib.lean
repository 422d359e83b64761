/- Program-independent helpers: slices that read as lists, rows that a call owns, append from any slice. By an AI agent. -/
import Derived.WalkKit
import Derived.WalkSpells
import Derived.Lib.Hide
import Derived.Lib.Strings
import Derived.Lib.SlBytesConst
import Derived.Lib.SmallJoins
import Derived.Laws.Tables
import Derived.Laws.AppendOwnNone
import Derived.Laws.BitsAllLaws
import Derived.Laws.BitsLemmas
namespace Go.Proofs.Ytnhalnjdlkdnkaa
open Go.RowKit

/-! ## a place where the walk stops -/
def Stop (p : Prop) : Prop := p
theorem stop {p : Prop} (h : Stop p) : p := h
theorem unstop {p : Prop} (h : p) : Stop p := h

/-! ## numbers -/
theorem vi {k : IntKind} {a b : Int} (h : a = b) : Value.int k a = Value.int k b := by rw [h]
theorem ri {k : IntKind} {a b : Int} (h : a = b) : Ending.returned (.int k a) = .returned (.int k b) := by rw [h]
theorem rt2 {k k' : IntKind} {a b a' b' : Int} (h : a = a') (h' : b = b') : Ending.returned (.tuple #[.int k a, .int k' b]) = .returned (.tuple #[.int k a', .int k' b']) := by rw [h, h']
theorem rb {a b : Bool} (h : a = b) : Ending.returned (.bool a) = .returned (.bool b) := by rw [h]

theorem ofInt64 (a : Nat) (ha : a < 2 ^ 63) : (BitVec.ofInt 64 (a : Int)).toNat = a := by
  rw [BitVec.ofInt_natCast, BitVec.toNat_ofNat]; exact Nat.mod_eq_of_lt (by omega)
theorem and64 (a b : Nat) (ha : a < 2 ^ 63) (hb : b < 2 ^ 63) : bits .and .i64 (a : Int) (b : Int) = ((a &&& b : Nat) : Int) := by
  have hx : a &&& b < 2 ^ 63 := Nat.and_lt_two_pow _ (by omega)
  show IntKind.i64.wrap ((BitVec.ofInt 64 (a : Int) &&& BitVec.ofInt 64 (b : Int)).toNat : Int) = _
  rw [BitVec.toNat_and, ofInt64 a ha, ofInt64 b hb, IntKind.wrap_i64]
  omega
theorem or64 (a b : Nat) (ha : a < 2 ^ 63) (hb : b < 2 ^ 63) : bits .or .i64 (a : Int) (b : Int) = ((a ||| b : Nat) : Int) := by
  have hx : a ||| b < 2 ^ 63 := Nat.or_lt_two_pow (by omega) (by omega)
  show IntKind.i64.wrap ((BitVec.ofInt 64 (a : Int) ||| BitVec.ofInt 64 (b : Int)).toNat : Int) = _
  rw [BitVec.toNat_or, ofInt64 a ha, ofInt64 b hb, IntKind.wrap_i64]
  omega
theorem xor64 (a b : Nat) (ha : a < 2 ^ 63) (hb : b < 2 ^ 63) : bits .xor .i64 (a : Int) (b : Int) = ((a ^^^ b : Nat) : Int) := by
  have hx : a ^^^ b < 2 ^ 63 := Nat.xor_lt_two_pow (by omega) (by omega)
  show IntKind.i64.wrap ((BitVec.ofInt 64 (a : Int) ^^^ BitVec.ofInt 64 (b : Int)).toNat : Int) = _
  rw [BitVec.toNat_xor, ofInt64 a ha, ofInt64 b hb, IntKind.wrap_i64]
  omega
/-- the low bits of a number -/
theorem low64 (a k : Nat) (ha : a < 2 ^ 63) (hk : k < 63) : bits .and .i64 (a : Int) ((2 ^ k - 1 : Nat) : Int) = ((a % 2 ^ k : Nat) : Int) := by
  have h2 : 2 ^ k ≤ 2 ^ 62 := Nat.pow_le_pow_right (by decide) (by omega)
  rw [and64 a _ ha (by omega), Nat.and_two_pow_sub_one_eq_mod]
/-- a high part or a low part -/
theorem glue64 (a b k : Nat) (hb : b < 2 ^ k) (ha : a * 2 ^ k + b < 2 ^ 63) : bits .or .i64 ((a * 2 ^ k : Nat) : Int) (b : Int) = ((a * 2 ^ k + b : Nat) : Int) := by
  rw [or64 _ _ (by omega) (by omega)]
  congr 1
  rw [Nat.mul_comm, ← Nat.two_pow_add_eq_or_of_lt hb a]

theorem add_at (b off j : Nat) : (⟨b, off, none⟩ : Addr).add j = ⟨b, off + j, none⟩ := by
  unfold Addr.add
  split <;> simp_all

/-! ## slices that read as a list of cells -/
/-- The slice value v has n elements of 'size' cells each; its cells are xs. -/
def SlN (size : Nat) (w : World) (v : Value) (n : Nat) (xs : List Value) : Prop :=
  xs.length = n * size ∧ ((∃ a cap, v = .slice a n cap ∧ n = 0) ∨ ∃ b off cap, v = .slice (some ⟨b, off, none⟩) n cap ∧ n ≤ cap ∧ 0 < n ∧ ∀ i u, xs[i]? = some u → w.cell? ⟨b, off + i, none⟩ = some u)
/-- elements of one cell -/
def Sl (w : World) (v : Value) (xs : List Value) : Prop := SlN 1 w v xs.length xs

def vB (c : UInt8) : Value := .int .u8 (c.toNat : Int)
def vBs (l : List UInt8) : List Value := l.map vB
theorem vBs_length (l : List UInt8) : (vBs l).length = l.length := by simp [vBs]
theorem vBs_append (a b : List UInt8) : vBs (a ++ b) = vBs a ++ vBs b := by simp [vBs]

/-- A byte slice reads as the list. -/
def Bs (w : World) (v : Value) (l : List UInt8) : Prop := SlN 1 w v l.length (vBs l)
/-- A slice of byte slices reads as the lists. -/
def Bss (w : World) (v : Value) (ls : List (List UInt8)) : Prop := ∃ vs, SlN 1 w v ls.length vs ∧ ∀ i (h : i < ls.length), ∃ x, vs[i]? = some x ∧ Bs w x ls[i]

theorem below_drewN {B : Nat} {a w : World} (h : Below B a w) (n : Nat) : Below B a (w.drewN n) := ⟨h.os, h.tape, h.output, h.size, h.block⟩
/-- What is below the heap's size reads as before. -/
theorem cell_old {w w' : World} (hb : Below w.heap.size w w') {a : Addr} {u : Value} (h : w.cell? a = some u) : w'.cell? a = some u := by
  rw [hb.cell (World.block_lt_of_cell? w a h)]; exact h
theorem SlN.old {size : Nat} {w w' : World} {v : Value} {n : Nat} {xs : List Value} (h : SlN size w v n xs) (hb : Below w.heap.size w w') : SlN size w' v n xs := by
  refine ⟨h.1, ?_⟩
  rcases h.2 with h | ⟨b, off, cap, hv, hc, hn, hx⟩
  · exact .inl h
  · exact .inr ⟨b, off, cap, hv, hc, hn, fun i u hu => cell_old hb (hx i u hu)⟩
theorem Bs.old {w w' : World} {v : Value} {l : List UInt8} (h : Bs w v l) (hb : Below w.heap.size w w') : Bs w' v l := SlN.old h hb
theorem Bss.old {w w' : World} {v : Value} {ls : List (List UInt8)} (h : Bss w v ls) (hb : Below w.heap.size w w') : Bss w' v ls := by
  obtain ⟨vs, h1, h2⟩ := h
  exact ⟨vs, h1.old hb, fun i hi => let ⟨x, hx, hx2⟩ := h2 i hi; ⟨x, hx, hx2.old hb⟩⟩
/-- only one block of the call's own has turned -/
theorem SlN.grown {size : Nat} {w w' : World} {v : Value} {n : Nat} {xs : List Value} {row : Option Nat} (h : SlN size w v n xs) (hg : w.grownBy w' row) (hne : v.ownBlock = none ∨ v.ownBlock ≠ row) : SlN size w' v n xs := by
  refine ⟨h.1, ?_⟩
  rcases h.2 with h | ⟨b, off, cap, hv, hc, hn, hx⟩
  · exact .inl h
  · refine .inr ⟨b, off, cap, hv, hc, hn, fun i u hu => hg.cell (hx i u hu) ?_⟩
    subst hv
    simpa [Value.ownBlock] using hne

theorem Bs.shape {w : World} {v : Value} {l : List UInt8} (h : Bs w v l) :
    (∃ a cap, v = .slice a 0 cap ∧ l = []) ∨ ∃ b off cap, v = .slice (some ⟨b, off, none⟩) l.length cap ∧ l.length ≤ cap ∧ 0 < l.length ∧ ∀ i (h : i < l.length), w.cell? ⟨b, off + i, none⟩ = some (.int .u8 ((l[i].toNat : Nat) : Int)) := by
  rcases h.2 with ⟨a, cap, hv, hn⟩ | ⟨b, off, cap, hv, hc, hn, hx⟩
  · have hl : l = [] := List.eq_nil_of_length_eq_zero hn
    subst hl
    exact .inl ⟨a, cap, hv, rfl⟩
  · exact .inr ⟨b, off, cap, hv, hc, hn, fun i hi => hx i _ (by simp [vBs, vB, hi])⟩
theorem Bs.read {w : World} {v : Value} {l : List UInt8} (h : Bs w v l) :
    ∃ a cap, v = .slice a l.length cap ∧ ∀ i (h : i < l.length), ∃ b off, a = some ⟨b, off, none⟩ ∧ w.cell? ⟨b, off + i, none⟩ = some (.int .u8 ((l[i].toNat : Nat) : Int)) := by
  rcases h.shape with ⟨a, cap, rfl, rfl⟩ | ⟨b, off, cap, rfl, _, _, hx⟩
  · exact ⟨a, cap, rfl, fun i hi => absurd hi (Nat.not_lt_zero i)⟩
  · exact ⟨_, cap, rfl, fun i hi => ⟨b, off, rfl, hx i hi⟩⟩
theorem Bss.read {w : World} {v : Value} {ls : List (List UInt8)} (h : Bss w v ls) :
    ∃ a cap, v = .slice a ls.length cap ∧ ∀ i (h : i < ls.length), ∃ b off x, a = some ⟨b, off, none⟩ ∧ w.cell? ⟨b, off + i, none⟩ = some x ∧ Bs w x ls[i] := by
  obtain ⟨vs, ⟨_, h⟩, hel⟩ := h
  rcases h with ⟨a, cap, rfl, h0⟩ | ⟨b, off, cap, rfl, _, _, hx⟩
  · exact ⟨a, cap, rfl, fun i hi => absurd hi (by omega)⟩
  · exact ⟨_, cap, rfl, fun i hi => let ⟨x, h1, h2⟩ := hel i hi; ⟨b, off, x, rfl, hx i x h1, h2⟩⟩
theorem Bs.len {w : World} {v : Value} {l : List UInt8} (h : Bs w v l) : ∃ a cap, v = .slice a l.length cap := by
  rcases h.2 with ⟨a, cap, hv, _⟩ | ⟨b, off, cap, hv, _⟩
  · exact ⟨a, cap, hv⟩
  · exact ⟨_, cap, hv⟩
theorem Bs.drewN {w : World} {v : Value} {l : List UInt8} (h : Bs w v l) (q : Nat) : Bs (w.drewN q) v l := h.old (below_drewN (Below.refl _ _) q)
theorem Bs.nil (w : World) (a : Option Addr) (cap : Nat) : Bs w (.slice a 0 cap) [] := ⟨rfl, .inl ⟨a, cap, rfl, rfl⟩⟩

/-- an owned row reads as its cells -/
theorem sl_of_owns {w : World} {base : Nat} {e : TypeId} {size : Nat} {v : Value} {n : Nat} {xs : List Value} (h : w.ownsRow base e size v n xs) : SlN size w v n xs := by
  refine ⟨h.1, ?_⟩
  rcases h.2 with ⟨hv, hn⟩ | ⟨g, cap, cur, hv, _, hg, hc, _, hcs, ht⟩
  · exact .inl ⟨none, 0, by rw [hv, hn], hn⟩
  · by_cases hn : n = 0
    · exact .inl ⟨_, cap, hv, hn⟩
    · refine .inr ⟨g, 0, cap, hv, hc, by omega, fun i u hu => ?_⟩
      rw [Nat.zero_add, cell_of_row w g i cur e (0, 0) hg]
      rw [← ht, List.getElem?_take] at hu
      split at hu
      · simpa using hu
      · cases hu

/-! ## append -/
/-- What the program's tables say of a slice type t with elements e: their zero value, their cells, their bytes. -/
structure ElemTy (P : Program) (t e : TypeId) (z : Value) (size bytes : Nat) : Prop where
  ht : P.underlying t = some (.slice e)
  hi : ∃ i, P.info? e = some i ∧ i.zero = some z ∧ i.size = size ∧ i.bytes = bytes
  hz : z.cells.size = size
  pos : 0 < size

theorem elemTy {P : Program} {t e : TypeId} {z : Value} {size bytes : Nat} (ht : P.underlying t = some (.slice e)) (hi : (P.info? e).map (fun i => (i.zero, i.size, i.bytes)) = some (some z, size, bytes)) (hz : z.cells.size = size) (hp : 0 < size) : ElemTy P t e z size bytes := by
  refine ⟨ht, ?_, hz, hp⟩
  cases h : P.info? e with
  | none => simp [h] at hi
  | some i =>
    simp [h] at hi
    exact ⟨i, rfl, hi.1, hi.2.1, hi.2.2⟩

theorem run_app {P : Program} (w : World) {t e : TypeId} {z : Value} {size bytes : Nat} (T : ElemTy P t e z size bytes) (ty : TypeId) (base : Nat)
    (v : Value) (n : Nat) (xs : List Value) (hown : w.ownsRow base e size v n xs) (x : Value) (m : Nat) (news : List Value) (hx : SlN size w x m news) (h1 : ∀ u ∈ news, u.oneCell' = true)
    (hbytes : (n + m) * bytes ≤ 140737488355328) (h63 : n + m ≤ 140737488355328) (hbase : base ≤ w.heap.size) :
    ∃ v' w', (Builtin.append_ #[t, t] ty #[v, x]).run P w = .ok v' w' ∧ w'.ownsRow base e size v' (n + m) (xs ++ news) ∧ w.grownBy w' v.ownBlock ∧ (v' = .slice none 0 0 → v = .slice none 0 0 ∧ m = 0) := by
  obtain ⟨i, hi, hz, hsz, hby⟩ := T.hi
  have h63' : n + m ≤ maxLen := by unfold maxLen; omega
  rcases hx.2 with ⟨a, cap, rfl, rfl⟩ | ⟨b, off, cap, rfl, hc, hn, hcell⟩
  · have hnil : news = [] := List.eq_nil_of_length_eq_zero (by simpa using hx.1)
    subst hnil
    cases a with
    | none =>
      refine ⟨v, w, ?_, by simpa using hown, ⟨rfl, rfl, rfl, Nat.le_refl _, fun _ _ _ => rfl⟩, fun h => ⟨h, rfl⟩⟩
      rcases hown.2 with ⟨rfl, rfl⟩ | ⟨g, cap, cur, rfl, _, hg, hnc, _⟩
      · simp [Builtin.append_, run_underlying T.ht, sizeOf, typeInfo, hi, Builtin.lenOf, Builtin.firstCells]
      · simp [Builtin.append_, run_underlying T.ht, sizeOf, typeInfo, hi, Builtin.lenOf, Builtin.firstCells, hnc, storeCells]
    | some ad =>
      obtain ⟨v', w', h⟩ := run_append_own w base t ty e i z size bytes T.ht hi hz hsz hby T.hz T.pos v n xs hown ad 0 cap [] (by simp) (by simp) (by simp) h63' hbytes hbase
      exact ⟨v', w', h.1, h.2.1, h.2.2.1, h.2.2.2.1⟩
  · obtain ⟨v', w', h⟩ := run_append_own w base t ty e i z size bytes T.ht hi hz hsz hby T.hz T.pos v n xs hown ⟨b, off, none⟩ m cap news hx.1 (fun j u hu => by rw [add_at]; exact hcell j u hu) h1 h63' hbytes hbase
    exact ⟨v', w', h.1, h.2.1, h.2.2.1, h.2.2.2.1⟩

theorem wpList_app {P : Program} {w : World} {ops : Array Oper} {rest : List Oper} {o : Oper} {a : Act} {Q : Exit → Act → World → Prop} {t e : TypeId} {z : Value} {size bytes : Nat} (T : ElemTy P t e z size bytes) (hgd : o.guard = none) (s x : Operand)
    (ho : o.op = .call { callee := .builtin .append, args := #[s, x], argTypes := #[t, t] }) (base : Nat)
    (v : Value) (n : Nat) (xs : List Value) (hs : a.eval s = v) (hown : w.ownsRow base e size v n xs) (src : Value) (m : Nat) (news : List Value) (hx : a.eval x = src) (hsrc : SlN size w src m news) (h1 : ∀ u ∈ news, u.oneCell' = true)
    (hbytes : (n + m) * bytes ≤ 140737488355328) (h63 : n + m ≤ 140737488355328) (hbase : base ≤ w.heap.size)
    (h : ∀ v' w', w'.ownsRow base e size v' (n + m) (xs ++ news) → w.grownBy w' v.ownBlock → (v' = .slice none 0 0 → v = .slice none 0 0 ∧ m = 0) → wpList P ops Q rest (a.put o.dst v') w') : wpList P ops Q (o :: rest) a w := by
  refine wpList_plain hgd fun K hK => ?_
  obtain ⟨v', w', hr, h2, h3, h4⟩ := run_app (P := P) w T o.type base v n xs hown src m news hsrc h1 hbytes h63 hbase
  unfold Oper.wp execOp
  simp only [ho, resolve, invoke, builtin, Sem.run_bind, Sem.run_pure, Result.andThen_ok, List.map_toArray, List.map_cons, List.map_nil, hs, hx, hr]
  exact hK _ _ (h v' w' h2 h3 h4)

/-- a literal reads as its cells -/
theorem sl_lit (w : World) (cs : List Value) (e : TypeId) (n : Nat) (hn : cs.length = n) (hm : n ≤ 281474976710656) : SlN 1 (w.alloc (.cells cs.toArray e)) (.slice (some ⟨w.heap.size, 0, none⟩) n n) n cs := by
  have h := World.ownsRow_lit (base := 0) (e := e) (size := 1) w cs.toArray n (Nat.zero_le _) (by unfold maxLen; omega) (by simp [hn])
  exact sl_of_owns h
theorem bs_lit (w : World) (l : List UInt8) (e : TypeId) (n : Nat) (hn : l.length = n) (hm : n ≤ 281474976710656) : Bs (w.alloc (.cells (vBs l).toArray e)) (.slice (some ⟨w.heap.size, 0, none⟩) n n) l := by
  subst hn
  exact sl_lit w (vBs l) e l.length (by simp [vBs]) hm
/-- an owned row that is full is the block -/
theorem owns_full {w : World} {base : Nat} {e : TypeId} {g n : Nat} {xs : List Value} (h : w.ownsRow base e 1 (.slice (some ⟨g, 0, none⟩) n n) n xs) : w.heap[g]? = some (.cells xs.toArray e (0, 0)) := by
  rcases h.2 with ⟨h', _⟩ | ⟨g', cap', cur, h', _, hg, _, _, hcs, htake⟩
  · simp at h'
  · simp only [Value.slice.injEq, Option.some.injEq, Addr.mk.injEq, and_true, true_and] at h'
    obtain ⟨rfl, rfl⟩ := h'
    rw [hg, ← htake, Nat.mul_one, List.take_of_length_le (by rw [Array.length_toList, hcs]; omega)]
/-- a block reads as its cells -/
theorem sl_heap {w : World} {g cap n : Nat} {C : Array Value} {t : TypeId} {fr : Nat × Nat} (h : w.heap[g]? = some (.cells C t fr)) (hn : n = C.size) (hc : n ≤ cap) : SlN 1 w (.slice (some ⟨g, 0, none⟩) n cap) n C.toList := by
  subst hn
  refine ⟨by simp, ?_⟩
  by_cases h0 : C.size = 0
  · exact .inl ⟨_, _, rfl, h0⟩
  · refine .inr ⟨g, 0, cap, rfl, hc, by omega, fun i u hu => ?_⟩
    rw [Nat.zero_add, cell_of_row w g i C t fr h]
    simpa using hu
theorem bs_heap {w : World} {g cap n : Nat} {C : Array Value} {t : TypeId} {fr : Nat × Nat} (l : List UInt8) (h : w.heap[g]? = some (.cells C t fr)) (hl : C.toList = vBs l) (hn : n = l.length) (hc : n ≤ cap) : Bs w (.slice (some ⟨g, 0, none⟩) n cap) l := by
  have := sl_heap h (n := n) (cap := cap) (by rw [hn, ← vBs_length, ← hl]; simp) hc
  rw [hl, hn] at this
  rw [hn]
  exact this
theorem bss_heap {w : World} {g cap n : Nat} {C : Array Value} {t : TypeId} {fr : Nat × Nat} (ls : List (List UInt8)) (h : w.heap[g]? = some (.cells C t fr)) (hn : n = C.size) (hc : n ≤ cap) (hl : n = ls.length) (hel : ∀ i (h : i < ls.length), ∃ x, C.toList[i]? = some x ∧ Bs w x ls[i]) : Bss w (.slice (some ⟨g, 0, none⟩) n cap) ls := by
  have := sl_heap h hn hc
  rw [hl] at this ⊢
  exact ⟨_, this, hel⟩
theorem bss_one {w : World} {g : Nat} {v : Value} {t : TypeId} {fr : Nat × Nat} {l : List UInt8} (h : w.heap[g]? = some (.cells #[v] t fr)) (hb : Bs w v l) : Bss w (.slice (some ⟨g, 0, none⟩) 1 1) [l] :=
  bss_heap [l] h rfl (Nat.le_refl _) rfl fun i hi => by
    obtain rfl : i = 0 := by simp at hi; omega
    exact ⟨v, rfl, hb⟩
/-- a block that was there is there behind an alloc -/
theorem heap_old {w : World} {g : Nat} {o o' : Obj} (h : w.heap[g]? = some o) : (w.alloc o').heap[g]? = some o := by
  rw [heap_alloc_old w o' (Array.getElem?_eq_some_iff.1 h).1]; exact h
theorem heap_new1 (w : World) (o o' : Obj) : ((w.alloc o).alloc o').heap[w.heap.size + 1]? = some o' := by
  have := heap_alloc_new (w.alloc o) o'
  rw [World.size_alloc] at this
  exact this
theorem heap_new0 (w : World) (o o' : Obj) : ((w.alloc o).alloc o').heap[w.heap.size]? = some o := heap_old (heap_alloc_new w o)
theorem heap_new2 (w : World) (o o' o'' : Obj) : (((w.alloc o).alloc o').alloc o'').heap[w.heap.size + 1 + 1]? = some o'' := by
  have := heap_new1 (w.alloc o) o' o''
  rw [World.size_alloc] at this
  exact this
/-- append within the capacity: the value is known -/
theorem wpList_fit {P : Program} {w : World} {ops : Array Oper} {rest : List Oper} {o : Oper} {a : Act} {Q : Exit → Act → World → Prop} {t e : TypeId} {z : Value} {size bytes : Nat} (T : ElemTy P t e z size bytes) (hgd : o.guard = none) (s x : Operand)
    (ho : o.op = .call { callee := .builtin .append, args := #[s, x], argTypes := #[t, t] }) (base g n cap : Nat) (xs : List Value) (hs : a.eval s = .slice (some ⟨g, 0, none⟩) n cap) (hown : w.ownsRow base e size (.slice (some ⟨g, 0, none⟩) n cap) n xs)
    (src : Value) (m : Nat) (news : List Value) (hx : a.eval x = src) (hsrc : SlN size w src m news) (h1 : ∀ u ∈ news, u.oneCell' = true) (hroom : n + m ≤ cap)
    (h : ∀ w', w'.ownsRow base e size (.slice (some ⟨g, 0, none⟩) (n + m) cap) (n + m) (xs ++ news) → w.grownBy w' (some g) → wpList P ops Q rest (a.put o.dst (.slice (some ⟨g, 0, none⟩) (n + m) cap)) w') : wpList P ops Q (o :: rest) a w := by
  obtain ⟨i, hi, hz, hsz, hby⟩ := T.hi
  rcases hsrc.2 with ⟨ao, c, rfl, rfl⟩ | ⟨b, off, c, rfl, hc, hn, hcell⟩
  · have hnil : news = [] := List.eq_nil_of_length_eq_zero (by simpa using hsrc.1)
    subst hnil
    cases ao with
    | none =>
      have hc0 : ∃ c', a.eval x = .slice none 0 c' := ⟨c, hx⟩
      refine wpList_plain hgd fun K hK => ?_
      have hrun : (Builtin.append_ #[t, t] o.type #[.slice (some ⟨g, 0, none⟩) n cap, .slice none 0 c]).run P w = .ok (.slice (some ⟨g, 0, none⟩) n cap) w := by
        simp [Builtin.append_, run_underlying T.ht, sizeOf, typeInfo, hi, Builtin.lenOf, Builtin.firstCells, storeCells, show n ≤ cap by omega]
      unfold Oper.wp execOp
      simp only [ho, resolve, invoke, builtin, Sem.run_bind, Sem.run_pure, Result.andThen_ok, List.map_toArray, List.map_cons, List.map_nil, hs, hx, hrun]
      exact hK _ _ (by simpa using h w (by simpa using hown) ⟨rfl, rfl, rfl, Nat.le_refl _, fun _ _ _ => rfl⟩)
    | some ad => exact wpList_append_fits w hgd s x t ho base e i size T.ht hi hsz g n cap xs hs hown ad 0 c [] hx (by simp) (by simp) (by simp) hroom h
  · exact wpList_append_fits w hgd s x t ho base e i size T.ht hi hsz g n cap xs hs hown ⟨b, off, none⟩ m c news hx hsrc.1 (fun j u hu => by rw [add_at]; exact hcell j u hu) h1 hroom h

/-- make([]T, 0, n) -/
theorem wpList_mk0 {P : Program} {w : World} {ops : Array Oper} {rest : List Oper} {o : Oper} {a : Act} {Q : Exit → Act → World → Prop} {t e : TypeId} {z : Value} {size bytes : Nat} (T : ElemTy P t e z size bytes) (hg : o.guard = none) (l c : Operand) (hop : o.op = Op.makeSlice t l c)
    (kl kc : IntKind) (C : Int) (n : Nat) (hl : a.eval l = .int kl 0) (hc : a.eval c = .int kc C) (hC : C = (n : Int)) (b2 : bytes * n ≤ 281474976710656) (b3 : n ≤ 281474976710656)
    (hK : ∀ w', w'.ownsRow w.heap.size e size (.slice (some ⟨w.heap.size, 0, none⟩) 0 n) 0 [] → Below w.heap.size w w' → w'.heap.size = w.heap.size + 1 → wpList P ops Q rest (a.put o.dst (.slice (some ⟨w.heap.size, 0, none⟩) 0 n)) w') :
    wpList P ops Q (o :: rest) a w := by
  obtain ⟨i, hi, hz, hsz, hby⟩ := T.hi
  refine wpList_plain hg fun K hK' => ?_
  have hr := run_make (P := P) w t e i z T.ht hi hz kl kc 0 (n : Int) (Int.le_refl _) (by omega) (by rw [hby]; omega) (by omega)
  subst hC
  unfold Oper.wp
  simp only [Int.toNat_zero, Int.toNat_natCast] at hr
  simp [execOp, hop, hl, hc, hr, Result.andThen]
  refine hK' _ _ (hK _ (World.ownsRow_made w _ n (Nat.le_refl _) (by unfold maxLen; omega) ?_) ((Below.refl _ _).alloc (Nat.le_refl _) _) (by simp))
  rw [size_madeCells, hsz]

/-- a slice literal without elements -/
theorem own0 (w : World) (e : TypeId) : (w.alloc (.cells #[] e)).ownsRow w.heap.size e 1 (.slice (some ⟨w.heap.size, 0, none⟩) 0 0) 0 [] := World.ownsRow_made w #[] 0 (Nat.le_refl _) (by decide) rfl
theorem run_app_below {w w0 : World} {v : Value} {base : Nat} {e : TypeId} {size n : Nat} {xs : List Value} {w' : World} (hown : w.ownsRow base e size v n xs) (hg : w.grownBy w' v.ownBlock) (hb : Below w0.heap.size w0 w) (hbase : w0.heap.size ≤ base) : Below w0.heap.size w0 w' :=
  hb.grown hg hb.size fun k hk => Nat.le_trans hbase (hown.lt k hk).1

theorem vBs_one (l : List UInt8) : ∀ u ∈ vBs l, u.oneCell' = true := by
  intro u hu
  simp only [vBs, List.mem_map] at hu
  obtain ⟨c, _, rfl⟩ := hu
  rfl

theorem below_setRow {B : Nat} {a w : World} (h : Below B a w) {g : Nat} (hB : B ≤ g) (cs : Array Value) : Below B a (w.setRow g cs) :=
  h.trans ⟨rfl, rfl, rfl, by simp, fun k hk => setRow_other w g k cs (by omega)⟩
/-- a struct or an array literal, its cells told -/
theorem wpList_agg {P : Program} {w : World} {ops : Array Oper} {rest : List Oper} {o : Oper} {a : Act} {Q : Exit → Act → World → Prop} (hg : o.guard = none) (t : TypeId) (parts : Array (Nat × Operand)) (ho : o.op = .build t parts)
    (cells : Array Value) (vs : List (Nat × Value)) (hv : (parts.map fun (i, x) => (i, a.eval x)).toList = vs) (hb : P.built t vs = some cells)
    (h : wpList P ops Q rest (a.put o.dst (.agg cells)) w) : wpList P ops Q (o :: rest) a w := by
  subst hv
  refine wpList_build hg t parts ho (by rw [hb]; rfl) ?_
  rw [hb]
  exact h

/-! ## bytes as a string -/
theorem beq_dec {α : Type} [DecidableEq α] (a b : List α) : (a == b) = decide (a = b) := by
  rw [Bool.eq_iff_iff, beq_iff_eq, decide_eq_true_eq]
def strOf (l : List UInt8) : ByteArray := ⟨l.toArray⟩
theorem strOf_toList (l : List UInt8) : (strOf l).toList = l := by rw [Lib.toList_data]; rfl
theorem strOf_inj {a b : List UInt8} (h : strOf a = strOf b) : a = b := by
  have := congrArg (fun s : ByteArray => s.data.toList) h
  simpa [strOf] using this
theorem strOf_size (l : List UInt8) : (strOf l).size = l.length := by simp [strOf, ByteArray.size]
theorem run_str {P : Program} (w : World) (src e dst : TypeId) (hs : P.underlying src = some (.slice e)) (he : P.underlying e = some (.int .u8)) (hd : P.underlying dst = some .string) {v : Value} {l : List UInt8} (hb : Bs w v l) :
    (convert src dst v).run P w = .ok (.string (strOf l)) w := by
  rcases hb.shape with ⟨a, cap, rfl, rfl⟩ | ⟨b, off, cap, rfl, _, _, hx⟩
  · rw [run_convert_bytes_string w src dst e a 0 cap hs he hd]
    cases a with
    | none => simp [Conv.bytesToString]; rfl
    | some x =>
      rw [run_bytesToString w x 0 cap [] (by simpa using run_loadCells_list (P := P) w x [] (fun j v h => by simp at h))]
      rfl
  · have h := run_convert_bytes_arg (P := P) w src e hs he b off l.length cap (l.map fun c => ((c.toNat : Nat) : Int)) (by simp) (fun i hi => by
      rw [hx i hi]; simp [List.getD, hi]) dst hd
    rw [h]
    congr 2
    apply ByteArray.ext
    apply Array.toList_inj.1
    rw [strOfNums_data]
    simp only [strOf, List.map_map]
    conv => rhs; rw [← List.map_id l]
    apply List.map_congr_left
    intro x _
    simp

/-! ## what came in -/
def bytesOf (zs : List Int) (n : Nat) : List UInt8 := (zs.take n).map fun z => UInt8.ofNat z.toNat
theorem bs_of_ints {w : World} {x : Addr} {n cap : Nat} {zs : List Int} (hl : n ≤ cap) (hz : zs.length = cap) (hcell : ∀ i, i < zs.length → w.cell? (x.add i) = some (.int .u8 (zs.getD i 0))) (hwf : ∀ z ∈ zs, (Lit.int .u8 z).wf = true) :
    Bs w (.slice (some x) n cap) (bytesOf zs n) ∧ (bytesOf zs n).length = n := by
  have hlen : (bytesOf zs n).length = n := by simp [bytesOf]; omega
  refine ⟨⟨by simp [vBs], ?_⟩, hlen⟩
  rw [hlen]
  by_cases hn : n = 0
  · exact .inl ⟨_, _, rfl, hn⟩
  · obtain ⟨b, off, sp⟩ := x
    have hc0 := hcell 0 (by omega)
    have hsp : sp = none := by simpa [Addr.add] using World.cell?_spot hc0
    subst hsp
    refine .inr ⟨b, off, cap, rfl, hl, by omega, fun i u hu => ?_⟩
    have hi : i < n := by have := (List.getElem?_eq_some_iff.1 hu).1; simp [vBs, hlen] at this; exact this
    have hc := hcell i (by omega)
    rw [add_at] at hc
    rw [hc]
    have hg : zs.getD i 0 = zs[i]'(by omega) := by simp [List.getD_eq_getElem?_getD, List.getElem?_eq_getElem (show i < zs.length by omega)]
    rw [hg]
    have hw := hwf (zs[i]'(by omega)) (List.getElem_mem _)
    have hbd : 0 ≤ zs[i]'(by omega) ∧ zs[i]'(by omega) ≤ 255 := by simpa [Lit.wf, IntKind.min, IntKind.max, IntKind.signed, IntKind.bits] using hw
    have hu2 : u = vB (UInt8.ofNat (zs[i]'(by omega)).toNat) := by
      simp only [vBs, bytesOf, List.map_map, List.getElem?_map, List.getElem?_take, hi, if_true, List.getElem?_eq_getElem (show i < zs.length by omega), Option.map_some, Option.some.injEq] at hu
      exact hu.symm
    rw [hu2]
    simp only [vB, Option.some.injEq]
    refine vi ?_
    rw [UInt8.toNat_ofNat']
    omega
end Go.Proofs.Ytnhalnjdlkdnkaa
