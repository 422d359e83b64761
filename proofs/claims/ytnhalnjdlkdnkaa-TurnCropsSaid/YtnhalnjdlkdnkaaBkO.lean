/- Slices of blocks: own rows of them, one stored, one loaded; == of blocks. By an AI agent. -/
import Derived.Test.YtnhalnjdlkdnkaaPicV
import Derived.Test.YtnhalnjdlkdnkaaBlk
import Derived.Test.YtnhalnjdlkdnkaaRF
import Derived.Deep.Onto
import Derived.Deep.MidRow
namespace Go.Proofs.Ytnhalnjdlkdnkaa
open Go.RowKit
set_option linter.unusedVariables false
set_option linter.unusedSimpArgs false

/-- 64 numbers -/
def Blk64 (b : List Int) : Prop := b.length = 64 ∧ ∀ z ∈ b, R64 z
def All64 (bs : List (List Int)) : Prop := ∀ b ∈ bs, Blk64 b
def zero64 : List Int := List.replicate 64 0
theorem blk_zero : Blk64 zero64 := ⟨rfl, fun z hz => by rw [zero64, List.mem_replicate] at hz; rw [hz.2]; unfold R64; omega⟩
theorem Blk64.in64 {b : List Int} (h : Blk64 b) : In64 b := fun x hx => h.2 x hx
/-- the cells of blocks -/
def fB (bs : List (List Int)) : List Value := bs.flatMap vIs
theorem fB_cons (b : List Int) (bs : List (List Int)) : fB (b :: bs) = vIs b ++ fB bs := List.flatMap_cons
theorem fB_app (a b : List (List Int)) : fB (a ++ b) = fB a ++ fB b := by unfold fB; rw [List.flatMap_append]
theorem fB_length {bs : List (List Int)} (h : All64 bs) : (fB bs).length = bs.length * 64 := by
  induction bs with
  | nil => rfl
  | cons b t ih =>
    rw [fB_cons, List.length_append, vIs_length, (h b (by simp)).1, ih (fun x hx => h x (by simp [hx])), List.length_cons]
    omega
theorem All64.take {bs : List (List Int)} (h : All64 bs) (n : Nat) : All64 (bs.take n) := fun b hb => h b (List.mem_of_mem_take hb)
theorem All64.drop {bs : List (List Int)} (h : All64 bs) (n : Nat) : All64 (bs.drop n) := fun b hb => h b (List.mem_of_mem_drop hb)
theorem All64.app {ps bs : List (List Int)} (h : All64 ps) (k : All64 bs) : All64 (ps ++ bs) := fun b hb => (List.mem_append.1 hb).elim (h b) (k b)
theorem All64.set {bs : List (List Int)} (h : All64 bs) (i : Nat) {b : List Int} (hb : Blk64 b) : All64 (bs.set i b) := fun x hx => by
  rcases List.mem_or_eq_of_mem_set hx with h2 | h2
  · exact h x h2
  · exact h2 ▸ hb
theorem All64.at {bs : List (List Int)} (h : All64 bs) (i : Nat) (hi : i < bs.length) : Blk64 bs[i] := h _ (List.getElem_mem hi)
theorem fB_at {bs : List (List Int)} (h : All64 bs) (i j : Nat) (hi : i < bs.length) (hj : j < 64) : (fB bs)[i * 64 + j]? = (vIs bs[i])[j]? := by
  induction bs generalizing i with
  | nil => simp at hi
  | cons b t ih =>
    have hb := (h b (by simp)).1
    rw [fB_cons]
    cases i with
    | zero => rw [Nat.zero_mul, Nat.zero_add, List.getElem?_append_left (by rw [vIs_length]; omega)]; rfl
    | succ i =>
      rw [List.getElem?_append_right (by rw [vIs_length]; omega), vIs_length, hb, show (i + 1) * 64 + j - 64 = i * 64 + j by omega]
      exact ih (fun x hx => h x (by simp [hx])) i (by simpa using hi)
theorem fB_set {bs : List (List Int)} (h : All64 bs) (i : Nat) (hi : i < bs.length) (b : List Int) : fB (bs.set i b) = (fB bs).take (i * 64) ++ vIs b ++ (fB bs).drop (i * 64 + 64) := by
  rw [List.set_eq_take_append_cons_drop, if_pos hi, fB_app, fB_cons]
  have h1 : fB bs = fB (bs.take i) ++ (vIs bs[i] ++ fB (bs.drop (i + 1))) := by
    conv => lhs; rw [← List.take_append_drop i bs, List.drop_eq_getElem_cons hi]
    rw [fB_app, fB_cons]
  have l1 : (fB (bs.take i)).length = i * 64 := by rw [fB_length (h.take i), List.length_take, Nat.min_eq_left (by omega)]
  have l2 : (vIs bs[i]).length = 64 := by rw [vIs_length]; exact (h.at i hi).1
  rw [h1]
  have e1 : (fB (bs.take i) ++ (vIs bs[i] ++ fB (bs.drop (i + 1)))).take (i * 64) = fB (bs.take i) := List.take_left' l1
  have e2 : (fB (bs.take i) ++ (vIs bs[i] ++ fB (bs.drop (i + 1)))).drop (i * 64 + 64) = fB (bs.drop (i + 1)) := by
    rw [← List.append_assoc]; exact List.drop_left' (by rw [List.length_append]; omega)
  rw [e1, e2, List.append_assoc]

/-- stores side by side into an own row -/
theorem owns_setCells {base : Nat} {e : TypeId} {size g n cap : Nat} (vs : List Value) : ∀ (o : Nat) (w : World) (xs : List Value), w.ownsRow base e size (.slice (some ⟨g, 0, none⟩) n cap) n xs → o + vs.length ≤ xs.length →
    (w.setCells g o vs).ownsRow base e size (.slice (some ⟨g, 0, none⟩) n cap) n (xs.take o ++ vs ++ xs.drop (o + vs.length)) ∧ w.grownBy (w.setCells g o vs) (some g) := by
  induction vs with
  | nil =>
    intro o w xs h ho
    simp only [World.setCells, List.append_nil, List.length_nil, Nat.add_zero, List.take_append_drop]
    exact ⟨h, ⟨rfl, rfl, rfl, Nat.le_refl _, fun _ _ _ => rfl⟩⟩
  | cons v r ih =>
    intro o w xs h ho
    simp only [List.length_cons] at ho ⊢
    obtain ⟨h1, g1⟩ := h.stored o v
    obtain ⟨h2, g2⟩ := ih (o + 1) _ _ h1 (by rw [List.length_set]; omega)
    refine ⟨?_, ⟨g2.os.trans g1.os, g2.tape.trans g1.tape, g2.output.trans g1.output, Nat.le_trans g1.size g2.size, fun k hk hne => (g2.block k (Nat.lt_of_lt_of_le hk g1.size) hne).trans (g1.block k hk hne)⟩⟩
    have e : (xs.set o v).take (o + 1) ++ r ++ (xs.set o v).drop (o + 1 + r.length) = xs.take o ++ (v :: r) ++ xs.drop (o + (r.length + 1)) := by
      rw [List.drop_set_of_lt (by omega), List.take_set, List.set_eq_take_append_cons_drop, if_pos (by rw [List.length_take]; omega), List.take_take, Nat.min_eq_left (by omega), List.drop_of_length_le (by rw [List.length_take]; omega)]
      simp only [List.append_assoc, List.cons_append, List.nil_append]
      congr 4
      omega
    rw [e] at h2
    exact h2
/-- an own row of blocks -/
structure BkO (base : Nat) (w : World) (v : Value) (bs : List (List Int)) : Prop where
  row : w.ownsRow base 23 64 v bs.length (fB bs)
  all : All64 bs
theorem BkO.nil (base : Nat) (w : World) : BkO base w (.slice none 0 0) [] := ⟨World.ownsRow_nil _ _ _ _, fun b hb => by simp at hb⟩
theorem BkO.old {base : Nat} {w w' : World} {v : Value} {bs : List (List Int)} (h : BkO base w v bs) (hb : Below w.heap.size w w') : BkO base w' v bs := ⟨owns_below h.row hb, h.all⟩
theorem BkO.mono {base base' : Nat} {w : World} {v : Value} {bs : List (List Int)} (h : BkO base w v bs) (hb : base' ≤ base) : BkO base' w v bs := ⟨World.ownsRow.mono h.row hb, h.all⟩
theorem BkO.shape {base : Nat} {w : World} {v : Value} {bs : List (List Int)} (h : BkO base w v bs) : ∃ a c, v = .slice a bs.length c := by
  rcases h.row.2 with ⟨rfl, h0⟩ | ⟨g, cap, cur, rfl, _⟩
  · exact ⟨_, _, by rw [h0]⟩
  · exact ⟨_, _, rfl⟩
theorem BkO.got {base : Nat} {w : World} {v : Value} {bs : List (List Int)} (h : BkO base w v bs) (h0 : 0 < bs.length) : ∃ g c, v = .slice (some ⟨g, 0, none⟩) bs.length c ∧ base ≤ g ∧ g < w.heap.size := by
  rcases h.row.2 with ⟨rfl, h1⟩ | ⟨g, cap, cur, rfl, _⟩
  · omega
  · exact ⟨g, cap, rfl, (h.row.lt g rfl).1, (h.row.lt g rfl).2⟩
theorem BkO.range {base g c : Nat} {w : World} {n : Nat} {bs : List (List Int)} (h : BkO base w (.slice (some ⟨g, 0, none⟩) n c) bs) (i : Nat) (hi : i < bs.length) : w.rangeAt g (i * 64) (vIs bs[i]) := fun j v hj => by
  obtain ⟨a, c', e⟩ := h.shape
  simp only [Value.slice.injEq] at e
  obtain ⟨_, rfl, _⟩ := e
  have hj64 : j < 64 := by have := (List.getElem?_eq_some_iff.1 hj).1; rw [vIs_length, (h.all.at i hi).1] at this; exact this
  rw [h.row.cellAt _ (by omega), fB_at h.all i j hi hj64]
  exact hj
theorem BkO.there {base g c : Nat} {w : World} {n : Nat} {bs : List (List Int)} (h : BkO base w (.slice (some ⟨g, 0, none⟩) n c) bs) (i : Nat) (hi : i < bs.length) : w.there g (i * 64) 64 := fun j hj => by
  obtain ⟨a, c', e⟩ := h.shape
  simp only [Value.slice.injEq] at e
  obtain ⟨_, rfl, _⟩ := e
  refine ⟨?_, h.row.frozenAt _⟩
  rw [h.row.cellAt _ (by omega), List.getElem?_eq_getElem (by rw [fB_length h.all]; omega)]
  rfl
theorem BkO.stored {base g c : Nat} {w : World} {n : Nat} {bs : List (List Int)} (h : BkO base w (.slice (some ⟨g, 0, none⟩) n c) bs) (i : Nat) (hi : i < bs.length) {b : List Int} (hb : Blk64 b) :
    BkO base (w.setCells g (i * 64) (vIs b)) (.slice (some ⟨g, 0, none⟩) n c) (bs.set i b) ∧ w.grownBy (w.setCells g (i * 64) (vIs b)) (some g) := by
  obtain ⟨a, c', e⟩ := h.shape
  simp only [Value.slice.injEq] at e
  obtain ⟨_, rfl, _⟩ := e
  have hv : (vIs b).length = 64 := by rw [vIs_length]; exact hb.1
  obtain ⟨h1, h2⟩ := owns_setCells (vIs b) (i * 64) w (fB bs) h.row (by rw [hv, fB_length h.all]; omega)
  refine ⟨⟨?_, h.all.set i hb⟩, h2⟩
  rw [hv, ← fB_set h.all i hi b] at h1
  rw [List.length_set]
  exact h1
/-- blocks that can be read -/
theorem Bks.range {w : World} {v : Value} {bs : List (List Int)} (h : Bks w v bs) : All64 bs ∧ ∃ a c, v = .slice a bs.length c ∧ bs.length ≤ c ∧ ∀ i (hi : i < bs.length), ∃ b o, a = some ⟨b, o, none⟩ ∧ w.rangeAt b (o + i * 64) (vIs bs[i]) := by
  obtain ⟨a, c, hv, hc, hx⟩ := h
  refine ⟨fun b hb => ?_, a, c, hv, hc, fun i hi => ?_⟩
  · obtain ⟨i, hi, rfl⟩ := List.mem_iff_getElem.1 hb
    obtain ⟨_, _, _, _, _, _, h1, h2, h3⟩ := hx i hi
    exact ⟨h2, h3⟩
  · obtain ⟨b, o, cs, ha, hl, hcell, rfl, _, _⟩ := hx i hi
    exact ⟨b, o, ha, fun j u hu => hcell j u hu⟩
/-- ... and read as one row of cells -/
theorem Bks.sl {w : World} {v : Value} {bs : List (List Int)} (h : Bks w v bs) : SlN 64 w v bs.length (fB bs) := by
  obtain ⟨hall, a, c, hv, hc, hx⟩ := h.range
  refine ⟨fB_length hall, ?_⟩
  by_cases h0 : bs.length = 0
  · exact .inl ⟨a, c, hv, h0⟩
  · obtain ⟨b, o, rfl, _⟩ := hx 0 (by omega)
    refine .inr ⟨b, o, c, hv, hc, by omega, fun i u hu => ?_⟩
    have hil : i < bs.length * 64 := by have := (List.getElem?_eq_some_iff.1 hu).1; rw [fB_length hall] at this; exact this
    have hd : i / 64 < bs.length := by omega
    have e : i / 64 * 64 + i % 64 = i := by omega
    rw [← e, fB_at hall _ _ hd (by omega)] at hu
    obtain ⟨b', o', h1, h2⟩ := hx (i / 64) hd
    simp only [Option.some.injEq, Addr.mk.injEq, and_true] at h1
    obtain ⟨rfl, rfl⟩ := h1
    have := h2 _ _ hu
    rwa [Nat.add_assoc, e] at this
theorem BkO.bks {base : Nat} {w : World} {v : Value} {bs : List (List Int)} (h : BkO base w v bs) : Bks w v bs := by
  rcases Nat.eq_zero_or_pos bs.length with h0 | h0
  · obtain rfl := List.eq_nil_of_length_eq_zero h0
    obtain ⟨a, c, rfl⟩ := h.shape
    exact Els.nil _ _ _ _ _
  · obtain ⟨g, c, rfl, _⟩ := h.got h0
    rcases h.row.2 with ⟨h1, _⟩ | ⟨g', cap, cur, h1, _, _, hc, _⟩
    · simp at h1
    · simp only [Value.slice.injEq, Option.some.injEq, Addr.mk.injEq, and_true, true_and] at h1
      obtain ⟨rfl, rfl⟩ := h1
      exact ⟨_, _, rfl, hc, fun i hi => ⟨g, 0, vIs bs[i], rfl, by rw [vIs_length]; exact (h.all.at i hi).1, fun j u hj => by rw [Nat.zero_add]; exact h.range i hi j u hj, rfl, (h.all.at i hi).1, (h.all.at i hi).2⟩⟩
theorem tyB : ElemTy Try.prog 68 23 (arr zero64) 64 512 := elemTy Try.underlying68 (by kernel_rfl) rfl (by decide)
theorem fB_one (bs : List (List Int)) : ∀ u ∈ fB bs, u.oneCell' = true := by
  intro u hu
  simp only [fB, List.mem_flatMap, vIs, List.mem_map] at hu
  obtain ⟨b, _, z, _, rfl⟩ := hu
  rfl

theorem map_inj {α β : Type} {f : α → β} (hf : ∀ a b, f a = f b → a = b) : ∀ {l m : List α}, l.map f = m.map f → l = m
  | [], [], _ => rfl
  | [], _ :: _, h => by simp at h
  | _ :: _, [], h => by simp at h
  | x :: l, y :: m, h => by
    simp only [List.map_cons, List.cons.injEq] at h
    rw [hf _ _ h.1, map_inj hf h.2]
/-! ## == of blocks -/
theorem flat_lits (l : List Int) (n : Nat) (h : l.length = n) : ((List.range n).map fun i => [Lit.int .i64 (l.getD i 0)]).flatten = l.map (Lit.int .i64) := by
  subst h
  induction l with
  | nil => rfl
  | cons x t ih =>
    rw [List.length_cons, List.range_succ_eq_map, List.map_cons, List.map_map, List.flatten_cons, List.map_cons]
    have : (fun i => [Lit.int .i64 ((x :: t).getD i 0)]) ∘ Nat.succ = fun i => [Lit.int .i64 (t.getD i 0)] := by funext i; simp
    rw [this, ih]
    rfl
theorem lits_all (l : List Int) (h : l.length = 64) (hin : In64 l) (d : Nat) : Try.prog.keyLits (d + 2) 23 (vIs l) = some (l.map (Lit.int .i64)) := by
  have hu : Try.prog.underlying 23 = some (.array 64 3) := by kernel_rfl
  have hui : Try.prog.underlying 3 = some (.int .i64) := by kernel_rfl
  have hc : Try.prog.cellsOf 23 = 64 := by kernel_rfl
  have hci : Try.prog.cellsOf 3 = 1 := by kernel_rfl
  rw [← flat_lits l 64 h]
  unfold Program.keyLits
  rw [hu]
  simp only [hc, hci, vIs_length, h, if_true]
  rw [mapM_some _ (fun i => [Lit.int .i64 (l.getD i 0)])]
  · rfl
  · intro i hi
    have hil : i < l.length := by rw [h]; exact List.mem_range.1 hi
    have e1 : ((vIs l).drop (i * 1)).take 1 = [Value.int .i64 (l.getD i 0)] := by
      rw [Nat.mul_one, List.drop_eq_getElem_cons (by rw [vIs_length]; exact hil)]
      simp [vIs, vI, List.getElem?_eq_getElem hil]
    rw [e1]
    unfold Program.keyLits
    rw [hui]
    have hm : l.getD i 0 ∈ l := by
      rw [List.getD_eq_getElem?_getD, List.getElem?_eq_getElem hil]
      exact List.getElem_mem _
    have hb := hin _ hm
    generalize l.getD i 0 = y at hb
    have hwf : (Lit.int .i64 y).wf = true := by simp [Lit.wf, IntKind.min, IntKind.max, IntKind.signed, IntKind.bits]; omega
    simp only [hwf, and_self, if_true]
theorem eq_in {l m : List Int} (hl : Blk64 l) (hm : Blk64 m) (w : World) : (Op.equalIn 10000 23 (arr l) (arr m)).run Try.prog w = .ok (decide (l = m)) w := by
  have hk : Try.prog.keyTypeAt 2 23 = true := by kernel_rfl
  have hf : ∀ l : List Int, l.length = 64 → (arr l).formed Try.prog 23 = true := fun l h => by
    have hu : Try.prog.underlying 23 = some (.array 64 3) := by kernel_rfl
    have hc : Try.prog.cellsOf 23 = 64 := by kernel_rfl
    unfold arr
    simp [Value.formed, hu, vIs_length, h, hc]
  have hcs : ∀ l, (arr l).cells.toList = vIs l := fun l => by simp [arr, Value.cells]
  obtain ⟨r, hr, hi⟩ := run_equalIn_deep 9998 2 23 hk w 2 2 (arr l) (arr m) _ _ (hf l hl.1) (hf m hm.1) (by rw [hcs]; exact lits_all l hl.1 hl.in64 0) (by rw [hcs]; exact lits_all m hm.1 hm.in64 0)
  have hinj : l.map (Lit.int .i64) = m.map (Lit.int .i64) ↔ l = m := ⟨fun h => map_inj (fun a b e => by simpa using e) h, fun h => by rw [h]⟩
  rw [hinj] at hi
  have : r = decide (l = m) := by rw [Bool.eq_iff_iff, decide_eq_true_eq]; exact hi
  rw [this] at hr
  exact hr
theorem eql_blk {l m : List Int} (hl : Blk64 l) (hm : Blk64 m) (w : World) : (binOp .eql 23 (arr l) (arr m)).run Try.prog w = .ok (.bool (decide (l = m))) w := by
  have := eq_in hl hm w
  unfold arr at this ⊢
  rw [run_eql_struct, this]
  rfl
theorem neq_blk {l m : List Int} (hl : Blk64 l) (hm : Blk64 m) (w : World) : (binOp .neq 23 (arr l) (arr m)).run Try.prog w = .ok (.bool (!decide (l = m))) w := by
  have := eq_in hl hm w
  unfold arr at this ⊢
  rw [run_neq_struct, this]
  rfl
end Go.Proofs.Ytnhalnjdlkdnkaa
