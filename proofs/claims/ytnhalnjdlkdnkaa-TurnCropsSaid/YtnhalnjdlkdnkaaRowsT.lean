/- Rows of records that hold a slice each; own rows; slices.Clone of all that a picture is made of. By an AI agent; the clones printed by a program of its own. -/
import Derived.Test.YtnhalnjdlkdnkaaShow
import Derived.Test.YtnhalnjdlkdnkaaTurnO
namespace Go.Proofs.Ytnhalnjdlkdnkaa
open Go.RowKit Go.BigFrame
set_option linter.unusedVariables false
set_option linter.unusedSimpArgs false
set_option maxRecDepth 20000

/-! ## rows of records -/
def cellsW {α : Type} (c : α → Value → List Value) (rs : List (α × Value)) : List Value := rs.flatMap fun p => c p.1 p.2
theorem cellsW_len {α : Type} {c : α → Value → List Value} {size : Nat} (hc : ∀ q x, (c q x).length = size) (rs : List (α × Value)) : (cellsW c rs).length = rs.length * size := by
  induction rs with
  | nil => simp [cellsW]
  | cons p rs ih =>
    have e : cellsW c (p :: rs) = c p.1 p.2 ++ cellsW c rs := List.flatMap_cons
    rw [e, List.length_append, hc, ih, List.length_cons, Nat.add_mul]
    omega
theorem cellsW_at {α : Type} {c : α → Value → List Value} {size : Nat} (hc : ∀ q x, (c q x).length = size) (rs : List (α × Value)) (i j : Nat) (hi : i < rs.length) (hj : j < size) : (cellsW c rs)[i * size + j]? = (c rs[i].1 rs[i].2)[j]? := by
  induction rs generalizing i with
  | nil => exact absurd hi (Nat.not_lt_zero i)
  | cons p rs ih =>
    have e : cellsW c (p :: rs) = c p.1 p.2 ++ cellsW c rs := List.flatMap_cons
    rw [e]
    cases i with
    | zero => rw [Nat.zero_mul, Nat.zero_add, List.getElem?_append_left (by rw [hc]; exact hj)]; rfl
    | succ i =>
      rw [List.getElem?_append_right (by rw [hc, Nat.add_mul]; omega), hc, show (i + 1) * size + j - size = i * size + j by rw [Nat.add_mul]; omega]
      exact ih i (by simpa using hi)
theorem mul_add_lt {i n j size : Nat} (hi : i < n) (hj : j < size) : i * size + j < n * size := by
  have : (i + 1) * size ≤ n * size := Nat.mul_le_mul_right _ hi
  rw [Nat.add_mul] at this
  omega
/-- one cell of one record turned -/
theorem cellsW_set {α : Type} {c : α → Value → List Value} {size : Nat} (hc : ∀ q x, (c q x).length = size) (rs : List (α × Value)) (i j : Nat) (hi : i < rs.length) (hj : j < size) (u : Value) (p : α × Value) (hp : c p.1 p.2 = (c rs[i].1 rs[i].2).set j u) :
    (cellsW c rs).set (i * size + j) u = cellsW c (rs.set i p) := by
  apply List.ext_getElem?
  intro m
  have hl := cellsW_len hc rs
  by_cases hm : m < rs.length * size
  · have hs : 0 < size := by omega
    have hd : m / size < rs.length := Nat.div_lt_of_lt_mul (by rw [Nat.mul_comm]; exact hm)
    have hr : m % size < size := Nat.mod_lt _ hs
    have e : m / size * size + m % size = m := by rw [Nat.mul_comm]; exact Nat.div_add_mod m size
    have h1 : (cellsW c rs)[m]? = (c rs[m / size].1 rs[m / size].2)[m % size]? := by rw [← cellsW_at hc rs _ _ hd hr, e]
    have h2 : (cellsW c (rs.set i p))[m]? = (c ((rs.set i p)[m / size]'(by simpa using hd)).1 ((rs.set i p)[m / size]'(by simpa using hd)).2)[m % size]? := by rw [← cellsW_at hc (rs.set i p) _ _ (by simpa using hd) hr, e]
    rw [h2, List.getElem?_set]
    by_cases hmi : m / size = i
    · have e3 : (rs.set i p)[m / size]'(by simpa using hd) = p := by simp [hmi]
      rw [e3, hp, List.getElem?_set]
      by_cases hmj : m % size = j
      · have : i * size + j = m := by rw [← hmi, ← hmj]; exact e
        rw [if_pos this, if_pos hmj.symm, if_pos (by rw [hl, this]; exact hm), if_pos (by rw [hc]; exact hj)]
      · have : i * size + j ≠ m := fun h => hmj (by rw [← h, Nat.mul_comm, Nat.mul_add_mod, Nat.mod_eq_of_lt hj])
        rw [if_neg this, if_neg (Ne.symm hmj), h1]
        simp only [hmi]
    · have : i * size + j ≠ m := fun h => hmi (by rw [← h, Nat.mul_comm, Nat.mul_add_div hs, Nat.div_eq_of_lt hj, Nat.add_zero])
      rw [if_neg this, h1, List.getElem_set_ne (Ne.symm hmi)]
  · rw [List.getElem?_eq_none (by simp [hl]; omega), List.getElem?_eq_none (by rw [cellsW_len hc]; simp; omega)]
theorem els_rows {α : Type} {c : α → Value → List Value} {size : Nat} {Ψ : World → α → Value → Prop} {w : World} {v : Value} {qs : List α} (hc : ∀ q x, (c q x).length = size) (hs : 0 < size)
    (h : Els size (fun w cs q => ∃ x, cs = c q x ∧ Ψ w q x) w v qs) : ∃ rs : List (α × Value), rs.map (·.1) = qs ∧ SlN size w v qs.length (cellsW c rs) ∧ ∀ p ∈ rs, Ψ w p.1 p.2 := by
  obtain ⟨a, cap, hv, hcap, hx⟩ := h
  have key : ∀ i, i < qs.length → ∃ x : Value, ∃ hi : i < qs.length, ∃ b off, a = some ⟨b, off, none⟩ ∧ (∀ j u, (c qs[i] x)[j]? = some u → w.cell? ⟨b, off + i * size + j, none⟩ = some u) ∧ Ψ w qs[i] x := by
    intro i hi
    obtain ⟨b, off, cs, ha, _, hcell, x, rfl, hΨ⟩ := hx i hi
    exact ⟨x, hi, b, off, ha, hcell, hΨ⟩
  obtain ⟨f, hf⟩ := Go.Deep.choose_lt key
  obtain ⟨rs, hrs⟩ : ∃ rs : List (α × Value), rs = qs.mapIdx fun i q => (q, f i) := ⟨_, rfl⟩
  have hl : rs.length = qs.length := by rw [hrs]; simp
  have hat : ∀ i (hi : i < qs.length), rs[i]'(by omega) = (qs[i], f i) := fun i hi => by subst hrs; simp
  refine ⟨rs, ?_, ⟨by rw [cellsW_len hc, hl], ?_⟩, fun p hp => ?_⟩
  · apply List.ext_getElem (by simp [hl])
    intro i h1 h2
    rw [List.getElem_map, hat i h2]
  · by_cases h0 : qs.length = 0
    · exact .inl ⟨a, cap, hv, h0⟩
    · obtain ⟨_, b, off, ha, _, _⟩ := hf 0 (by omega)
      refine .inr ⟨b, off, cap, by rw [hv, ha], hcap, by omega, fun m u hu => ?_⟩
      have hm : m < qs.length * size := by have := (List.getElem?_eq_some_iff.1 hu).1; rw [cellsW_len hc, hl] at this; exact this
      have hd : m / size < qs.length := Nat.div_lt_of_lt_mul (by rw [Nat.mul_comm]; exact hm)
      have hr : m % size < size := Nat.mod_lt _ hs
      have e : m / size * size + m % size = m := by rw [Nat.mul_comm]; exact Nat.div_add_mod m size
      obtain ⟨_, b', off', ha', hcell, _⟩ := hf (m / size) hd
      rw [ha] at ha'
      simp only [Option.some.injEq, Addr.mk.injEq, and_true] at ha'
      obtain ⟨rfl, rfl⟩ := ha'
      rw [← e, cellsW_at hc rs _ _ (by omega) hr] at hu
      simp only [hat (m / size) hd] at hu
      have := hcell _ _ hu
      rwa [Nat.add_assoc, e] at this
  · obtain ⟨i, hi, rfl⟩ := List.getElem_of_mem hp
    rw [hat i (by omega)]
    obtain ⟨_, _, _, _, _, hΨ⟩ := hf i (by omega)
    exact hΨ
theorem rows_els {α : Type} {c : α → Value → List Value} {size : Nat} {Ψ : World → α → Value → Prop} {w : World} {v : Value} {rs : List (α × Value)} (hc : ∀ q x, (c q x).length = size) (hs : 0 < size)
    (h : SlN size w v rs.length (cellsW c rs)) (hΨ : ∀ p ∈ rs, Ψ w p.1 p.2) : Els size (fun w cs q => ∃ x, cs = c q x ∧ Ψ w q x) w v (rs.map (·.1)) := by
  rcases h.2 with ⟨a, cap, hv, h0⟩ | ⟨b, off, cap, hv, hcap, _, hx⟩
  · have : rs = [] := List.eq_nil_of_length_eq_zero h0
    subst this
    rw [hv]
    exact Els.nil _ _ _ _ _
  · refine ⟨some ⟨b, off, none⟩, cap, by rw [hv]; simp, by simpa using hcap, fun i hi => ?_⟩
    have hi' : i < rs.length := by simpa using hi
    refine ⟨b, off, c rs[i].1 rs[i].2, rfl, hc _ _, fun j u hj => ?_, rs[i].2, by simp, by simpa using hΨ _ (List.getElem_mem hi')⟩
    have hjs : j < size := by have := (List.getElem?_eq_some_iff.1 hj).1; rw [hc] at this; exact this
    rw [Nat.add_assoc]
    exact hx _ _ (by rw [cellsW_at hc rs _ _ hi' hjs]; exact hj)
theorem vPart_len (p : PartL) (x : Value) : (vPart p x).length = 7 := rfl
def vSeg (s : Int × List UInt8) (x : Value) : List Value := [.int .i64 s.1, x]
theorem vSeg_len (s : Int × List UInt8) (x : Value) : (vSeg s x).length = 2 := rfl
theorem pts_rows {w : World} {v : Value} {ps : List PartL} (h : Pts w v ps) : ∃ rs : List (PartL × Value), rs.map (·.1) = ps ∧ SlN 7 w v ps.length (cellsW vPart rs) ∧ ∀ p ∈ rs, PartB p.1 ∧ Bks w p.2 p.1.bs :=
  els_rows (Ψ := fun w p x => PartB p ∧ Bks w x p.bs) vPart_len (by decide) h
theorem rows_pts {w : World} {v : Value} {rs : List (PartL × Value)} (h : SlN 7 w v rs.length (cellsW vPart rs)) (hΨ : ∀ p ∈ rs, PartB p.1 ∧ Bks w p.2 p.1.bs) : Pts w v (rs.map (·.1)) :=
  rows_els (Ψ := fun w p x => PartB p ∧ Bks w x p.bs) vPart_len (by decide) h hΨ
theorem sgs_rows {w : World} {v : Value} {ks : List (Int × List UInt8)} (h : Sgs w v ks) : ∃ rs : List ((Int × List UInt8) × Value), rs.map (·.1) = ks ∧ SlN 2 w v ks.length (cellsW vSeg rs) ∧ ∀ p ∈ rs, R64 p.1.1 ∧ p.1.2.length ≤ 140737488351232 ∧ Bs w p.2 p.1.2 :=
  els_rows (Ψ := fun w (p : Int × List UInt8) x => R64 p.1 ∧ p.2.length ≤ 140737488351232 ∧ Bs w x p.2) vSeg_len (by decide) h
theorem rows_sgs {w : World} {v : Value} {rs : List ((Int × List UInt8) × Value)} (h : SlN 2 w v rs.length (cellsW vSeg rs)) (hΨ : ∀ p ∈ rs, R64 p.1.1 ∧ p.1.2.length ≤ 140737488351232 ∧ Bs w p.2 p.1.2) : Sgs w v (rs.map (·.1)) :=
  rows_els (Ψ := fun w (p : Int × List UInt8) x => R64 p.1 ∧ p.2.length ≤ 140737488351232 ∧ Bs w x p.2) vSeg_len (by decide) h hΨ
theorem cellsW_one {α : Type} {c : α → Value → List Value} {rs : List (α × Value)} (h : ∀ p ∈ rs, ∀ u ∈ c p.1 p.2, u.oneCell' = true) : ∀ u ∈ cellsW c rs, u.oneCell' = true := by
  intro u hu
  obtain ⟨p, hp, hu⟩ := List.mem_flatMap.1 hu
  exact h p hp u hu
theorem bks_slice {w : World} {v : Value} {bs : List (List Int)} (h : Bks w v bs) : ∃ a c, v = .slice a bs.length c := by
  obtain ⟨a, c, hv, _⟩ := h
  exact ⟨a, c, hv⟩
theorem parts_one {w : World} {rs : List (PartL × Value)} (h : ∀ p ∈ rs, PartB p.1 ∧ Bks w p.2 p.1.bs) : ∀ u ∈ cellsW vPart rs, u.oneCell' = true :=
  cellsW_one fun p hp u hu => by
    obtain ⟨a, c, hv⟩ := bks_slice (h p hp).2
    unfold vPart at hu
    simp only [List.mem_cons, List.not_mem_nil, or_false] at hu
    rcases hu with rfl | rfl | rfl | rfl | rfl | rfl | rfl
    · rfl
    · rfl
    · rfl
    · rfl
    · rfl
    · rfl
    · rw [hv]; rfl
theorem segs_one {w : World} {rs : List ((Int × List UInt8) × Value)} (h : ∀ p ∈ rs, R64 p.1.1 ∧ p.1.2.length ≤ 140737488351232 ∧ Bs w p.2 p.1.2) : ∀ u ∈ cellsW vSeg rs, u.oneCell' = true :=
  cellsW_one fun p hp u hu => by
    obtain ⟨a, c, hv⟩ := (h p hp).2.2.len
    unfold vSeg at hu
    simp only [List.mem_cons, List.not_mem_nil, or_false] at hu
    rcases hu with rfl | rfl
    · rfl
    · rw [hv]; rfl
/-! ## own rows in worlds that keep what lies high -/
def KeepHi (base : Nat) (w w' : World) : Prop := w.heap.size ≤ w'.heap.size ∧ ∀ b, base ≤ b → b < w.heap.size → w'.heap[b]? = w.heap[b]?
theorem keepHi_below {base : Nat} {w w' : World} (h : Below w.heap.size w w') : KeepHi base w w' := ⟨h.size, fun b _ hb => h.block b hb⟩
theorem KeepHi.trans {base : Nat} {a b c : World} (h : KeepHi base a b) (k : KeepHi base b c) : KeepHi base a c := ⟨Nat.le_trans h.1 k.1, fun i hi hl => (k.2 i hi (Nat.lt_of_lt_of_le hl h.1)).trans (h.2 i hi hl)⟩
theorem owns_hi {base : Nat} {w w' : World} {e : TypeId} {size : Nat} {v : Value} {n : Nat} {xs : List Value} (h : w.ownsRow base e size v n xs) (k : KeepHi base w w') : w'.ownsRow base e size v n xs := by
  refine ⟨h.1, ?_⟩
  rcases h.2 with h | ⟨g, cap, cur, hv, hg, hc, hr⟩
  · exact .inl h
  · refine .inr ⟨g, cap, cur, hv, hg, ?_, hr⟩
    rw [k.2 g hg (Array.getElem?_eq_some_iff.1 hc).1]
    exact hc
/-- a store into a block of another type, or another block -/
theorem owns_other {w : World} {base : Nat} {e t : TypeId} {size : Nat} {v : Value} {n : Nat} {xs : List Value} (h : w.ownsRow base e size v n xs) {B j : Nat} {C : Array Value} {fr : Nat × Nat} {u : Value} (hB : w.heap[B]? = some (.cells C t fr)) (ht : e ≠ t) : (w.setCell ⟨B, j, none⟩ u).ownsRow base e size v n xs := by
  refine ⟨h.1, ?_⟩
  rcases h.2 with h | ⟨g, cap, cur, hv, hg, hc, hr⟩
  · exact .inl h
  · refine .inr ⟨g, cap, cur, hv, hg, ?_, hr⟩
    rw [Go.Deep.blk_setCell_other _ _ _ _ (fun e' => ht (by simp only at e'; subst e'; rw [hB] at hc; simp only [Option.some.injEq, Obj.cells.injEq] at hc; exact hc.2.1.symm))]
    exact hc
theorem own_ne {w : World} {b1 b2 : Nat} {e1 e2 : TypeId} {s1 s2 : Nat} {v1 v2 : Value} {n1 n2 : Nat} {xs1 xs2 : List Value} (h1 : w.ownsRow b1 e1 s1 v1 n1 xs1) (h2 : w.ownsRow b2 e2 s2 v2 n2 xs2) (he : e1 ≠ e2) : v1.ownBlock = none ∨ v1.ownBlock ≠ v2.ownBlock := by
  rcases h1.2 with ⟨rfl, _⟩ | ⟨g, cap, cur, rfl, _, hg, _⟩
  · exact .inl rfl
  rcases h2.2 with ⟨rfl, _⟩ | ⟨g', cap', cur', rfl, _, hg', _⟩
  · right; simp [Value.ownBlock]
  right
  intro e
  simp only [Value.ownBlock, Option.some.injEq] at e
  subst e
  rw [hg] at hg'
  simp only [Option.some.injEq, Obj.cells.injEq] at hg'
  exact he hg'.2.1
theorem sl_shape {size : Nat} {w : World} {v : Value} {n : Nat} {xs : List Value} (h : SlN size w v n xs) : ∃ a cap, v = .slice a n cap ∧ (a = none → n = 0 ∧ xs = []) := by
  rcases h.2 with ⟨a, cap, hv, h0⟩ | ⟨b, off, cap, hv, _⟩
  · exact ⟨a, cap, hv, fun _ => ⟨h0, List.eq_nil_of_length_eq_zero (by rw [h.1, h0, Nat.zero_mul])⟩⟩
  · exact ⟨_, cap, hv, fun h => by cases h⟩
theorem tyPa : ElemTy Try.prog 33 70 (.agg #[.int .i64 0, .int .i64 0, .int .i64 0, .int .i64 0, .int .i64 0, .int .i64 0, .slice none 0 0]) 7 72 := elemTy Try.underlying33 (by kernel_rfl) rfl (by decide)
theorem tySe : ElemTy Try.prog 34 73 (.agg #[.int .i64 0, .slice none 0 0]) 2 32 := elemTy Try.underlying34 (by kernel_rfl) rfl (by decide)
theorem tyBy : ElemTy Try.prog 71 5 (.int .u8 0) 1 1 := elemTy Try.underlying71 (by kernel_rfl) rfl (by decide)
set_option maxHeartbeats 800000 in
theorem cloneI_any (v : Value) (n : Nat) (xs : List Value) (w : World) (hb : SlN 1 w v n xs) (h1 : ∀ u ∈ xs, u.oneCell' = true) (hl : n ≤ 1000000000000) :
    Calls Try.prog 59 #[v] w fun e w' => ∃ v', e = .returned v' ∧ w'.ownsRow w.heap.size 3 1 v' n xs ∧ Below w.heap.size w w' := by
  obtain ⟨a, cap, rfl, h0⟩ := sl_shape hb
  have HB := Lib.hid hb
  have HL := Lib.hid hl
  have H1 := Lib.hid h1
  clear hb hl h1
  cases a with
  | none =>
    obtain ⟨rfl, rfl⟩ := h0 rfl
    have ne : ∀ w, (binOp .eql 31 (.slice none 0 cap) (.slice none 0 0)).run Try.prog w = .ok (.bool true) w := fun w => by kernel_rfl
    go_enter Try.func59, Try.ntmps59
    go_wp2_with fail
    go_ret
    exact ⟨_, rfl, World.ownsRow_nil _ _ _ _, Below.refl _ _⟩
  | some a =>
    clear h0
    have ne : ∀ w, (binOp .eql 31 (.slice (some a) n cap) (.slice none 0 0)).run Try.prog w = .ok (.bool false) w := fun w => by kernel_rfl
    go_enter Try.func59, Try.ntmps59
    go_wp2_with (at_builtin; refine stop ?_)
    have hb0 : Below w.heap.size w (w.alloc (.cells #[] 3)) := (Below.refl _ _).alloc (Nat.le_refl _) _
    refine unstop (wpList_app tyN4 rfl _ _ rfl w.heap.size _ 0 [] rfl (own0' w _ 1) _ n xs rfl (SlN.old HB.out hb0) H1.out (by have := HL.out; omega) (by have := HL.out; omega) (by simp) ?_)
    intro v1 w1 hown1 hg1 _
    have HB1 := Lib.hid (run_app_below (own0' w _ 1) hg1 hb0 (Nat.le_refl _))
    have HO1 : Hid (w1.ownsRow w.heap.size 3 1 v1 n xs) := Lib.hid (by have := hown1; rw [List.nil_append, Nat.zero_add] at this; exact this)
    clear hb0 hown1 hg1
    go_wp2_with fail
    go_ret
    exact ⟨_, rfl, HO1.out, HB1.out⟩
set_option maxHeartbeats 800000 in
theorem cloneP_any (v : Value) (n : Nat) (xs : List Value) (w : World) (hb : SlN 7 w v n xs) (h1 : ∀ u ∈ xs, u.oneCell' = true) (hl : n ≤ 1000000000000) :
    Calls Try.prog 56 #[v] w fun e w' => ∃ v', e = .returned v' ∧ w'.ownsRow w.heap.size 70 7 v' n xs ∧ Below w.heap.size w w' := by
  obtain ⟨a, cap, rfl, h0⟩ := sl_shape hb
  have HB := Lib.hid hb
  have HL := Lib.hid hl
  have H1 := Lib.hid h1
  clear hb hl h1
  cases a with
  | none =>
    obtain ⟨rfl, rfl⟩ := h0 rfl
    have ne : ∀ w, (binOp .eql 33 (.slice none 0 cap) (.slice none 0 0)).run Try.prog w = .ok (.bool true) w := fun w => by kernel_rfl
    go_enter Try.func56, Try.ntmps56
    go_wp2_with fail
    go_ret
    exact ⟨_, rfl, World.ownsRow_nil _ _ _ _, Below.refl _ _⟩
  | some a =>
    clear h0
    have ne : ∀ w, (binOp .eql 33 (.slice (some a) n cap) (.slice none 0 0)).run Try.prog w = .ok (.bool false) w := fun w => by kernel_rfl
    go_enter Try.func56, Try.ntmps56
    go_wp2_with (at_builtin; refine stop ?_)
    have hb0 : Below w.heap.size w (w.alloc (.cells #[] 70)) := (Below.refl _ _).alloc (Nat.le_refl _) _
    refine unstop (wpList_app tyPa rfl _ _ rfl w.heap.size _ 0 [] rfl (own0' w _ 7) _ n xs rfl (SlN.old HB.out hb0) H1.out (by have := HL.out; omega) (by have := HL.out; omega) (by simp) ?_)
    intro v1 w1 hown1 hg1 _
    have HB1 := Lib.hid (run_app_below (own0' w _ 7) hg1 hb0 (Nat.le_refl _))
    have HO1 : Hid (w1.ownsRow w.heap.size 70 7 v1 n xs) := Lib.hid (by have := hown1; rw [List.nil_append, Nat.zero_add] at this; exact this)
    clear hb0 hown1 hg1
    go_wp2_with fail
    go_ret
    exact ⟨_, rfl, HO1.out, HB1.out⟩
set_option maxHeartbeats 800000 in
theorem cloneS_any (v : Value) (n : Nat) (xs : List Value) (w : World) (hb : SlN 2 w v n xs) (h1 : ∀ u ∈ xs, u.oneCell' = true) (hl : n ≤ 1000000000000) :
    Calls Try.prog 61 #[v] w fun e w' => ∃ v', e = .returned v' ∧ w'.ownsRow w.heap.size 73 2 v' n xs ∧ Below w.heap.size w w' := by
  obtain ⟨a, cap, rfl, h0⟩ := sl_shape hb
  have HB := Lib.hid hb
  have HL := Lib.hid hl
  have H1 := Lib.hid h1
  clear hb hl h1
  cases a with
  | none =>
    obtain ⟨rfl, rfl⟩ := h0 rfl
    have ne : ∀ w, (binOp .eql 34 (.slice none 0 cap) (.slice none 0 0)).run Try.prog w = .ok (.bool true) w := fun w => by kernel_rfl
    go_enter Try.func61, Try.ntmps61
    go_wp2_with fail
    go_ret
    exact ⟨_, rfl, World.ownsRow_nil _ _ _ _, Below.refl _ _⟩
  | some a =>
    clear h0
    have ne : ∀ w, (binOp .eql 34 (.slice (some a) n cap) (.slice none 0 0)).run Try.prog w = .ok (.bool false) w := fun w => by kernel_rfl
    go_enter Try.func61, Try.ntmps61
    go_wp2_with (at_builtin; refine stop ?_)
    have hb0 : Below w.heap.size w (w.alloc (.cells #[] 73)) := (Below.refl _ _).alloc (Nat.le_refl _) _
    refine unstop (wpList_app tySe rfl _ _ rfl w.heap.size _ 0 [] rfl (own0' w _ 2) _ n xs rfl (SlN.old HB.out hb0) H1.out (by have := HL.out; omega) (by have := HL.out; omega) (by simp) ?_)
    intro v1 w1 hown1 hg1 _
    have HB1 := Lib.hid (run_app_below (own0' w _ 2) hg1 hb0 (Nat.le_refl _))
    have HO1 : Hid (w1.ownsRow w.heap.size 73 2 v1 n xs) := Lib.hid (by have := hown1; rw [List.nil_append, Nat.zero_add] at this; exact this)
    clear hb0 hown1 hg1
    go_wp2_with fail
    go_ret
    exact ⟨_, rfl, HO1.out, HB1.out⟩
set_option maxHeartbeats 800000 in
theorem cloneY_any (v : Value) (n : Nat) (xs : List Value) (w : World) (hb : SlN 1 w v n xs) (h1 : ∀ u ∈ xs, u.oneCell' = true) (hl : n ≤ 1000000000000) :
    Calls Try.prog 62 #[v] w fun e w' => ∃ v', e = .returned v' ∧ w'.ownsRow w.heap.size 5 1 v' n xs ∧ Below w.heap.size w w' := by
  obtain ⟨a, cap, rfl, h0⟩ := sl_shape hb
  have HB := Lib.hid hb
  have HL := Lib.hid hl
  have H1 := Lib.hid h1
  clear hb hl h1
  cases a with
  | none =>
    obtain ⟨rfl, rfl⟩ := h0 rfl
    have ne : ∀ w, (binOp .eql 71 (.slice none 0 cap) (.slice none 0 0)).run Try.prog w = .ok (.bool true) w := fun w => by kernel_rfl
    go_enter Try.func62, Try.ntmps62
    go_wp2_with fail
    go_ret
    exact ⟨_, rfl, World.ownsRow_nil _ _ _ _, Below.refl _ _⟩
  | some a =>
    clear h0
    have ne : ∀ w, (binOp .eql 71 (.slice (some a) n cap) (.slice none 0 0)).run Try.prog w = .ok (.bool false) w := fun w => by kernel_rfl
    go_enter Try.func62, Try.ntmps62
    go_wp2_with (at_builtin; refine stop ?_)
    have hb0 : Below w.heap.size w (w.alloc (.cells #[] 5)) := (Below.refl _ _).alloc (Nat.le_refl _) _
    refine unstop (wpList_app tyBy rfl _ _ rfl w.heap.size _ 0 [] rfl (own0' w _ 1) _ n xs rfl (SlN.old HB.out hb0) H1.out (by have := HL.out; omega) (by have := HL.out; omega) (by simp) ?_)
    intro v1 w1 hown1 hg1 _
    have HB1 := Lib.hid (run_app_below (own0' w _ 1) hg1 hb0 (Nat.le_refl _))
    have HO1 : Hid (w1.ownsRow w.heap.size 5 1 v1 n xs) := Lib.hid (by have := hown1; rw [List.nil_append, Nat.zero_add] at this; exact this)
    clear hb0 hown1 hg1
    go_wp2_with fail
    go_ret
    exact ⟨_, rfl, HO1.out, HB1.out⟩
end Go.Proofs.Ytnhalnjdlkdnkaa
