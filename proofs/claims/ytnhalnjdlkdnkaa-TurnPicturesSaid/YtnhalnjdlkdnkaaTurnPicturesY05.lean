/- The document's Turn walked. By an AI agent. -/
import Derived.Test.YtnhalnjdlkdnkaaTurnPicturesY03
import Derived.Test.YtnhalnjdlkdnkaaTurnPicturesY04
import Derived.Test.YtnhalnjdlkdnkaaZ26
import Derived.Test.YtnhalnjdlkdnkaaZ18
namespace Go.Proofs.Ytnhalnjdlkdnkaa
open Go.RowKit Go.BigFrame
set_option linter.unusedVariables false
set_option linter.unusedSimpArgs false
set_option maxRecDepth 20000

/-- the boxes of the document's Turn while rows and columns change places -/
structure TrX (w : World) (B : Nat) (P Q : PicL) (q0 q1 q2 q3 pv kv r0 r1 r2 r3 rv : Value) (W : World) : Prop where
  o : PBox W B P q0 q1 q2 q3 pv kv
  z : ZBox W (B + 1)
  a : PBox W (B + 1 + 1) Q r0 r1 r2 r3 rv kv
  l : Below B w W
theorem TrX.lt {w : World} {B : Nat} {P Q : PicL} {q0 q1 q2 q3 pv kv r0 r1 r2 r3 rv : Value} {W : World} (h : TrX w B P Q q0 q1 q2 q3 pv kv r0 r1 r2 r3 rv W) : B + 1 + 1 < W.heap.size := (Array.getElem?_eq_some_iff.1 h.a).1
theorem TrX.old {w : World} {B : Nat} {P Q : PicL} {q0 q1 q2 q3 pv kv r0 r1 r2 r3 rv : Value} {W W' : World} (h : TrX w B P Q q0 q1 q2 q3 pv kv r0 r1 r2 r3 rv W) (hb : Below W.heap.size W W') : TrX w B P Q q0 q1 q2 q3 pv kv r0 r1 r2 r3 rv W' :=
  ⟨h.o.old hb, h.z.old hb, h.a.old hb, h.l.trans (hb.mono (by have := h.lt; omega))⟩
theorem TrX.grown {w : World} {B : Nat} {P Q : PicL} {q0 q1 q2 q3 pv kv r0 r1 r2 r3 rv : Value} {W W' : World} (h : TrX w B P Q q0 q1 q2 q3 pv kv r0 r1 r2 r3 rv W) {v : Value} {base size n : Nat} {e : TypeId} {xs : List Value} (hv : W.ownsRow base e size v n xs) (hg : W.grownBy W' v.ownBlock) (hb : B ≤ base) (he : 36 ≠ e) : TrX w B P Q q0 q1 q2 q3 pv kv r0 r1 r2 r3 rv W' :=
  ⟨heap_grown hv hg h.o he, heap_grown hv hg h.z he, heap_grown hv hg h.a he, h.l.grown hg (by have := h.lt; omega) fun k hk => Nat.le_trans hb (hv.lt k hk).1⟩
theorem TrX.setq {w : World} {B : Nat} {P Q : PicL} {q0 q1 q2 q3 pv kv rv : Value} {W : World} (f g : Nat → Value) (h : TrX w B P Q q0 q1 q2 q3 pv kv (f 0) (f 1) (f 2) (f 3) rv W) (k : Nat) (hk : k < 4) (u : Value) (hg : ∀ j, g j = if j = k then u else f j) :
    TrX w B P Q q0 q1 q2 q3 pv kv (g 0) (g 1) (g 2) (g 3) rv (W.setCell ⟨B + 1 + 1, 2 + k, none⟩ u) :=
  ⟨by unfold PBox; rw [Go.Deep.blk_setCell_other _ _ _ _ (by simp only; omega)]; exact h.o, h.z.set (by omega), pbox_setq f g h.a k hk u hg, below_set h.l (by omega)⟩
theorem TrX.setp {w : World} {B : Nat} {P Q : PicL} {q0 q1 q2 q3 pv kv r0 r1 r2 r3 rv : Value} {W : World} (h : TrX w B P Q q0 q1 q2 q3 pv kv r0 r1 r2 r3 rv W) (u : Value) : TrX w B P Q q0 q1 q2 q3 pv kv r0 r1 r2 r3 u (W.setCell ⟨B + 1 + 1, 6, none⟩ u) :=
  ⟨by unfold PBox; rw [Go.Deep.blk_setCell_other _ _ _ _ (by simp only; omega)]; exact h.o, h.z.set (by omega), pbox_setp h.a u, below_set h.l (by omega)⟩
/-- crossed, the picture stays readable wherever the first one is -/
structure RtJ (w : World) (B : Nat) (P X : PicL) (q0 q1 q2 q3 pv kv r0 r1 r2 r3 rv : Value) (W : World) : Prop where
  o : PBox W B X r0 r1 r2 r3 rv kv
  z : ZBox W (B + 1)
  l : Below B w W
  p : ∀ V, PicC V P q0 q1 q2 q3 pv kv → KeepHi (B + 1 + 1) W V → PicC V X r0 r1 r2 r3 rv kv
theorem RtJ.old {w : World} {B : Nat} {P X : PicL} {q0 q1 q2 q3 pv kv r0 r1 r2 r3 rv : Value} {W W' : World} (h : RtJ w B P X q0 q1 q2 q3 pv kv r0 r1 r2 r3 rv W) (hb : Below W.heap.size W W') : RtJ w B P X q0 q1 q2 q3 pv kv r0 r1 r2 r3 rv W' :=
  ⟨h.o.old hb, h.z.old hb, h.l.trans (hb.mono (Nat.le_of_lt (Array.getElem?_eq_some_iff.1 h.o).1)), fun V h1 h2 => h.p V h1 ((keepHi_below hb).trans h2)⟩
/-- in some values -/
def RtE (w : World) (B : Nat) (P X : PicL) (q0 q1 q2 q3 pv kv : Value) (W : World) : Prop := ∃ e0 c0 e1 c1 e2 c2 e3 c3 e4 c4, RtJ w B P X q0 q1 q2 q3 pv kv (.slice e0 X.q0.length c0) (.slice e1 X.q1.length c1) (.slice e2 X.q2.length c2) (.slice e3 X.q3.length c3) (.slice e4 X.parts.length c4) W
theorem RtJ.e {w : World} {B : Nat} {P X : PicL} {q0 q1 q2 q3 pv kv r0 r1 r2 r3 rv : Value} {W : World} (h : RtJ w B P X q0 q1 q2 q3 pv kv r0 r1 r2 r3 rv W) (hp : PicC W P q0 q1 q2 q3 pv kv) : RtE w B P X q0 q1 q2 q3 pv kv W := by
  have h2 := h.p W hp ⟨Nat.le_refl _, fun _ _ _ => rfl⟩
  obtain ⟨e0, c0, rfl⟩ := h2.q0.len
  obtain ⟨e1, c1, rfl⟩ := h2.q1.len
  obtain ⟨e2, c2, rfl⟩ := h2.q2.len
  obtain ⟨e3, c3, rfl⟩ := h2.q3.len
  obtain ⟨e4, c4, rfl, _⟩ := h2.parts.len
  exact ⟨_, _, _, _, _, _, _, _, _, _, h⟩
def yPt (p : PartL) : PartL := { p with h := p.v, v := p.h, wide := p.high, high := p.wide }
/-- the place of a number in a crossed table -/
theorem quant_idx (k : Nat) (hk : k < 64) : ∃ (r q A : Int) (e : Nat), ((k : Int).tmod 8 = r ∧ (k : Int) % 8 = r ∧ wrap64 r = r ∧ IntKind.i64.wrap r = r) ∧ (wrap64 (8 * r) = A ∧ IntKind.i64.wrap (8 * r) = A) ∧ ((k : Int).tdiv 8 = q ∧ (k : Int) / 8 = q ∧ wrap64 q = q ∧ IntKind.i64.wrap q = q) ∧
    (wrap64 (A + q) = (e : Int) ∧ IntKind.i64.wrap (A + q) = (e : Int)) ∧ e < 64 ∧ k % 8 * 8 + k / 8 = e := by
  refine ⟨((k % 8 : Nat) : Int), ((k / 8 : Nat) : Int), ((8 * (k % 8) : Nat) : Int), k % 8 * 8 + k / 8, ⟨rfl, by omega, wrapN _ (by omega)⟩, ?_, ⟨rfl, by omega, wrapN _ (by omega)⟩, ?_, by omega, rfl⟩
  · have e : 8 * ((k % 8 : Nat) : Int) = ((8 * (k % 8) : Nat) : Int) := by omega
    rw [e]
    exact wrapN _ (by omega)
  · have e : ((8 * (k % 8) : Nat) : Int) + ((k / 8 : Nat) : Int) = ((k % 8 * 8 + k / 8 : Nat) : Int) := by omega
    rw [e]
    exact wrapN _ (by omega)
/-- the place of a block in a crossed row -/
theorem cross_at (i j a b n : Nat) (hi : i < a) (hj : j < b) (hn : n = a * b) (hl : n ≤ 65536) : ∃ (A : Int) (E : Nat), (wrap64 ((j : Int) * (a : Int)) = A ∧ IntKind.i64.wrap ((j : Int) * (a : Int)) = A) ∧ (wrap64 (A + (i : Int)) = (E : Int) ∧ IntKind.i64.wrap (A + (i : Int)) = (E : Int)) ∧ E < n ∧ j * a + i = E := by
  have h : j * a + i < n := by rw [hn, Nat.mul_comm a]; exact two_lt hj hi
  have e1 : (j : Int) * (a : Int) = ((j * a : Nat) : Int) := (Int.natCast_mul _ _).symm
  have e2 : ((j * a : Nat) : Int) + (i : Int) = ((j * a + i : Nat) : Int) := by push_cast; rfl
  refine ⟨((j * a : Nat) : Int), j * a + i, ?_, ?_, h, rfl⟩
  · rw [e1]; exact wrapN _ (by omega)
  · rw [e2]; exact wrapN _ (by omega)
theorem good_q64 {P : PicL} (G : GoodS P) {k j : Nat} (hk : k < 4) (hj : j < (qL P k).length) : (qL P k).length = 64 := by
  have := good_tables G k hk
  omega
theorem cross_q (P : PicL) (k : Nat) : qL (crossP P) k = crossQ (qL P k) := by
  unfold qL crossP
  rcases k with _ | _ | _ | k <;> rfl
theorem vIs_snoc (l : List Int) (x : Int) : vIs (l ++ [x]) = vIs l ++ [.int .i64 x] := by simp [vIs, vI]
theorem part_dims {P : PicL} (F : Fit P) (k : Nat) (hk : k < P.parts.length) : ∃ a b : Nat, P.parts[k].wide = (a : Int) ∧ P.parts[k].high = (b : Int) ∧ P.parts[k].bs.length = a * b ∧ a * b ≤ 65536 ∧ a ≤ 262140 ∧ b ≤ 262140 := by
  obtain ⟨h1, h2, h3, h4⟩ := F.pt k hk
  obtain ⟨⟨s1, s2⟩, s3, s4⟩ := szL_in P (k : Int)
  refine ⟨P.parts[k].wide.toNat, P.parts[k].high.toNat, ?_, ?_, ?_, ?_, ?_, ?_⟩
  · rw [h1, Int.toNat_of_nonneg s1]
  · rw [h2, Int.toNat_of_nonneg s3]
  · apply Int.ofNat.inj
    show ((P.parts[k].bs.length : Nat) : Int) = ((_ : Nat) : Int)
    rw [h3, Int.natCast_mul, h1, h2, Int.toNat_of_nonneg s1, Int.toNat_of_nonneg s3]
  · have h : ((P.parts[k].wide.toNat * P.parts[k].high.toNat : Nat) : Int) ≤ ((65536 : Nat) : Int) := by
      rw [Int.natCast_mul, h1, h2, Int.toNat_of_nonneg s1, Int.toNat_of_nonneg s3]
      exact h4
    exact Int.ofNat_le.1 h
  · rw [h1]; omega
  · rw [h2]; omega
/-- what a block's turn reads -/
def RtC (w : World) (B T : Nat) (yv xv : Value) (a : Int) (X : World) : Prop := X.cell? ⟨T + 1, 6, none⟩ = some yv ∧ X.cell? ⟨T, 6, none⟩ = some xv ∧ X.cell? ⟨T, 4, none⟩ = some (.int .i64 a) ∧ Below B w X
/-- a slice literal of one block, as one step -/
theorem wp_blk1 {P : Program} {o : Oper} {a : Act} {w : World} {K : Act → World → Prop} {Q : Exit → Act → World → Prop} (t e : TypeId) (x : Operand) (ho : o.op = .buildSlice t 1 #[(0, x)]) (b : List Int) (hx : a.eval x = arr b) (hb : b.length = 64)
    (hu : P.underlying t = some (.slice e)) (hie : ∃ ie, P.info? e = some ie ∧ ie.zero = some (arr zero64) ∧ ie.size = 64)
    (h : K (a.put o.dst (.slice (some ⟨w.heap.size, 0, none⟩) 1 1)) (w.alloc (.cells (vIs b).toArray e))) : Oper.wp P o a w K Q := by
  obtain ⟨ie, h1, h2, h3⟩ := hie
  refine wp_buildSlice t e 1 _ ho (vIs b).toArray ie (arr zero64) hu h1 h2 (by rw [h3]; decide) (by rw [h3]; decide) ?_ h
  have e : ((#[(0, x)] : Array (Nat × Operand)).map fun (i, x) => (i, a.eval x)).toList = [(0, arr b)] := by simp [hx]
  rw [e]
  exact fill_block b hb ie h3 _
theorem cross_parts (P : PicL) (k : Nat) (hk : k < P.parts.length) : (crossP P).parts.take (k + 1) = (crossP P).parts.take k ++ [crossPt P.parts[k]] := by
  have h : k < (crossP P).parts.length := by unfold crossP; simpa using hk
  rw [List.take_succ_eq_append_getElem h]
  congr 2
  exact List.getElem_map ..
theorem side_fact2 (x a : Int) (hx : 1 ≤ x ∧ x ≤ 65535) (ha : 1 ≤ a ∧ a ≤ 32) : ∃ q d : Int, (x.tdiv a = q ∧ wrap64 q = q ∧ IntKind.i64.wrap q = q) ∧ wrap64 (q * a) = d ∧ IntKind.i64.wrap (q * a) = d ∧ (∀ f, tW f x a = if f then d else x) ∧ (a == 0) = false ∧ ¬ a = 0 := by
  have h1 := Int.emod_nonneg x (show a ≠ 0 by omega)
  have h2 := Int.emod_lt_of_pos x (show 0 < a by omega)
  have h3 := Int.mul_ediv_add_emod x a
  have h4 : 0 ≤ a * (x / a) := Int.mul_nonneg (by omega) (Int.ediv_nonneg (by omega) (by omega))
  have h5 : x / a ≤ x := Int.ediv_le_self a (by omega)
  have h6 : 0 ≤ x / a := Int.ediv_nonneg (by omega) (by omega)
  have h7 : x / a * a = x - x % a := by rw [Int.mul_comm]; omega
  refine ⟨x / a, x - x % a, ⟨Int.tdiv_eq_ediv_of_nonneg (by omega), (wrapZ _ (by omega)).1, (wrapZ _ (by omega)).2⟩, ?_, ?_, fun f => rfl, by rw [beq_eq_false_iff_ne]; omega, by omega⟩
  · rw [h7]; exact (wrapZ _ (by omega)).1
  · rw [h7]; exact (wrapZ _ (by omega)).2
theorem bad_cases2 (X : PicL) (wd hi : Int) (pf : Bool) (h1 : wd ≤ X.w) (h2 : hi ≤ X.h) : ((wd == 0) = true ∧ badT X wd hi pf = true) ∨ ((wd == 0) = false ∧ (hi == 0) = true ∧ badT X wd hi pf = true) ∨ ((wd == 0) = false ∧ (hi == 0) = false ∧ pf = false ∧ badT X wd hi pf = false) ∨
    ((wd == 0) = false ∧ (hi == 0) = false ∧ pf = true ∧ ((wd == X.w) = false ∧ (wd != X.w) = true) ∧ badT X wd hi pf = true) ∨ ((wd == 0) = false ∧ (hi == 0) = false ∧ pf = true ∧ ((wd == X.w) = true ∧ (wd != X.w) = false) ∧ ((hi == X.h) = false ∧ (hi != X.h) = true) ∧ badT X wd hi pf = true) ∨
    ((wd == 0) = false ∧ (hi == 0) = false ∧ pf = true ∧ ((wd == X.w) = true ∧ (wd != X.w) = false) ∧ ((hi == X.h) = true ∧ (hi != X.h) = false) ∧ badT X wd hi pf = false) := by
  have key : ∀ a b : Int, a ≤ b → decide (a < b) = !(a == b) := fun a b h => by
    by_cases e : a = b
    · subst e; simp
    · rw [show (a == b) = false from by rw [beq_eq_false_iff_ne]; exact e, decide_eq_true (by omega)]; rfl
  have k1 := key _ _ h1
  have k2 := key _ _ h2
  have n1 : (wd != X.w) = !(wd == X.w) := rfl
  have n2 : (hi != X.h) = !(hi == X.h) := rfl
  rcases bad_cases X wd hi pf with ⟨d1, hr⟩ | ⟨d1, d2, hr⟩ | ⟨d1, d2, d3, hr⟩ | ⟨d1, d2, d3, d4, hr⟩ | ⟨d1, d2, d3, d4, d5, hr⟩ | ⟨d1, d2, d3, d4, d5, hr⟩
  · exact .inl ⟨d1, hr⟩
  · exact .inr (.inl ⟨d1, d2, hr⟩)
  · exact .inr (.inr (.inl ⟨d1, d2, d3, hr⟩))
  · rw [k1] at d4
    have e : (wd == X.w) = false := by cases h : (wd == X.w) <;> simp_all
    exact .inr (.inr (.inr (.inl ⟨d1, d2, d3, ⟨e, by rw [n1, e]; rfl⟩, hr⟩)))
  · rw [k1] at d4
    rw [k2] at d5
    have e : (wd == X.w) = true := by cases h : (wd == X.w) <;> simp_all
    have e2 : (hi == X.h) = false := by cases h : (hi == X.h) <;> simp_all
    exact .inr (.inr (.inr (.inr (.inl ⟨d1, d2, d3, ⟨e, by rw [n1, e]; rfl⟩, ⟨e2, by rw [n2, e2]; rfl⟩, hr⟩))))
  · rw [k1] at d4
    rw [k2] at d5
    have e : (wd == X.w) = true := by cases h : (wd == X.w) <;> simp_all
    have e2 : (hi == X.h) = true := by cases h : (hi == X.h) <;> simp_all
    exact .inr (.inr (.inr (.inr (.inr ⟨d1, d2, d3, ⟨e, by rw [n1, e]; rfl⟩, ⟨e2, by rw [n2, e2]; rfl⟩, hr⟩))))
theorem tW_le (f : Bool) (x a : Int) (hx : 1 ≤ x) (ha : 1 ≤ a) : tW f x a ≤ x := (tW_in f hx ha).2
theorem fin_mid {rs : List (PartL × Value)} {ps : List PartL} {F : PartL → PartL} {k : Nat} (h : rs.map (·.1) = (ps.take k).map F ++ ps.drop k) (hk : k < ps.length) (hr : k < rs.length) : rs[k].1 = ps[k] := by
  have e : (rs.map (·.1))[k]? = ((ps.take k).map F ++ ps.drop k)[k]? := by rw [h]
  rw [List.getElem?_map, List.getElem?_eq_getElem hr, List.getElem?_append_right (by rw [List.length_map, List.length_take]; omega), List.length_map, List.length_take, Nat.min_eq_left (by omega), Nat.sub_self, List.getElem?_drop, Nat.add_zero, List.getElem?_eq_getElem hk] at e
  simpa using e
theorem fin_set {rs : List (PartL × Value)} {ps : List PartL} {F : PartL → PartL} {k : Nat} (h : rs.map (·.1) = (ps.take k).map F ++ ps.drop k) (hk : k < ps.length) (x : Value) : (rs.set k (F ps[k], x)).map (·.1) = (ps.take (k + 1)).map F ++ ps.drop (k + 1) := by
  rw [List.map_set, h, List.set_append_right _ _ (by rw [List.length_map, List.length_take]; omega), List.length_map, List.length_take, Nat.min_eq_left (by omega), Nat.sub_self, List.drop_eq_getElem_cons hk, List.take_succ_eq_append_getElem hk, List.map_append, List.append_assoc]
  rfl
theorem fin_fact (f : Bool) (a s : Nat) (hs : s < a) (ha : a ≤ 262140) : ∃ (A : Int) (cl : Nat), (wrap64 ((a : Int) - 1) = A ∧ IntKind.i64.wrap ((a : Int) - 1) = A) ∧ (f = true → wrap64 (A - (s : Int)) = (cl : Int) ∧ IntKind.i64.wrap (A - (s : Int)) = (cl : Int)) ∧ (f = false → cl = s) ∧ finRow f a s = cl := by
  refine ⟨(a : Int) - 1, finRow f a s, wrapZ _ (by omega), fun h => ?_, fun h => ?_, rfl⟩
  · subst h
    have e : (a : Int) - 1 - (s : Int) = ((a - 1 - s : Nat) : Int) := by omega
    rw [e]
    exact wrapN _ (by omega)
  · subst h
    rfl
theorem finT_fact (f o : Bool) : ∃ D1 D : Int, (if f = true then (1 : Int) else 0) = D1 ∧ (o = true → wrap64 (D1 + 2) = D ∧ IntKind.i64.wrap (D1 + 2) = D) ∧ (o = false → D = D1) ∧ ((finT f o : Nat) : Int) = D := by
  cases f <;> cases o
  · exact ⟨0, 0, rfl, (fun h => by cases h), (fun _ => rfl), rfl⟩
  · exact ⟨0, 2, rfl, (fun _ => ⟨IntWalk.wrap64_in _ (by omega), IntWalk.i64_in _ (by omega)⟩), (fun h => by cases h), rfl⟩
  · exact ⟨1, 1, rfl, (fun h => by cases h), (fun _ => rfl), rfl⟩
  · exact ⟨1, 3, rfl, (fun _ => ⟨IntWalk.wrap64_in _ (by omega), IntWalk.i64_in _ (by omega)⟩), (fun h => by cases h), rfl⟩
set_option maxHeartbeats 16000000 in
theorem refTurn_any (P : PicL) (q0 q1 q2 q3 pv kv : Value) (t : Int) (pf : Bool) (w : World) (hp : PicC w P q0 q1 q2 q3 pv kv) (hB : PicB P) (hg : goodB P = true) (ht : 0 ≤ t ∧ t ≤ 7) :
    Calls Try.prog 24 #[.agg (vPic P q0 q1 q2 q3 pv kv), .int .i64 t, .bool pf] w fun e w' => ∃ r0 r1 r2 r3 rv sv, e = .returned (.tuple #[.agg (vPic (turnL P t pf) r0 r1 r2 r3 rv sv), .int .i64 (turnE P t pf)]) ∧ (∀ V, PicC V P q0 q1 q2 q3 pv kv → KeepHi w.heap.size w' V → PicC V (turnL P t pf) r0 r1 r2 r3 rv sv) ∧ Below w.heap.size w w' := by
  have HP := Lib.hid hp
  have HBB := Lib.hid hB
  have HG := Lib.hid hg
  have HT := Lib.hid ht
  have GD := Lib.hid ((good_iff P).1 hg)
  obtain ⟨b0, d0, rfl⟩ := hp.q0.len
  obtain ⟨b1, d1, rfl⟩ := hp.q1.len
  obtain ⟨b2, d2, rfl⟩ := hp.q2.len
  obtain ⟨b3, d3, rfl⟩ := hp.q3.len
  obtain ⟨ba, da, rfl, _⟩ := hp.kept.len
  obtain ⟨bp, dp, rfl, _⟩ := hp.parts.len
  obtain ⟨n0, hn0⟩ : ∃ z, P.q0.length = z := ⟨_, rfl⟩
  obtain ⟨n1, hn1⟩ : ∃ z, P.q1.length = z := ⟨_, rfl⟩
  obtain ⟨n2, hn2⟩ : ∃ z, P.q2.length = z := ⟨_, rfl⟩
  obtain ⟨n3, hn3⟩ : ∃ z, P.q3.length = z := ⟨_, rfl⟩
  obtain ⟨na, hna⟩ : ∃ z, P.kept.length = z := ⟨_, rfl⟩
  obtain ⟨n, hn⟩ : ∃ z, P.parts.length = z := ⟨_, rfl⟩
  rw [hn0, hn1, hn2, hn3, hna, hn] at HP ⊢
  have HNP := Lib.hid hn
  clear hn0 hn1 hn2 hn3 hna hn hp hB hg ht
  have N4 : Hid (1 ≤ n ∧ n ≤ 4) := Lib.hid (by rw [← HNP.out]; exact GD.out.fit.n)
  obtain ⟨w1, hw1⟩ : ∃ w1, (w.alloc (.cells (vPic P (.slice b0 n0 d0) (.slice b1 n1 d1) (.slice b2 n2 d2) (.slice b3 n3 d3) (.slice bp n dp) (.slice ba na da)) 36)).alloc (.cells zPic 36) = w1 := ⟨_, rfl⟩
  have B1 : Hid (Below w.heap.size w w1) := Lib.hid (by rw [← hw1]; exact ((Below.refl _ _).alloc (Nat.le_refl _) _).alloc (by simp) _)
  have X1 : Hid (PBox w1 w.heap.size P (.slice b0 n0 d0) (.slice b1 n1 d1) (.slice b2 n2 d2) (.slice b3 n3 d3) (.slice bp n dp) (.slice ba na da)) := Lib.hid (by rw [← hw1]; exact heap_old (heap_alloc_new _ _))
  have Z1 : Hid (ZBox w1 (w.heap.size + 1)) := Lib.hid (by
    rw [← hw1]
    have h := heap_alloc_new (w.alloc (.cells (vPic P (.slice b0 n0 d0) (.slice b1 n1 d1) (.slice b2 n2 d2) (.slice b3 n3 d3) (.slice bp n dp) (.slice ba na da)) 36)) (.cells zPic 36)
    rw [World.size_alloc] at h
    exact h)
  have SZ1 : Hid (w1.heap.size = w.heap.size + 1 + 1) := Lib.hid (by rw [← hw1, World.size_alloc, World.size_alloc])
  obtain ⟨B, hB⟩ : ∃ B, w.heap.size = B := ⟨_, rfl⟩
  have HB := Lib.hid hB
  rw [hB] at X1 Z1 B1 SZ1
  obtain ⟨a0, a1, a2, a3, a4, a5, a6, a7, a8⟩ := X1.out.cells
  unfold vPic zPic at hw1
  unfold vPic
  go_enter Try.func24, Try.ntmps24
  go_upto_region 1 with (fail)
  clear hw1
  go_wp2_with fail
  refine (crosses_any t w1).mono ?_
  rintro e w2 ⟨rfl, rfl⟩
  obtain ⟨c, hc⟩ : ∃ c, crossB t = c := ⟨_, rfl⟩
  rw [hc]
  have HC := Lib.hid hc
  clear hc
  go_upto_if 31 with (fail)
  go_cut [31] from 32 to 133 (fun v wx => v = .bool c ∧ RtE w B P (tC c P) (.slice b0 n0 d0) (.slice b1 n1 d1) (.slice b2 n2 d2) (.slice b3 n3 d3) (.slice bp n dp) (.slice ba na da) wx)
  case rest =>
    obtain ⟨rfl, hte⟩ := hcut
    obtain ⟨X, hX⟩ : ∃ X, tC c P = X := ⟨_, rfl⟩
    rw [hX] at hte
    have FX : Hid (Fit X) := Lib.hid (by rw [← hX]; exact tC_fit GD.out.fit c)
    have HX := Lib.hid hX
    clear hX a0 a1 a2 a3 a4 a5 a6 a7 a8 X1 Z1 B1 SZ1
    obtain ⟨e0, c0, e1, c1, e2, c2, e3, c3, e4, c4, hs⟩ := hte
    have HNX : Hid (X.parts.length = n) := Lib.hid (by
      rw [← HX.out, ← HNP.out]
      unfold tC
      split
      · unfold crossP; rw [List.length_map]
      · rfl)
    rw [HNX.out] at hs
    obtain ⟨m0, hm0⟩ : ∃ z, X.q0.length = z := ⟨_, rfl⟩
    obtain ⟨m1, hm1⟩ : ∃ z, X.q1.length = z := ⟨_, rfl⟩
    obtain ⟨m2, hm2⟩ : ∃ z, X.q2.length = z := ⟨_, rfl⟩
    obtain ⟨m3, hm3⟩ : ∃ z, X.q3.length = z := ⟨_, rfl⟩
    rw [hm0, hm1, hm2, hm3] at hs
    clear hm0 hm1 hm2 hm3
    have JJ := Lib.hid hs
    obtain ⟨a0, a1, a2, a3, a4, a5, a6, a7, a8⟩ := hs.o.cells
    have PXC := Lib.hid (hs.p wc (HP.out.old (by rw [HB.out]; exact hs.l)) ⟨Nat.le_refl _, fun _ _ _ => rfl⟩)
    have UN := Lib.hid (refUnit_any X (.slice e0 m0 c0) (.slice e1 m1 c1) (.slice e2 m2 c2) (.slice e3 m3 c3) (.slice e4 n c4) (.slice ba na da) wc PXC.out.parts (by have := FX.out.n; omega) (most_of FX.out.w FX.out.h FX.out.fac 0 (by have := FX.out.n; omega)))
    have MM := Lib.hid (max_of FX.out.fac FX.out.n.1)
    obtain ⟨ua, hua⟩ : ∃ z, 8 * maxH X.parts = z := ⟨_, rfl⟩
    obtain ⟨ub, hub⟩ : ∃ z, 8 * maxV X.parts = z := ⟨_, rfl⟩
    rw [hua, hub] at UN
    have HUA := Lib.hid hua
    have HUB := Lib.hid hub
    have UL : Hid ((1 ≤ ua ∧ ua ≤ 32) ∧ 1 ≤ ub ∧ ub ≤ 32) := Lib.hid (by have := MM.out; omega)
    clear hua hub hs MM
    unfold vPic at UN
    go_wp2_with fail
    refine UN.out.mono ?_
    rintro e w5 ⟨rfl, hb5⟩
    have J5 := Lib.hid (JJ.out.old hb5)
    have PX5 := Lib.hid (PXC.out.old hb5)
    clear hb5 a0 a1 a2 a3 a4 a5 a6 a7 a8 JJ PXC UN
    obtain ⟨a0, a1, a2, a3, a4, a5, a6, a7, a8⟩ := J5.out.o.cells
    obtain ⟨f, hf⟩ : ∃ f, flipB t = f := ⟨_, rfl⟩
    obtain ⟨o, ho⟩ : ∃ o, flopB t = o := ⟨_, rfl⟩
    have HF := Lib.hid hf
    have HO := Lib.hid ho
    have FLI : Hid (∀ w : World, Calls Try.prog 30 #[.int .i64 t] w fun e w' => e = .returned (.bool f) ∧ w = w') := Lib.hid (fun w => by rw [← hf]; exact flips_any t w)
    have FLO : Hid (∀ w : World, Calls Try.prog 31 #[.int .i64 t] w fun e w' => e = .returned (.bool o) ∧ w = w') := Lib.hid (fun w => by rw [← ho]; exact flops_any t w)
    clear hf ho
    have RF := Lib.hid (side_fact2 X.w ua FX.out.w UL.out.1)
    have SF := Lib.hid (side_fact2 X.h ub FX.out.h UL.out.2)
    go_wp2_with fail
    refine (FLI.out w5).mono ?_
    rintro e w6 ⟨rfl, rfl⟩
    go_upto_if 143 with (fail)
    go_cut [19] from 144 to 148 (fun v wx => v = .int .i64 (tW f X.w ua) ∧ w5 = wx)
    case first =>
      obtain ⟨q, d, ⟨m1, m1', m1''⟩, m2, m3, m5, m6, m7⟩ := RF.out
      have M5 := Lib.hid m5
      clear m5
      cases f
      · go_wp2_with fail
        go_meet
        exact ⟨by rw [M5.out]; rfl, rfl⟩
      · go_wp2_with fail
        go_meet
        exact ⟨by rw [M5.out]; rfl, rfl⟩
    case rest =>
    obtain ⟨rfl, rfl⟩ := hcut
    go_wp2_with fail
    refine (FLO.out w5).mono ?_
    rintro e w6 ⟨rfl, rfl⟩
    go_upto_if 150 with (fail)
    go_cut [20] from 151 to 155 (fun v wx => v = .int .i64 (tW o X.h ub) ∧ w5 = wx)
    case first =>
      obtain ⟨q, d, ⟨m1, m1', m1''⟩, m2, m3, m5, m6, m7⟩ := SF.out
      have M5 := Lib.hid m5
      clear m5
      cases o
      · go_wp2_with fail
        go_meet
        exact ⟨by rw [M5.out]; rfl, rfl⟩
      · go_wp2_with fail
        go_meet
        exact ⟨by rw [M5.out]; rfl, rfl⟩
    case rest =>
    obtain ⟨rfl, rfl⟩ := hcut
    have TL : Hid (tW f X.w ua ≤ X.w ∧ tW o X.h ub ≤ X.h) := Lib.hid ⟨tW_le f _ _ FX.out.w.1 UL.out.1.1, tW_le o _ _ FX.out.h.1 UL.out.2.1⟩
    obtain ⟨wd, hwd⟩ : ∃ z, tW f X.w ua = z := ⟨_, rfl⟩
    obtain ⟨hi, hhi⟩ : ∃ z, tW o X.h ub = z := ⟨_, rfl⟩
    rw [hwd, hhi] at TL ⊢
    have HWD := Lib.hid hwd
    have HHI := Lib.hid hhi
    have BC := Lib.hid (bad_cases2 X wd hi pf TL.out.1 TL.out.2)
    clear hwd hhi RF SF
    go_upto_region 41 with (fail)
    go_cut [176] from 156 to 176 (fun v wx => v = .bool (badT X wd hi pf) ∧ w5 = wx)
    case first =>
      rcases BC.out with ⟨d1, hr⟩ | ⟨d1, d2, hr⟩ | ⟨d1, d2, rfl, hr⟩ | ⟨d1, d2, rfl, ⟨d3, d3'⟩, hr⟩ | ⟨d1, d2, rfl, ⟨d3, d3'⟩, ⟨d4, d4'⟩, hr⟩ | ⟨d1, d2, rfl, ⟨d3, d3'⟩, ⟨d4, d4'⟩, hr⟩
      all_goals
        have HR := Lib.hid hr
        clear hr
        go_wp2_with fail
        go_meet
        exact ⟨by rw [HR.out], rfl⟩
    case rest =>
    obtain ⟨rfl, rfl⟩ := hcut
    clear BC
    have ET : Hid (turnE P t pf = if badT X wd hi pf = true then 5 else 0) := Lib.hid (by
      unfold turnE turnWd turnHi
      rw [HG.out, decide_eq_true HT.out, HC.out, HF.out, HO.out, HX.out, HUA.out, HUB.out, HWD.out, HHI.out]
      rfl)
    obtain ⟨bd, hbd⟩ : ∃ z, badT X wd hi pf = z := ⟨_, rfl⟩
    rw [hbd] at ET ⊢
    have HBD := Lib.hid hbd
    clear hbd
    have H1 : Hid ((zPic : Array Value).all (·.oneCell') = true) := Lib.hid (by kernel_rfl)
    have HI : Hid ((Try.prog.info? 36).map (·.size) = some 9) := Lib.hid (by kernel_rfl)
    unfold zPic at H1
    cases bd with
    | true =>
      have CE : Hid (turnE P t pf = 5) := Lib.hid ET.out
      clear a0 a1 a2 a3 a4 a5 a6 a7 a8
      have Z5 : Hid (ZBox w5 (B + 1)) := Lib.hid J5.out.z
      go_wp2_with (refine wpList_store_row rfl _ _ _ rfl (B + 1) #[.int .i64 0, .int .i64 0, .slice none 0 0, .slice none 0 0, .slice none 0 0, .slice none 0 0, .slice none 0 0, .int .i64 0, .slice none 0 0] rfl rfl 36 _ Z5.out HI.out rfl H1.out ?_; refine stop ?_)
      refine unstop ?_
      have FIN : Hid (∃ r0 r1 r2 r3 rv sv, Ending.returned (.tuple #[.agg zPic, .int .i64 5]) = Ending.returned (.tuple #[.agg (vPic (turnL P t pf) r0 r1 r2 r3 rv sv), .int .i64 (turnE P t pf)]) ∧ (∀ V, PicC V P (.slice b0 n0 d0) (.slice b1 n1 d1) (.slice b2 n2 d2) (.slice b3 n3 d3) (.slice bp n dp) (.slice ba na da) → KeepHi w.heap.size (w5.setRow (B + 1) zPic) V → PicC V (turnL P t pf) r0 r1 r2 r3 rv sv) ∧ Below w.heap.size w (w5.setRow (B + 1) zPic)) := Lib.hid (by
        refine ⟨.slice none 0 0, .slice none 0 0, .slice none 0 0, .slice none 0 0, .slice none 0 0, .slice none 0 0, ?_, fun V _ _ => ?_, ?_⟩
        · rw [turn_zero (by rw [CE.out]; decide), CE.out]
          rfl
        · rw [turn_zero (by rw [CE.out]; decide)]
          exact (pic_zero 0 V).pic
        · rw [HB.out]
          exact below_setRow J5.out.l (Nat.le_succ _) _)
      have hwE : (w5.setRow (B + 1) zPic).heap[B + 1]? = some (.cells zPic 36 (0, 0)) := setRow_heap _ _ _ _ _ _ J5.out.z
      unfold zPic at FIN hwE
      obtain ⟨wE, hE⟩ : ∃ wE, w5.setRow (B + 1) #[.int .i64 0, .int .i64 0, .slice none 0 0, .slice none 0 0, .slice none 0 0, .slice none 0 0, .slice none 0 0, .int .i64 0, .slice none 0 0] = wE := ⟨_, rfl⟩
      rw [hE] at hwE FIN
      rw [hE]
      clear hE
      set_option maxHeartbeats 200000 in
      go_wp2_with fail
      obtain ⟨r0, r1, r2, r3, r4, r5, r6, r7, r8⟩ := PBox.cells (P := zeroP) hwE
      unfold zeroP at r0 r1 r7
      refine bodyPost_ret (v := .tuple #[.agg #[.int .i64 0, .int .i64 0, .slice none 0 0, .slice none 0 0, .slice none 0 0, .slice none 0 0, .slice none 0 0, .int .i64 0, .slice none 0 0], .int .i64 5]) (by simp [results, Try.results24, go_sem, r0, r1, r2, r3, r4, r5, r6, r7, r8]; try rfl) rfl (by have h := FIN.out; unfold vPic at h; exact h)
    | false =>
    have CE : Hid (turnE P t pf = 0) := Lib.hid ET.out
    have II : Hid (In X 0 0 wd hi) := Lib.hid (by
      have h := HBD.out
      have h2 := turn_in (X := X) FX.out (f := f) (o := o) (pf := pf)
      rw [HUA.out, HUB.out, HWD.out, HHI.out] at h2
      exact h2 h)
    have YE : Hid (turnL P t pf = tO o (tF f (cutL X 0 0 wd hi))) := Lib.hid (by
      unfold turnL turnIn turnWd turnHi
      rw [if_pos CE.out, HC.out, HF.out, HO.out, HX.out, HUA.out, HUB.out, HWD.out, HHI.out])
    have CU := Lib.hid (refCut_any X (.slice e0 m0 c0) (.slice e1 m1 c1) (.slice e2 m2 c2) (.slice e3 m3 c3) (.slice e4 n c4) (.slice ba na da) 0 0 wd hi w5 PX5.out FX.out II.out)
    unfold vPic at CU
    obtain ⟨Y, hY⟩ : ∃ Y, cutL X 0 0 wd hi = Y := ⟨_, rfl⟩
    rw [hY] at CU YE
    have FY : Hid (Fit Y) := Lib.hid (by rw [← hY]; exact fit_cut FX.out II.out)
    have QY : Hid (Y.q0 = X.q0 ∧ Y.q1 = X.q1 ∧ Y.q2 = X.q2 ∧ Y.q3 = X.q3 ∧ Y.kept = X.kept) := Lib.hid (by rw [← hY]; exact ⟨rfl, rfl, rfl, rfl, rfl⟩)
    have HNY : Hid (Y.parts.length = n) := Lib.hid (by rw [← hY]; unfold cutL; rw [List.length_mapIdx]; exact HNX.out)
    clear hY
    go_wp2_with (go_at_call 42; refine CU.out.mono ?_; rintro e w8 ⟨rv, rs', rfl, hrs, hpt, hb8⟩; refine stop ?_)
    refine unstop ?_
    have RL : Hid (rs'.length = n) := Lib.hid (by have h := congrArg List.length hrs; rw [List.length_map, HNY.out] at h; exact h)
    have A64 : Hid (∀ p ∈ Y.parts, All64 p.bs) := Lib.hid (fun p hp => by
      rw [← hrs, List.mem_map] at hp
      obtain ⟨q, hq, rfl⟩ := hp
      exact (hpt.bk q hq).all)
    obtain ⟨g, gc, rfl, -, -, -⟩ := owns_shape hpt.row (by rw [RL.out]; exact N4.out.1) (by decide)
    rw [RL.out] at hpt ⊢
    obtain ⟨S, hS⟩ : ∃ S, w5.heap.size = S := ⟨_, rfl⟩
    have HS := Lib.hid hS
    rw [hS] at hpt
    have PT8 := Lib.hid hpt
    have HRS := Lib.hid hrs
    have LS : Hid (B + 1 + 1 ≤ S) := Lib.hid (by rw [← hS]; have := (Array.getElem?_eq_some_iff.1 J5.out.z).1; omega)
    have B8 : Hid (Below S w5 w8) := Lib.hid (by rw [← hS]; exact hb8)
    have H9 : Hid ((vPic Y (.slice e0 m0 c0) (.slice e1 m1 c1) (.slice e2 m2 c2) (.slice e3 m3 c3) (.slice (some ⟨g, 0, none⟩) n gc) (.slice ba na da)).all (·.oneCell') = true) := Lib.hid (by kernel_rfl)
    have Z8 : Hid ((w8.alloc (.cells zPic 36)).heap[w8.heap.size]? = some (.cells zPic 36 (0, 0))) := Lib.hid (heap_alloc_new _ _)
    clear hrs hpt hb8 hS a0 a1 a2 a3 a4 a5 a6 a7 a8 CU
    unfold zPic at Z8
    unfold vPic at H9
    go_wp2_with (refine wpList_store_row rfl _ _ _ rfl w8.heap.size _ rfl rfl 36 _ Z8.out HI.out rfl H9.out ?_; refine stop ?_)
    refine unstop ?_
    obtain ⟨M0, hM0⟩ : ∃ M0, w8.heap.size = M0 := ⟨_, rfl⟩
    obtain ⟨w9, hw9⟩ : ∃ w9, (w8.alloc (.cells #[.int .i64 0, .int .i64 0, .slice none 0 0, .slice none 0 0, .slice none 0 0, .slice none 0 0, .slice none 0 0, .int .i64 0, .slice none 0 0] 36)).setRow w8.heap.size (vPic Y (.slice e0 m0 c0) (.slice e1 m1 c1) (.slice e2 m2 c2) (.slice e3 m3 c3) (.slice (some ⟨g, 0, none⟩) n gc) (.slice ba na da)) = w9 := ⟨_, rfl⟩
    have hb9 : Below w8.heap.size w8 w9 := by rw [← hw9]; exact below_setRow ((Below.refl _ _).alloc (Nat.le_refl _) _) (Nat.le_refl _) _
    have PB9 : Hid (PBox w9 M0 Y (.slice e0 m0 c0) (.slice e1 m1 c1) (.slice e2 m2 c2) (.slice e3 m3 c3) (.slice (some ⟨g, 0, none⟩) n gc) (.slice ba na da)) := Lib.hid (by rw [← hM0, ← hw9]; exact setRow_heap _ _ _ _ _ _ (heap_alloc_new _ _))
    unfold vPic at hw9
    rw [hw9, hM0]
    have B9 : Hid (Below S w5 w9) := Lib.hid (B8.out.trans (hb9.mono (by have := B8.out.size; rw [HS.out] at this; exact this)))
    have PT9 := Lib.hid (PT8.out.hi (keepHi_below hb9))
    clear hM0 hw9 hb9 H9 Z8 PT8 B8
    go_wp2_with fail
    go_loopw [22] (fun i W => ∃ (k : Nat) (rsW : List (PartL × Value)), k ≤ n ∧ i = .int .i64 (k : Nat) ∧ rsW.length = n ∧ rsW.map (·.1) = (Y.parts.take k).map (finPt f o) ++ Y.parts.drop k ∧ PtO S W (.slice (some ⟨g, 0, none⟩) n gc) rsW ∧ PBox W M0 Y (.slice e0 m0 c0) (.slice e1 m1 c1) (.slice e2 m2 c2) (.slice e3 m3 c3) (.slice (some ⟨g, 0, none⟩) n gc) (.slice ba na da) ∧ Below S w5 W) (fun i _ => n - (intOf i).toNat)
    case atStart => exact ⟨0, rs', Nat.zero_le _, rfl, RL.out, by rw [List.take_zero, List.drop_zero]; exact HRS.out, PT9.out, PB9.out, B9.out⟩
    case round =>
      clear PT9 PB9 B9 RL HRS
      obtain ⟨k, rsW, hk, rfl, hrl, hmp, hpt, hpb, hbs⟩ := hrel
      have RL := Lib.hid hrl
      have MP := Lib.hid hmp
      have PT := Lib.hid hpt
      have PB := Lib.hid hpb
      have BS := Lib.hid hbs
      obtain ⟨a0, a1, a2, a3, a4, a5, a6, a7, a8⟩ := hpb.cells
      clear hrl hmp hpt hpb hbs
      by_cases hkn : k < n
      · have f1 : decide ((k : Int) < (n : Int)) = true := by rw [decide_eq_true_eq]; omega
        have f1' : decide (k < n) = true := by rw [decide_eq_true_eq]; omega
        have f2 : (k : Int) < (n : Int) := by omega
        have GK := Lib.hid (step_wrap k n hkn (Nat.le_trans N4.out.2 (by decide)))
        have hkY : k < Y.parts.length := by rw [HNY.out]; exact hkn
        have hkr : k < rsW.length := by rw [RL.out]; exact hkn
        have hp0 := fin_mid MP.out hkY hkr
        obtain ⟨aN, bN, haN, hbN, hxl, hxl2, ha26, hb26⟩ := part_dims FY.out k hkY
        have FSe := Lib.hid (fin_set MP.out hkY)
        obtain ⟨⟨p, pv⟩, hpx⟩ : ∃ q, rsW[k] = q := ⟨_, rfl⟩
        rw [hpx] at hp0
        dsimp only at hp0
        rw [← hp0] at haN hbN hxl FSe
        have HBK := PT.out.bk _ (List.getElem_mem hkr)
        have HOK := PT.out.ok _ (List.getElem_mem hkr)
        rw [hpx] at HBK HOK
        dsimp only at HBK HOK
        obtain ⟨xa, xc, rfl⟩ := HBK.shape
        obtain ⟨xn, hxn⟩ : ∃ z, p.bs.length = z := ⟨_, rfl⟩
        rw [hxn] at HBK hpx
        have CELL := PT.out.cellAt RL.out k hkr
        rw [hpx] at CELL
        dsimp only at CELL
        rw [haN, hbN] at CELL
        obtain ⟨o0, o1, o2, o3, o4, o5, o6⟩ := CELL
        have HPX : Hid (∀ h : k < rsW.length, rsW[k]'h = (p, .slice xa xn xc)) := Lib.hid (fun h => hpx)
        have XL : Hid (p.bs.length = aN * bN) := Lib.hid hxl
        have XN : Hid (xn = aN * bN ∧ xn ≤ 65536 ∧ aN ≤ 262140 ∧ bN ≤ 262140) := Lib.hid ⟨by rw [← hxn]; exact hxl, by rw [← hxn, hxl]; exact hxl2, ha26, hb26⟩
        have HXN := Lib.hid hxn
        have BK := Lib.hid HBK.bks
        have OK := Lib.hid HOK
        have HAN := Lib.hid haN
        have HBN := Lib.hid hbN
        have KR := Lib.hid hkr
        have KN := Lib.hid hkn
        obtain ⟨wt, hwt⟩ : ∃ wt, wr.alloc (.cells #[.int .i64 p.id, .int .i64 p.h, .int .i64 p.v, .int .i64 p.tq, .int .i64 (aN : Int), .int .i64 (bN : Int), .slice xa xn xc] 70) = wt := ⟨_, rfl⟩
        have hbt : Below wr.heap.size wr wt := by rw [← hwt]; exact (Below.refl _ _).alloc (Nat.le_refl _) _
        have PTT := Lib.hid (PT.out.hi (keepHi_below hbt))
        have PBT := Lib.hid (PB.out.old hbt)
        have BST : Hid (Below S w5 wt) := Lib.hid (BS.out.trans (hbt.mono (by have := BS.out.size; rw [HS.out] at this; exact this)))
        have BKT := Lib.hid (BK.out.old hbt)
        obtain ⟨T, hT⟩ : ∃ T, wr.heap.size = T := ⟨_, rfl⟩
        have HT1 : Hid (wt.heap.size = T + 1) := Lib.hid (by rw [← hwt, World.size_alloc, hT])
        have PX1 : Hid (PtB wt T p (.slice xa xn xc)) := Lib.hid (by rw [← hwt, ← hT]; unfold PtB; rw [haN, hbN]; exact heap_alloc_new _ _)
        have SP0 : Hid (∀ q ∈ rsW, ∀ b, q.2.ownBlock = some b → b < T) := Lib.hid (fun q hq b hb => by rw [← hT]; exact ((PT.out.bk q hq).row.lt b hb).2)
        have LST : Hid (S ≤ T) := Lib.hid (by rw [← hT, ← HS.out]; exact BS.out.size)
        have LT1 : Hid (wt.heap.size ≤ T + 1) := Lib.hid (Nat.le_of_eq HT1.out)
        clear hpx hp0 hkY hkr hkn hxn hbt haN hbN hxl hxl2 ha26 hb26 HBK HOK PT PB BS BK
        go_wp2_with fail
        clear o0 o1 o2 o3 o4 o5 o6 a0 a1 a2 a3 a4 a5 a6 a7 a8 hwt hT
        have BINFO := Lib.hid blk_ie
        have A64p : Hid (All64 p.bs) := Lib.hid BKT.out.range.1
        go_loopw [24, 25] (fun v i W => ∃ r : Nat, r ≤ bN ∧ i = .int .i64 (r : Nat) ∧ Below wt.heap.size wt W ∧ BkO (T + 1) W v ((finB f o aN bN p.bs).take (r * aN))) (fun _ i _ => bN - (intOf i).toNat)
        case atStart => exact ⟨0, Nat.zero_le _, rfl, Below.refl _ _, by rw [Nat.zero_mul, List.take_zero]; exact BkO.nil _ _⟩
        case round =>
          obtain ⟨r, hr, rfl, hbu, hvb⟩ := hrel
          have BU := Lib.hid hbu
          have VB := Lib.hid hvb
          have x5 : wr.cell? ⟨T, 5, none⟩ = some (.int .i64 (bN : Int)) := by rw [← HBN.out]; exact (PX1.out.old hbu).cells.2.2.2.2.2.1
          clear hbu hvb
          by_cases hrb : r < bN
          · skip
            -- [q
            obtain ⟨l1, l1'⟩ := dec_lt hrb
            have HRB := Lib.hid hrb
            have GR := Lib.hid (step_wrap r bN hrb (Nat.le_trans XN.out.2.2.2 (by decide)))
            clear hrb
            go_wp2_with fail
            go_loopw [24, 26] (fun v i W => ∃ s : Nat, s ≤ aN ∧ i = .int .i64 (s : Nat) ∧ Below wt.heap.size wt W ∧ BkO (T + 1) W v ((finB f o aN bN p.bs).take (r * aN + s))) (fun _ i _ => aN - (intOf i).toNat)
            case atStart => exact ⟨0, Nat.zero_le _, rfl, BU.out, VB.out⟩
            case round =>
              clear BU VB x5
              obtain ⟨s, hs, rfl, hbu, hvb⟩ := hrel
              have BU := Lib.hid hbu
              have x4 : wr.cell? ⟨T, 4, none⟩ = some (.int .i64 (aN : Int)) := by rw [← HAN.out]; exact (PX1.out.old hbu).cells.2.2.2.2.1
              have x5 : wr.cell? ⟨T, 5, none⟩ = some (.int .i64 (bN : Int)) := by rw [← HBN.out]; exact (PX1.out.old hbu).cells.2.2.2.2.2.1
              have x6 : wr.cell? ⟨T, 6, none⟩ = some (.slice xa xn xc) := (PX1.out.old hbu).cells.2.2.2.2.2.2
              by_cases hsa : s < aN
              · obtain ⟨m1, m1'⟩ := dec_lt hsa
                have HSA := Lib.hid hsa
                have GS := Lib.hid (step_wrap s aN hsa (Nat.le_trans XN.out.2.2.1 (by decide)))
                obtain ⟨Ac, cl, hac1, hac2, hac3, hcl⟩ := fin_fact f aN s hsa XN.out.2.2.1
                obtain ⟨Ar, rw_, har1, har2, har3, hrw⟩ := fin_fact o bN r HRB.out XN.out.2.2.2
                obtain ⟨D1, D, hD1, hD2, hD3, hDT⟩ := finT_fact f o
                have hcl2 : cl < aN := by rw [← hcl]; exact finRow_lt f hsa
                have hrw2 : rw_ < bN := by rw [← hrw]; exact finRow_lt o HRB.out
                obtain ⟨A, E, ⟨t1, t1'⟩, ⟨t2, t2'⟩, hE, hEe⟩ := cross_at cl rw_ aN bN xn hcl2 hrw2 XN.out.1 XN.out.2.1
                have hEb : E < p.bs.length := by rw [HXN.out]; exact hE
                have hEb2 : finRow o bN r * aN + finRow f aN s < p.bs.length := by rw [hcl, hrw, hEe]; exact hEb
                obtain ⟨cb, hcb⟩ : ∃ cb, p.bs[E] = cb := ⟨_, rfl⟩
                obtain ⟨L, hL⟩ : ∃ L, (finB f o aN bN p.bs).take (r * aN + s) = L := ⟨_, rfl⟩
                have STEP : Hid ((finB f o aN bN p.bs).take (r * aN + (s + 1)) = L ++ [blockL D cb]) := Lib.hid (by
                  have h := finB_take f o aN bN p.bs XL.out r s HRB.out hsa hEb2
                  rw [hL, hDT] at h
                  rw [← Nat.add_assoc, h]
                  congr 3
                  rw [← hcb]
                  congr 1
                  rw [hcl, hrw, hEe])
                rw [hL] at hvb
                have LL : Hid (L.length ≤ 65536) := Lib.hid (by
                  rw [← hL, List.length_take, finB_len, HXN.out]
                  have := XN.out.2.1
                  omega)
                obtain ⟨ya, yc, rfl⟩ := hvb.shape
                have VB := Lib.hid hvb
                have CB : Hid (Blk64 cb) := Lib.hid (by rw [← hcb]; exact A64p.out.at _ hEb)
                have B64 : Hid (Blk64 (blockL D cb)) := Lib.hid (blk_turned D CB.out)
                obtain ⟨_, xa', xc', hv, hc', hrg⟩ := BKT.out.range
                rw [HXN.out] at hv
                simp only [Value.slice.injEq, true_and] at hv
                obtain ⟨rfl, rfl⟩ := hv
                obtain ⟨xb, xo, rfl, hrx⟩ := hrg E hEb
                rw [hcb] at hrx
                have RX := Lib.hid (range_old hbu hrx)
                have i1 : (E : Int) < (xn : Int) := Int.ofNat_lt.2 hE
                have HIB : Hid ((Try.prog.info? 23).map (·.size) = some (vIs cb).length) := Lib.hid (by rw [vIs_length, CB.out.1]; kernel_rfl)
                have T12 := Lib.hid (And.intro (And.intro t1 t1') (And.intro t2 t2'))
                have AC := Lib.hid (And.intro hac1 (And.intro hac2 hac3))
                have AR := Lib.hid (And.intro har1 (And.intro har2 har3))
                have DD := Lib.hid (And.intro hD1 (And.intro hD2 hD3))
                have I1 := Lib.hid i1
                clear hrg hrx hcb hEb hEb2 hEe hE hL hvb hbu hsa hc' hcl hrw hcl2 hrw2 hDT hac1 hac2 hac3 har1 har2 har3 hD1 hD2 hD3 t1 t1' t2 t2' i1
                go_wp2_with fail
                refine (FLI.out wr).mono ?_
                rintro e w6 ⟨rfl, rfl⟩
                go_upto_if 209 with (fail)
                go_cut [28, 29] from 210 to 216 (fun v1 v2 wx => v1 = .int .i64 (cl : Nat) ∧ v2 = .int .i64 D1 ∧ wr = wx)
                case first =>
                  obtain ⟨⟨u1, u1'⟩, h2, h3⟩ := AC.out
                  obtain ⟨h4, -, -⟩ := DD.out
                  cases f
                  · obtain rfl := h3 rfl
                    obtain rfl : D1 = 0 := h4.symm
                    clear h2 h3 h4
                    go_wp2_with fail
                    go_meet
                    exact ⟨rfl, rfl, rfl⟩
                  · obtain ⟨u2, u2'⟩ := h2 rfl
                    obtain rfl : D1 = 1 := h4.symm
                    clear h2 h3 h4
                    go_wp2_with fail
                    go_meet
                    exact ⟨rfl, rfl, rfl⟩
                case rest =>
                obtain ⟨rfl, rfl, rfl⟩ := hcut
                go_wp2_with fail
                refine (FLO.out wr).mono ?_
                rintro e w6 ⟨rfl, rfl⟩
                go_upto_if 218 with (fail)
                go_cut [27, 29] from 219 to 225 (fun v1 v2 wx => v1 = .int .i64 (rw_ : Nat) ∧ v2 = .int .i64 D ∧ wr = wx)
                case first =>
                  obtain ⟨⟨u1, u1'⟩, h2, h3⟩ := AR.out
                  obtain ⟨-, h5, h6⟩ := DD.out
                  cases o
                  · obtain rfl := h3 rfl
                    obtain rfl := h6 rfl
                    clear h2 h3 h5 h6
                    go_wp2_with fail
                    go_meet
                    exact ⟨rfl, rfl, rfl⟩
                  · obtain ⟨u2, u2'⟩ := h2 rfl
                    obtain ⟨u3, u3'⟩ := h5 rfl
                    clear h2 h3 h5 h6
                    go_wp2_with fail
                    go_meet
                    exact ⟨rfl, rfl, rfl⟩
                case rest =>
                obtain ⟨rfl, rfl, rfl⟩ := hcut
                obtain ⟨⟨t1, t1'⟩, t2, t2'⟩ := T12.out
                have i1 := I1.out
                go_wp2_with (refine wpList_load_mid rfl _ _ rfl xb (xo + E * 64) rfl (vIs cb) _ RX.out Try.underlying23 rfl HIB.out ?_; refine stop ?_)
                refine unstop ?_
                clear t1 t1' t2 t2' i1 x4 x5 x6
                go_wp2_with (go_at_call 11; refine (refBlock_any cb D _ CB.out.1).mono ?_; rintro e w6 ⟨rfl, hb6⟩; refine stop ?_)
                refine unstop ?_
                have BU6 := Lib.hid (BU.out.trans (hb6.mono BU.out.size))
                have VB6 := Lib.hid (VB.out.old hb6)
                clear hb6
                go_wp2_with (refine wpList_blk1 rfl 68 23 _ rfl (blockL D cb) rfl (blockL_len D cb) Try.underlying68 BINFO.out ?_; refine stop ?_)
                refine unstop ?_
                have h7 : Below w6.heap.size w6 (w6.alloc (.cells (vIs (blockL D cb)).toArray 23)) := (Below.refl _ _).alloc (Nat.le_refl _) _
                have BU7 := Lib.hid (BU6.out.trans (h7.mono BU6.out.size))
                have VB7 := Lib.hid (VB6.out.old h7)
                have LIT := Lib.hid (sl_litN 64 w6 (vIs (blockL D cb)) 23 1 (by rw [vIs_length, blockL_len]) (by omega))
                have MS7 : Hid (T + 1 ≤ (w6.alloc (.cells (vIs (blockL D cb)).toArray 23)).heap.size) := Lib.hid (by rw [← HT1.out]; exact BU7.out.size)
                clear h7
                go_wp2_with (at_builtin; refine stop ?_)
                refine unstop (wpList_app tyB rfl _ _ rfl (T + 1) _ L.length _ rfl VB7.out.row _ 1 _ rfl LIT.out (vIs_one _) (by have := LL.out; omega) (by have := LL.out; omega) MS7.out ?_)
                intro v8 w8 hown8 hg8 _
                have BU8 := Lib.hid (run_app_below VB7.out.row hg8 BU7.out LT1.out)
                have VB8 : Hid (BkO (T + 1) w8 v8 ((finB f o aN bN p.bs).take (r * aN + (s + 1)))) := Lib.hid (by
                  rw [STEP.out]
                  exact BkO.snoc hown8 VB7.out.all B64.out)
                clear hown8 hg8
                have gs := GS.out
                go_wp2_with fail
                go_roundw
                case rel => exact ⟨s + 1, HSA.out, by go_num, BU8.out, VB8.out⟩
                case measure => simp [intOf]; have := HSA.out; omega
              · obtain rfl : s = aN := by omega
                have m1 : decide ((s : Int) < (s : Int)) = false := by rw [decide_eq_false_iff_not]; omega
                have VB : Hid (BkO (T + 1) wr _ ((finB f o s bN p.bs).take ((r + 1) * s))) := Lib.hid (by rw [Nat.succ_mul]; exact hvb)
                have gr := GR.out
                clear hvb hbu
                go_wp2_with fail
                go_roundw
                case rel => exact ⟨r + 1, HRB.out, by go_num, BU.out, VB.out⟩
                case measure => simp [intOf]; have := HRB.out; omega
            -- q]
          · obtain rfl : r = bN := by omega
            have l1 : decide ((r : Int) < (r : Int)) = false := by rw [decide_eq_false_iff_not]; omega
            obtain ⟨L, hL⟩ : ∃ L, (finB f o aN r p.bs).take (r * aN) = L := ⟨_, rfl⟩
            have HL : Hid (L = finB f o aN r p.bs) := Lib.hid (by rw [← hL, List.take_of_length_le (by rw [finB_len, XL.out, Nat.mul_comm]; exact Nat.le_refl _)])
            rw [hL] at VB
            obtain ⟨ya, yc, rfl⟩ := VB.out.shape
            have LL : Hid (L.length = xn) := Lib.hid (by rw [HL.out, finB_len]; exact HXN.out)
            have PT2 := Lib.hid (PTT.out.hi (keepHi_below BU.out))
            have PB2 := Lib.hid (PBT.out.old BU.out)
            have BS2 : Hid (Below S w5 wr) := Lib.hid (BST.out.trans (BU.out.mono (by have := BST.out.size; rw [HS.out] at this; exact this)))
            have b6 := PB2.out.cells.2.2.2.2.2.2.1
            have m6 := (PT2.out.cellAt RL.out k KR.out).2.2.2.2.2.2
            have z6 := PT2.out.frozen (k * 7 + 6)
            have f2 : (k : Int) < (n : Int) := Int.ofNat_lt.2 KN.out
            obtain ⟨hgS, -, C, hC⟩ := PT2.out.heap
            have VB2 : Hid (BkO S wr (.slice ya L.length yc) L) := Lib.hid (VB.out.mono (by have := LST.out; omega))
            have SEP : Hid (∀ q ∈ rsW, (q.2.ownBlock = none ∨ q.2.ownBlock ≠ (Value.slice ya L.length yc).ownBlock) ∧ ((Value.slice ya L.length yc).ownBlock = none ∨ (Value.slice ya L.length yc).ownBlock ≠ q.2.ownBlock)) := Lib.hid (fun q hq => by
              cases hv : q.2.ownBlock with
              | none =>
                refine ⟨.inl rfl, ?_⟩
                cases hw : (Value.slice ya L.length yc).ownBlock with
                | none => exact .inl rfl
                | some b => exact .inr (by simp)
              | some b =>
                have h1 := SP0.out q hq b hv
                cases hw : (Value.slice ya L.length yc).ownBlock with
                | none => exact ⟨.inr (by simp), .inl rfl⟩
                | some b2 =>
                  have h2 := (VB.out.row.lt b2 hw).1
                  exact ⟨.inr (by simp only [ne_eq, Option.some.injEq]; omega), .inr (by simp only [ne_eq, Option.some.injEq]; omega)⟩)
            have FIP : Hid (({ p with bs := L } : PartL) = finPt f o p) := Lib.hid (by
              unfold finPt
              rw [HAN.out, HBN.out, Int.toNat_natCast, Int.toNat_natCast, HL.out])
            have PT9 : Hid (PtO S (wr.setCell ⟨g, k * 7 + 6, none⟩ (.slice ya L.length yc)) (.slice (some ⟨g, 0, none⟩) n gc) (rsW.set k (finPt f o p, .slice ya L.length yc))) := Lib.hid (by
              have h := PT2.out.setB RL.out k KR.out (.slice ya L.length yc) L (by rw [LL.out]; have := XN.out; omega) VB2.out SEP.out
              rw [HPX.out KR.out] at h
              dsimp only at h
              rw [FIP.out] at h
              exact h)
            have PB9 : Hid (PBox (wr.setCell ⟨g, k * 7 + 6, none⟩ (.slice ya L.length yc)) M0 Y (.slice e0 m0 c0) (.slice e1 m1 c1) (.slice e2 m2 c2) (.slice e3 m3 c3) (.slice (some ⟨g, 0, none⟩) n gc) (.slice ba na da)) := Lib.hid (heap_other PB2.out hC (by decide))
            have BS9 : Hid (Below S w5 (wr.setCell ⟨g, k * 7 + 6, none⟩ (.slice ya L.length yc))) := Lib.hid (below_set BS2.out hgS)
            have x5 : wr.cell? ⟨T, 5, none⟩ = some (.int .i64 (r : Int)) := by rw [← HBN.out]; exact (PX1.out.old BU.out).cells.2.2.2.2.2.1
            have gk := GK.out
            clear hC hgS hL
            go_wp2_with fail
            go_roundw
            case rel => exact ⟨k + 1, _, KN.out, by go_num, by rw [List.length_set]; exact RL.out, FSe.out _, PT9.out, PB9.out, BS9.out⟩
            case measure => simp [intOf]; have := KN.out; omega
      · obtain rfl : k = n := by omega
        have f1 : decide ((k : Int) < (k : Int)) = false := by rw [decide_eq_false_iff_not]; omega
        have JW := Lib.hid (J5.out.old (show Below w5.heap.size w5 wr by rw [HS.out]; exact BS.out))
        have MF : Hid (rsW.map (·.1) = (finP f o Y).parts) := Lib.hid (by
          rw [MP.out, List.take_of_length_le (by rw [HNY.out]; exact Nat.le_refl _), List.drop_of_length_le (by rw [HNY.out]; exact Nat.le_refl _), List.append_nil]
          rfl)
        have YF : Hid (turnL P t pf = finP f o Y) := Lib.hid (by rw [YE.out]; exact fin_eq FY.out A64.out f o)
        have H9 : Hid ((vPic Y (.slice e0 m0 c0) (.slice e1 m1 c1) (.slice e2 m2 c2) (.slice e3 m3 c3) (.slice (some ⟨g, 0, none⟩) k gc) (.slice ba na da)).all (·.oneCell') = true) := Lib.hid (by kernel_rfl)
        have ZW : Hid (ZBox wr (B + 1)) := Lib.hid JW.out.z
        have hwE : (wr.setRow (B + 1) (vPic Y (.slice e0 m0 c0) (.slice e1 m1 c1) (.slice e2 m2 c2) (.slice e3 m3 c3) (.slice (some ⟨g, 0, none⟩) k gc) (.slice ba na da))).heap[B + 1]? = some (.cells (vPic Y (.slice e0 m0 c0) (.slice e1 m1 c1) (.slice e2 m2 c2) (.slice e3 m3 c3) (.slice (some ⟨g, 0, none⟩) k gc) (.slice ba na da)) 36 (0, 0)) := setRow_heap _ _ _ _ _ _ ZW.out
        have FIN : Hid (∃ r0 r1 r2 r3 rv sv, Ending.returned (.tuple #[.agg (vPic Y (.slice e0 m0 c0) (.slice e1 m1 c1) (.slice e2 m2 c2) (.slice e3 m3 c3) (.slice (some ⟨g, 0, none⟩) k gc) (.slice ba na da)), .int .i64 0]) = Ending.returned (.tuple #[.agg (vPic (turnL P t pf) r0 r1 r2 r3 rv sv), .int .i64 (turnE P t pf)]) ∧ (∀ V, PicC V P (.slice b0 n0 d0) (.slice b1 n1 d1) (.slice b2 n2 d2) (.slice b3 n3 d3) (.slice bp k dp) (.slice ba na da) → KeepHi w.heap.size (wr.setRow (B + 1) (vPic Y (.slice e0 m0 c0) (.slice e1 m1 c1) (.slice e2 m2 c2) (.slice e3 m3 c3) (.slice (some ⟨g, 0, none⟩) k gc) (.slice ba na da))) V → PicC V (turnL P t pf) r0 r1 r2 r3 rv sv) ∧ Below w.heap.size w (wr.setRow (B + 1) (vPic Y (.slice e0 m0 c0) (.slice e1 m1 c1) (.slice e2 m2 c2) (.slice e3 m3 c3) (.slice (some ⟨g, 0, none⟩) k gc) (.slice ba na da)))) := Lib.hid (by
          obtain ⟨wE, hE⟩ : ∃ wE, wr.setRow (B + 1) (vPic Y (.slice e0 m0 c0) (.slice e1 m1 c1) (.slice e2 m2 c2) (.slice e3 m3 c3) (.slice (some ⟨g, 0, none⟩) k gc) (.slice ba na da)) = wE := ⟨_, rfl⟩
          have hKT : KeepTy 36 wr wE := by rw [← hE]; exact keepTy_row ZW.out
          have hBE : Below B w wE := by rw [← hE]; exact below_setRow JW.out.l (Nat.le_succ _) _
          have hKH : KeepHi (B + 1 + 1) wr wE := by
            refine ⟨by rw [← hE]; exact (below_setRow (Below.refl (B + 1) wr) (Nat.le_refl _) _).size, fun b hb _ => ?_⟩
            rw [← hE]
            exact setRow_other wr (B + 1) b _ (by omega)
          rw [hE]
          refine ⟨.slice e0 m0 c0, .slice e1 m1 c1, .slice e2 m2 c2, .slice e3 m3 c3, (.slice (some ⟨g, 0, none⟩) k gc), (.slice ba na da), ?_, fun V hV hk => ?_, by rw [HB.out]; exact hBE⟩
          · rw [YF.out, CE.out]
            rfl
          · rw [HB.out] at hk
            have hx := JW.out.p V hV (hKH.trans (keepHi_mono hk (by omega)))
            have hpt := ((PT.out.ty hKT (by decide) (by decide)).hi (keepHi_mono hk (by have := LS.out; omega))).pts
            rw [MF.out] at hpt
            obtain ⟨y0, y1, y2, y3, y4⟩ := QY.out
            rw [YF.out]
            refine ⟨?_, ?_, ?_, ?_, hpt, ?_⟩
            · show Ns V _ Y.q0
              rw [y0]; exact hx.q0
            · show Ns V _ Y.q1
              rw [y1]; exact hx.q1
            · show Ns V _ Y.q2
              rw [y2]; exact hx.q2
            · show Ns V _ Y.q3
              rw [y3]; exact hx.q3
            · show Sgs V _ Y.kept
              rw [y4]; exact hx.kept)
        unfold vPic at H9 FIN hwE
        clear PT MP JW
        go_wp2_with (refine wpList_store_row rfl _ _ _ rfl (B + 1) #[.int .i64 Y.w, .int .i64 Y.h, .slice e0 m0 c0, .slice e1 m1 c1, .slice e2 m2 c2, .slice e3 m3 c3, .slice (some ⟨g, 0, none⟩) k gc, .int .i64 Y.restart, .slice ba na da] rfl rfl 36 _ ZW.out HI.out rfl H9.out ?_; refine stop ?_)
        refine unstop ?_
        clear a0 a1 a2 a3 a4 a5 a6 a7 a8
        obtain ⟨wE, hE⟩ : ∃ wE, wr.setRow (B + 1) #[.int .i64 Y.w, .int .i64 Y.h, .slice e0 m0 c0, .slice e1 m1 c1, .slice e2 m2 c2, .slice e3 m3 c3, .slice (some ⟨g, 0, none⟩) k gc, .int .i64 Y.restart, .slice ba na da] = wE := ⟨_, rfl⟩
        rw [hE] at hwE FIN
        rw [hE]
        clear hE
        set_option maxHeartbeats 200000 in
        go_wp2_with fail
        obtain ⟨r0, r1, r2, r3, r4, r5, r6, r7, r8⟩ := PBox.cells (P := Y) hwE
        refine bodyPost_ret (v := .tuple #[.agg #[.int .i64 Y.w, .int .i64 Y.h, .slice e0 m0 c0, .slice e1 m1 c1, .slice e2 m2 c2, .slice e3 m3 c3, .slice (some ⟨g, 0, none⟩) k gc, .int .i64 Y.restart, .slice ba na da], .int .i64 0]) (by simp [results, Try.results24, go_sem, r0, r1, r2, r3, r4, r5, r6, r7, r8]; try rfl) rfl FIN.out
  case first =>
    cases c
    · have J0 : Hid (RtJ w B P P (.slice b0 n0 d0) (.slice b1 n1 d1) (.slice b2 n2 d2) (.slice b3 n3 d3) (.slice bp n dp) (.slice ba na da) (.slice b0 n0 d0) (.slice b1 n1 d1) (.slice b2 n2 d2) (.slice b3 n3 d3) (.slice bp n dp) w1) := Lib.hid ⟨X1.out, Z1.out, B1.out, fun V h _ => h⟩
      have PC0 := Lib.hid (HP.out.old (by rw [HB.out]; exact B1.out : Below w.heap.size w w1))
      go_wp2_with fail
      go_meet
      exact ⟨rfl, J0.out.e PC0.out⟩
    · skip
      -- [q
      obtain ⟨w3, hw3⟩ : ∃ w3, w1.alloc (.cells (vPic (swapP P) (.slice b0 n0 d0) (.slice b1 n1 d1) (.slice b2 n2 d2) (.slice b3 n3 d3) (.slice bp n dp) (.slice ba na da)) 36) = w3 := ⟨_, rfl⟩
      have X3 : Hid (TrX w B P (swapP P) (.slice b0 n0 d0) (.slice b1 n1 d1) (.slice b2 n2 d2) (.slice b3 n3 d3) (.slice bp n dp) (.slice ba na da) (.slice b0 n0 d0) (.slice b1 n1 d1) (.slice b2 n2 d2) (.slice b3 n3 d3) (.slice bp n dp) w3) := Lib.hid (by
        have hb : Below w1.heap.size w1 w3 := by rw [← hw3]; exact (Below.refl _ _).alloc (Nat.le_refl _) _
        refine ⟨X1.out.old hb, Z1.out.old hb, ?_, B1.out.trans (hb.mono (by have := SZ1.out; omega))⟩
        have h := heap_alloc_new w1 (.cells (vPic (swapP P) (.slice b0 n0 d0) (.slice b1 n1 d1) (.slice b2 n2 d2) (.slice b3 n3 d3) (.slice bp n dp) (.slice ba na da)) 36)
        rw [SZ1.out, hw3] at h
        exact h)
      have S1 := SZ1.out
      unfold vPic swapP at hw3
      dsimp only at hw3
      go_wp2_with fail
      clear a0 a1 a2 a3 a4 a5 a6 a7 a8 S1 hw3 X1 Z1 B1
      go_loopw [9] (fun i W => ∃ (k : Nat) (f : Nat → Value), k ≤ 4 ∧ i = .int .i64 (k : Nat) ∧ QsO (B + 1 + 1) W (crossP P) (.slice b0 n0 d0) (.slice b1 n1 d1) (.slice b2 n2 d2) (.slice b3 n3 d3) k f ∧ TrX w B P (swapP P) (.slice b0 n0 d0) (.slice b1 n1 d1) (.slice b2 n2 d2) (.slice b3 n3 d3) (.slice bp n dp) (.slice ba na da) (f 0) (f 1) (f 2) (f 3) (.slice bp n dp) W) (fun i _ => 4 - (intOf i).toNat)
      case atStart => exact ⟨0, qV (.slice b0 n0 d0) (.slice b1 n1 d1) (.slice b2 n2 d2) (.slice b3 n3 d3), Nat.zero_le _, rfl, fun j _ => by rw [if_neg (Nat.not_lt_zero j)], X3.out⟩
      case round =>
        clear X3
        obtain ⟨k, f, hk, rfl, hqs, hx⟩ := hrel
        have QS := Lib.hid hqs
        have XX := Lib.hid hx
        clear hqs hx
        by_cases hk4 : k < 4
        · have f1 : decide ((k : Int) < 4) = true := by rw [decide_eq_true_eq]; omega
          have f1' : decide (k < 4) = true := by rw [decide_eq_true_eq]; omega
          have f2 : (k : Int) < 4 := by omega
          have K4 := Lib.hid hk4
          have GK : Hid (IntKind.i64.wrap ((k : Int) + 1) = (k : Int) + 1) := Lib.hid (IntWalk.i64_in _ (by omega))
          have NSQ := Lib.hid (qV_ns HP.out k)
          obtain ⟨qa, qc, hqv⟩ := (qV_ns HP.out k).len
          obtain ⟨m, hm⟩ : ∃ m, (qL P k).length = m := ⟨_, rfl⟩
          have Q64 : Hid (m = 64 ∨ m = 0) := Lib.hid (by rw [← hm]; exact good_tables GD.out k hk4)
          rw [hm] at hqv
          have HM := Lib.hid hm
          have HQV := Lib.hid hqv
          have LB : Hid (B + 1 + 1 ≤ wr.heap.size) := Lib.hid (by have := XX.out.lt; omega)
          clear hk4 hm hqv
          obtain ⟨wq, hwq⟩ : ∃ z, wr = z := ⟨_, rfl⟩
          rw [hwq] at QS XX LB
          rw [hwq]
          clear hwq
          go_wp2_with fail
          go_loopw [10, 11] (fun v i W => ∃ j : Nat, j ≤ m ∧ i = .int .i64 (j : Nat) ∧ W.ownsRow wq.heap.size 3 1 v j (vIs ((crossQ (qL P k)).take j)) ∧ Below wq.heap.size wq W) (fun _ i _ => m - (intOf i).toNat)
          case atStart => exact ⟨0, Nat.zero_le _, rfl, World.ownsRow_nil _ _ _ _, Below.refl _ _⟩
          case round =>
            obtain ⟨j, hj, rfl, hrow, hbl⟩ := hrel
            have RW := Lib.hid hrow
            have BL := Lib.hid hbl
            clear hrow hbl
            have c1 : wr.cell? ⟨B, 2 + k, none⟩ = some (.slice qa m qc) := by rw [← HQV.out]; exact pbox_q3 (XX.out.o.old BL.out) k K4.out
            by_cases hjm : j < m
            · have h64 : m = 64 := by have := Q64.out; omega
              obtain ⟨l1, l1'⟩ := dec_lt hjm
              have HJM := Lib.hid hjm
              have GJ := Lib.hid (step_wrap j m hjm (by omega))
              have hj64 : j < 64 := by omega
              have J64 : Hid (j ≤ 64) := Lib.hid (by omega)
              obtain ⟨qa', qc', hv, hread⟩ := NSQ.out.read
              rw [HQV.out, HM.out] at hv
              simp only [Value.slice.injEq, true_and] at hv
              obtain ⟨rfl, rfl⟩ := hv
              obtain ⟨r, q, A, e, ⟨-, t1, t3, t3'⟩, ⟨t2, t2'⟩, ⟨-, t4, t5, t5'⟩, ⟨t6, t6'⟩, he, hidx⟩ := quant_idx j hj64
              have hel : e < (qL P k).length := by rw [HM.out, h64]; exact he
              obtain ⟨qb, qo, rfl, hcell⟩ := hread e hel
              obtain ⟨x, hx⟩ : ∃ x, (qL P k)[e] = x := ⟨_, rfl⟩
              rw [hx] at hcell
              have STEP : Hid ((crossQ (qL P k)).take (j + 1) = (crossQ (qL P k)).take j ++ [x]) := Lib.hid (by
                unfold crossQ
                rw [if_pos (by rw [HM.out]; exact h64), crossL_take _ _ hj64, hidx, getD_at _ _ _ hel, hx])
              have c2 := cell_old ((by rw [HB.out]; exact XX.out.l : Below w.heap.size w wq).trans (BL.out.mono (by rw [HB.out]; have := LB.out; omega))) hcell
              have i1 : (e : Int) < (m : Int) := Int.ofNat_lt.2 (by rw [h64]; exact he)
              clear hread hcell hx hel hidx h64 he hj64
              go_upto_region 12 with (fail)
              go_wp2_with (at_builtin; refine stop ?_)
              have H5 : Below wr.heap.size wr (wr.alloc (.cells #[.int .i64 x] 3)) := (Below.refl _ _).alloc (Nat.le_refl _) _
              have R5 := Lib.hid (owns_below RW.out H5)
              have BL5 : Hid (Below wq.heap.size wq (wr.alloc (.cells #[.int .i64 x] 3))) := Lib.hid (BL.out.alloc (BL.out.size) _)
              have LIT := Lib.hid (sl_litN 1 wr [.int .i64 x] 3 1 rfl (by omega))
              refine unstop (wpList_app tyN4 rfl _ _ rfl wq.heap.size _ j _ rfl R5.out _ 1 _ rfl LIT.out (by intro u hu; rw [List.mem_singleton.1 hu]; rfl) (by have := J64.out; omega) (by have := J64.out; omega) BL5.out.size ?_)
              intro v9 w9 hown9 hg9 _
              have R9 : Hid (w9.ownsRow wq.heap.size 3 1 v9 (j + 1) (vIs ((crossQ (qL P k)).take (j + 1)))) := Lib.hid (by rw [STEP.out, vIs_snoc]; exact hown9)
              have BL9 := Lib.hid (run_app_below R5.out hg9 BL5.out (Nat.le_refl _))
              have gj := GJ.out
              clear hown9 hg9 H5 t1 t2 t2' t3 t3' t4 t5 t5' t6 t6' c1 c2
              go_wp2_with fail
              go_roundw
              case rel => exact ⟨j + 1, HJM.out, by go_num, R9.out, BL9.out⟩
              case measure => simp [intOf]; have := HJM.out; omega
            · obtain rfl : j = m := by omega
              have l1 : decide ((j : Int) < (j : Int)) = false := by rw [decide_eq_false_iff_not]; omega
              have CL : Hid ((crossQ (qL P k)).length = j) := Lib.hid (by
                unfold crossQ
                rcases Q64.out with h | h
                · rw [if_pos (by rw [HM.out]; exact h), crossL_len, h]
                · rw [if_neg (by rw [HM.out]; omega), h]; rfl)
              have QS1 := Lib.hid (QS.out.old BL.out)
              have XX1 := Lib.hid (XX.out.old BL.out)
              obtain ⟨va, vc, rfl⟩ := owns_any RW.out
              have O1 : Hid (NO (B + 1 + 1) wr (.slice va j vc) (qL (crossP P) k)) := Lib.hid (by
                unfold NO
                rw [cross_q, CL.out]
                have h := World.ownsRow.mono RW.out LB.out
                rw [List.take_of_length_le (by rw [CL.out]; exact Nat.le_refl _)] at h
                exact h)
              have c3 := pbox_q3 XX1.out.a k K4.out
              have c4 := XX1.out.a.frozen (2 + k)
              have gk := GK.out
              clear RW
              go_wp2_with fail
              go_roundw
              case rel => exact ⟨k + 1, fun i => if i = k then .slice va j vc else f i, K4.out, by go_num, (QS1.out.set XX1.out.a (by decide)).step (owns_other O1.out XX1.out.a (by decide)), XX1.out.setq f _ k K4.out _ (fun _ => rfl)⟩
              case measure => simp [intOf]; have := K4.out; omega
        · obtain rfl : k = 4 := by omega
          rw [show ((4 : Nat) : Int) = 4 from rfl]
          have c3 := XX.out.a.cells.2.2.2.2.2.2.1
          have c4 := XX.out.a.frozen 6
          obtain ⟨a0, a1, a2, a3, a4, a5, a6, a7, a8⟩ := XX.out.o.cells
          have XS : Hid (TrX w B P (swapP P) (.slice b0 n0 d0) (.slice b1 n1 d1) (.slice b2 n2 d2) (.slice b3 n3 d3) (.slice bp n dp) (.slice ba na da) (f 0) (f 1) (f 2) (f 3) (.slice none 0 0) (wr.setCell ⟨B + 1 + 1, 6, none⟩ (.slice none 0 0))) := Lib.hid (XX.out.setp _)
          have QZ : Hid (QsO (B + 1 + 1) (wr.setCell ⟨B + 1 + 1, 6, none⟩ (.slice none 0 0)) (crossP P) (.slice b0 n0 d0) (.slice b1 n1 d1) (.slice b2 n2 d2) (.slice b3 n3 d3) 4 f) := Lib.hid (QS.out.set XX.out.a (by decide))
          obtain ⟨wz, hwz⟩ : ∃ z, wr.setCell ⟨B + 1 + 1, 6, none⟩ (.slice none 0 0) = z := ⟨_, rfl⟩
          rw [hwz] at XS QZ
          go_wp2_with fail
          clear c3 c4 a0 a1 a2 a3 a4 a5 a6 a7 a8 hwz QS XX
          go_loopw [12] (fun i W => ∃ (k : Nat) (rv : Value) (done : List (PartL × Value)), k ≤ n ∧ i = .int .i64 (k : Nat) ∧ done.map (·.1) = (crossP P).parts.take k ∧ PtO (B + 1 + 1) W rv done ∧ QsO (B + 1 + 1) W (crossP P) (.slice b0 n0 d0) (.slice b1 n1 d1) (.slice b2 n2 d2) (.slice b3 n3 d3) 4 f ∧ TrX w B P (swapP P) (.slice b0 n0 d0) (.slice b1 n1 d1) (.slice b2 n2 d2) (.slice b3 n3 d3) (.slice bp n dp) (.slice ba na da) (f 0) (f 1) (f 2) (f 3) rv W) (fun i _ => n - (intOf i).toNat)
          case atStart => exact ⟨0, _, [], Nat.zero_le _, rfl, rfl, ⟨World.ownsRow_nil _ _ _ _, by simp, by simp, List.Pairwise.nil⟩, QZ.out, XS.out⟩
          case round =>
            clear QZ XS
            obtain ⟨k, rv, done, hk, rfl, hdf, hpt, hqs, hx⟩ := hrel
            have PT := Lib.hid hpt
            have QS := Lib.hid hqs
            have XX := Lib.hid hx
            have DF := Lib.hid hdf
            obtain ⟨a0, a1, a2, a3, a4, a5, a6, a7, a8⟩ := hx.o.cells
            have LB : Hid (B + 1 + 1 ≤ wr.heap.size) := Lib.hid (by have := XX.out.lt; omega)
            clear hpt hqs hx hdf
            by_cases hkn : k < n
            · have f1 : decide ((k : Int) < (n : Int)) = true := by rw [decide_eq_true_eq]; omega
              have f1' : decide (k < n) = true := by rw [decide_eq_true_eq]; omega
              have f2 : (k : Int) < (n : Int) := by omega
              have GK := Lib.hid (step_wrap k n hkn (Nat.le_trans N4.out.2 (by decide)))
              have hkP : k < P.parts.length := by rw [HNP.out]; exact hkn
              obtain ⟨wN, hN, hwN, hhN, hxl, hxl2, hw26, hh26⟩ := part_dims GD.out.fit k hkP
              have TK := Lib.hid (cross_parts P k hkP)
              obtain ⟨p, hpp⟩ : ∃ p, P.parts[k] = p := ⟨_, rfl⟩
              obtain ⟨pa, pc, hpe, _, hptx⟩ := pts_at HP.out.parts
              obtain ⟨ob, oo, x, hpa, hPB, hBK, o0, o1, o2, o3, o4, o5, o6⟩ := hptx k hkP
              simp only [Value.slice.injEq] at hpe
              obtain ⟨rfl, hnn, rfl⟩ := hpe
              subst hpa
              clear hnn hptx
              rw [hpp] at hPB hBK o0 o1 o2 o3 o4 o5 hwN hhN hxl TK
              obtain ⟨xa, xc, hxs⟩ := bks_slice hBK
              subst hxs
              obtain ⟨xn, hxn⟩ : ∃ z, p.bs.length = z := ⟨_, rfl⟩
              rw [hxn] at hBK o6
              have XL : Hid (p.bs.length = wN * hN) := Lib.hid hxl
              have XN : Hid (xn = wN * hN ∧ xn ≤ 65536 ∧ wN ≤ 262140 ∧ hN ≤ 262140) := Lib.hid ⟨by rw [← hxn]; exact hxl, by rw [← hxn, hxl]; exact hxl2, hw26, hh26⟩
              have HXN := Lib.hid hxn
              have BK := Lib.hid hBK
              have PBp := Lib.hid hPB
              have HWN := Lib.hid hwN
              have HHN := Lib.hid hhN
              have DL : Hid (done.length = k) := Lib.hid (by
                have h := congrArg List.length DF.out
                have h2 : (crossP P).parts.length = n := by unfold crossP; rw [List.length_map]; exact HNP.out
                rw [List.length_map, List.length_take, h2] at h
                omega)
              have KN := Lib.hid hkn
              have wl : Below w.heap.size w wr := by rw [HB.out]; exact XX.out.l
              have o0 := cell_old wl o0
              have o1 := cell_old wl o1
              have o2 := cell_old wl o2
              have o3 := cell_old wl o3
              have o4 := cell_old wl o4
              have o5 := cell_old wl o5
              have o6 := cell_old wl o6
              rw [hwN] at o4
              rw [hhN] at o5
              obtain ⟨wt, hwt⟩ : ∃ wt, wr.alloc (.cells #[.int .i64 p.id, .int .i64 p.h, .int .i64 p.v, .int .i64 p.tq, .int .i64 (wN : Int), .int .i64 (hN : Int), .slice xa xn xc] 70) = wt := ⟨_, rfl⟩
              obtain ⟨wu, hwu⟩ : ∃ wu, wt.alloc (.cells #[.int .i64 p.id, .int .i64 p.v, .int .i64 p.h, .int .i64 p.tq, .int .i64 (hN : Int), .int .i64 (wN : Int), .slice none 0 0] 70) = wu := ⟨_, rfl⟩
              have hbt : Below wr.heap.size wr wt := by rw [← hwt]; exact (Below.refl _ _).alloc (Nat.le_refl _) _
              have XT := Lib.hid (XX.out.old hbt)
              have QT := Lib.hid (QS.out.old hbt)
              have RT := Lib.hid (PT.out.hi (keepHi_below hbt))
              obtain ⟨T, hT⟩ : ∃ T, wr.heap.size = T := ⟨_, rfl⟩
              have HT1 : Hid (wt.heap.size = T + 1) := Lib.hid (by rw [← hwt, World.size_alloc, hT])
              have PX1 : Hid (PtB wt T p (.slice xa xn xc)) := Lib.hid (by rw [← hwt, ← hT]; unfold PtB; rw [hwN, hhN]; exact heap_alloc_new _ _)
              have BU : Hid (Below wt.heap.size wt wu) := Lib.hid (by rw [← hwu]; exact (Below.refl _ _).alloc (Nat.le_refl _) _)
              have PY1 : Hid (PtB wu (T + 1) (yPt p) (.slice none 0 0)) := Lib.hid (by
                have h := heap_alloc_new wt (.cells #[.int .i64 p.id, .int .i64 p.v, .int .i64 p.h, .int .i64 p.tq, .int .i64 (hN : Int), .int .i64 (wN : Int), .slice none 0 0] 70)
                rw [hwu, HT1.out] at h
                unfold PtB yPt
                dsimp only
                rw [hwN, hhN]
                exact h)
              have LT : Hid (B + 1 + 1 ≤ T) := Lib.hid (by rw [← hT]; exact LB.out)
              have SP0 : Hid (∀ q ∈ done, ∀ b, q.2.ownBlock = some b → b < T) := Lib.hid (fun q hq b hb => by rw [← hT]; exact ((PT.out.bk q hq).row.lt b hb).2)
              have hT1 := HT1.out
              obtain ⟨x0, x1, x2, x3, x4, x5, x6⟩ := PX1.out.cells
              rw [hwN] at x4
              rw [hhN] at x5
              clear hpp hkP hkn hPB hBK hxn hbt wl hwN hhN hxl hxl2 hw26 hh26 PT QS XX LB
              go_wp2_with fail
              clear o0 o1 o2 o3 o4 o5 o6 a0 a1 a2 a3 a4 a5 a6 a7 a8 x0 x1 x2 x3 x4 x5 x6 hwt hwu hT1
              have A64 : Hid (All64 p.bs) := Lib.hid BK.out.range.1
              have BINFO := Lib.hid blk_ie
              have WL : Hid (∀ W, Below wt.heap.size wt W → Below B w W) := Lib.hid (fun W h => XT.out.l.trans (h.mono (by have := XT.out.lt; omega)))
              have MKC : Hid (∀ (W : World) (yv : Value), Below wt.heap.size wt W → PtB W (T + 1) (yPt p) yv → RtC w B T yv (.slice xa xn xc) (wN : Int) W) := Lib.hid (fun W yv h1 h2 => by
                have h3 := (PX1.out.old h1).cells
                have h4 := h2.cells
                rw [HWN.out] at h3
                exact ⟨h4.2.2.2.2.2.2, h3.2.2.2.2.2.2, h3.2.2.2.2.1, WL.out W h1⟩)
              have LT1 : Hid (wt.heap.size ≤ T + 1) := Lib.hid (Nat.le_of_eq HT1.out)
              clear hT
              go_loopw [15] (fun i W => ∃ (r : Nat) (yv : Value), r ≤ wN ∧ i = .int .i64 (r : Nat) ∧ Below wt.heap.size wt W ∧ PtB W (T + 1) (yPt p) yv ∧ BkO (T + 1) W yv ((crB wN hN p.bs).take (r * hN))) (fun i _ => wN - (intOf i).toNat)
              case atStart => exact ⟨0, _, Nat.zero_le _, rfl, BU.out, PY1.out, by rw [Nat.zero_mul, List.take_zero]; exact BkO.nil _ _⟩
              case round =>
                clear BU PY1
                obtain ⟨r, yv, hr, rfl, hbu, hpy, hvb⟩ := hrel
                have BU := Lib.hid hbu
                have PY := Lib.hid hpy
                have VB := Lib.hid hvb
                have y5 : wr.cell? ⟨T + 1, 5, none⟩ = some (.int .i64 (wN : Int)) := by rw [← HWN.out]; exact hpy.cells.2.2.2.2.2.1
                clear hbu hpy hvb
                by_cases hrw : r < wN
                · obtain ⟨l1, l1'⟩ := dec_lt hrw
                  have HRW := Lib.hid hrw
                  have GR := Lib.hid (step_wrap r wN hrw (Nat.le_trans XN.out.2.2.1 (by decide)))
                  clear hrw
                  go_wp2_with fail
                  go_loopw [16] (fun i W => ∃ (s : Nat) (yv : Value), s ≤ hN ∧ i = .int .i64 (s : Nat) ∧ Below wt.heap.size wt W ∧ PtB W (T + 1) (yPt p) yv ∧ BkO (T + 1) W yv ((crB wN hN p.bs).take (r * hN + s))) (fun i _ => hN - (intOf i).toNat)
                  case atStart => exact ⟨0, _, Nat.zero_le _, rfl, BU.out, PY.out, VB.out⟩
                  case round =>
                    clear BU PY VB y5
                    obtain ⟨s, yv, hs, rfl, hbu, hpy, hvb⟩ := hrel
                    have BU := Lib.hid hbu
                    have PY := Lib.hid hpy
                    have y4 : wr.cell? ⟨T + 1, 4, none⟩ = some (.int .i64 (hN : Int)) := by rw [← HHN.out]; exact hpy.cells.2.2.2.2.1
                    by_cases hsh : s < hN
                    · obtain ⟨m1, m1'⟩ := dec_lt hsh
                      have HSH := Lib.hid hsh
                      have GS := Lib.hid (step_wrap s hN hsh (Nat.le_trans XN.out.2.2.2 (by decide)))
                      obtain ⟨A, E, ⟨t1, t1'⟩, ⟨t2, t2'⟩, hE, hEe⟩ := cross_at r s wN hN xn HRW.out hsh XN.out.1 XN.out.2.1
                      have hEb : E < p.bs.length := by rw [HXN.out]; exact hE
                      have hEb2 : s * wN + r < p.bs.length := by rw [hEe]; exact hEb
                      obtain ⟨cb, hcb⟩ : ∃ cb, p.bs[E] = cb := ⟨_, rfl⟩
                      obtain ⟨L, hL⟩ : ∃ L, (crB wN hN p.bs).take (r * hN + s) = L := ⟨_, rfl⟩
                      have STEP : Hid ((crB wN hN p.bs).take (r * hN + (s + 1)) = L ++ [blockL 4 cb]) := Lib.hid (by
                        have h := crB_take wN hN p.bs XL.out r s HRW.out hsh hEb2
                        rw [hL] at h
                        rw [← Nat.add_assoc, h]
                        congr 3
                        rw [← hcb]
                        congr 1)
                      rw [hL] at hvb
                      have LL : Hid (L.length ≤ 65536) := Lib.hid (by
                        rw [← hL, List.length_take, crB_len, HXN.out]
                        have := XN.out.2.1
                        omega)
                      obtain ⟨ya, yc, rfl⟩ := hvb.shape
                      have VB := Lib.hid hvb
                      have CB : Hid (Blk64 cb) := Lib.hid (by rw [← hcb]; exact A64.out.at _ hEb)
                      have B64 : Hid (Blk64 (blockL 4 cb)) := Lib.hid (blk_turned 4 CB.out)
                      obtain ⟨_, xa', xc', hv, hc', hrg⟩ := BK.out.range
                      rw [HXN.out] at hv
                      simp only [Value.slice.injEq, true_and] at hv
                      obtain ⟨rfl, rfl⟩ := hv
                      obtain ⟨xb, xo, rfl, hrx⟩ := hrg E hEb
                      rw [hcb] at hrx
                      have RXW : Hid (∀ W, Below B w W → W.rangeAt xb (xo + E * 64) (vIs cb)) := Lib.hid (fun W hW => range_old (by rw [HB.out]; exact hW) hrx)
                      have i1 : (E : Int) < (xn : Int) := Int.ofNat_lt.2 hE
                      have HI : Hid ((Try.prog.info? 23).map (·.size) = some (vIs cb).length) := Lib.hid (by rw [vIs_length, CB.out.1]; kernel_rfl)
                      clear hrg hrx hcb hEb hEb2 hEe hE hL hvb hbu hpy hsh hc'
                      go_upto_region 31 with (fail)
                      have hd := (Below.refl wr.heap.size wr).drew
                      have BUD := Lib.hid (BU.out.trans (hd.mono BU.out.size))
                      have PYD := Lib.hid (PY.out.old hd)
                      have VBD := Lib.hid (VB.out.old hd)
                      have CC0 := MKC.out _ _ BUD.out PYD.out
                      obtain ⟨wd, hwd⟩ : ∃ wd, wr.drew = wd := ⟨_, rfl⟩
                      refine wp_region_last (RtC w B T (.slice ya L.length yc) (.slice (some ⟨xb, xo, none⟩) xn xc) (wN : Int)) 16 17 [(0, true), (1, true), (2, true), (3, true), (4, true), (5, true), (6, true), (7, true), (8, true), (9, true), (10, true), (11, true), (12, false), (13, false), (14, false), (15, true)] (by kernel_rfl) (by kernel_rfl) CC0 (fun hC0 => ?_)
                      clear CC0 hd y4
                      rw [hwd] at hC0 BUD PYD VBD ⊢
                      clear hwd BU PY VB
                      iterate 11
                        (refine last_take rfl ?_
                         apply Exists.intro
                         refine ⟨Or.inl ⟨by rfl, fun X hX => ?_⟩, ?_⟩
                         · obtain ⟨y6, x6, x4, -⟩ := hX
                           go_simp
                           exact rfl
                         simp only [Act.put, List.setIfInBounds_toArray, List.set_cons_zero, List.set_cons_succ])
                      refine last_take rfl ?_
                      refine ⟨_, yieldsIf_load_mid (by rfl) _ _ rfl xb (xo + E * 64) rfl (vIs cb) _ (fun X hX => RXW.out X hX.2.2.2) Try.underlying23 rfl HI.out, ?_⟩
                      simp only [Act.put, List.setIfInBounds_toArray, List.set_cons_zero, List.set_cons_succ]
                      clear t1 t1' t2 t2' i1 hC0
                      refine last_step rfl (fun K hK => ?_)
                      rw [if_pos (by rfl)]
                      go_wp2_with (go_at_call 11; refine (refBlock_any cb 4 _ CB.out.1).mono ?_; rintro e w6 ⟨rfl, hb6⟩)
                      have BU6 := Lib.hid (BUD.out.trans (hb6.mono BUD.out.size))
                      have PY6 := Lib.hid (PYD.out.old hb6)
                      have VB6 := Lib.hid (VBD.out.old hb6)
                      refine hK.out _ _ (MKC.out _ _ BU6.out PY6.out) (fun _ => ?_)
                      clear hK K hb6
                      try simp only [Act.put, List.setIfInBounds_toArray, List.set_cons_zero, List.set_cons_succ]
                      refine last_step rfl (fun K hK => ?_)
                      rw [if_pos (by rfl)]
                      refine wp_blk1 68 23 _ rfl (blockL 4 cb) rfl (blockL_len 4 cb) Try.underlying68 BINFO.out ?_
                      have h7 : Below w6.heap.size w6 (w6.alloc (.cells (vIs (blockL 4 cb)).toArray 23)) := (Below.refl _ _).alloc (Nat.le_refl _) _
                      have BU7 := Lib.hid (BU6.out.trans (h7.mono BU6.out.size))
                      have PY7 := Lib.hid (PY6.out.old h7)
                      have VB7 := Lib.hid (VB6.out.old h7)
                      have LIT := Lib.hid (sl_litN 64 w6 (vIs (blockL 4 cb)) 23 1 (by rw [vIs_length, blockL_len]) (by omega))
                      have MS7 : Hid (T + 1 ≤ (w6.alloc (.cells (vIs (blockL 4 cb)).toArray 23)).heap.size) := Lib.hid (by rw [← HT1.out]; exact BU7.out.size)
                      refine hK.out _ _ (MKC.out _ _ BU7.out PY7.out) (fun _ => ?_)
                      clear hK K h7
                      try simp only [Act.put, List.setIfInBounds_toArray, List.set_cons_zero, List.set_cons_succ]
                      refine last_step rfl (fun K hK => ?_)
                      refine step_app tyB rfl _ _ rfl (T + 1) _ L.length _ rfl VB7.out.row _ 1 _ rfl LIT.out (vIs_one _) (by have := LL.out; omega) (by have := LL.out; omega) MS7.out ?_
                      intro v8 w8 hown8 hg8
                      have BU8 := Lib.hid (run_app_below VB7.out.row hg8 BU7.out LT1.out)
                      have PY8 : Hid (PtB w8 (T + 1) (yPt p) (.slice ya L.length yc)) := Lib.hid (heap_grown VB7.out.row hg8 PY7.out (by decide))
                      have VB8 : Hid (BkO (T + 1) w8 v8 ((crB wN hN p.bs).take (r * hN + (s + 1)))) := Lib.hid (by
                        rw [STEP.out]
                        exact BkO.snoc hown8 VB7.out.all B64.out)
                      obtain ⟨va8, vc8, rfl⟩ := owns_any hown8
                      refine hK.out _ _ (MKC.out _ _ BU8.out PY8.out) (fun _ => ?_)
                      clear hK K hown8 hg8
                      try simp only [Act.put, List.setIfInBounds_toArray, List.set_cons_zero, List.set_cons_succ]
                      refine last_take rfl ?_
                      apply Exists.intro
                      refine ⟨Or.inl ⟨by rfl, fun X hX => ?_⟩, ?_⟩
                      · clear hX
                        go_simp
                        exact rfl
                      simp only [Act.put, List.setIfInBounds_toArray, List.set_cons_zero, List.set_cons_succ]
                      have c8 := PY8.out.cells.2.2.2.2.2.2
                      have z8 : w8.frozen? ⟨T + 1, 6, none⟩ = false := frozen_of_row w8 (T + 1) 6 _ _ PY8.out
                      have PY9 : Hid (PtB (w8.setCell ⟨T + 1, 6, none⟩ (.slice va8 (L.length + 1) vc8)) (T + 1) (yPt p) (.slice va8 (L.length + 1) vc8)) := Lib.hid (heap_setCell_same w8 (T + 1) 6 _ _ _ PY8.out)
                      have BU9 : Hid (Below wt.heap.size wt (w8.setCell ⟨T + 1, 6, none⟩ (.slice va8 (L.length + 1) vc8))) := Lib.hid (below_set BU8.out LT1.out)
                      have VB9 := Lib.hid (VB8.out.other (j := 6) (u := .slice va8 (L.length + 1) vc8) PY8.out (by decide))
                      have gs := GS.out
                      refine last_done rfl (fun K hK => ?_)
                      rw [if_pos (by rfl)]
                      go_wp2_with fail
                      refine hK.out _ _ ?_
                      clear hK K
                      go_wp2_with fail
                      go_roundw
                      case rel => exact ⟨s + 1, _, HSH.out, by go_num, BU9.out, PY9.out, VB9.out⟩
                      case measure => simp [intOf]; have := HSH.out; omega
                    · obtain rfl : s = hN := by omega
                      have m1 : decide ((s : Int) < (s : Int)) = false := by rw [decide_eq_false_iff_not]; omega
                      have VB : Hid (BkO (T + 1) wr yv ((crB wN s p.bs).take ((r + 1) * s))) := Lib.hid (by rw [← crB_row]; exact hvb)
                      have gr := GR.out
                      clear hvb hbu hpy
                      go_wp2_with fail
                      go_roundw
                      case rel => exact ⟨r + 1, _, HRW.out, by go_num, BU.out, PY.out, VB.out⟩
                      case measure => simp [intOf]; have := HRW.out; omega
                · obtain rfl : r = wN := by omega
                  have l1 : decide ((r : Int) < (r : Int)) = false := by rw [decide_eq_false_iff_not]; omega
                  obtain ⟨L, hL⟩ : ∃ L, (crB r hN p.bs).take (r * hN) = L := ⟨_, rfl⟩
                  have HL : Hid (L = crB r hN p.bs) := Lib.hid (by rw [← hL, List.take_of_length_le (by rw [crB_len, XL.out]; exact Nat.le_refl _)])
                  rw [hL] at VB
                  obtain ⟨ya, yc, hyv⟩ := VB.out.shape
                  rw [hyv] at VB PY
                  have XX2 := Lib.hid (XT.out.old BU.out)
                  have QS2 := Lib.hid (QT.out.old BU.out)
                  have RT2 := Lib.hid (RT.out.hi (keepHi_below BU.out))
                  have c6 := XX2.out.a.cells.2.2.2.2.2.2.1
                  obtain ⟨ra, rc, hrv⟩ := owns_any RT2.out.row
                  have hb2 : Below wr.heap.size wr (wr.alloc (.cells #[.int .i64 p.id, .int .i64 p.v, .int .i64 p.h, .int .i64 p.tq, .int .i64 (hN : Int), .int .i64 (r : Int), .slice ya L.length yc] 70)) := (Below.refl _ _).alloc (Nat.le_refl _) _
                  have XX3 := Lib.hid (XX2.out.old hb2)
                  have QS3 := Lib.hid (QS2.out.old hb2)
                  have RT3 := Lib.hid (RT2.out.hi (keepHi_below hb2))
                  have VB3 := Lib.hid (VB.out.old hb2)
                  have B3 : Hid (B + 1 + 1 ≤ (wr.alloc (.cells #[.int .i64 p.id, .int .i64 p.v, .int .i64 p.h, .int .i64 p.tq, .int .i64 (hN : Int), .int .i64 (r : Int), .slice ya L.length yc] 70)).heap.size) := Lib.hid (by have := XX3.out.lt; omega)
                  have D4 : Hid (done.length ≤ 4) := Lib.hid (by have := DL.out; have := KN.out; have := N4.out; omega)
                  rw [hrv] at XX3 RT3 c6
                  have LIT := Lib.hid (sl_litN 7 wr [.int .i64 p.id, .int .i64 p.v, .int .i64 p.h, .int .i64 p.tq, .int .i64 (hN : Int), .int .i64 (r : Int), .slice ya L.length yc] 70 1 rfl (by omega))
                  have H1 : Hid (∀ u ∈ ([.int .i64 p.id, .int .i64 p.v, .int .i64 p.h, .int .i64 p.tq, .int .i64 (hN : Int), .int .i64 (r : Int), .slice ya L.length yc] : List Value), u.oneCell' = true) := Lib.hid (fun u hu => by
                    simp only [List.mem_cons, List.not_mem_nil, or_false] at hu
                    rcases hu with rfl | rfl | rfl | rfl | rfl | rfl | rfl <;> rfl)
                  have VPX : Hid (vPart (crossPt p) (.slice ya L.length yc) = [.int .i64 p.id, .int .i64 p.v, .int .i64 p.h, .int .i64 p.tq, .int .i64 (hN : Int), .int .i64 (r : Int), .slice ya L.length yc]) := Lib.hid (by
                    unfold vPart crossPt
                    dsimp only
                    rw [HWN.out, HHN.out])
                  have CBS : Hid ((crossPt p).bs = L) := Lib.hid (by
                    unfold crossPt
                    dsimp only
                    rw [HL.out, HWN.out, HHN.out, Int.toNat_natCast, Int.toNat_natCast])
                  have PBC : Hid (PartB (crossPt p)) := Lib.hid ⟨PBp.out.id, PBp.out.v, PBp.out.h, PBp.out.tq, PBp.out.high, PBp.out.wide, by rw [CBS.out, HL.out, crB_len, HXN.out]; have := XN.out; omega⟩
                  have O3 : Hid (BkO (B + 1 + 1) (wr.alloc (.cells #[.int .i64 p.id, .int .i64 p.v, .int .i64 p.h, .int .i64 p.tq, .int .i64 (hN : Int), .int .i64 (r : Int), .slice ya L.length yc] 70)) (.slice ya L.length yc) (crossPt p).bs) := Lib.hid (by rw [CBS.out]; exact VB3.out.mono (by have := LT.out; omega))
                  have SP : Hid (∀ q ∈ done, q.2.ownBlock = none ∨ q.2.ownBlock ≠ (Value.slice ya L.length yc).ownBlock) := Lib.hid (fun q hq => by
                    cases hv : q.2.ownBlock with
                    | none => exact .inl rfl
                    | some b =>
                      right
                      intro e
                      have h1 := SP0.out q hq b hv
                      have h2 := (VB.out.row.lt b e.symm).1
                      omega)
                  have y0 : wr.cell? ⟨T + 1, 0, none⟩ = some (.int .i64 p.id) := PY.out.cells.1
                  have y1 : wr.cell? ⟨T + 1, 1, none⟩ = some (.int .i64 p.v) := PY.out.cells.2.1
                  have y2 : wr.cell? ⟨T + 1, 2, none⟩ = some (.int .i64 p.h) := PY.out.cells.2.2.1
                  have y3 : wr.cell? ⟨T + 1, 3, none⟩ = some (.int .i64 p.tq) := PY.out.cells.2.2.2.1
                  have y4 : wr.cell? ⟨T + 1, 4, none⟩ = some (.int .i64 (hN : Int)) := by rw [← HHN.out]; exact PY.out.cells.2.2.2.2.1
                  have y6 : wr.cell? ⟨T + 1, 6, none⟩ = some (.slice ya L.length yc) := PY.out.cells.2.2.2.2.2.2
                  clear hb2 hL hyv hrv
                  go_wp2_with (at_builtin; refine stop ?_)
                  refine unstop (wpList_app tyPa rfl _ _ rfl (B + 1 + 1) _ done.length (cellsW vPart done) rfl RT3.out.row _ 1 _ rfl LIT.out H1.out (by have := D4.out; omega) (by have := D4.out; omega) B3.out ?_)
                  intro v2 x2 hown2 hg2 _
                  obtain ⟨va2, vc2, rfl⟩ := owns_any hown2
                  have PT4 : Hid (PtO (B + 1 + 1) x2 (.slice va2 (done.length + 1) vc2) (done ++ [(crossPt p, .slice ya L.length yc)])) := Lib.hid (RT3.out.more (crossPt p) _ PBC.out O3.out SP.out hg2 (by rw [VPX.out]; exact hown2))
                  have XX4 := Lib.hid (XX3.out.grown RT3.out.row hg2 (by omega) (by decide))
                  have QS4 := Lib.hid (QS3.out.grown RT3.out.row hg2 (by decide))
                  have c7 := XX4.out.a.cells.2.2.2.2.2.2.1
                  have z7 := XX4.out.a.frozen 6
                  clear hown2 hg2 y0 y1 y2 y3 y4 y5 y6 c6
                  have gk := GK.out
                  go_wp2_with fail
                  go_roundw
                  case rel => exact ⟨k + 1, _, done ++ [(crossPt p, .slice ya L.length yc)], KN.out, by go_num, by rw [List.map_append, DF.out, TK.out]; rfl, PT4.out.set XX4.out.a (by decide) (by decide), QS4.out.set XX4.out.a (by decide), XX4.out.setp _⟩
                  case measure => simp [intOf]; have := KN.out; omega
            · obtain rfl : k = n := by omega
              have f1 : decide ((k : Int) < (k : Int)) = false := by rw [decide_eq_false_iff_not]; omega
              have DM : Hid (done.map (·.1) = (crossP P).parts) := Lib.hid (by rw [DF.out, List.take_of_length_le (by unfold crossP; rw [List.length_map, HNP.out]; exact Nat.le_refl _)])
              obtain ⟨g0, hg0⟩ : ∃ z, f 0 = z := ⟨_, rfl⟩
              obtain ⟨g1, hg1⟩ : ∃ z, f 1 = z := ⟨_, rfl⟩
              obtain ⟨g2, hg2⟩ : ∃ z, f 2 = z := ⟨_, rfl⟩
              obtain ⟨g3, hg3⟩ : ∃ z, f 3 = z := ⟨_, rfl⟩
              have N0 := QS.out 0 (by decide)
              have N1 := QS.out 1 (by decide)
              have N2 := QS.out 2 (by decide)
              have N3 := QS.out 3 (by decide)
              rw [if_pos (by decide)] at N0 N1 N2 N3
              rw [hg0] at N0 XX
              rw [hg1] at N1 XX
              rw [hg2] at N2 XX
              rw [hg3] at N3 XX
              obtain ⟨e0, c0, rfl⟩ := owns_any N0
              obtain ⟨e1, c1, rfl⟩ := owns_any N1
              obtain ⟨e2, c2, rfl⟩ := owns_any N2
              obtain ⟨e3, c3, rfl⟩ := owns_any N3
              obtain ⟨ra, rc, rfl⟩ := owns_any PT.out.row
              obtain ⟨m0, hm0⟩ : ∃ z, (qL (crossP P) 0).length = z := ⟨_, rfl⟩
              obtain ⟨m1, hm1⟩ : ∃ z, (qL (crossP P) 1).length = z := ⟨_, rfl⟩
              obtain ⟨m2, hm2⟩ : ∃ z, (qL (crossP P) 2).length = z := ⟨_, rfl⟩
              obtain ⟨m3, hm3⟩ : ∃ z, (qL (crossP P) 3).length = z := ⟨_, rfl⟩
              rw [hm0] at N0 XX
              rw [hm1] at N1 XX
              rw [hm2] at N2 XX
              rw [hm3] at N3 XX
              have M0 : Hid (NO (B + 1 + 1) wr (.slice e0 m0 c0) (crossP P).q0) := Lib.hid N0
              have M1 : Hid (NO (B + 1 + 1) wr (.slice e1 m1 c1) (crossP P).q1) := Lib.hid N1
              have M2 : Hid (NO (B + 1 + 1) wr (.slice e2 m2 c2) (crossP P).q2) := Lib.hid N2
              have M3 : Hid (NO (B + 1 + 1) wr (.slice e3 m3 c3) (crossP P).q3) := Lib.hid N3
              clear N0 N1 N2 N3 hg0 hg1 hg2 hg3 hm0 hm1 hm2 hm3
              have b1x : wr.cell? ⟨B + 1 + 1, 0, none⟩ = some (.int .i64 P.h) := XX.out.a.cells.1
              have b2x : wr.cell? ⟨B + 1 + 1, 1, none⟩ = some (.int .i64 P.w) := XX.out.a.cells.2.1
              have b3x : wr.cell? ⟨B + 1 + 1, 7, none⟩ = some (.int .i64 P.restart) := XX.out.a.cells.2.2.2.2.2.2.2.1
              obtain ⟨-, -, d2x, d3x, d4x, d5x, d6x, -, d8x⟩ := XX.out.a.cells
              have H1 : Hid ((#[.int .i64 P.h, .int .i64 P.w, .slice e0 m0 c0, .slice e1 m1 c1, .slice e2 m2 c2, .slice e3 m3 c3, .slice ra done.length rc, .int .i64 P.restart, .slice ba na da] : Array Value).all (·.oneCell') = true) := Lib.hid (by kernel_rfl)
              have HI : Hid ((Try.prog.info? 36).map (·.size) = some 9) := Lib.hid (by kernel_rfl)
              have FIN : Hid (RtE w B P (crossP P) (.slice b0 n0 d0) (.slice b1 n1 d1) (.slice b2 n2 d2) (.slice b3 n3 d3) (.slice bp k dp) (.slice ba na da) (wr.setRow B #[.int .i64 P.h, .int .i64 P.w, .slice e0 m0 c0, .slice e1 m1 c1, .slice e2 m2 c2, .slice e3 m3 c3, .slice ra done.length rc, .int .i64 P.restart, .slice ba na da])) := Lib.hid (by
                obtain ⟨wE, hE⟩ : ∃ wE, wr.setRow B #[.int .i64 P.h, .int .i64 P.w, .slice e0 m0 c0, .slice e1 m1 c1, .slice e2 m2 c2, .slice e3 m3 c3, .slice ra done.length rc, .int .i64 P.restart, .slice ba na da] = wE := ⟨_, rfl⟩
                have hKT : KeepTy 36 wr wE := by rw [← hE]; exact keepTy_row XX.out.o
                have hBE : Below B w wE := by rw [← hE]; exact below_setRow XX.out.l (Nat.le_refl _) _
                have hPB : wE.heap[B]? = some (.cells #[.int .i64 P.h, .int .i64 P.w, .slice e0 m0 c0, .slice e1 m1 c1, .slice e2 m2 c2, .slice e3 m3 c3, .slice ra done.length rc, .int .i64 P.restart, .slice ba na da] 36 (0, 0)) := by rw [← hE]; exact setRow_heap _ _ _ _ _ _ XX.out.o
                have hZ : ZBox wE (B + 1) := by
                  rw [← hE]
                  unfold ZBox
                  rw [setRow_other wr B (B + 1) _ (by omega)]
                  exact XX.out.z
                rw [hE]
                have J : RtJ w B P (crossP P) (.slice b0 n0 d0) (.slice b1 n1 d1) (.slice b2 n2 d2) (.slice b3 n3 d3) (.slice bp k dp) (.slice ba na da) (.slice e0 m0 c0) (.slice e1 m1 c1) (.slice e2 m2 c2) (.slice e3 m3 c3) (.slice ra done.length rc) wE := by
                  refine ⟨hPB, hZ, hBE, fun V hV hk => ?_⟩
                  have hpt := ((PT.out.ty hKT (by decide) (by decide)).hi hk).pts
                  rw [DM.out] at hpt
                  exact ⟨sl_of_owns (owns_hi (owns_ty M0.out hKT (by decide)) hk), sl_of_owns (owns_hi (owns_ty M1.out hKT (by decide)) hk), sl_of_owns (owns_hi (owns_ty M2.out hKT (by decide)) hk), sl_of_owns (owns_hi (owns_ty M3.out hKT (by decide)) hk), hpt, hV.kept⟩
                exact J.e (HP.out.old (by rw [HB.out]; exact hBE)))
              go_wp2_with (refine wpList_store_row rfl _ _ _ rfl B #[.int .i64 P.h, .int .i64 P.w, .slice e0 m0 c0, .slice e1 m1 c1, .slice e2 m2 c2, .slice e3 m3 c3, .slice ra done.length rc, .int .i64 P.restart, .slice ba na da] rfl rfl 36 _ XX.out.o HI.out rfl H1.out ?_)
              go_meet
              exact ⟨rfl, FIN.out⟩
      -- q]
end Go.Proofs.Ytnhalnjdlkdnkaa
