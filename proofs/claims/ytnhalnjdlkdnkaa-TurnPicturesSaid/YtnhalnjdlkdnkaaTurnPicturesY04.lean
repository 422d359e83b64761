/- The document's Cut. By an AI agent. -/
import Derived.Test.YtnhalnjdlkdnkaaTurnPicturesY02
import Derived.Test.YtnhalnjdlkdnkaaTurnPicturesY03
import Derived.Great.BuildSlice
namespace Go.Proofs.Ytnhalnjdlkdnkaa
open Go.RowKit Go.BigFrame
set_option linter.unusedVariables false
set_option linter.unusedSimpArgs false
set_option maxRecDepth 20000

/-- the boxes of the document's Cut -/
structure RcX (w : World) (B : Nat) (P Q : PicL) (q0 q1 q2 q3 pv kv rv : Value) (W : World) : Prop where
  o : PBox W B P q0 q1 q2 q3 pv kv
  z : ZBox W (B + 1)
  a : PBox W (B + 1 + 1) Q q0 q1 q2 q3 rv kv
  l : Below B w W
theorem RcX.lt {w : World} {B : Nat} {P Q : PicL} {q0 q1 q2 q3 pv kv rv : Value} {W : World} (h : RcX w B P Q q0 q1 q2 q3 pv kv rv W) : B + 1 + 1 < W.heap.size := (Array.getElem?_eq_some_iff.1 h.a).1
theorem RcX.old {w : World} {B : Nat} {P Q : PicL} {q0 q1 q2 q3 pv kv rv : Value} {W W' : World} (h : RcX w B P Q q0 q1 q2 q3 pv kv rv W) (hb : Below W.heap.size W W') : RcX w B P Q q0 q1 q2 q3 pv kv rv W' :=
  ⟨h.o.old hb, h.z.old hb, h.a.old hb, h.l.trans (hb.mono (by have := h.lt; omega))⟩
theorem RcX.grown {w : World} {B : Nat} {P Q : PicL} {q0 q1 q2 q3 pv kv rv : Value} {W W' : World} (h : RcX w B P Q q0 q1 q2 q3 pv kv rv W) {v : Value} {base size n : Nat} {e : TypeId} {xs : List Value} (hv : W.ownsRow base e size v n xs) (hg : W.grownBy W' v.ownBlock) (hb : B ≤ base) (he : 36 ≠ e) : RcX w B P Q q0 q1 q2 q3 pv kv rv W' :=
  ⟨heap_grown hv hg h.o he, heap_grown hv hg h.z he, heap_grown hv hg h.a he, h.l.grown hg (by have := h.lt; omega) fun k hk => Nat.le_trans hb (hv.lt k hk).1⟩
theorem RcX.other {w : World} {B : Nat} {P Q : PicL} {q0 q1 q2 q3 pv kv rv : Value} {W : World} (h : RcX w B P Q q0 q1 q2 q3 pv kv rv W) {g j : Nat} {C : Array Value} {t : TypeId} {fr : Nat × Nat} {u : Value} (hg : B ≤ g) (hC : W.heap[g]? = some (.cells C t fr)) (ht : 36 ≠ t) : RcX w B P Q q0 q1 q2 q3 pv kv rv (W.setCell ⟨g, j, none⟩ u) :=
  ⟨heap_other h.o hC ht, heap_other h.z hC ht, heap_other h.a hC ht, below_set h.l hg⟩
theorem RcX.setp {w : World} {B : Nat} {P Q : PicL} {q0 q1 q2 q3 pv kv rv : Value} {W : World} (h : RcX w B P Q q0 q1 q2 q3 pv kv rv W) (u : Value) : RcX w B P Q q0 q1 q2 q3 pv kv u (W.setCell ⟨B + 1 + 1, 6, none⟩ u) :=
  ⟨by unfold PBox; rw [Go.Deep.blk_setCell_other _ _ _ _ (by simp only; omega)]; exact h.o, h.z.set (by omega), pbox_setp h.a u, below_set h.l (by omega)⟩
/-- a row of parts: the cells of one -/
theorem rows_cells {w : World} {v : Value} {n : Nat} {rs : List (PartL × Value)} (h : SlN 7 w v n (cellsW vPart rs)) (hn : rs.length = n) (h0 : 0 < n) : ∃ b o c, v = .slice (some ⟨b, o, none⟩) n c ∧ ∀ (k : Nat) (hk : k < rs.length) (W : World), Below w.heap.size w W →
    W.cell? ⟨b, o + k * 7, none⟩ = some (.int .i64 rs[k].1.id) ∧ W.cell? ⟨b, o + k * 7 + 1, none⟩ = some (.int .i64 rs[k].1.h) ∧ W.cell? ⟨b, o + k * 7 + 2, none⟩ = some (.int .i64 rs[k].1.v) ∧ W.cell? ⟨b, o + k * 7 + 3, none⟩ = some (.int .i64 rs[k].1.tq) ∧
    W.cell? ⟨b, o + k * 7 + 4, none⟩ = some (.int .i64 rs[k].1.wide) ∧ W.cell? ⟨b, o + k * 7 + 5, none⟩ = some (.int .i64 rs[k].1.high) ∧ W.cell? ⟨b, o + k * 7 + 6, none⟩ = some rs[k].2 := by
  subst hn
  rcases h.2 with ⟨_, _, _, h1⟩ | ⟨b, o, c, rfl, _, _, hx⟩
  · omega
  · refine ⟨b, o, c, rfl, fun k hk W hW => ?_⟩
    have key : ∀ j u, j < 7 → (vPart rs[k].1 rs[k].2)[j]? = some u → W.cell? ⟨b, o + k * 7 + j, none⟩ = some u := fun j u hj hu => by
      rw [Nat.add_assoc]
      exact cell_old hW (hx _ _ (by rw [cellsW_at vPart_len _ _ _ hk hj]; exact hu))
    exact ⟨key 0 _ (by decide) rfl, key 1 _ (by decide) rfl, key 2 _ (by decide) rfl, key 3 _ (by decide) rfl, key 4 _ (by decide) rfl, key 5 _ (by decide) rfl, key 6 _ (by decide) rfl⟩
theorem take_row {rs : List (PartL × Value)} {k : Nat} (hk : k < rs.length) (p : PartL) (x : Value) (h : rs[k] = (p, x)) : cellsW vPart (rs.take (k + 1)) = cellsW vPart (rs.take k) ++ vPart p x := by
  rw [List.take_succ_eq_append_getElem hk, h]
  unfold cellsW
  rw [List.flatMap_append]
  simp
theorem row_wraps2 {r v y wd c h : Int} {a x len : Nat} (rb1 : 0 ≤ r * v ∧ r * v ≤ 262140) (rb2 : 0 ≤ r * v + y ∧ r * v + y ≤ 1000000) (rb3 : 0 ≤ (r * v + y) * wd ∧ (r * v + y) * wd ≤ 65536) (rb4 : 0 ≤ c * h ∧ c * h ≤ 262140) (rb5 : (r * v + y) * wd + c * h = (a : Int)) (hx : a + x < len) (hl : len ≤ 400000) :
    ∃ A1 A2 A3 A4 : Int, (wrap64 (r * v) = A1 ∧ IntKind.i64.wrap (r * v) = A1) ∧ (wrap64 (A1 + y) = A2 ∧ IntKind.i64.wrap (A1 + y) = A2) ∧ (wrap64 (wd * A2) = A3 ∧ IntKind.i64.wrap (wd * A2) = A3) ∧ (wrap64 (c * h) = A4 ∧ IntKind.i64.wrap (c * h) = A4) ∧ (wrap64 (A3 + A4) = (a : Int) ∧ IntKind.i64.wrap (A3 + A4) = (a : Int)) ∧ (wrap64 ((a : Int) + (x : Int)) = ((a + x : Nat) : Int) ∧ IntKind.i64.wrap ((a : Int) + (x : Int)) = ((a + x : Nat) : Int)) := by
  refine ⟨r * v, r * v + y, (r * v + y) * wd, c * h, wrapZ _ (by omega), wrapZ _ (by omega), ?_, wrapZ _ (by omega), ?_, ?_⟩
  · rw [Int.mul_comm wd]; exact wrapZ _ (by omega)
  · rw [rb5]
    exact wrapN a (by omega)
  · have e : (a : Int) + (x : Int) = ((a + x : Nat) : Int) := by push_cast; rfl
    rw [e]
    exact wrapN _ (by omega)
theorem rowL_at {x : PartL} {c r i : Int} {s a j : Nat} (ha : rowAt x c r i = a) (hj : j < s) (hl : a + j < x.bs.length) : (rowL x c r (s : Int) i).take (j + 1) = (rowL x c r (s : Int) i).take j ++ [x.bs[a + j]] := by
  unfold rowL
  rw [ha, Int.toNat_natCast]
  have h1 : j < ((x.bs.drop a).take s).length := by rw [List.length_take, List.length_drop]; omega
  rw [List.take_succ_eq_append_getElem h1]
  congr 2
  rw [List.getElem_take, List.getElem_drop]
theorem fill_block (b : List Int) (hb : b.length = 64) (ie : TypeInfo) (hs : ie.size = 64) (z : Value) : Instr.fill (fun i => some (i * ie.size, ie.size)) ((Array.range (1 * ie.size)).map (z.cells[· % z.cells.size]!)) [(0, arr b)] = some (vIs b).toArray := by
  rw [hs]
  have h := Great.fill_whole (s := 64) (by decide) [arr b] ((Array.range (1 * 64)).map (z.cells[· % z.cells.size]!)) (fun v hv => by rw [List.mem_singleton.1 hv]; simp [arr, Value.cells, vIs_length, hb]) (by simp)
  simpa [arr, Value.cells] using h
/-- a slice literal of one block -/
theorem wpList_blk1 {P : Program} {ops : Array Oper} {rest : List Oper} {o : Oper} {a : Act} {w : World} {Q : Exit → Act → World → Prop} (hg : o.guard = none) (t e : TypeId) (x : Operand) (ho : o.op = .buildSlice t 1 #[(0, x)]) (b : List Int) (hx : a.eval x = arr b) (hb : b.length = 64)
    (hu : P.underlying t = some (.slice e)) (hie : ∃ ie, P.info? e = some ie ∧ ie.zero = some (arr zero64) ∧ ie.size = 64)
    (h : wpList P ops Q rest (a.put o.dst (.slice (some ⟨w.heap.size, 0, none⟩) 1 1)) (w.alloc (.cells (vIs b).toArray e))) : wpList P ops Q (o :: rest) a w := by
  obtain ⟨ie, h1, h2, h3⟩ := hie
  refine wpList_buildSlice hg t e 1 _ ho (vIs b).toArray ie (arr zero64) hu h1 h2 (by rw [h3]; decide) (by rw [h3]; decide) ?_ h
  have e : ((#[(0, x)] : Array (Nat × Operand)).map fun (i, x) => (i, a.eval x)).toList = [(0, arr b)] := by simp [hx]
  rw [e]
  exact fill_block b hb ie h3 _
theorem fB_snoc (L : List (List Int)) (b : List Int) : fB (L ++ [b]) = fB L ++ vIs b := by rw [fB_app, fB_cons]; simp [fB]
theorem BkO.snoc {base : Nat} {w : World} {v : Value} {L : List (List Int)} {b : List Int} (ho : w.ownsRow base 23 64 v (L.length + 1) (fB L ++ vIs b)) (h1 : All64 L) (hb : Blk64 b) : BkO base w v (L ++ [b]) := by
  refine ⟨?_, h1.app fun x hx => by rw [List.mem_singleton.1 hx]; exact hb⟩
  rw [List.length_append, List.length_singleton, fB_snoc]
  exact ho
/-- the row of parts, where a row of blocks that is none of theirs grows -/
theorem MidR.grown {base M T : Nat} {w w' : World} {g n c : Nat} {done : List (PartL × Value)} {q : PartL × Value} {rest : List (PartL × Value)} (h : MidR base w g n c done q rest) {v : Value} {m : Nat} {xs : List Value} (hv : w.ownsRow M 23 64 v m xs) (hg : w.grownBy w' v.ownBlock) (hT : T ≤ M) (hd : ∀ q ∈ done, ∀ b, q.2.ownBlock = some b → b < T) : MidR base w' g n c done q rest :=
  ⟨h.row.kept hg (own_ne h.row hv (by decide)), fun q hq => ⟨(h.bk q hq).row.kept hg (by
    cases hq2 : q.2.ownBlock with
    | none => exact .inl rfl
    | some b =>
      right
      intro e
      have h1 := hd q hq b hq2
      have h2 := (hv.lt b e.symm).1
      omega), (h.bk q hq).all⟩⟩
theorem blk_ie : ∃ ie, Try.prog.info? 23 = some ie ∧ ie.zero = some (arr zero64) ∧ ie.size = 64 := by
  obtain ⟨i, hi, hz, hsz, hby⟩ := tyB.hi
  exact ⟨i, hi, hz, hsz⟩
set_option maxHeartbeats 16000000 in
theorem refCut_any (P : PicL) (q0 q1 q2 q3 pv kv : Value) (c r W0 H0 : Int) (w : World) (hp : PicC w P q0 q1 q2 q3 pv kv) (F : Fit P) (I : In P c r W0 H0) :
    Calls Try.prog 42 #[.agg (vPic P q0 q1 q2 q3 pv kv), .int .i64 c, .int .i64 r, .int .i64 W0, .int .i64 H0] w fun e w' => ∃ rv rs', e = .returned (.agg (vPic (cutL P c r W0 H0) q0 q1 q2 q3 rv kv)) ∧ rs'.map (·.1) = (cutL P c r W0 H0).parts ∧ PtO w.heap.size w' rv rs' ∧ Below w.heap.size w w' := by
  have HP := Lib.hid hp
  have FF := Lib.hid F
  have II := Lib.hid I
  obtain ⟨rs, hrs, hpr, hpo⟩ := pts_rows hp.parts
  have HPO := Lib.hid hpo
  have HRS := Lib.hid hrs
  obtain ⟨b0, d0, rfl⟩ := hp.q0.len
  obtain ⟨b1, d1, rfl⟩ := hp.q1.len
  obtain ⟨b2, d2, rfl⟩ := hp.q2.len
  obtain ⟨b3, d3, rfl⟩ := hp.q3.len
  obtain ⟨ba, da, rfl, _⟩ := hp.kept.len
  obtain ⟨n, hn⟩ : ∃ z, P.parts.length = z := ⟨_, rfl⟩
  rw [hn] at hpr
  have HN : Hid (rs.length = n) := Lib.hid (by rw [← hn, ← hrs]; simp)
  have N4 : Hid (1 ≤ n ∧ n ≤ 4) := Lib.hid (by rw [← hn]; exact F.n)
  obtain ⟨ob, oo, dp, rfl, hpc⟩ := rows_cells hpr HN.out (by have := N4.out; omega)
  have PC := Lib.hid hpc
  obtain ⟨n0, hn0⟩ : ∃ z, P.q0.length = z := ⟨_, rfl⟩
  obtain ⟨n1, hn1⟩ : ∃ z, P.q1.length = z := ⟨_, rfl⟩
  obtain ⟨n2, hn2⟩ : ∃ z, P.q2.length = z := ⟨_, rfl⟩
  obtain ⟨n3, hn3⟩ : ∃ z, P.q3.length = z := ⟨_, rfl⟩
  obtain ⟨na, hna⟩ : ∃ z, P.kept.length = z := ⟨_, rfl⟩
  rw [hn0, hn1, hn2, hn3, hna] at HP ⊢
  clear hn0 hn1 hn2 hn3 hna hp F I hrs hpr hpo hpc
  have HNP := Lib.hid hn
  clear hn
  obtain ⟨w1, hw1⟩ : ∃ w1, ((w.alloc (.cells (vPic P (.slice b0 n0 d0) (.slice b1 n1 d1) (.slice b2 n2 d2) (.slice b3 n3 d3) (.slice (some ⟨ob, oo, none⟩) n dp) (.slice ba na da)) 36)).alloc (.cells zPic 36)).alloc (.cells (vPic (sidesL P W0 H0) (.slice b0 n0 d0) (.slice b1 n1 d1) (.slice b2 n2 d2) (.slice b3 n3 d3) (.slice none 0 0) (.slice ba na da)) 36) = w1 := ⟨_, rfl⟩
  have X1 : Hid (RcX w w.heap.size P (sidesL P W0 H0) (.slice b0 n0 d0) (.slice b1 n1 d1) (.slice b2 n2 d2) (.slice b3 n3 d3) (.slice (some ⟨ob, oo, none⟩) n dp) (.slice ba na da) (.slice none 0 0) w1) := Lib.hid (by
    rw [← hw1]
    exact ⟨heap_old (heap_old (heap_alloc_new _ _)), heap_old (by have h := heap_alloc_new (w.alloc (.cells (vPic P (.slice b0 n0 d0) (.slice b1 n1 d1) (.slice b2 n2 d2) (.slice b3 n3 d3) (.slice (some ⟨ob, oo, none⟩) n dp) (.slice ba na da)) 36)) (.cells zPic 36); rw [World.size_alloc] at h; exact h),
      by have h := heap_alloc_new ((w.alloc (.cells (vPic P (.slice b0 n0 d0) (.slice b1 n1 d1) (.slice b2 n2 d2) (.slice b3 n3 d3) (.slice (some ⟨ob, oo, none⟩) n dp) (.slice ba na da)) 36)).alloc (.cells zPic 36)) (.cells (vPic (sidesL P W0 H0) (.slice b0 n0 d0) (.slice b1 n1 d1) (.slice b2 n2 d2) (.slice b3 n3 d3) (.slice none 0 0) (.slice ba na da)) 36); rw [World.size_alloc, World.size_alloc] at h; exact h,
      (((Below.refl _ _).alloc (Nat.le_refl _) _).alloc (by simp) _).alloc (by simp; omega) _⟩)
  obtain ⟨B, hB⟩ : ∃ B, w.heap.size = B := ⟨_, rfl⟩
  have HB := Lib.hid hB
  rw [hB] at X1
  obtain ⟨a0, a1, a2, a3, a4, a5, a6, a7, a8⟩ := X1.out.o.cells
  unfold vPic zPic sidesL at hw1
  unfold vPic
  go_enter Try.func42, Try.ntmps42
  go_wp2_with fail
  clear a0 a1 a2 a3 a4 a5 a6 a7 a8
  go_loopw [12] (fun i W => ∃ (k : Nat) (rv : Value), k ≤ n ∧ i = .int .i64 (k : Nat) ∧ W.ownsRow B 70 7 rv k (cellsW vPart (rs.take k)) ∧ RcX w B P (sidesL P W0 H0) (.slice b0 n0 d0) (.slice b1 n1 d1) (.slice b2 n2 d2) (.slice b3 n3 d3) (.slice (some ⟨ob, oo, none⟩) n dp) (.slice ba na da) rv W) (fun i _ => n - (intOf i).toNat)
  case atStart => exact ⟨0, _, Nat.zero_le _, rfl, World.ownsRow_nil _ _ _ _, X1.out⟩
  case round =>
    obtain ⟨k, rv, hk, rfl, hrow, hx⟩ := hrel
    have RW := Lib.hid hrow
    have XX := Lib.hid hx
    obtain ⟨a0, a1, a2, a3, a4, a5, a6, a7, a8⟩ := hx.o.cells
    clear hrow hx
    by_cases hkn : k < n
    · have f1 : decide ((k : Int) < (n : Int)) = true := by rw [decide_eq_true_eq]; omega
      have f1' : decide (k < n) = true := by rw [decide_eq_true_eq]; omega
      have f2 : (k : Int) < (n : Int) := by omega
      have GK := Lib.hid (step_wrap k n hkn (Nat.le_trans N4.out.2 (by decide)))
      have hkr : k < rs.length := by have := HN.out; omega
      obtain ⟨⟨p, x⟩, hpx⟩ : ∃ p, rs[k] = p := ⟨_, rfl⟩
      have PX := HPO.out _ (List.getElem_mem hkr)
      rw [hpx] at PX
      obtain ⟨xa, xc, hxs⟩ := bks_slice PX.2
      simp only at hxs
      subst hxs
      obtain ⟨xn, hxn⟩ : ∃ z, p.bs.length = z := ⟨_, rfl⟩
      rw [hxn] at hpx
      have TK := Lib.hid (take_row hkr p _ hpx)
      have PCK : Hid (∀ W, Below w.heap.size w W → _) := Lib.hid (fun W hW => PC.out k hkr W hW)
      rw [hpx] at PCK
      simp only at PCK
      have KN := Lib.hid hkn
      have wl : Below w.heap.size w wr := by rw [HB.out]; exact XX.out.l
      obtain ⟨ra, rc, rfl⟩ := owns_any RW.out
      go_upto_region 8 with (fail)
      have hd : Below wr.heap.size wr wr.drew := (Below.refl _ _).drew
      have hwd : Below w.heap.size w wr.drew := wl.trans (hd.mono (by have := wl.size; omega))
      have CC0 : (fun X => X.cell? ⟨B + 1 + 1, 6, none⟩ = some (.slice ra k rc) ∧ X.cell? ⟨B, 6, none⟩ = some (.slice (some ⟨ob, oo, none⟩) n dp) ∧ X.cell? ⟨ob, oo + k * 7, none⟩ = some (.int .i64 p.id) ∧ X.cell? ⟨ob, oo + k * 7 + 1, none⟩ = some (.int .i64 p.h) ∧ X.cell? ⟨ob, oo + k * 7 + 2, none⟩ = some (.int .i64 p.v) ∧ X.cell? ⟨ob, oo + k * 7 + 3, none⟩ = some (.int .i64 p.tq) ∧ X.cell? ⟨ob, oo + k * 7 + 4, none⟩ = some (.int .i64 p.wide) ∧ X.cell? ⟨ob, oo + k * 7 + 5, none⟩ = some (.int .i64 p.high) ∧ X.cell? ⟨ob, oo + k * 7 + 6, none⟩ = some (.slice xa xn xc)) wr.drew := ⟨(XX.out.old hd).a.cells.2.2.2.2.2.2.1, (XX.out.old hd).o.cells.2.2.2.2.2.2.1, PCK.out _ hwd⟩
      obtain ⟨wd, hwd'⟩ : ∃ wd, wr.drew = wd := ⟨_, rfl⟩
      have XD := Lib.hid (XX.out.old hd)
      have RD := Lib.hid (owns_below RW.out hd)
      have WD := Lib.hid hwd
      clear hd hwd wl hpx hxn hkr hkn PX a0 a1 a2 a3 a4 a5 a6 a7 a8
      refine wp_region_last (fun X => X.cell? ⟨B + 1 + 1, 6, none⟩ = some (.slice ra k rc) ∧ X.cell? ⟨B, 6, none⟩ = some (.slice (some ⟨ob, oo, none⟩) n dp) ∧ X.cell? ⟨ob, oo + k * 7, none⟩ = some (.int .i64 p.id) ∧ X.cell? ⟨ob, oo + k * 7 + 1, none⟩ = some (.int .i64 p.h) ∧ X.cell? ⟨ob, oo + k * 7 + 2, none⟩ = some (.int .i64 p.v) ∧ X.cell? ⟨ob, oo + k * 7 + 3, none⟩ = some (.int .i64 p.tq) ∧ X.cell? ⟨ob, oo + k * 7 + 4, none⟩ = some (.int .i64 p.wide) ∧ X.cell? ⟨ob, oo + k * 7 + 5, none⟩ = some (.int .i64 p.high) ∧ X.cell? ⟨ob, oo + k * 7 + 6, none⟩ = some (.slice xa xn xc)) 10 11 [(0, true), (1, true), (2, true), (3, true), (4, true), (5, true), (6, true), (7, false), (8, false), (9, true)] (by kernel_rfl) (by kernel_rfl) CC0 (fun hC0 => ?_)
      clear CC0
      rw [hwd'] at hC0 XD RD WD ⊢
      clear hwd'
      iterate 7
        (refine last_take rfl ?_
         apply Exists.intro
         refine ⟨Or.inl ⟨by rfl, fun X hX => ?_⟩, ?_⟩
         · obtain ⟨y0, y1, y2, y3, y4, y5, y6, y7, y8⟩ := hX
           go_simp
           exact rfl
         simp only [Act.put, List.setIfInBounds_toArray, List.set_cons_zero, List.set_cons_succ])
      have CCD := Lib.hid hC0
      have COLD : Hid (∀ X Y : World, ((fun X => X.cell? ⟨B + 1 + 1, 6, none⟩ = some (.slice ra k rc) ∧ X.cell? ⟨B, 6, none⟩ = some (.slice (some ⟨ob, oo, none⟩) n dp) ∧ X.cell? ⟨ob, oo + k * 7, none⟩ = some (.int .i64 p.id) ∧ X.cell? ⟨ob, oo + k * 7 + 1, none⟩ = some (.int .i64 p.h) ∧ X.cell? ⟨ob, oo + k * 7 + 2, none⟩ = some (.int .i64 p.v) ∧ X.cell? ⟨ob, oo + k * 7 + 3, none⟩ = some (.int .i64 p.tq) ∧ X.cell? ⟨ob, oo + k * 7 + 4, none⟩ = some (.int .i64 p.wide) ∧ X.cell? ⟨ob, oo + k * 7 + 5, none⟩ = some (.int .i64 p.high) ∧ X.cell? ⟨ob, oo + k * 7 + 6, none⟩ = some (.slice xa xn xc)) X) → Below X.heap.size X Y → ((fun X => X.cell? ⟨B + 1 + 1, 6, none⟩ = some (.slice ra k rc) ∧ X.cell? ⟨B, 6, none⟩ = some (.slice (some ⟨ob, oo, none⟩) n dp) ∧ X.cell? ⟨ob, oo + k * 7, none⟩ = some (.int .i64 p.id) ∧ X.cell? ⟨ob, oo + k * 7 + 1, none⟩ = some (.int .i64 p.h) ∧ X.cell? ⟨ob, oo + k * 7 + 2, none⟩ = some (.int .i64 p.v) ∧ X.cell? ⟨ob, oo + k * 7 + 3, none⟩ = some (.int .i64 p.tq) ∧ X.cell? ⟨ob, oo + k * 7 + 4, none⟩ = some (.int .i64 p.wide) ∧ X.cell? ⟨ob, oo + k * 7 + 5, none⟩ = some (.int .i64 p.high) ∧ X.cell? ⟨ob, oo + k * 7 + 6, none⟩ = some (.slice xa xn xc)) Y)) := Lib.hid (fun X Y h hb => ⟨cell_old hb h.1, cell_old hb h.2.1, cell_old hb h.2.2.1, cell_old hb h.2.2.2.1, cell_old hb h.2.2.2.2.1, cell_old hb h.2.2.2.2.2.1, cell_old hb h.2.2.2.2.2.2.1, cell_old hb h.2.2.2.2.2.2.2.1, cell_old hb h.2.2.2.2.2.2.2.2⟩)
      have H6 : Hid (Below wd.heap.size wd (wd.alloc (.cells #[.int .i64 p.id, .int .i64 p.h, .int .i64 p.v, .int .i64 p.tq, .int .i64 p.wide, .int .i64 p.high, .slice xa xn xc] 70))) := Lib.hid ((Below.refl _ _).alloc (Nat.le_refl _) _)
      clear hC0
      refine last_step rfl (fun K hK => ?_)
      rw [if_pos (by rfl)]
      go_wp2_with fail
      refine hK.out _ _ (COLD.out _ _ CCD.out H6.out) (fun _ => ?_)
      clear hK K
      try simp only [Act.put, List.setIfInBounds_toArray, List.set_cons_zero, List.set_cons_succ]
      have LIT := Lib.hid (sl_litN 7 wd [.int .i64 p.id, .int .i64 p.h, .int .i64 p.v, .int .i64 p.tq, .int .i64 p.wide, .int .i64 p.high, .slice xa xn xc] 70 1 rfl (by omega))
      have R6 := Lib.hid (owns_below RD.out H6.out)
      have X6 := Lib.hid (XD.out.old H6.out)
      have H1 : Hid (∀ u ∈ ([.int .i64 p.id, .int .i64 p.h, .int .i64 p.v, .int .i64 p.tq, .int .i64 p.wide, .int .i64 p.high, .slice xa xn xc] : List Value), u.oneCell' = true) := Lib.hid (fun u hu => by
        simp only [List.mem_cons, List.not_mem_nil, or_false] at hu
        rcases hu with rfl | rfl | rfl | rfl | rfl | rfl | rfl <;> rfl)
      refine last_step rfl (fun K hK => ?_)
      refine step_app tyPa rfl _ _ rfl B _ k _ rfl R6.out _ 1 _ rfl LIT.out H1.out (by have := N4.out; have := KN.out; omega) (by have := N4.out; have := KN.out; omega) (by have := X6.out.lt; omega) ?_
      intro v7 w7 hown7 hg7
      obtain ⟨va7, vc7, rfl⟩ := owns_any hown7
      have X7 := Lib.hid (X6.out.grown R6.out hg7 (Nat.le_refl _) (by decide))
      have WL7 : Hid (Below w.heap.size w w7) := Lib.hid (by rw [HB.out]; exact X7.out.l)
      have R7 : Hid (w7.ownsRow B 70 7 (.slice va7 (k + 1) vc7) (k + 1) (cellsW vPart (rs.take (k + 1)))) := Lib.hid (by rw [TK.out]; exact hown7)
      refine hK.out _ _ ⟨X7.out.a.cells.2.2.2.2.2.2.1, X7.out.o.cells.2.2.2.2.2.2.1, PCK.out _ WL7.out⟩ (fun _ => ?_)
      clear hK K hown7 hg7
      try simp only [Act.put, List.setIfInBounds_toArray, List.set_cons_zero, List.set_cons_succ]
      iterate 1
        (refine last_take rfl ?_
         apply Exists.intro
         refine ⟨Or.inl ⟨by rfl, fun X hX => ?_⟩, ?_⟩
         · obtain ⟨y0, y1, y2, y3, y4, y5, y6, y7, y8⟩ := hX
           go_simp
           exact rfl
         simp only [Act.put, List.setIfInBounds_toArray, List.set_cons_zero, List.set_cons_succ])
      have c8 := X7.out.a.cells.2.2.2.2.2.2.1
      have z8 := X7.out.a.frozen 6
      have gk := GK.out
      refine last_done rfl (fun K hK => ?_)
      rw [if_pos (by rfl)]
      go_wp2_with fail
      refine hK.out _ _ ?_
      clear hK K
      go_wp2_with fail
      go_roundw
      case rel => exact ⟨k + 1, _, KN.out, by go_num, owns_other R7.out X7.out.a (by decide), X7.out.setp _⟩
      case measure => simp [intOf]; have := KN.out; omega
    · obtain rfl : k = n := by omega
      have f1 : decide ((k : Int) < (k : Int)) = false := by rw [decide_eq_false_iff_not]; omega
      have HH0 : Hid (HalfP B wr rv rs []) := Lib.hid ⟨Nat.zero_le _, by
        have h := RW.out
        rw [List.take_of_length_le (by rw [HN.out]; exact Nat.le_refl _)] at h
        rw [HN.out]
        exact h, fun p hp => by simp at hp, fun p hp => by simp at hp, List.Pairwise.nil⟩
      obtain ⟨g, gc, rfl, hg1, hg2, C1, hC1⟩ := owns_shape RW.out (by have := N4.out; omega) (by decide)
      have HG : Hid (B ≤ g) := Lib.hid hg1
      clear hg1 hg2 hC1
      go_wp2_with fail
      clear a0 a1 a2 a3 a4 a5 a6 a7 a8 RW
      go_loopw [13] (fun i W => ∃ (j : Nat) (done : List (PartL × Value)), j ≤ k ∧ i = .int .i64 (j : Nat) ∧ done.length = j ∧ done.map (·.1) = (cutL P c r W0 H0).parts.take j ∧ HalfP B W (.slice (some ⟨g, 0, none⟩) k gc) rs done ∧ RcX w B P (sidesL P W0 H0) (.slice b0 n0 d0) (.slice b1 n1 d1) (.slice b2 n2 d2) (.slice b3 n3 d3) (.slice (some ⟨ob, oo, none⟩) k dp) (.slice ba na da) (.slice (some ⟨g, 0, none⟩) k gc) W) (fun i _ => k - (intOf i).toNat)
      case atStart => exact ⟨0, [], Nat.zero_le _, rfl, rfl, rfl, HH0.out, XX.out⟩
      case round =>
        clear HH0 XX
        obtain ⟨j, done, hj, rfl, hdl, hdf, hh, hx⟩ := hrel
        have HH := Lib.hid hh
        have XX := Lib.hid hx
        have DL := Lib.hid hdl
        have DF := Lib.hid hdf
        obtain ⟨a0, a1, a2, a3, a4, a5, a6, a7, a8⟩ := hx.o.cells
        clear hh hx hdl hdf
        by_cases hjk : j < k
        · have f1 : decide ((j : Int) < (k : Int)) = true := by rw [decide_eq_true_eq]; omega
          have f1' : decide (j < k) = true := by rw [decide_eq_true_eq]; omega
          have f2 : (j : Int) < (k : Int) := by omega
          have GK := Lib.hid (step_wrap j k hjk (Nat.le_trans N4.out.2 (by decide)))
          have hkr : j < rs.length := by have := HN.out; omega
          have hkP : j < P.parts.length := by rw [HNP.out]; exact hjk
          obtain ⟨⟨p, x0⟩, hpx⟩ : ∃ p, rs[j] = p := ⟨_, rfl⟩
          have hpp : P.parts[j] = p := by
            have h : P.parts[j]? = some p := by rw [← HRS.out, List.getElem?_map, List.getElem?_eq_getElem hkr, hpx]; rfl
            rw [List.getElem?_eq_getElem hkP] at h
            exact Option.some.inj h
          have PX := Lib.hid (HPO.out _ (List.getElem_mem hkr))
          rw [hpx] at PX
          simp only at PX
          have MR := Lib.hid (HH.out.mid HN.out DL.out hkr hpx)
          have PCK : Hid (∀ W, Below w.heap.size w W → _) := Lib.hid (fun W hW => PC.out j hkr W hW)
          rw [hpx] at PCK
          simp only at PCK
          obtain ⟨xa, xc, hxs⟩ := bks_slice PX.out.2
          subst hxs
          obtain ⟨xn, hxn⟩ : ∃ z, p.bs.length = z := ⟨_, rfl⟩
          rw [hxn] at PX PCK MR
          have HXN := Lib.hid hxn
          have KR := Lib.hid hkr
          have KP := Lib.hid hkP
          have HPP : Hid (∀ h : j < P.parts.length, P.parts[j]'h = p) := Lib.hid (fun h => hpp)
          obtain ⟨rest, hrest⟩ : ∃ q, rs.drop (j + 1) = q := ⟨_, rfl⟩
          rw [hrest] at MR
          have HRT := Lib.hid hrest
          have KN := Lib.hid hjk
          have wl : Below w.heap.size w wr := by rw [HB.out]; exact XX.out.l
          obtain ⟨o0, o1, o2, o3, o4, o5, o6⟩ := PCK.out _ wl
          obtain ⟨wt, hwt⟩ : ∃ wt, wr.alloc (.cells #[.int .i64 p.id, .int .i64 p.h, .int .i64 p.v, .int .i64 p.tq, .int .i64 p.wide, .int .i64 p.high, .slice xa xn xc] 70) = wt := ⟨_, rfl⟩
          have hbt : Below wr.heap.size wr wt := by rw [← hwt]; exact (Below.refl _ _).alloc (Nat.le_refl _) _
          have XT := Lib.hid (XX.out.old hbt)
          have MT := Lib.hid (MR.out.old hbt)
          obtain ⟨T, hT⟩ : ∃ T, wr.heap.size = T := ⟨_, rfl⟩
          have PT : Hid (PtB wt T p (.slice xa xn xc)) := Lib.hid (by rw [← hwt, ← hT]; exact heap_alloc_new _ _)
          have GT : Hid (g < T) := Lib.hid (by rw [← hT]; exact MR.out.heap.2.1)
          have DB : Hid (∀ q ∈ done, ∀ b, q.2.ownBlock = some b → b < T) := Lib.hid (by rw [← hT]; exact fun q hq b hb => ((HH.out.bk q hq).row.lt b hb).2)
          have KIN : Hid ((done.map (·.1) ++ p :: rest.map (·.1)).map kin = P.parts.map kin) := Lib.hid (mid_kin DF.out hkP (by rw [hpp]) (by rw [← HRT.out, List.map_drop, HRS.out]))
          have ROK : Hid (∀ q ∈ rest, PartB q.1 ∧ Bks w q.2 q.1.bs) := Lib.hid (fun q hq => HPO.out q (by rw [← HRT.out] at hq; exact List.mem_of_mem_drop hq))
          have NLL : Hid ((done ++ (p, (.slice xa xn xc : Value)) :: rest).length = k) := Lib.hid (by rw [← HRT.out, List.length_append, List.length_cons, List.length_drop, DL.out]; have := HN.out; omega)
          clear hpx hpp hkr hkP hrest hjk hxn hbt wl
          go_upto_region 13 with (fail)
          clear a0 a1 a2 a3 a4 a5 a6 a7 a8 o0 o1 o2 o3 o4 o5 o6 hwt
          obtain ⟨a0, a1, a2, a3, a4, a5, a6, a7, a8⟩ := XT.out.a.cells
          have PMID : Hid (∀ W q1, Below B w W → MidR B W g k gc done q1 rest → PartB q1.1 → Bks W q1.2 q1.1.bs → Pts W (.slice (some ⟨g, 0, none⟩) k gc) (done.map (·.1) ++ q1.1 :: rest.map (·.1)) ) := Lib.hid (fun W q1 hW hm h1 h2 => by
            have h := hm.pts (by have := NLL.out; simpa using this) (fun q hq => (HH.out.ok q hq)) ⟨h1, h2⟩ (fun q hq => ⟨(ROK.out q hq).1, (ROK.out q hq).2.old (by rw [HB.out]; exact hW)⟩)
            simpa using h)
          have SZ := Lib.hid (refSize_any (midL P W0 H0 (done.map (·.1) ++ p :: rest.map (·.1))) (.slice b0 n0 d0) (.slice b1 n1 d1) (.slice b2 n2 d2) (.slice b3 n3 d3) (.slice (some ⟨g, 0, none⟩) k gc) (.slice ba na da) j wt (PMID.out wt (p, (.slice xa xn xc : Value)) XT.out.l MT.out PX.out.1 (PX.out.2.old (by rw [HB.out]; exact XT.out.l))) (by
            have := NLL.out
            have h2 := N4.out
            show (done.map (·.1) ++ p :: rest.map (·.1)).length ≤ _
            simp at this ⊢
            omega))
          rw [(mid_size P W0 H0 _ KIN.out (j : Int)).1] at SZ
          have CS := Lib.hid (cut_sizes FF.out II.out j KP.out)
          have CP := Lib.hid (cut_prod FF.out II.out j KP.out)
          obtain ⟨sN, hsw⟩ : ∃ z : Nat, (sizeL (sidesL P W0 H0) (j : Int)).1 = (z : Int) := ⟨_, (Int.toNat_of_nonneg (by have := CS.out; omega)).symm⟩
          obtain ⟨tN, hsh⟩ : ∃ z : Nat, (sizeL (sidesL P W0 H0) (j : Int)).2 = (z : Int) := ⟨_, (Int.toNat_of_nonneg (by have := CS.out; omega)).symm⟩
          rw [hsw, hsh] at SZ CS CP
          have PL : Hid (p.bs.length ≤ 400000) := Lib.hid (by
            have h := FF.out.pt j KP.out
            rw [HPP.out KP.out] at h
            have h1 := h.2.2.1
            have h2 := h.2.2.2
            omega)
          have S65 : Hid (sN ≤ 262140 ∧ tN ≤ 262140) := Lib.hid (by have := szL_in (sidesL P W0 H0) (j : Int); omega)
          have HSW := Lib.hid hsw
          have HSH := Lib.hid hsh
          have FP := Lib.hid (FF.out.pt j KP.out)
          obtain ⟨N, hN⟩ : ∃ N : Nat, (sN : Int) * (tN : Int) = (N : Int) := ⟨((sN : Int) * (tN : Int)).toNat, by rw [Int.toNat_of_nonneg (Int.mul_nonneg (by have := CS.out; omega) (by have := CS.out; omega))]⟩
          have hNl : N ≤ 65536 := by have h1 := CP.out; have h2 := FP.out.2.2.2; omega
          have NLE := Lib.hid hNl
          have HNN := Lib.hid hN
          clear hsw hsh hN hNl
          go_wp2_with fail
          refine SZ.out.mono ?_
          rintro e y1 ⟨rfl, hby⟩
          have XY := Lib.hid (XT.out.old hby)
          have MY := Lib.hid (MT.out.old hby)
          have PY := Lib.hid (PT.out.old hby)
          obtain ⟨M, hM⟩ : ∃ M, y1.heap.size = M := ⟨_, rfl⟩
          have TM : Hid (T < M) := Lib.hid (by rw [← hM]; exact (Array.getElem?_eq_some_iff.1 PY.out).1)
          have MY1 : Hid (M ≤ y1.heap.size) := Lib.hid (Nat.le_of_eq hM.symm)
          have OKD := Lib.hid HH.out.ok
          have SEP := Lib.hid HH.out.sep
          clear hby hM a0 a1 a2 a3 a4 a5 a6 a7 a8 HH XX MR XT MT PT SZ
          go_wp2_with fail
          go_loopw [17, 18] (fun v i W => ∃ y : Nat, (y : Int) ≤ (tN : Int) ∧ i = .int .i64 (y : Nat) ∧ BkO M W v (gathL p c r (sN : Int) y) ∧ MidR B W g k gc done (p, (.slice xa xn xc : Value)) rest ∧ RcX w B P (sidesL P W0 H0) (.slice b0 n0 d0) (.slice b1 n1 d1) (.slice b2 n2 d2) (.slice b3 n3 d3) (.slice (some ⟨ob, oo, none⟩) k dp) (.slice ba na da) (.slice (some ⟨g, 0, none⟩) k gc) W ∧ PtB W T p (.slice xa xn xc) ∧ M ≤ W.heap.size) (fun _ i _ => tN - (intOf i).toNat)
          case atStart => exact ⟨0, by have := CS.out; omega, rfl, BkO.nil _ _, MY.out, XY.out, PY.out, MY1.out⟩
          case round =>
            clear MY XY PY MY1
            obtain ⟨y, hy, rfl, hbk, hmr, hcx, hpt, hms⟩ := hrel
            have V := Lib.hid hbk
            have MR := Lib.hid hmr
            have XX := Lib.hid hcx
            have PT := Lib.hid hpt
            have MS := Lib.hid hms
            clear hbk hmr hcx hpt hms
            by_cases hys : (y : Int) < (tN : Int)
            · have hyN : y < tN := Int.ofNat_lt.1 hys
              obtain ⟨f1, f1'⟩ := dec_lt hyN
              have HYN := Lib.hid hyN
              have GY := Lib.hid (step_wrap y tN hyN (Nat.le_trans S65.out.2 (by decide)))
              have RB := Lib.hid (row_bounds FF.out II.out j KP.out (y : Int) ⟨Int.natCast_nonneg _, by rw [HSH.out]; exact hys⟩)
              rw [HPP.out KP.out, HSW.out] at RB
              have RL : Hid ((rowL p c r (sN : Int) (y : Int)).length = sN) := Lib.hid (by
                have h := rowL_len FF.out II.out j KP.out (y : Int) ⟨Int.natCast_nonneg _, by rw [HSH.out]; exact hys⟩
                rw [HPP.out KP.out, HSW.out] at h
                simpa using h)
              have GL : Hid ((gathL p c r (sN : Int) y).length = y * sN) := Lib.hid (by
                have h := gath_len FF.out II.out j KP.out y (by rw [HSH.out]; exact Int.le_of_lt hys)
                rw [HPP.out KP.out, HSW.out] at h
                simpa using h)
              have YS : Hid (y * sN ≤ 65536) := Lib.hid (rows_le y sN tN N HYN.out HNN.out NLE.out)
              have A64 : Hid (All64 p.bs) := Lib.hid PX.out.2.range.1
              have BINFO := Lib.hid blk_ie
              clear hys hyN
              go_wp2_with fail
              go_loopw [17, 19] (fun v i W => ∃ x : Nat, x ≤ sN ∧ i = .int .i64 (x : Nat) ∧ BkO M W v (gathL p c r (sN : Int) y ++ (rowL p c r (sN : Int) (y : Int)).take x) ∧ MidR B W g k gc done (p, (.slice xa xn xc : Value)) rest ∧ RcX w B P (sidesL P W0 H0) (.slice b0 n0 d0) (.slice b1 n1 d1) (.slice b2 n2 d2) (.slice b3 n3 d3) (.slice (some ⟨ob, oo, none⟩) k dp) (.slice ba na da) (.slice (some ⟨g, 0, none⟩) k gc) W ∧ PtB W T p (.slice xa xn xc) ∧ M ≤ W.heap.size) (fun _ i _ => sN - (intOf i).toNat)
              case atStart => exact ⟨0, Nat.zero_le _, rfl, by rw [List.take_zero, List.append_nil]; exact V.out, MR.out, XX.out, PT.out, MS.out⟩
              case round =>
                clear V MR XX PT MS
                obtain ⟨x, hx, rfl, hbk, hmr, hcx, hpt, hms⟩ := hrel
                have V := Lib.hid hbk
                have MR := Lib.hid hmr
                have XX := Lib.hid hcx
                have PT := Lib.hid hpt
                have MS := Lib.hid hms
                obtain ⟨t0, t1, t2, t3, t4, t5, t6⟩ := hpt.cells
                clear hbk hmr hcx hpt hms
                by_cases hxs : x < sN
                · obtain ⟨f1, f1'⟩ := dec_lt hxs
                  have HXS := Lib.hid hxs
                  have GX := Lib.hid (step_wrap x sN hxs (Nat.le_trans S65.out.1 (by decide)))
                  obtain ⟨rb1, rb2, rb3, rb4, at_, rb5, rb6, rb7⟩ := RB.out
                  have hxl : at_ + x < p.bs.length := by simp at rb7; omega
                  have UF := Lib.hid (row_wraps2 (x := x) rb1 rb2 rb3 rb4 rb5 hxl PL.out)
                  obtain ⟨A1, A2, A3, A4, ⟨u1, u1'⟩, ⟨u2, u2'⟩, ⟨u3, u3'⟩, ⟨u4, u4'⟩, ⟨u5, u5'⟩, ⟨u6, u6'⟩⟩ := UF.out
                  have RT := Lib.hid (rowL_at (c := c) (r := r) (i := (y : Int)) (s := sN) rb6 hxs hxl)
                  obtain ⟨_, a', c', hv, hc', hrg⟩ := PX.out.2.range
                  obtain ⟨xb, xo, ha, hrx⟩ := hrg (at_ + x) hxl
                  simp only [Value.slice.injEq] at hv
                  obtain ⟨rfl, hvn, rfl⟩ := hv
                  subst ha
                  have RX := Lib.hid (range_old (by rw [HB.out]; exact XX.out.l : Below w.heap.size w wr) hrx)
                  obtain ⟨cb, hcb⟩ : ∃ cb, p.bs[at_ + x] = cb := ⟨_, rfl⟩
                  have CB : Hid (Blk64 cb) := Lib.hid (by rw [← hcb]; exact A64.out.at _ hxl)
                  rw [hcb] at RT RX
                  obtain ⟨E, hE⟩ : ∃ E, at_ + x = E := ⟨_, rfl⟩
                  rw [hE] at u6 u6' RX hxl
                  have i1 : (E : Int) < (xn : Int) := by rw [← HXN.out]; exact Int.ofNat_lt.2 hxl
                  have HI : Hid ((Try.prog.info? 23).map (·.size) = some (vIs cb).length) := Lib.hid (by rw [vIs_length, CB.out.1]; kernel_rfl)
                  clear rb1 rb2 rb3 rb4 rb5 rb6 rb7 hxl hrg hrx hcb hE hxs hc' hvn
                  go_wp2_with (refine wpList_load_mid rfl _ _ rfl xb (xo + E * 64) rfl (vIs cb) _ RX.out Try.underlying23 rfl HI.out ?_; refine stop ?_)
                  refine unstop ?_
                  go_wp2_with (refine wpList_blk1 rfl 68 23 _ rfl cb rfl CB.out.1 Try.underlying68 BINFO.out ?_; refine stop ?_)
                  refine unstop ?_
                  have H5 : Below wr.heap.size wr (wr.alloc (.cells (vIs cb).toArray 23)) := (Below.refl _ _).alloc (Nat.le_refl _) _
                  have V5 := Lib.hid (V.out.old H5)
                  have MR5 := Lib.hid (MR.out.old H5)
                  have XX5 := Lib.hid (XX.out.old H5)
                  have PT5 := Lib.hid (PT.out.old H5)
                  have MS5 : Hid (M ≤ (wr.alloc (.cells (vIs cb).toArray 23)).heap.size) := Lib.hid (Nat.le_trans MS.out H5.size)
                  have LIT := Lib.hid (sl_litN 64 wr (vIs cb) 23 1 (by rw [vIs_length, CB.out.1]) (by omega))
                  have LEN : Hid ((gathL p c r (sN : Int) y ++ (rowL p c r (sN : Int) (y : Int)).take x).length ≤ 400000) := Lib.hid (by rw [List.length_append, List.length_take, GL.out]; have := YS.out; have := S65.out; omega)
                  clear H5 t0 t1 t2 t3 t4 t5 t6 u1 u1' u2 u2' u3 u3' u4 u4' u5 u5' u6 u6' i1
                  go_wp2_with (at_builtin; refine stop ?_)
                  refine unstop (wpList_app tyB rfl _ _ rfl M _ _ _ rfl V5.out.row _ 1 _ rfl LIT.out (vIs_one _) (by have := LEN.out; omega) (by have := LEN.out; omega) MS5.out ?_)
                  intro v9 w9 hown9 hg9 _
                  have V9 : Hid (BkO M w9 v9 (gathL p c r (sN : Int) y ++ (rowL p c r (sN : Int) (y : Int)).take (x + 1))) := Lib.hid (by
                    rw [RT.out, ← List.append_assoc]
                    exact BkO.snoc hown9 V5.out.all CB.out)
                  have MR9 := Lib.hid (MR5.out.grown V5.out.row hg9 (Nat.le_of_lt TM.out) DB.out)
                  have XX9 := Lib.hid (XX5.out.grown V5.out.row hg9 (by have := HG.out; have := GT.out; have := TM.out; omega) (by decide))
                  have PT9 : Hid (PtB w9 T p (.slice (some ⟨xb, xo, none⟩) xn xc)) := Lib.hid (heap_grown V5.out.row hg9 PT5.out (by decide))
                  have MS9 : Hid (M ≤ w9.heap.size) := Lib.hid (Nat.le_trans MS5.out hg9.size)
                  have gx := GX.out
                  clear hown9 hg9
                  go_wp2_with fail
                  go_roundw
                  case rel => exact ⟨x + 1, HXS.out, by go_num, V9.out, MR9.out, XX9.out, PT9.out, MS9.out⟩
                  case measure => simp [intOf]; have := HXS.out; omega
                · obtain rfl : x = sN := by omega
                  have f1 : decide ((x : Int) < (x : Int)) = false := by rw [decide_eq_false_iff_not]; omega
                  have V9 : Hid (BkO M wr _ (gathL p c r (x : Int) (y + 1))) := Lib.hid (by
                    have h := V.out
                    rw [List.take_of_length_le (by rw [RL.out]; exact Nat.le_refl _)] at h
                    rw [gath_succ]
                    exact h)
                  have gy := GY.out
                  clear t0 t1 t2 t3 t4 t5 t6
                  go_wp2_with fail
                  go_roundw
                  case rel => exact ⟨y + 1, Int.ofNat_le.2 HYN.out, by go_num, V9.out, MR.out, XX.out, PT.out, MS.out⟩
                  case measure => simp [intOf]; have := HYN.out; omega
            · obtain rfl : y = tN := by omega
              have f1 : decide ((y : Int) < (y : Int)) = false := by rw [decide_eq_false_iff_not]; omega
              have GL : Hid ((gathL p c r (sN : Int) y).length = y * sN) := Lib.hid (by
                have h := gath_len FF.out II.out j KP.out y (by rw [HSH.out]; exact Int.le_refl _)
                rw [HPP.out KP.out, HSW.out] at h
                simpa using h)
              have GS : Hid ((gathL p c r (sN : Int) y).length ≤ 65536) := Lib.hid (by rw [GL.out]; exact rows_all y sN y N rfl HNN.out NLE.out)
              have GP : Hid (0 < (gathL p c r (sN : Int) y).length) := Lib.hid (by rw [GL.out]; exact Nat.mul_pos (by have := CS.out; omega) (by have := CS.out; omega))
              obtain ⟨gb, cb, rfl, hgb1, hgb2⟩ := V.out.got GP.out
              obtain ⟨nb, hnb⟩ : ∃ z, (gathL p c r (sN : Int) y).length = z := ⟨_, rfl⟩
              have HNB := Lib.hid hnb
              rw [hnb] at V ⊢
              have GB := Lib.hid hgb1
              clear hgb1 hgb2 hys
              obtain ⟨Cg, hCg⟩ := MR.out.heap.2.2
              -- the three stores
              have M1 := Lib.hid (MR.out.set DL.out 4 (by decide) (.int .i64 (sN : Int)) ({ p with wide := (sN : Int) }, (.slice xa xn xc : Value)) rfl)
              have X1 := Lib.hid (XX.out.other (j := j * 7 + 4) (u := .int .i64 (sN : Int)) HG.out hCg (by decide))
              have V1 := Lib.hid (V.out.other (j := j * 7 + 4) (u := .int .i64 (sN : Int)) hCg (by decide))
              obtain ⟨z1, hz1⟩ : ∃ z1, wr.setCell ⟨g, j * 7 + 4, none⟩ (.int .i64 (sN : Int)) = z1 := ⟨_, rfl⟩
              rw [hz1] at M1 X1 V1
              obtain ⟨C1, hC1⟩ := M1.out.heap.2.2
              have M2 := Lib.hid (M1.out.set DL.out 5 (by decide) (.int .i64 (y : Int)) ({ p with wide := (sN : Int), high := (y : Int) }, (.slice xa xn xc : Value)) rfl)
              have X2 := Lib.hid (X1.out.other (j := j * 7 + 5) (u := .int .i64 (y : Int)) HG.out hC1 (by decide))
              have V2 := Lib.hid (V1.out.other (j := j * 7 + 5) (u := .int .i64 (y : Int)) hC1 (by decide))
              obtain ⟨z2, hz2⟩ : ∃ z2, z1.setCell ⟨g, j * 7 + 5, none⟩ (.int .i64 (y : Int)) = z2 := ⟨_, rfl⟩
              rw [hz2] at M2 X2 V2
              obtain ⟨C2, hC2⟩ := M2.out.heap.2.2
              have M3 := Lib.hid (M2.out.set DL.out 6 (by decide) (.slice (some ⟨gb, 0, none⟩) nb cb) ({ p with wide := (sN : Int), high := (y : Int), bs := gathL p c r (sN : Int) y }, (.slice (some ⟨gb, 0, none⟩) nb cb : Value)) rfl)
              have X3 := Lib.hid (X2.out.other (j := j * 7 + 6) (u := .slice (some ⟨gb, 0, none⟩) nb cb) HG.out hC2 (by decide))
              have V3 := Lib.hid (V2.out.other (j := j * 7 + 6) (u := .slice (some ⟨gb, 0, none⟩) nb cb) hC2 (by decide))
              obtain ⟨z3, hz3⟩ : ∃ z3, z2.setCell ⟨g, j * 7 + 6, none⟩ (.slice (some ⟨gb, 0, none⟩) nb cb) = z3 := ⟨_, rfl⟩
              rw [hz3] at M3 X3 V3
              have s6 := XX.out.a.cells.2.2.2.2.2.2.1
              have s6' := X1.out.a.cells.2.2.2.2.2.2.1
              have s6'' := X2.out.a.cells.2.2.2.2.2.2.1
              have m4 := (MR.out.cells DL.out KN.out).2.2.2.2.1
              have y4 := MR.out.frozen (j * 7 + 4)
              have m5 := (M1.out.cells DL.out KN.out).2.2.2.2.2.1
              have y5 := M1.out.frozen (j * 7 + 5)
              have m6 := (M2.out.cells DL.out KN.out).2.2.2.2.2.2
              have y6 := M2.out.frozen (j * 7 + 6)
              simp only at m4 m5 m6
              obtain ⟨a0, a1, a2, a3, a4, a5, a6, a7, a8⟩ := X3.out.a.cells
              have a0 : z3.cell? ⟨B + 1 + 1, 0, none⟩ = some (.int .i64 W0) := a0
              have a1 : z3.cell? ⟨B + 1 + 1, 1, none⟩ = some (.int .i64 H0) := a1
              have a7 : z3.cell? ⟨B + 1 + 1, 7, none⟩ = some (.int .i64 P.restart) := a7
              have i2 : (j : Int) < (k : Int) := Int.ofNat_lt.2 KN.out
              clear hCg hC1 hC2 hnb
              go_upto_region 25 with (fail)
              clear m4 m5 m6 y4 y5 y6 s6 s6' s6'' hz1 hz2 hz3 M1 M2 X1 X2 V1 V2 MR XX V
              have PB : Hid (PartB { p with wide := (sN : Int), high := (y : Int), bs := gathL p c r (sN : Int) y }) := Lib.hid (partB_new PX.out.1 sN y S65.out _ (by have := GS.out; omega))
              have KIN2 : Hid ((done.map (·.1) ++ { p with wide := (sN : Int), high := (y : Int), bs := gathL p c r (sN : Int) y } :: rest.map (·.1)).map kin = P.parts.map kin) := Lib.hid (by have h := KIN.out; simpa [kin] using h)
              have VB : Hid (Bks z3 (.slice (some ⟨gb, 0, none⟩) nb cb) (gathL p c r (sN : Int) y)) := Lib.hid V3.out.bks
              have PA : Hid (partAt (midL P W0 H0 (done.map (·.1) ++ { p with wide := (sN : Int), high := (y : Int), bs := gathL p c r (sN : Int) y } :: rest.map (·.1))) (j : Int) = { p with wide := (sN : Int), high := (y : Int), bs := gathL p c r (sN : Int) y }) := Lib.hid (by
                unfold partAt midL
                simp only [Int.toNat_natCast, List.getD_eq_getElem?_getD, mid_len DL.out, Option.getD_some])
              have MZ := Lib.hid (mid_size P W0 H0 _ KIN2.out (j : Int))
              have CLR := Lib.hid (clear_any (midL P W0 H0 (done.map (·.1) ++ { p with wide := (sN : Int), high := (y : Int), bs := gathL p c r (sN : Int) y } :: rest.map (·.1))) (.slice b0 n0 d0) (.slice b1 n1 d1) (.slice b2 n2 d2) (.slice b3 n3 d3) (.slice ba na da) g k gc j gb nb cb M z3
                (PMID.out z3 ({ p with wide := (sN : Int), high := (y : Int), bs := gathL p c r (sN : Int) y }, _) X3.out.l M3.out PB.out VB.out)
                (by have := NLL.out; show (done.map (·.1) ++ _ :: rest.map (·.1)).length = k; simpa using this) KN.out (by have := N4.out; omega)
                ((M3.out.cells DL.out KN.out).2.2.2.2.2.2)
                (by rw [PA.out]; exact V3.out)
                (by rw [PA.out, MZ.out.1, HSW.out, HSH.out]; show ((gathL p c r (sN : Int) y).length : Int) = _; rw [GL.out, Int.natCast_mul, Int.mul_comm])
                (by rw [MZ.out.1, HSW.out]; have := CS.out; omega)
                (by rw [PA.out]; exact GS.out)
                (by have := GT.out; have := TM.out; have := GB.out; omega))
              rw [PA.out, MZ.out.1, MZ.out.2] at CLR
              go_wp2_with fail
              refine CLR.out.mono ?_
              rintro e w9 ⟨⟨v9, rfl⟩, hbk9, hg9⟩
              have BK9 : Hid (BkO M w9 (.slice (some ⟨gb, 0, none⟩) nb cb) (cutP P c r W0 H0 j p).bs) := Lib.hid (by
                have h := hbk9
                unfold cutP cutX cutB
                rw [HSW.out] at h ⊢
                rw [HSH.out]
                simpa using h)
              have MR9 := Lib.hid (M3.out.grown V3.out.row hg9 (Nat.le_of_lt TM.out) DB.out)
              have X9 := Lib.hid (X3.out.grown V3.out.row hg9 (by have := HG.out; have := GT.out; have := TM.out; omega) (by decide))
              clear hbk9 hg9 a0 a1 a2 a3 a4 a5 a6 a7 a8
              have CB9 : Hid ((cutP P c r W0 H0 j p).bs.length = nb) := Lib.hid (by
                show (cutB p c r _ _).length = _
                rw [cutB_len, HSW.out, HSH.out, ← HNB.out]
                simp)
              have M10 : Hid (MidR B w9 g k gc done (cutP P c r W0 H0 j p, (.slice (some ⟨gb, 0, none⟩) nb cb : Value)) (rs.drop (j + 1))) := Lib.hid (by
                rw [HRT.out]
                refine MR9.out.same ?_
                unfold cutP cutX vPart
                rw [HSW.out, HSH.out])
              have LTD : Hid (∀ q ∈ done, q.2.ownBlock = none ∨ q.2.ownBlock ≠ (Value.slice (some ⟨gb, 0, none⟩) nb cb).ownBlock) := Lib.hid (fun q hq => by
                cases hv : q.2.ownBlock with
                | none => exact .inl rfl
                | some b =>
                  right
                  intro e
                  have hlt := DB.out q hq b hv
                  have := (BK9.out.row.lt b e.symm).1
                  have := TM.out
                  omega)
              have H10 : Hid (HalfP B w9 (.slice (some ⟨g, 0, none⟩) k gc) rs (done ++ [(cutP P c r W0 H0 j p, (.slice (some ⟨gb, 0, none⟩) nb cb : Value))])) := Lib.hid (by
                refine M10.out.half HN.out DL.out KN.out OKD.out ?_ (BK9.out.mono (by have := HG.out; have := GT.out; have := TM.out; omega)) SEP.out LTD.out
                have h1 : (cutP P c r W0 H0 j p) = { p with wide := (sN : Int), high := (y : Int), bs := (cutP P c r W0 H0 j p).bs } := by
                  unfold cutP cutX
                  rw [HSW.out, HSH.out]
                rw [h1]
                refine partB_new PX.out.1 sN y S65.out _ ?_
                rw [CB9.out, ← HNB.out]
                have := GS.out
                omega)
              have TK := Lib.hid (cut_take (c := c) (r := r) (w := W0) (h := H0) KP.out (HPP.out KP.out))
              clear M10
              have gk := GK.out
              go_wp2_with fail
              go_roundw
              case rel => exact ⟨j + 1, done ++ [(cutP P c r W0 H0 j p, _)], KN.out, by go_num, by rw [List.length_append, DL.out]; rfl, by rw [List.map_append, DF.out, TK.out]; rfl, H10.out, X9.out⟩
              case measure => simp [intOf]; have := KN.out; omega
        · obtain rfl : j = k := by omega
          have f1 : decide ((j : Int) < (j : Int)) = false := by rw [decide_eq_false_iff_not]; omega
          have PO : Hid (PtO B wr (.slice (some ⟨g, 0, none⟩) j gc) done) := Lib.hid (HH.out.fin (by rw [DL.out, HN.out]))
          have DM : Hid (done.map (·.1) = (cutL P c r W0 H0).parts) := Lib.hid (by
            rw [DF.out, List.take_of_length_le]
            have h1 : (cutL P c r W0 H0).parts.length = P.parts.length := by unfold cutL; simp
            rw [h1, HNP.out]
            exact Nat.le_refl _)
          have H1 : Hid ((#[.int .i64 W0, .int .i64 H0, .slice b0 n0 d0, .slice b1 n1 d1, .slice b2 n2 d2, .slice b3 n3 d3, .slice (some ⟨g, 0, none⟩) j gc, .int .i64 P.restart, .slice ba na da] : Array Value).all (·.oneCell') = true) := Lib.hid (by kernel_rfl)
          have HI : Hid ((Try.prog.info? 36).map (·.size) = some 9) := Lib.hid (by kernel_rfl)
          obtain ⟨e0, e1, e2, e3, e4, e5, e6, e7, e8⟩ := XX.out.a.cells
          have e0 : wr.cell? ⟨B + 1 + 1, 0, none⟩ = some (.int .i64 W0) := e0
          have e1 : wr.cell? ⟨B + 1 + 1, 1, none⟩ = some (.int .i64 H0) := e1
          have e7 : wr.cell? ⟨B + 1 + 1, 7, none⟩ = some (.int .i64 P.restart) := e7
          go_wp2_with (refine wpList_store_row rfl _ _ _ rfl (B + 1) #[.int .i64 W0, .int .i64 H0, .slice b0 n0 d0, .slice b1 n1 d1, .slice b2 n2 d2, .slice b3 n3 d3, .slice (some ⟨g, 0, none⟩) j gc, .int .i64 P.restart, .slice ba na da] rfl rfl 36 _ XX.out.z HI.out rfl H1.out ?_)
          obtain ⟨wE, hE⟩ : ∃ wE, wr.setRow (B + 1) #[.int .i64 W0, .int .i64 H0, .slice b0 n0 d0, .slice b1 n1 d1, .slice b2 n2 d2, .slice b3 n3 d3, .slice (some ⟨g, 0, none⟩) j gc, .int .i64 P.restart, .slice ba na da] = wE := ⟨_, rfl⟩
          have hwE : wE.heap[B + 1]? = some (.cells #[.int .i64 W0, .int .i64 H0, .slice b0 n0 d0, .slice b1 n1 d1, .slice b2 n2 d2, .slice b3 n3 d3, .slice (some ⟨g, 0, none⟩) j gc, .int .i64 P.restart, .slice ba na da] 36 (0, 0)) := by rw [← hE]; exact setRow_heap _ _ _ _ _ _ XX.out.z
          have PE : Hid (PtO B wE (.slice (some ⟨g, 0, none⟩) j gc) done) := Lib.hid (by rw [← hE]; exact PO.out.ty (keepTy_row XX.out.z) (by decide) (by decide))
          have BE : Hid (Below B w wE) := Lib.hid (by rw [← hE]; exact below_setRow XX.out.l (Nat.le_succ _) _)
          rw [hE]
          obtain ⟨r0, r1, r2, r3, r4, r5, r6, r7, r8⟩ := PBox.cells (P := sidesL P W0 H0) hwE
          have r0 : wE.cell? ⟨B + 1, 0, none⟩ = some (.int .i64 W0) := r0
          have r1 : wE.cell? ⟨B + 1, 1, none⟩ = some (.int .i64 H0) := r1
          have r7 : wE.cell? ⟨B + 1, 7, none⟩ = some (.int .i64 P.restart) := r7
          clear hE hwE
          refine bodyPost_ret (v := .agg #[.int .i64 W0, .int .i64 H0, .slice b0 n0 d0, .slice b1 n1 d1, .slice b2 n2 d2, .slice b3 n3 d3, .slice (some ⟨g, 0, none⟩) j gc, .int .i64 P.restart, .slice ba na da]) (by simp [results, Try.results42, go_sem, r0, r1, r2, r3, r4, r5, r6, r7, r8]; try rfl) rfl ⟨_, done, rfl, DM.out, by rw [HB.out]; exact PE.out, by rw [HB.out]; exact BE.out⟩
end Go.Proofs.Ytnhalnjdlkdnkaa
