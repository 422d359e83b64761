/- The law's copied: a picture of its own memory. By an AI agent. -/
import Derived.Test.YtnhalnjdlkdnkaaZ11
import Derived.Test.YtnhalnjdlkdnkaaZ12
import Derived.Test.YtnhalnjdlkdnkaaZ30
import Derived.Test.YtnhalnjdlkdnkaaZ19
namespace Go.Proofs.Ytnhalnjdlkdnkaa
open Go.RowKit Go.BigFrame
set_option linter.unusedVariables false
set_option linter.unusedSimpArgs false
set_option maxRecDepth 20000

/-- the boxes of copied -/
structure CopX (w : World) (B : Nat) (P : PicL) (q0 q1 q2 q3 pv kv r0 r1 r2 r3 rv sv : Value) (W : World) : Prop where
  o : PBox W B P q0 q1 q2 q3 pv kv
  z : ZBox W (B + 1)
  a : PBox W (B + 1 + 1) P r0 r1 r2 r3 rv sv
  l : Below B w W
theorem CopX.lt {w : World} {B : Nat} {P : PicL} {q0 q1 q2 q3 pv kv r0 r1 r2 r3 rv sv : Value} {W : World} (h : CopX w B P q0 q1 q2 q3 pv kv r0 r1 r2 r3 rv sv W) : B + 1 + 1 < W.heap.size := (Array.getElem?_eq_some_iff.1 h.a).1
theorem CopX.old {w : World} {B : Nat} {P : PicL} {q0 q1 q2 q3 pv kv r0 r1 r2 r3 rv sv : Value} {W W' : World} (h : CopX w B P q0 q1 q2 q3 pv kv r0 r1 r2 r3 rv sv W) (hb : Below W.heap.size W W') : CopX w B P q0 q1 q2 q3 pv kv r0 r1 r2 r3 rv sv W' :=
  ⟨h.o.old hb, h.z.old hb, h.a.old hb, h.l.trans (hb.mono (by have := h.lt; omega))⟩
theorem CopX.grown {w : World} {B : Nat} {P : PicL} {q0 q1 q2 q3 pv kv r0 r1 r2 r3 rv sv : Value} {W W' : World} (h : CopX w B P q0 q1 q2 q3 pv kv r0 r1 r2 r3 rv sv W) {v : Value} {base size n : Nat} {e : TypeId} {xs : List Value} (hv : W.ownsRow base e size v n xs) (hg : W.grownBy W' v.ownBlock) (hb : B ≤ base) (he : 36 ≠ e) : CopX w B P q0 q1 q2 q3 pv kv r0 r1 r2 r3 rv sv W' :=
  ⟨heap_grown hv hg h.o he, heap_grown hv hg h.z he, heap_grown hv hg h.a he, h.l.grown hg (by have := h.lt; omega) fun k hk => Nat.le_trans hb (hv.lt k hk).1⟩
theorem CopX.setq {w : World} {B : Nat} {P : PicL} {q0 q1 q2 q3 pv kv rv sv : Value} {W : World} (f g : Nat → Value) (h : CopX w B P q0 q1 q2 q3 pv kv (f 0) (f 1) (f 2) (f 3) rv sv W) (k : Nat) (hk : k < 4) (u : Value) (hg : ∀ j, g j = if j = k then u else f j) :
    CopX w B P q0 q1 q2 q3 pv kv (g 0) (g 1) (g 2) (g 3) rv sv (W.setCell ⟨B + 1 + 1, 2 + k, none⟩ u) :=
  ⟨by unfold PBox; rw [Go.Deep.blk_setCell_other _ _ _ _ (by simp only; omega)]; exact h.o, h.z.set (by omega), pbox_setq f g h.a k hk u hg, below_set h.l (by omega)⟩
theorem CopX.setp {w : World} {B : Nat} {P : PicL} {q0 q1 q2 q3 pv kv r0 r1 r2 r3 rv sv : Value} {W : World} (h : CopX w B P q0 q1 q2 q3 pv kv r0 r1 r2 r3 rv sv W) (u : Value) : CopX w B P q0 q1 q2 q3 pv kv r0 r1 r2 r3 u sv (W.setCell ⟨B + 1 + 1, 6, none⟩ u) :=
  ⟨by unfold PBox; rw [Go.Deep.blk_setCell_other _ _ _ _ (by simp only; omega)]; exact h.o, h.z.set (by omega), pbox_setp h.a u, below_set h.l (by omega)⟩
theorem CopX.setk {w : World} {B : Nat} {P : PicL} {q0 q1 q2 q3 pv kv r0 r1 r2 r3 rv sv : Value} {W : World} (h : CopX w B P q0 q1 q2 q3 pv kv r0 r1 r2 r3 rv sv W) (u : Value) : CopX w B P q0 q1 q2 q3 pv kv r0 r1 r2 r3 rv u (W.setCell ⟨B + 1 + 1, 8, none⟩ u) :=
  ⟨by unfold PBox; rw [Go.Deep.blk_setCell_other _ _ _ _ (by simp only; omega)]; exact h.o, h.z.set (by omega), pbox_setk h.a u, below_set h.l (by omega)⟩
theorem QsO.grown {base : Nat} {W W' : World} {P : PicL} {q0 q1 q2 q3 : Value} {k : Nat} {f : Nat → Value} (h : QsO base W P q0 q1 q2 q3 k f) {v : Value} {b size n : Nat} {e : TypeId} {xs : List Value} (hv : W.ownsRow b e size v n xs) (hg : W.grownBy W' v.ownBlock) (he : 3 ≠ e) : QsO base W' P q0 q1 q2 q3 k f := fun j hj => by
  have := h j hj
  split
  · rename_i hjk; rw [if_pos hjk] at this; exact World.ownsRow.kept this hg (own_ne this hv he)
  · rename_i hjk; rw [if_neg hjk] at this; exact this
theorem CopX.other {w : World} {B : Nat} {P : PicL} {q0 q1 q2 q3 pv kv r0 r1 r2 r3 rv sv : Value} {W : World} (h : CopX w B P q0 q1 q2 q3 pv kv r0 r1 r2 r3 rv sv W) {g j : Nat} {C : Array Value} {t : TypeId} {fr : Nat × Nat} {u : Value} (hg : B ≤ g) (hC : W.heap[g]? = some (.cells C t fr)) (ht : 36 ≠ t) : CopX w B P q0 q1 q2 q3 pv kv r0 r1 r2 r3 rv sv (W.setCell ⟨g, j, none⟩ u) :=
  ⟨heap_other h.o hC ht, heap_other h.z hC ht, heap_other h.a hC ht, below_set h.l hg⟩
theorem owns_far {w : World} {base : Nat} {e : TypeId} {size : Nat} {v : Value} {n : Nat} {xs : List Value} (h : w.ownsRow base e size v n xs) {T : Nat} (hT : w.heap.size ≤ T) : v.ownBlock = none ∨ v.ownBlock ≠ some T := by
  cases hv : v.ownBlock with
  | none => exact .inl rfl
  | some b =>
    right
    intro e
    have := (h.lt b hv).2
    simp only [Option.some.injEq] at e
    omega
theorem PtO.kept {base : Nat} {w w' : World} {v : Value} {rs : List (PartL × Value)} {row : Option Nat} (h : PtO base w v rs) (hg : w.grownBy w' row) (h1 : v.ownBlock = none ∨ v.ownBlock ≠ row) (h2 : ∀ p ∈ rs, p.2.ownBlock = none ∨ p.2.ownBlock ≠ row) : PtO base w' v rs :=
  ⟨h.row.kept hg h1, h.ok, fun p hp => ⟨(h.bk p hp).row.kept hg (h2 p hp), (h.bk p hp).all⟩, h.sep⟩
theorem set_grown (V : World) (r i : Nat) (v : Value) : V.grownBy (V.setCell ⟨r, i, none⟩ v) (some r) :=
  ⟨rfl, rfl, rfl, by simp, fun k hk hne => Go.Deep.blk_setCell_other _ _ _ _ (by simp only; intro he; exact hne (by rw [he]))⟩
theorem sl_litN (size : Nat) (w : World) (cs : List Value) (e : TypeId) (n : Nat) (hn : cs.length = n * size) (hm : n ≤ 281474976710656) : SlN size (w.alloc (.cells cs.toArray e)) (.slice (some ⟨w.heap.size, 0, none⟩) n n) n cs := by
  have h := World.ownsRow_lit (base := 0) (e := e) (size := size) w cs.toArray n (Nat.zero_le _) (by unfold maxLen; omega) (by simp [hn])
  exact sl_of_owns h
theorem cell_kept {w w' : World} {row : Option Nat} (hg : w.grownBy w' row) {a : Addr} {u : Value} (h : w.cell? a = some u) (hne : row = none ∨ row ≠ some a.block) : w'.cell? a = some u := by
  rw [World.cell?_of_block (hg.block a.block (World.block_lt_of_cell? w a h) (fun e => by
    rcases hne with h0 | h0
    · rw [h0] at e; cases e
    · first | exact h0 e | exact h0 e.symm))]
  exact h
theorem sgs_r64 {w : World} {v : Value} {ks : List (Int × List UInt8)} (h : Sgs w v ks) (i : Nat) (hi : i < ks.length) : R64 ks[i].1 := by
  obtain ⟨a, cap, hv, hc, hx⟩ := h
  obtain ⟨_, _, _, _, _, _, x, _, h1, _⟩ := hx i hi
  exact h1
/-- one part more, behind the others -/
theorem PtO.more {base : Nat} {w w' : World} {rv v' : Value} {done : List (PartL × Value)} (h : PtO base w rv done) (p : PartL) (x : Value) (hp : PartB p) (hx : BkO base w x p.bs) (hne : ∀ q ∈ done, q.2.ownBlock = none ∨ q.2.ownBlock ≠ x.ownBlock)
    (hg : w.grownBy w' rv.ownBlock) (ho : w'.ownsRow base 70 7 v' (done.length + 1) (cellsW vPart done ++ vPart p x)) : PtO base w' v' (done ++ [(p, x)]) := by
  refine ⟨?_, fun q hq => ?_, fun q hq => ?_, ?_⟩
  · rw [List.length_append, List.length_singleton]
    unfold cellsW at ho ⊢
    rw [List.flatMap_append]
    simpa using ho
  · rw [List.mem_append, List.mem_singleton] at hq
    rcases hq with hq | rfl
    · exact h.ok q hq
    · exact hp
  · rw [List.mem_append, List.mem_singleton] at hq
    rcases hq with hq | rfl
    · exact ⟨(h.bk q hq).row.kept hg (own_ne (h.bk q hq).row h.row (by decide)), (h.bk q hq).all⟩
    · exact ⟨hx.row.kept hg (own_ne hx.row h.row (by decide)), hx.all⟩
  · rw [List.pairwise_append]
    refine ⟨h.sep, List.pairwise_singleton _ _, fun q hq r hr => ?_⟩
    rw [List.mem_singleton.1 hr]
    exact hne q hq
/-- one segment more, behind the others -/
theorem SgO.more {base : Nat} {w w' : World} {sv v' : Value} {dn : List ((Int × List UInt8) × Value)} (h : SgO base w sv dn) (s : Int × List UInt8) (x : Value) (hs : R64 s.1 ∧ s.2.length ≤ 140737488351232) (hx : w.ownsRow base 5 1 x s.2.length (vBs s.2))
    (hg : w.grownBy w' sv.ownBlock) (ho : w'.ownsRow base 73 2 v' (dn.length + 1) (cellsW vSeg dn ++ vSeg s x)) : SgO base w' v' (dn ++ [(s, x)]) := by
  refine ⟨?_, fun q hq => ?_, fun q hq => ?_⟩
  · rw [List.length_append, List.length_singleton]
    unfold cellsW at ho ⊢
    rw [List.flatMap_append]
    simpa using ho
  · rw [List.mem_append, List.mem_singleton] at hq
    rcases hq with hq | rfl
    · exact h.ok q hq
    · exact hs
  · rw [List.mem_append, List.mem_singleton] at hq
    rcases hq with hq | rfl
    · exact (h.dt q hq).kept hg (own_ne (h.dt q hq) h.row (by decide))
    · exact hx.kept hg (own_ne hx h.row (by decide))
theorem PtO.grown {base : Nat} {w w' : World} {rv : Value} {rs : List (PartL × Value)} (h : PtO base w rv rs) {v : Value} {b size n : Nat} {e : TypeId} {xs : List Value} (hv : w.ownsRow b e size v n xs) (hg : w.grownBy w' v.ownBlock) (h1 : 70 ≠ e) (h2 : 23 ≠ e) : PtO base w' rv rs :=
  h.kept hg (own_ne h.row hv h1) (fun p hp => own_ne (h.bk p hp).row hv h2)
theorem SgO.set {base : Nat} {w : World} {v : Value} {rs : List ((Int × List UInt8) × Value)} (h : SgO base w v rs) {B j : Nat} {C : Array Value} {t : TypeId} {fr : Nat × Nat} {u : Value} (hB : w.heap[B]? = some (.cells C t fr)) (h1 : 73 ≠ t) (h2 : 5 ≠ t) : SgO base (w.setCell ⟨B, j, none⟩ u) v rs :=
  ⟨owns_other h.row hB h1, h.ok, fun p hp => owns_other (h.dt p hp) hB h2⟩
set_option maxHeartbeats 16000000 in
theorem copied_any (P : PicL) (q0 q1 q2 q3 pv kv : Value) (w : World) (hp : PicC w P q0 q1 q2 q3 pv kv) (hS : SmallT P) :
    Calls Try.prog 14 #[.agg (vPic P q0 q1 q2 q3 pv kv)] w fun e w' => ∃ r0 r1 r2 r3 rv sv, e = .returned (.agg (vPic P r0 r1 r2 r3 rv sv)) ∧ PicO w.heap.size w' P r0 r1 r2 r3 rv sv ∧ Below w.heap.size w w' := by
  have HP := Lib.hid hp
  have HS := Lib.hid hS
  obtain ⟨b0, d0, rfl⟩ := hp.q0.len
  obtain ⟨b1, d1, rfl⟩ := hp.q1.len
  obtain ⟨b2, d2, rfl⟩ := hp.q2.len
  obtain ⟨b3, d3, rfl⟩ := hp.q3.len
  obtain ⟨ba, da, rfl, _⟩ := hp.kept.len
  obtain ⟨bp, dp, rfl, _⟩ := hp.parts.len
  obtain ⟨n0, hn0⟩ : ∃ z, P.q0.length = z := ⟨_, rfl⟩
  obtain ⟨n1, hn1⟩ : ∃ z, P.q1.length = z := ⟨_, rfl⟩
  obtain ⟨n2, hn2⟩ : ∃ z, P.q2.length = z := ⟨_, rfl⟩
  obtain ⟨n3, hn3⟩ : ∃ z, P.q3.length = z := ⟨_, rfl⟩
  obtain ⟨na, hna⟩ : ∃ z, P.kept.length = z := ⟨_, rfl⟩
  obtain ⟨n, hn⟩ : ∃ z, P.parts.length = z := ⟨_, rfl⟩
  rw [hn0, hn1, hn2, hn3, hna, hn] at HP ⊢
  have N10 : Hid (n ≤ 10) := Lib.hid (by rw [← hn]; exact hS.n)
  have K50 : Hid (na ≤ 50) := Lib.hid (by rw [← hna]; exact hS.k)
  have HNP := Lib.hid hn
  have HNA := Lib.hid hna
  clear hn0 hn1 hn2 hn3 hna hn hp hS
  obtain ⟨w1, hw1⟩ : ∃ w1, ((w.alloc (.cells (vPic P (.slice b0 n0 d0) (.slice b1 n1 d1) (.slice b2 n2 d2) (.slice b3 n3 d3) (.slice bp n dp) (.slice ba na da)) 36)).alloc (.cells zPic 36)).alloc (.cells (vPic P (.slice b0 n0 d0) (.slice b1 n1 d1) (.slice b2 n2 d2) (.slice b3 n3 d3) (.slice none 0 0) (.slice none 0 0)) 36) = w1 := ⟨_, rfl⟩
  have X1 : Hid (CopX w w.heap.size P (.slice b0 n0 d0) (.slice b1 n1 d1) (.slice b2 n2 d2) (.slice b3 n3 d3) (.slice bp n dp) (.slice ba na da) (.slice b0 n0 d0) (.slice b1 n1 d1) (.slice b2 n2 d2) (.slice b3 n3 d3) (.slice none 0 0) (.slice none 0 0) w1) := Lib.hid (by
    rw [← hw1]
    exact ⟨heap_old (heap_old (heap_alloc_new _ _)), heap_old (by have h := heap_alloc_new (w.alloc (.cells (vPic P (.slice b0 n0 d0) (.slice b1 n1 d1) (.slice b2 n2 d2) (.slice b3 n3 d3) (.slice bp n dp) (.slice ba na da)) 36)) (.cells zPic 36); rw [World.size_alloc] at h; exact h),
      by have h := heap_alloc_new ((w.alloc (.cells (vPic P (.slice b0 n0 d0) (.slice b1 n1 d1) (.slice b2 n2 d2) (.slice b3 n3 d3) (.slice bp n dp) (.slice ba na da)) 36)).alloc (.cells zPic 36)) (.cells (vPic P (.slice b0 n0 d0) (.slice b1 n1 d1) (.slice b2 n2 d2) (.slice b3 n3 d3) (.slice none 0 0) (.slice none 0 0)) 36); rw [World.size_alloc, World.size_alloc] at h; exact h,
      (((Below.refl _ _).alloc (Nat.le_refl _) _).alloc (by simp) _).alloc (by simp; omega) _⟩)
  obtain ⟨B, hB⟩ : ∃ B, w.heap.size = B := ⟨_, rfl⟩
  have HB := Lib.hid hB
  rw [hB] at X1
  obtain ⟨a0, a1, a2, a3, a4, a5, a6, a7, a8⟩ := X1.out.o.cells
  unfold vPic zPic at hw1
  unfold vPic
  go_enter Try.func14, Try.ntmps14
  go_wp2_with fail
  go_loopw [15] (fun i W => ∃ (k : Nat) (f : Nat → Value), k ≤ 4 ∧ i = .int .i64 (k : Nat) ∧ QsO B W P (.slice b0 n0 d0) (.slice b1 n1 d1) (.slice b2 n2 d2) (.slice b3 n3 d3) k f ∧ CopX w B P (.slice b0 n0 d0) (.slice b1 n1 d1) (.slice b2 n2 d2) (.slice b3 n3 d3) (.slice bp n dp) (.slice ba na da) (f 0) (f 1) (f 2) (f 3) (.slice none 0 0) (.slice none 0 0) W) (fun i _ => 4 - (intOf i).toNat)
  case atStart => exact ⟨0, qV (.slice b0 n0 d0) (.slice b1 n1 d1) (.slice b2 n2 d2) (.slice b3 n3 d3), Nat.zero_le _, rfl, fun j _ => by rw [if_neg (Nat.not_lt_zero j)], X1.out⟩
  case round =>
    obtain ⟨k, f, hk, rfl, hqs, hx⟩ := hrel
    have QS := Lib.hid hqs
    have XX := Lib.hid hx
    obtain ⟨a0, a1, a2, a3, a4, a5, a6, a7, a8⟩ := hx.o.cells
    clear hqs hx
    by_cases hk4 : k < 4
    · have f1 : decide ((k : Int) < 4) = true := by rw [decide_eq_true_eq]; omega
      have f1' : decide (k < 4) = true := by rw [decide_eq_true_eq]; omega
      have f2 : (k : Int) < 4 := by omega
      have gk : IntKind.i64.wrap ((k : Int) + 1) = (k : Int) + 1 := IntWalk.i64_in _ (by omega)
      have qi := fun W => qV_index (.slice b0 n0 d0) (.slice b1 n1 d1) (.slice b2 n2 d2) (.slice b3 n3 d3) k hk4 W
      have K4 := Lib.hid hk4
      have NSQ := Lib.hid (qV_ns HP.out k)
      have QL := Lib.hid (HS.out.q k hk4)
      obtain ⟨qa, qc, hqv⟩ := (qV_ns HP.out k).len
      obtain ⟨m, hm⟩ : ∃ m, (qL P k).length = m := ⟨_, rfl⟩
      have LB : Hid (B ≤ wr.heap.size) := Lib.hid (by have := XX.out.lt; omega)
      clear hk4
      have HM := Lib.hid hm
      have HQV := Lib.hid hqv
      go_wp2_with (at_builtin; refine stop ?_)
      have hb0 : Below wr.heap.size wr (wr.alloc (.cells #[] 3)) := (Below.refl _ _).alloc (Nat.le_refl _) _
      have NS0 : SlN 1 (wr.alloc (.cells #[] 3)) (.slice qa m qc) m (vIs (qL P k)) := by
        have h : SlN 1 _ _ (qL P k).length (vIs (qL P k)) := (NSQ.out.old (by rw [HB.out]; exact XX.out.l)).old hb0
        rw [HQV.out, HM.out] at h
        exact h
      refine unstop (wpList_app tyN4 rfl _ _ rfl wr.heap.size _ 0 [] rfl (own0' wr _ 1) _ m (vIs (qL P k)) rfl NS0 (vIs_one _) (by have := QL.out; have := HM.out; omega) (by have := QL.out; have := HM.out; omega) (by simp) ?_)
      intro v1 x1 hown1 hg1 _
      have hb1 : Below wr.heap.size wr x1 := run_app_below (own0' wr _ 1) hg1 hb0 (Nat.le_refl _)
      rw [List.nil_append, Nat.zero_add] at hown1
      obtain ⟨va, vc, rfl⟩ := owns_any hown1
      have QS1 := Lib.hid (QS.out.old hb1)
      have XX1 := Lib.hid (XX.out.old hb1)
      have O1 : Hid (NO B x1 (.slice va m vc) (qL P k)) := Lib.hid (by
        unfold NO
        rw [HM.out]
        exact World.ownsRow.mono hown1 LB.out)
      have c1 := pbox_q3 XX1.out.a k K4.out
      have c2 := XX1.out.a.frozen (2 + k)
      clear hown1 hg1 hb0 hb1 NS0 hm hqv a0 a1 a2 a3 a4 a5 a6 a7 a8
      go_wp2_with fail
      go_roundw
      case rel => exact ⟨k + 1, fun j => if j = k then .slice va m vc else f j, K4.out, by go_num, (QS1.out.set XX1.out.a (by decide)).step (owns_other O1.out XX1.out.a (by decide)), XX1.out.setq f _ k K4.out _ (fun _ => rfl)⟩
      case measure => simp [intOf]; have := K4.out; omega
    · obtain rfl : k = 4 := by omega
      have LB : Hid (B ≤ wr.heap.size) := Lib.hid (by have := XX.out.lt; omega)
      rw [show ((4 : Nat) : Int) = 4 from rfl]
      go_wp2_with fail
      clear a0 a1 a2 a3 a4 a5 a6 a7 a8
      go_loopw [29] (fun i W => ∃ (k : Nat) (rv : Value) (done : List (PartL × Value)), k ≤ n ∧ i = .int .i64 (k : Nat) ∧ done.map (·.1) = P.parts.take k ∧ PtO B W rv done ∧ QsO B W P (.slice b0 n0 d0) (.slice b1 n1 d1) (.slice b2 n2 d2) (.slice b3 n3 d3) 4 f ∧ CopX w B P (.slice b0 n0 d0) (.slice b1 n1 d1) (.slice b2 n2 d2) (.slice b3 n3 d3) (.slice bp n dp) (.slice ba na da) (f 0) (f 1) (f 2) (f 3) rv (.slice none 0 0) W) (fun i _ => n - (intOf i).toNat)
      case atStart => exact ⟨0, _, [], Nat.zero_le _, rfl, rfl, ⟨World.ownsRow_nil _ _ _ _, by simp, by simp, List.Pairwise.nil⟩, QS.out, XX.out⟩
      case round =>
        clear QS XX LB
        obtain ⟨k, rv, done, hk, rfl, hdf, hpt, hqs, hx⟩ := hrel
        have PT := Lib.hid hpt
        have QS := Lib.hid hqs
        have XX := Lib.hid hx
        have DF := Lib.hid hdf
        obtain ⟨a0, a1, a2, a3, a4, a5, a6, a7, a8⟩ := hx.o.cells
        have LB : Hid (B ≤ wr.heap.size) := Lib.hid (by have := XX.out.lt; omega)
        clear hpt hqs hx hdf
        by_cases hkn : k < n
        · have f1 : decide ((k : Int) < (n : Int)) = true := by rw [decide_eq_true_eq]; omega
          have f1' : decide (k < n) = true := by rw [decide_eq_true_eq]; omega
          have f2 : (k : Int) < (n : Int) := by omega
          have GK := Lib.hid (step_wrap k n hkn (Nat.le_trans N10.out (by decide)))
          have hkP : k < P.parts.length := by rw [HNP.out]; exact hkn
          obtain ⟨p, hpp⟩ : ∃ p, P.parts[k] = p := ⟨_, rfl⟩
          obtain ⟨pa, pc, hpe, _, hptx⟩ := pts_at HP.out.parts
          obtain ⟨ob, oo, x, hpa, hPB, hBK, o0, o1, o2, o3, o4, o5, o6⟩ := hptx k hkP
          simp only [Value.slice.injEq] at hpe
          obtain ⟨rfl, hnn, rfl⟩ := hpe
          subst hpa
          clear hnn hptx
          rw [hpp] at hPB hBK o0 o1 o2 o3 o4 o5
          obtain ⟨xa, xc, hxs⟩ := bks_slice hBK
          subst hxs
          obtain ⟨xn, hxn⟩ : ∃ z, p.bs.length = z := ⟨_, rfl⟩
          rw [hxn] at hBK o6
          have HXN := Lib.hid hxn
          have BK := Lib.hid hBK
          have PBp := Lib.hid hPB
          have X200 : Hid (xn ≤ 200) := Lib.hid (by rw [← hxn]; exact HS.out.b p (by rw [← hpp]; exact List.getElem_mem hkP))
          have TK : Hid (P.parts.take (k + 1) = P.parts.take k ++ [p]) := Lib.hid (by rw [List.take_succ_eq_append_getElem hkP, hpp])
          have DL : Hid (done.length = k) := Lib.hid (by have h := congrArg List.length DF.out; rw [List.length_map, List.length_take] at h; omega)
          have KN := Lib.hid hkn
          have wl : Below w.heap.size w wr := by rw [HB.out]; exact XX.out.l
          have o0 := cell_old wl o0
          have o1 := cell_old wl o1
          have o2 := cell_old wl o2
          have o3 := cell_old wl o3
          have o4 := cell_old wl o4
          have o5 := cell_old wl o5
          have o6 := cell_old wl o6
          obtain ⟨wt, hwt⟩ : ∃ wt, wr.alloc (.cells #[.int .i64 p.id, .int .i64 p.h, .int .i64 p.v, .int .i64 p.tq, .int .i64 p.wide, .int .i64 p.high, .slice xa xn xc] 70) = wt := ⟨_, rfl⟩
          have hbt : Below wr.heap.size wr wt := by rw [← hwt]; exact (Below.refl _ _).alloc (Nat.le_refl _) _
          have XT := Lib.hid (XX.out.old hbt)
          have QT := Lib.hid (QS.out.old hbt)
          have RT := Lib.hid (PT.out.hi (keepHi_below hbt))
          obtain ⟨T, hT⟩ : ∃ T, wr.heap.size = T := ⟨_, rfl⟩
          have PB1 : Hid (PtB wt T p (.slice xa xn xc)) := Lib.hid (by rw [← hwt, ← hT]; exact heap_alloc_new _ _)
          have LT : Hid (B ≤ T) := Lib.hid (by rw [← hT]; exact LB.out)
          have hb0 : Below wt.heap.size wt (wt.alloc (.cells #[] 23)) := (Below.refl _ _).alloc (Nat.le_refl _) _
          have BK0 : Hid (SlN 64 (wt.alloc (.cells #[] 23)) (.slice xa xn xc) xn (fB p.bs)) := Lib.hid (by
            have h := (BK.out.old (by rw [HB.out]; exact XT.out.l)).old hb0
            have h := h.sl
            rw [HXN.out] at h
            exact h)
          have t6 := (PB1.out.old hb0).cells.2.2.2.2.2.2
          have H0 := Lib.hid hb0
          clear hpp hkP hkn hPB hBK hxn hbt wl hb0
          go_wp2_with (at_builtin; refine stop ?_)
          refine unstop (wpList_app tyB rfl _ _ rfl wt.heap.size _ 0 [] rfl (own0' wt _ 64) _ xn (fB p.bs) rfl BK0.out (fB_one _) (by have := X200.out; omega) (by have := X200.out; omega) (by simp) ?_)
          intro v1 x1 hown1 hg1 _
          have hb1 : Below wt.heap.size wt x1 := run_app_below (own0' wt _ 64) hg1 H0.out (Nat.le_refl _)
          rw [List.nil_append, Nat.zero_add] at hown1
          obtain ⟨va, vc, rfl⟩ := owns_any hown1
          have XX1 := Lib.hid (XT.out.old hb1)
          have QS1 := Lib.hid (QT.out.old hb1)
          have RT1 := Lib.hid (RT.out.hi (keepHi_below hb1))
          have PB2 := Lib.hid (PB1.out.old hb1)
          have LWT : Hid (B ≤ wt.heap.size) := Lib.hid (by have := XT.out.lt; omega)
          have O1 : Hid (x1.ownsRow wt.heap.size 23 64 (.slice va xn vc) p.bs.length (fB p.bs)) := Lib.hid (by
            rw [HXN.out]
            exact hown1)
          have A64 : Hid (All64 p.bs) := Lib.hid BK.out.range.1
          have t6' := PB2.out.cells.2.2.2.2.2.2
          have z6' : x1.frozen? ⟨T, 6, none⟩ = false := frozen_of_row x1 T 6 _ _ PB2.out
          obtain ⟨y1, hy1⟩ : ∃ y1, x1.setCell ⟨T, 6, none⟩ (.slice va xn vc) = y1 := ⟨_, rfl⟩
          have PB3 : Hid (PtB y1 T p (.slice va xn vc)) := Lib.hid (by rw [← hy1]; exact heap_setCell_same x1 T 6 _ _ _ PB2.out)
          have XX2 : Hid (CopX w B P (.slice b0 n0 d0) (.slice b1 n1 d1) (.slice b2 n2 d2) (.slice b3 n3 d3) (.slice (some ⟨ob, oo, none⟩) n dp) (.slice ba na da) (f 0) (f 1) (f 2) (f 3) rv (.slice none 0 0) y1) := Lib.hid (by rw [← hy1]; exact XX1.out.other LT.out PB2.out (by decide))
          have QS2 : Hid (QsO B y1 P (.slice b0 n0 d0) (.slice b1 n1 d1) (.slice b2 n2 d2) (.slice b3 n3 d3) 4 f) := Lib.hid (by rw [← hy1]; exact QS1.out.set PB2.out (by decide))
          have FR : Hid (rv.ownBlock = none ∨ rv.ownBlock ≠ some T) := Lib.hid (owns_far PT.out.row (Nat.le_of_eq hT))
          have FB : Hid (∀ q ∈ done, q.2.ownBlock = none ∨ q.2.ownBlock ≠ some T) := Lib.hid (fun q hq => owns_far (PT.out.bk q hq).row (Nat.le_of_eq hT))
          have RT2 : Hid (PtO B y1 rv done) := Lib.hid (by rw [← hy1]; exact RT1.out.kept (set_grown _ _ _ _) FR.out FB.out)
          have O2 : Hid (BkO B y1 (.slice va xn vc) p.bs) := Lib.hid (by rw [← hy1]; exact ⟨owns_other (World.ownsRow.mono O1.out LWT.out) PB2.out (by decide), A64.out⟩)
          have SP : Hid (∀ q ∈ done, q.2.ownBlock = none ∨ q.2.ownBlock ≠ (Value.slice va xn vc).ownBlock) := Lib.hid (fun q hq => by
            cases hv : q.2.ownBlock with
            | none => exact .inl rfl
            | some b =>
              right
              intro e
              have h1 := ((RT.out.bk q hq).row.lt b hv).2
              have h2 := (O1.out.lt b e.symm).1
              omega)
          obtain ⟨ra, rc, rfl⟩ := owns_any RT2.out.row
          have c6 := XX2.out.a.cells.2.2.2.2.2.2.1
          obtain ⟨p0, p1, p2, p3, p4, p5, p6⟩ := PB3.out.cells
          have hb2 : Below y1.heap.size y1 (y1.alloc (.cells #[.int .i64 p.id, .int .i64 p.h, .int .i64 p.v, .int .i64 p.tq, .int .i64 p.wide, .int .i64 p.high, .slice va xn vc] 70)) := (Below.refl _ _).alloc (Nat.le_refl _) _
          have XX3 := Lib.hid (XX2.out.old hb2)
          have QS3 := Lib.hid (QS2.out.old hb2)
          have RT3 := Lib.hid (RT2.out.hi (keepHi_below hb2))
          have O3 := Lib.hid (O2.out.old hb2)
          have LIT := Lib.hid (sl_litN 7 y1 [.int .i64 p.id, .int .i64 p.h, .int .i64 p.v, .int .i64 p.tq, .int .i64 p.wide, .int .i64 p.high, .slice va xn vc] 70 1 rfl (by omega))
          have B3 : Hid (B ≤ (y1.alloc (.cells #[.int .i64 p.id, .int .i64 p.h, .int .i64 p.v, .int .i64 p.tq, .int .i64 p.wide, .int .i64 p.high, .slice va xn vc] 70)).heap.size) := Lib.hid (by have := XX3.out.lt; omega)
          have H1 : Hid (∀ u ∈ ([.int .i64 p.id, .int .i64 p.h, .int .i64 p.v, .int .i64 p.tq, .int .i64 p.wide, .int .i64 p.high, .slice va xn vc] : List Value), u.oneCell' = true) := Lib.hid (fun u hu => by
            simp only [List.mem_cons, List.not_mem_nil, or_false] at hu
            rcases hu with rfl | rfl | rfl | rfl | rfl | rfl | rfl <;> rfl)
          have D10 : Hid (done.length ≤ 10) := Lib.hid (by have := DL.out; have := KN.out; have := N10.out; omega)
          clear hown1 hg1 hb1 hb2 hT hwt a0 a1 a2 a3 a4 a5 a6 a7 a8 o0 o1 o2 o3 o4 o5 o6 t6
          have OW := Lib.hid RT3.out.row
          go_wp2_with (at_builtin; refine stop ?_)
          refine unstop (wpList_app tyPa rfl _ _ rfl B _ done.length (cellsW vPart done) rfl OW.out _ 1 _ rfl LIT.out H1.out (by have := D10.out; omega) (by have := D10.out; omega) B3.out ?_)
          intro v2 x2 hown2 hg2 _
          obtain ⟨va2, vc2, rfl⟩ := owns_any hown2
          have PT4 : Hid (PtO B x2 (.slice va2 (done.length + 1) vc2) (done ++ [(p, .slice va xn vc)])) := Lib.hid (RT3.out.more p _ PBp.out O3.out SP.out hg2 hown2)
          have XX4 := Lib.hid (XX3.out.grown RT3.out.row hg2 (Nat.le_refl _) (by decide))
          have QS4 := Lib.hid (QS3.out.grown RT3.out.row hg2 (by decide))
          have c7 := XX4.out.a.cells.2.2.2.2.2.2.1
          have z7 := XX4.out.a.frozen 6
          clear hown2 hg2 p0 p1 p2 p3 p4 p5 p6 c6 t6' z6' hy1
          have gk := GK.out
          go_wp2_with fail
          go_roundw
          case rel => exact ⟨k + 1, _, done ++ [(p, .slice va xn vc)], KN.out, by go_num, by rw [List.map_append, DF.out, TK.out]; rfl, PT4.out.set XX4.out.a (by decide) (by decide), QS4.out.set XX4.out.a (by decide), XX4.out.setp _⟩
          case measure => simp [intOf]; have := KN.out; omega
        · obtain rfl : k = n := by omega
          have f1 : decide ((k : Int) < (k : Int)) = false := by rw [decide_eq_false_iff_not]; omega
          have DM : Hid (done.map (·.1) = P.parts) := Lib.hid (by rw [DF.out, List.take_of_length_le (by rw [HNP.out]; exact Nat.le_refl _)])
          go_wp2_with fail
          clear a0 a1 a2 a3 a4 a5 a6 a7 a8
          go_loopw [48] (fun i W => ∃ (j : Nat) (sv : Value) (dn : List ((Int × List UInt8) × Value)), j ≤ na ∧ i = .int .i64 (j : Nat) ∧ dn.map (·.1) = P.kept.take j ∧ SgO B W sv dn ∧ PtO B W rv done ∧ QsO B W P (.slice b0 n0 d0) (.slice b1 n1 d1) (.slice b2 n2 d2) (.slice b3 n3 d3) 4 f ∧ CopX w B P (.slice b0 n0 d0) (.slice b1 n1 d1) (.slice b2 n2 d2) (.slice b3 n3 d3) (.slice bp k dp) (.slice ba na da) (f 0) (f 1) (f 2) (f 3) rv sv W) (fun i _ => na - (intOf i).toNat)
          case atStart => exact ⟨0, _, [], Nat.zero_le _, rfl, rfl, ⟨World.ownsRow_nil _ _ _ _, by simp, by simp⟩, PT.out, QS.out, XX.out⟩
          case round =>
            clear QS XX LB PT
            obtain ⟨j, sv, dn, hj, rfl, hdf, hsg, hpt, hqs, hx⟩ := hrel
            have SG := Lib.hid hsg
            have PT := Lib.hid hpt
            have QS := Lib.hid hqs
            have XX := Lib.hid hx
            have DF2 := Lib.hid hdf
            obtain ⟨a0, a1, a2, a3, a4, a5, a6, a7, a8⟩ := hx.o.cells
            have LB : Hid (B ≤ wr.heap.size) := Lib.hid (by have := XX.out.lt; omega)
            clear hsg hpt hqs hx hdf
            by_cases hjn : j < na
            · have f1 : decide ((j : Int) < (na : Int)) = true := by rw [decide_eq_true_eq]; omega
              have f1' : decide (j < na) = true := by rw [decide_eq_true_eq]; omega
              have f2 : (j : Int) < (na : Int) := by omega
              have GK := Lib.hid (step_wrap j na hjn (Nat.le_trans K50.out (by decide)))
              have hkP : j < P.kept.length := by rw [HNA.out]; exact hjn
              obtain ⟨s, hss⟩ : ∃ s, P.kept[j] = s := ⟨_, rfl⟩
              obtain ⟨sa, sc, hse, _, hsx⟩ := sgs_at HP.out.kept
              obtain ⟨ob, oo, xa, xc, hpa, hdl, hBS, o0, o1⟩ := hsx j hkP
              have SR := Lib.hid (sgs_r64 HP.out.kept j hkP)
              simp only [Value.slice.injEq] at hse
              obtain ⟨rfl, hnn, rfl⟩ := hse
              subst hpa
              clear hnn hsx
              rw [hss] at hdl hBS o0 o1 SR
              obtain ⟨xn, hxn⟩ : ∃ z, s.2.length = z := ⟨_, rfl⟩
              rw [hxn] at hBS o1
              have HXN := Lib.hid hxn
              have BS := Lib.hid hBS
              have SL := Lib.hid hdl
              have TK : Hid (P.kept.take (j + 1) = P.kept.take j ++ [s]) := Lib.hid (by rw [List.take_succ_eq_append_getElem hkP, hss])
              have DL : Hid (dn.length = j) := Lib.hid (by have h := congrArg List.length DF2.out; rw [List.length_map, List.length_take] at h; omega)
              have KN := Lib.hid hjn
              have wl : Below w.heap.size w wr := by rw [HB.out]; exact XX.out.l
              have o0 := cell_old wl o0
              have o1 := cell_old wl o1
              obtain ⟨mk, hmk⟩ : ∃ z, s.1 = z := ⟨_, rfl⟩
              have HMK := Lib.hid hmk
              rw [hmk] at o0
              obtain ⟨wt, hwt⟩ : ∃ wt, wr.alloc (.cells #[.int .i64 mk, .slice xa xn xc] 73) = wt := ⟨_, rfl⟩
              have hbt : Below wr.heap.size wr wt := by rw [← hwt]; exact (Below.refl _ _).alloc (Nat.le_refl _) _
              have XT := Lib.hid (XX.out.old hbt)
              have QT := Lib.hid (QS.out.old hbt)
              have PT1 := Lib.hid (PT.out.hi (keepHi_below hbt))
              have ST := Lib.hid (SG.out.hi (keepHi_below hbt))
              obtain ⟨T, hT⟩ : ∃ T, wr.heap.size = T := ⟨_, rfl⟩
              have SB1 : Hid (wt.heap[T]? = some (.cells #[.int .i64 mk, .slice xa xn xc] 73 (0, 0))) := Lib.hid (by rw [← hwt, ← hT]; exact heap_alloc_new _ _)
              clear hss hkP hjn hdl hBS hxn hmk hbt wl
              have LT : Hid (B ≤ T) := Lib.hid (by rw [← hT]; exact LB.out)
              have FR : Hid (sv.ownBlock = none ∨ sv.ownBlock ≠ some T) := Lib.hid (owns_far SG.out.row (Nat.le_of_eq hT))
              go_upto_region 17 with (fail)
              clear hT hwt a0 a1 a2 a3 a4 a5 a6 a7 a8 o0 o1
              obtain ⟨ra, rc, rfl⟩ := owns_any ST.out.row
              have hd : Below wt.heap.size wt wt.drew := (Below.refl _ _).drew
              have CC0 : (fun X => X.cell? ⟨B + 1 + 1, 8, none⟩ = some (.slice ra dn.length rc) ∧ X.cell? ⟨T, 0, none⟩ = some (.int .i64 mk) ∧ X.cell? ⟨T, 1, none⟩ = some (.slice xa xn xc)) wt.drew := ⟨(XT.out.old hd).a.cells.2.2.2.2.2.2.2.2, cell_old hd (by rw [cell_of_row _ _ 0 _ _ _ SB1.out]; rfl), cell_old hd (by rw [cell_of_row _ _ 1 _ _ _ SB1.out]; rfl)⟩
              obtain ⟨wd, hwd⟩ : ∃ wd, wt.drew = wd := ⟨_, rfl⟩
              have XD := Lib.hid (XT.out.old hd)
              have QD := Lib.hid (QT.out.old hd)
              have PD := Lib.hid (PT1.out.hi (keepHi_below hd))
              have SD := Lib.hid (ST.out.hi (keepHi_below hd))
              have BD := Lib.hid (BS.out.old ((by rw [HB.out]; exact XT.out.l : Below w.heap.size w wt).trans (hd.mono (by rw [HB.out]; have := XT.out.lt; omega))))
              clear hd
              refine wp_region_last (fun X => X.cell? ⟨B + 1 + 1, 8, none⟩ = some (.slice ra dn.length rc) ∧ X.cell? ⟨T, 0, none⟩ = some (.int .i64 mk) ∧ X.cell? ⟨T, 1, none⟩ = some (.slice xa xn xc)) 12 13 [(0, true), (1, true), (2, true), (3, true), (5, true), (6, true), (4, false), (7, false), (8, true), (9, false), (10, false), (11, true)] (by kernel_rfl) (by kernel_rfl) CC0 (fun hC0 => ?_)
              clear CC0
              rw [hwd] at hC0 XD QD PD SD BD ⊢
              clear hwd
              iterate 6
                (refine last_take rfl ?_
                 apply Exists.intro
                 refine ⟨Or.inl ⟨by rfl, fun X hX => ?_⟩, ?_⟩
                 · obtain ⟨y8, y0, y1⟩ := hX
                   go_simp
                   exact rfl
                 simp only [Act.put, List.setIfInBounds_toArray, List.set_cons_zero, List.set_cons_succ])
              have CCD := Lib.hid hC0
              have XL := Lib.hid (Nat.le_trans (Nat.le_of_eq HXN.out.symm) SL.out)
              have COLD : Hid (∀ X Y : World, ((fun X => X.cell? ⟨B + 1 + 1, 8, none⟩ = some (.slice ra dn.length rc) ∧ X.cell? ⟨T, 0, none⟩ = some (.int .i64 mk) ∧ X.cell? ⟨T, 1, none⟩ = some (.slice xa xn xc)) X) → Below X.heap.size X Y → ((fun X => X.cell? ⟨B + 1 + 1, 8, none⟩ = some (.slice ra dn.length rc) ∧ X.cell? ⟨T, 0, none⟩ = some (.int .i64 mk) ∧ X.cell? ⟨T, 1, none⟩ = some (.slice xa xn xc)) Y)) := Lib.hid (fun X Y h hb => ⟨cell_old hb h.1, cell_old hb h.2.1, cell_old hb h.2.2⟩)
              have H0 : Hid (Below wd.heap.size wd (wd.alloc (.cells #[] 5))) := Lib.hid ((Below.refl _ _).alloc (Nat.le_refl _) _)
              have SRC : Hid (SlN 1 (wd.alloc (.cells #[] 5)) (.slice xa xn xc) xn (vBs s.2)) := Lib.hid (by
                have h : SlN 1 _ _ s.2.length (vBs s.2) := BD.out.old H0.out
                rw [HXN.out] at h
                exact h)
              clear hC0
              refine last_step rfl (fun K hK => ?_)
              rw [if_pos (by rfl)]
              go_wp2_with fail
              refine hK.out _ _ (COLD.out _ _ CCD.out H0.out) (fun _ => ?_)
              clear hK K
              try simp only [Act.put, List.setIfInBounds_toArray, List.set_cons_zero, List.set_cons_succ]
              refine last_step rfl (fun K hK => ?_)
              refine step_app tyBy rfl _ _ rfl wd.heap.size _ 0 [] rfl (own0' wd _ 1) _ xn (vBs s.2) rfl SRC.out (vBs_one _) (by have := XL.out; omega) (by have := XL.out; omega) (by simp) ?_
              intro v5 w5 hown5 hg5
              have hb5 : Below wd.heap.size wd w5 := run_app_below (own0' wd _ 1) hg5 H0.out (Nat.le_refl _)
              rw [List.nil_append, Nat.zero_add] at hown5
              obtain ⟨va, vc, rfl⟩ := owns_any hown5
              have X5 := Lib.hid (XD.out.old hb5)
              have Q5 := Lib.hid (QD.out.old hb5)
              have P5 := Lib.hid (PD.out.hi (keepHi_below hb5))
              have S5 := Lib.hid (SD.out.hi (keepHi_below hb5))
              have C5 := Lib.hid (COLD.out _ _ CCD.out hb5)
              have O5 : Hid (w5.ownsRow B 5 1 (.slice va xn vc) s.2.length (vBs s.2)) := Lib.hid (by
                rw [HXN.out]
                exact World.ownsRow.mono hown5 (by have := XD.out.lt; omega))
              refine hK.out _ _ C5.out (fun _ => ?_)
              clear hK K hown5 hg5 hb5
              try simp only [Act.put, List.setIfInBounds_toArray, List.set_cons_zero, List.set_cons_succ]
              iterate 1
                (refine last_take rfl ?_
                 apply Exists.intro
                 refine ⟨Or.inl ⟨by rfl, fun X hX => ?_⟩, ?_⟩
                 · obtain ⟨y8, y0, y1⟩ := hX
                   go_simp
                   exact rfl
                 simp only [Act.put, List.setIfInBounds_toArray, List.set_cons_zero, List.set_cons_succ])
              have H6 : Hid (Below w5.heap.size w5 (w5.alloc (.cells #[.int .i64 mk, .slice va xn vc] 73))) := Lib.hid ((Below.refl _ _).alloc (Nat.le_refl _) _)
              refine last_step rfl (fun K hK => ?_)
              rw [if_pos (by rfl)]
              go_wp2_with fail
              refine hK.out _ _ (COLD.out _ _ C5.out H6.out) (fun _ => ?_)
              clear hK K
              try simp only [Act.put, List.setIfInBounds_toArray, List.set_cons_zero, List.set_cons_succ]
              have LIT := Lib.hid (sl_litN 2 w5 [.int .i64 mk, .slice va xn vc] 73 1 rfl (by omega))
              have S6 := Lib.hid (S5.out.hi (keepHi_below H6.out))
              have X6 := Lib.hid (X5.out.old H6.out)
              have Q6 := Lib.hid (Q5.out.old H6.out)
              have P6 := Lib.hid (P5.out.hi (keepHi_below H6.out))
              have O6 := Lib.hid (owns_below O5.out H6.out)
              have C6 := Lib.hid (COLD.out _ _ C5.out H6.out)
              have D50 : Hid (dn.length ≤ 50) := Lib.hid (by have := DL.out; have := KN.out; have := K50.out; omega)
              refine last_step rfl (fun K hK => ?_)
              refine step_app tySe rfl _ _ rfl B _ dn.length (cellsW vSeg dn) rfl S6.out.row _ 1 _ rfl LIT.out (by intro u hu; simp only [List.mem_cons, List.not_mem_nil, or_false] at hu; rcases hu with rfl | rfl <;> rfl) (by have := D50.out; omega) (by have := D50.out; omega) (by have := X6.out.lt; omega) ?_
              intro v7 w7 hown7 hg7
              obtain ⟨va7, vc7, rfl⟩ := owns_any hown7
              have S7 : Hid (SgO B w7 (.slice va7 (dn.length + 1) vc7) (dn ++ [(s, .slice va xn vc)])) := Lib.hid (S6.out.more s _ ⟨SR.out, SL.out⟩ O6.out hg7 (by unfold vSeg; rw [HMK.out]; exact hown7))
              have X7 := Lib.hid (X6.out.grown S6.out.row hg7 (Nat.le_refl _) (by decide))
              have Q7 := Lib.hid (Q6.out.grown S6.out.row hg7 (by decide))
              have P7 := Lib.hid (P6.out.grown S6.out.row hg7 (by decide) (by decide))
              have C7 : Hid ((fun X => X.cell? ⟨B + 1 + 1, 8, none⟩ = some (.slice ra dn.length rc) ∧ X.cell? ⟨T, 0, none⟩ = some (.int .i64 mk) ∧ X.cell? ⟨T, 1, none⟩ = some (.slice xa xn xc)) w7) := Lib.hid ⟨X7.out.a.cells.2.2.2.2.2.2.2.2, cell_kept hg7 C6.out.2.1 FR.out, cell_kept hg7 C6.out.2.2 FR.out⟩
              refine hK.out _ _ C7.out (fun _ => ?_)
              clear hK K hown7 hg7
              try simp only [Act.put, List.setIfInBounds_toArray, List.set_cons_zero, List.set_cons_succ]
              iterate 1
                (refine last_take rfl ?_
                 apply Exists.intro
                 refine ⟨Or.inl ⟨by rfl, fun X hX => ?_⟩, ?_⟩
                 · obtain ⟨y8, y0, y1⟩ := hX
                   go_simp
                   exact rfl
                 simp only [Act.put, List.setIfInBounds_toArray, List.set_cons_zero, List.set_cons_succ])
              have c8 := X7.out.a.cells.2.2.2.2.2.2.2.2
              have z8 := X7.out.a.frozen 8
              have gk := GK.out
              refine last_done rfl (fun K hK => ?_)
              rw [if_pos (by rfl)]
              go_wp2_with fail
              refine hK.out _ _ ?_
              clear hK K
              go_wp2_with fail
              go_roundw
              case rel => exact ⟨j + 1, _, dn ++ [(s, .slice va xn vc)], KN.out, by go_num, by rw [List.map_append, DF2.out, TK.out]; rfl, S7.out.set X7.out.a (by decide) (by decide), P7.out.set X7.out.a (by decide) (by decide), Q7.out.set X7.out.a (by decide), X7.out.setk _⟩
              case measure => simp [intOf]; have := KN.out; omega
            · obtain rfl : j = na := by omega
              have f1 : decide ((j : Int) < (j : Int)) = false := by rw [decide_eq_false_iff_not]; omega
              have DM2 : Hid (dn.map (·.1) = P.kept) := Lib.hid (by rw [DF2.out, List.take_of_length_le (by rw [HNA.out]; exact Nat.le_refl _)])
              obtain ⟨g0, hg0⟩ : ∃ z, f 0 = z := ⟨_, rfl⟩
              obtain ⟨g1, hg1⟩ : ∃ z, f 1 = z := ⟨_, rfl⟩
              obtain ⟨g2, hg2⟩ : ∃ z, f 2 = z := ⟨_, rfl⟩
              obtain ⟨g3, hg3⟩ : ∃ z, f 3 = z := ⟨_, rfl⟩
              have N0 := QS.out 0 (by decide)
              have N1 := QS.out 1 (by decide)
              have N2 := QS.out 2 (by decide)
              have N3 := QS.out 3 (by decide)
              rw [if_pos (by decide)] at N0 N1 N2 N3
              rw [hg0] at N0 XX
              rw [hg1] at N1 XX
              rw [hg2] at N2 XX
              rw [hg3] at N3 XX
              have PO : Hid (PicO B wr P g0 g1 g2 g3 rv sv) := Lib.hid ⟨N0, N1, N2, N3, ⟨done, DM.out, PT.out⟩, ⟨dn, DM2.out, SG.out⟩⟩
              obtain ⟨e0, c0, rfl⟩ := owns_any N0
              obtain ⟨e1, c1, rfl⟩ := owns_any N1
              obtain ⟨e2, c2, rfl⟩ := owns_any N2
              obtain ⟨e3, c3, rfl⟩ := owns_any N3
              obtain ⟨ra, rc, rfl⟩ := owns_any PT.out.row
              obtain ⟨sa, sc, rfl⟩ := owns_any SG.out.row
              clear N0 N1 N2 N3 hg0 hg1 hg2 hg3 a0 a1 a2 a3 a4 a5 a6 a7 a8
              obtain ⟨a0, a1, a2, a3, a4, a5, a6, a7, a8⟩ := XX.out.a.cells
              have H1 : Hid ((#[.int .i64 P.w, .int .i64 P.h, .slice e0 (qL P 0).length c0, .slice e1 (qL P 1).length c1, .slice e2 (qL P 2).length c2, .slice e3 (qL P 3).length c3, .slice ra done.length rc, .int .i64 P.restart, .slice sa dn.length sc] : Array Value).all (·.oneCell') = true) := Lib.hid (by kernel_rfl)
              have HI : Hid ((Try.prog.info? 36).map (·.size) = some 9) := Lib.hid (by kernel_rfl)
              go_wp2_with (refine wpList_store_row rfl _ _ _ rfl (B + 1) #[.int .i64 P.w, .int .i64 P.h, .slice e0 (qL P 0).length c0, .slice e1 (qL P 1).length c1, .slice e2 (qL P 2).length c2, .slice e3 (qL P 3).length c3, .slice ra done.length rc, .int .i64 P.restart, .slice sa dn.length sc] rfl rfl 36 _ XX.out.z HI.out rfl H1.out ?_)
              obtain ⟨wE, hE⟩ : ∃ wE, wr.setRow (B + 1) #[.int .i64 P.w, .int .i64 P.h, .slice e0 (qL P 0).length c0, .slice e1 (qL P 1).length c1, .slice e2 (qL P 2).length c2, .slice e3 (qL P 3).length c3, .slice ra done.length rc, .int .i64 P.restart, .slice sa dn.length sc] = wE := ⟨_, rfl⟩
              have hwE : wE.heap[B + 1]? = some (.cells #[.int .i64 P.w, .int .i64 P.h, .slice e0 (qL P 0).length c0, .slice e1 (qL P 1).length c1, .slice e2 (qL P 2).length c2, .slice e3 (qL P 3).length c3, .slice ra done.length rc, .int .i64 P.restart, .slice sa dn.length sc] 36 (0, 0)) := by rw [← hE]; exact setRow_heap _ _ _ _ _ _ XX.out.z
              have PE := Lib.hid (show PicO B wE P _ _ _ _ _ _ by rw [← hE]; exact PO.out.ty (keepTy_row XX.out.z) (by decide) (by decide) (by decide) (by decide) (by decide))
              have BE : Hid (Below B w wE) := Lib.hid (by rw [← hE]; exact below_setRow XX.out.l (Nat.le_succ _) _)
              rw [hE]
              obtain ⟨r0, r1, r2, r3, r4, r5, r6, r7, r8⟩ := PBox.cells (P := P) hwE
              clear hE hwE
              refine bodyPost_ret (v := .agg #[.int .i64 P.w, .int .i64 P.h, .slice e0 (qL P 0).length c0, .slice e1 (qL P 1).length c1, .slice e2 (qL P 2).length c2, .slice e3 (qL P 3).length c3, .slice ra done.length rc, .int .i64 P.restart, .slice sa dn.length sc]) (by simp [results, Try.results14, go_sem, r0, r1, r2, r3, r4, r5, r6, r7, r8]; try rfl) rfl ⟨_, _, _, _, _, _, rfl, by rw [HB.out]; exact PE.out, by rw [HB.out]; exact BE.out⟩
end Go.Proofs.Ytnhalnjdlkdnkaa
