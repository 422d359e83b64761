/- match.NewFinder walked. By an AI agent. -/
import Derived.Test.YtheomjoadgfkeaaClone
import Derived.Test.YtheomjoadgfkeaaRecs
import Derived.Test.YtheomjoadgfkeaaKey3
import Derived.Test.YtheomjoadgfkeaaInts
import Derived.Test.YtheomjoadgfkeaaErr
import Derived.Laws.Cover3
import Derived.Deep.OwnRows
import Derived.RegionTactic
import Derived.Deep.DeepCutAuto
import Derived.Deep.RegionWith
import Derived.Deep.RegionHeld3
namespace Go.Proofs.Ytheomjoadgfkeaa
open Go.RowKit
set_option linter.unusedVariables false
set_option linter.unusedSimpArgs false

/-- a new row of noughts -/
theorem mkRow (n : Nat) (h : n ≤ 2000000) : ∃ O : Obj, (∀ w, (Instr.makeSlice 23 (.int .i64 (n : Int)) (.int .i64 (n : Int))).run Try.prog w = .ok (.slice (some ⟨w.heap.size, 0, none⟩) n n) (w.alloc O)) ∧ ∀ w : World, (w.alloc O).rowIs w.heap.size 3 n (fun _ => .int .i64 0) :=
  ⟨.cells (madeCells #[.int .i64 0] n) 3, fun w => run_make_row' 23 3 (.int .i64 0) 8 Try.underlying23 (by kernel_rfl) rfl .i64 .i64 n (by omega) (by omega) w, fun w => World.rowIs_made w (.int .i64 0) n 3⟩

/-- what a finder under way owns -/
structure FinB (w0 : World) (l : List UInt8) (g gp : Nat) (tv : Value) (V : World) : Prop where
  fin : V.heap[g]? = some (.cells #[tv, .slice (some ⟨gp, 0, none⟩) l.length l.length] 95 (0, 0))
  text : Bs V tv l
  below : Below w0.heap.size w0 V
  g0 : w0.heap.size ≤ g
  p0 : w0.heap.size ≤ gp
  gp_ : g ≠ gp
  own : ∀ k, tv.ownBlock = some k → w0.heap.size ≤ k ∧ k ≠ gp ∧ k < V.heap.size
theorem FinB.glt {w0 : World} {l : List UInt8} {g gp : Nat} {tv : Value} {V : World} (h : FinB w0 l g gp tv V) : g < V.heap.size := (Array.getElem?_eq_some_iff.1 h.fin).1
theorem FinB.grown {w0 : World} {l : List UInt8} {g gp : Nat} {tv : Value} {V W : World} (h : FinB w0 l g gp tv V) {r : Nat} (hg : V.grownBy W (some r)) (hr : w0.heap.size ≤ r) (h1 : r ≠ g) (h2 : tv.ownBlock ≠ some r) : FinB w0 l g gp tv W :=
  ⟨by rw [hg.block g h.glt (fun e => h1 (Option.some.inj e).symm)]; exact h.fin, SlN.grown h.text hg (.inr h2), h.below.grown hg h.below.size (fun k hk => by cases hk; exact hr), h.g0, h.p0, h.gp_, fun k hk => ⟨(h.own k hk).1, (h.own k hk).2.1, Nat.lt_of_lt_of_le (h.own k hk).2.2 hg.size⟩⟩
theorem FinB.low {w0 : World} {l : List UInt8} {g gp : Nat} {tv : Value} {V W : World} (h : FinB w0 l g gp tv V) (hb : Below V.heap.size V W) : FinB w0 l g gp tv W :=
  ⟨by rw [hb.block g h.glt]; exact h.fin, h.text.old hb, h.below.trans (hb.mono h.below.size), h.g0, h.p0, h.gp_, fun k hk => ⟨(h.own k hk).1, (h.own k hk).2.1, Nat.lt_of_lt_of_le (h.own k hk).2.2 hb.size⟩⟩
theorem grown_set (V : World) (r i : Nat) (v : Value) : V.grownBy (V.setCell ⟨r, i, none⟩ v) (some r) :=
  ⟨rfl, rfl, rfl, by simp, fun k hk hne => Go.Deep.blk_setCell_other _ _ _ _ (by simp only; intro he; exact hne (by rw [he]))⟩
/-- a finder under way -/
def FinD (w0 : World) (l : List UInt8) (f : Value) (wx : World) : Prop :=
  ∃ g gp tv, f = .pointer (some ⟨g, 0, none⟩) ∧ FinB w0 l g gp tv wx ∧ wx.rowIs gp 3 l.length (fun _ => .int .i64 0)
theorem finD_a {w w' : World} {l : List UInt8} {O : Obj} {tv : Value} (hO : (w.alloc O).rowIs w.heap.size 3 l.length (fun _ => .int .i64 0)) (hb : Below (w.alloc O).drew.heap.size (w.alloc O).drew w')
    (ht : w'.ownsRow (w.alloc O).drew.heap.size 5 1 tv l.length (vBs l)) : FinD w l (.pointer (some ⟨w'.heap.size, 0, none⟩)) (w'.alloc (.cells #[tv, .slice (some ⟨w.heap.size, 0, none⟩) l.length l.length] 95)) := by
  have hs0 : (w.alloc O).drew.heap.size = w.heap.size + 1 := World.size_alloc _ _
  have hs : w.heap.size + 1 ≤ w'.heap.size := by have := hb.size; omega
  have hba : Below w.heap.size w (w.alloc O).drew := ((Below.refl _ _).alloc (Nat.le_refl _) O).drew
  have hbx : Below w.heap.size w w' := hba.trans (hb.mono (by omega))
  refine ⟨_, w.heap.size, tv, rfl, ⟨heap_alloc_new _ _, (show Bs w' tv l from sl_of_owns ht).old ((Below.refl _ _).alloc (Nat.le_refl _) _), hbx.alloc (by omega) _, by omega, Nat.le_refl _, by omega, fun k hk => ?_⟩, ?_⟩
  · have := ht.lt k hk
    rw [hs0] at this
    refine ⟨by omega, by omega, ?_⟩
    rw [World.size_alloc]; omega
  · have h2 : w'.rowIs w.heap.size 3 l.length (fun _ => .int .i64 0) := hO.of_block (hb.block _ (by omega))
    exact h2.alloc _
theorem finD_b {w w' : World} {l : List UInt8} {O : Obj} {tv : Value} (hO : (w'.alloc O).rowIs w'.heap.size 3 l.length (fun _ => .int .i64 0)) (hb : Below w.drew.heap.size w.drew w')
    (ht : w'.ownsRow w.drew.heap.size 5 1 tv l.length (vBs l)) : FinD w l (.pointer (some ⟨w'.heap.size + 1, 0, none⟩)) ((w'.alloc O).alloc (.cells #[tv, .slice (some ⟨w'.heap.size, 0, none⟩) l.length l.length] 95)) := by
  have hs0 : w.drew.heap.size = w.heap.size := rfl
  have hs : w.heap.size ≤ w'.heap.size := hb.size
  have hbx : Below w.heap.size w w' := (Below.refl _ w).drew.trans hb
  have hn := heap_new1 w' O (.cells #[tv, .slice (some ⟨w'.heap.size, 0, none⟩) l.length l.length] 95)
  refine ⟨_, w'.heap.size, tv, rfl, ⟨hn, (show Bs w' tv l from sl_of_owns ht).old (((Below.refl _ _).alloc (Nat.le_refl _) _).alloc (by simp) _), (hbx.alloc hs _).alloc (by simp; omega) _, by omega, hs, by omega, fun k hk => ?_⟩, hO.alloc _⟩
  have := ht.lt k hk
  refine ⟨this.1, by omega, ?_⟩
  rw [World.size_alloc, World.size_alloc]; omega

/-- the three bytes at a place -/
def bytes3 (l : List UInt8) (k : Nat) : UInt8 × UInt8 × UInt8 := (l.getD k 0, l.getD (k + 1) 0, l.getD (k + 2) 0)
theorem bytes3_iff (l : List UInt8) (j k : Nat) (hk : k + 3 ≤ l.length) : 3 ≤ commonOf l j k ↔ bytes3 l k = bytes3 l j := by
  rw [common_iff l j k 3 (by omega)]
  unfold bytes3
  simp only [Prod.mk.injEq]
  refine ⟨fun h => ⟨(h 0 (by omega)).2.symm, (h 1 (by omega)).2.symm, (h 2 (by omega)).2.symm⟩, fun ⟨h0, h1, h2⟩ i hi => ?_⟩
  rcases (by omega : i = 0 ∨ i = 1 ∨ i = 2) with rfl | rfl | rfl
  · exact ⟨by omega, h0.symm⟩
  · exact ⟨by omega, h1.symm⟩
  · exact ⟨by omega, h2.symm⟩
/-- the last place ahead of k with these bytes -/
def lastQ (l : List UInt8) : Nat → UInt8 × UInt8 × UInt8 → Option Int
  | 0, _ => none
  | k + 1, q => if k + 3 ≤ l.length ∧ q = bytes3 l k then some (k : Int) else lastQ l k q
theorem lastQ_at (l : List UInt8) (p : Nat) (hp : p + 3 ≤ l.length) : ∀ k, k ≤ p → (lastQ l k (bytes3 l p) = none ∧ lastK l p k = -1) ∨ ∃ v : Int, lastQ l k (bytes3 l p) = some v ∧ lastK l p k = v
  | 0, _ => .inl ⟨rfl, rfl⟩
  | k + 1, h => by
    have ih := lastQ_at l p hp k (by omega)
    have e := bytes3_iff l k p hp
    rw [lastQ, lastK]
    by_cases hc : 3 ≤ commonOf l k p
    · rw [if_pos hc, if_pos ⟨by omega, e.1 hc⟩]
      exact .inr ⟨_, rfl, rfl⟩
    · rw [if_neg hc, if_neg (fun h => hc (e.2 h.2))]
      exact ih
theorem lastK_end (l : List UInt8) (p : Nat) (hp : l.length < p + 3) : ∀ k, lastK l p k = -1
  | 0 => rfl
  | k + 1 => by
    rw [lastK, if_neg (fun h => by have := common_end l k p 3 h (by omega); omega)]
    exact lastK_end l p hp k
/-- of each place the last one ahead that begins alike -/
def prevL (l : List UInt8) : List Int := (List.range l.length).map fun i => lastK l i i
theorem ns_row {w : World} {g n : Nat} {t : TypeId} {f : Nat → Value} (h : w.rowIs g t n f) (L : List Int) (hL : L.length = n) (hf : ∀ i (h : i < L.length), f i = .int .i64 L[i]) : Ns w (.slice (some ⟨g, 0, none⟩) n n) L := by
  subst hL
  refine ⟨by simp [vIs], ?_⟩
  by_cases h0 : L.length = 0
  · exact .inl ⟨_, _, rfl, h0⟩
  · refine .inr ⟨g, 0, _, rfl, Nat.le_refl _, by omega, fun i u hu => ?_⟩
    have hi : i < L.length := by have := (List.getElem?_eq_some_iff.1 hu).1; rwa [vIs_length] at this
    rw [Nat.zero_add, h.cell hi, hf i hi]
    simp only [vIs, vI, List.getElem?_map, List.getElem?_eq_getElem hi, Option.map_some, Option.some.injEq] at hu
    rw [hu]
/-- A finder that stands, in blocks from B on. -/
def Fin (B : Nat) (w : World) (v : Value) (l : List UInt8) : Prop :=
  ∃ g tv pv, v = .pointer (some ⟨g, 0, none⟩) ∧ w.heap[g]? = some (.cells #[tv, pv] 95 (0, 0)) ∧ Bs w tv l ∧ Ns w pv (prevL l) ∧ B ≤ g ∧ (∀ b, tv.ownBlock = some b → B ≤ b) ∧ ∀ b, pv.ownBlock = some b → B ≤ b
/-- after k rounds -/
structure FinI (w0 : World) (l : List UInt8) (g gp gm : Nat) (tv : Value) (k : Nat) (V : World) : Prop where
  base : FinB w0 l g gp tv V
  row : V.rowIs gp 3 l.length (fun i => .int .i64 (if i < k then lastK l i i else 0))
  map : Map3 V gm k (lastQ l k)
  m0 : w0.heap.size ≤ gm
  mp : gm ≠ gp
  mg : gm ≠ g
  mt : tv.ownBlock ≠ some gm

set_option maxRecDepth 20000 in
set_option maxHeartbeats 6400000 in
theorem newFinder_any (v : Value) (l : List UInt8) (w : World) (hb : Bs w v l) (hl : l.length ≤ 1048576) :
    Calls Try.prog 41 #[v] w fun e w' => ∃ f, e = .returned (.tuple #[f, .nilIface]) ∧ Fin w.heap.size w' f l ∧ Below w.heap.size w w' := by
  obtain ⟨av, cap, rfl⟩ := hb.len
  have HB := Lib.hid hb
  have HL := Lib.hid hl
  have d1 : decide ((1048576 : Int) < (l.length : Int)) = false := by rw [decide_eq_false_iff_not]; omega
  obtain ⟨O, M1, hr⟩ := mkRow l.length (by omega)
  have RO := Lib.hid hr
  have CL := Lib.hid (fun W hW => clone_own (.slice av l.length cap) l W hW (by omega))
  clear hb hl hr
  go_enter Try.func41, Try.ntmps41
  go_wp2_with fail
  go_cut [4] from 14 to 20 (fun f wx => FinD w l f wx)
  case first =>
    go_region_with (go_at_call 54; refine (CL.out _ (HB.out.old (by first | exact (Below.refl _ _).drew | exact ((Below.refl _ _).alloc (Nat.le_refl _) _).drew))).mono ?_; rintro e w' ⟨tv, rfl, ht, hbx⟩; obtain ⟨ta, tc, rfl⟩ := (show Bs w' tv l from sl_of_owns ht).len)
    all_goals
      go_wp2_with fail
      go_meet
      first
      | exact finD_a (RO.out _) hbx ht
      | exact finD_b (RO.out _) hbx ht
  case rest =>
    obtain ⟨w1, hw1⟩ : ∃ w1, wc = w1 := ⟨_, rfl⟩
    rw [hw1] at hcut
    rw [hw1]
    clear hw1
    obtain ⟨g, gp, tv, rfl, hF, hR⟩ := hcut
    have FB := Lib.hid hF
    have RW := Lib.hid hR
    have c1 : (w1.alloc (.map #[] 0)).cell? ⟨g, 1, none⟩ = some (.slice (some ⟨gp, 0, none⟩) l.length l.length) := by rw [cell_of_row _ _ 1 _ _ _ (heap_old hF.fin)]; rfl
    clear hF hR M1 CL RO
    have hmm := @run_makeMap Try.prog
    have MP := Lib.hid (Map3.made w1)
    go_wp2_with fail
    obtain ⟨gm, hgm⟩ : ∃ gm, w1.heap.size = gm := ⟨_, rfl⟩
    obtain ⟨w2, hw2⟩ : ∃ w2, w1.alloc (.map #[] 0) = w2 := ⟨_, rfl⟩
    have ST : Hid (FinI w l g gp gm tv 0 w2) := Lib.hid (by
      have hF := FB.out
      have b1 : Below w1.heap.size w1 w2 := by rw [← hw2]; exact (Below.refl _ _).alloc (Nat.le_refl _) _
      have hglt := hF.glt
      have hplt := RW.out.lt
      refine ⟨hF.low b1, ?_, ?_, ?_, ?_, ?_, ?_⟩
      · exact (RW.out.of_block (b1.block _ hplt)).congr (fun i _ => by rw [if_neg (Nat.not_lt_zero i)])
      · rw [← hgm, ← hw2]; exact MP.out
      · rw [← hgm]; exact hF.below.size
      · omega
      · omega
      · intro h; have := (hF.own _ h).2.2; omega)
    rw [hw2, hgm]
    clear hw2 hmm c1 hgm MP FB RW
    go_loopw [27] (fun i V => ∃ k : Nat, k ≤ l.length ∧ i = .int .i64 k ∧ FinI w l g gp gm tv k V) (fun i _ => l.length - (intOf i).toNat)
    case atStart => exact ⟨0, Nat.zero_le _, rfl, ST.out⟩
    case round =>
      obtain ⟨k, hk, rfl, hst⟩ := hrel
      have HS := Lib.hid hst
      have c1 : wr.cell? ⟨g, 1, none⟩ = some (.slice (some ⟨gp, 0, none⟩) l.length l.length) := by rw [cell_of_row _ _ 1 _ _ _ hst.base.fin]; rfl
      have hl' := HL.out
      by_cases hkl : k < l.length
      · have f1 : decide ((k : Int) < (l.length : Int)) = true := by rw [decide_eq_true_eq]; omega
        have f2 : decide (k < l.length) = true := by rw [decide_eq_true_eq]; omega
        have c2 := hst.row.cell hkl
        have c3 := hst.row.frozen k
        clear hst
        go_upto_region 8 with (fail)
        go_cut [] from 30 to 35 (fun wx => wx = wr.setCell ⟨gp, k, none⟩ (.int .i64 (-1)))
        case first =>
          go_wp2_with fail
          go_meet
          rfl
        case rest =>
          obtain ⟨w3, hw3⟩ : ∃ w3, wc = w3 := ⟨_, rfl⟩
          rw [hw3] at hcut
          rw [hw3]
          clear hw3 c1 c2 c3
          have hS := HS.out
          have hg3 : wr.grownBy w3 (some gp) := by rw [hcut]; exact grown_set _ _ _ _
          have B3 : Hid (FinB w l g gp tv w3) := Lib.hid (hS.base.grown hg3 hS.base.p0 (Ne.symm hS.base.gp_) (fun h => (hS.base.own _ h).2.1 rfl))
          have M3 : Hid (Map3 w3 gm k (lastQ l k)) := Lib.hid (hS.map.kept hg3 (fun h => hS.mp (Option.some.inj h)))
          have R3 : Hid (w3.rowIs gp 3 l.length (fun i => .int .i64 (if i < k then lastK l i i else if i = k then -1 else 0))) := Lib.hid (by
            rw [hcut]
            refine (hS.row.set k _).congr (fun i _ => ?_)
            by_cases e : i = k
            · subst e; rw [if_pos rfl, if_neg (Nat.lt_irrefl _), if_pos rfl]
            · rw [if_neg e, if_neg e])
          have T3 : Hid (Bs w3 (.slice av l.length cap) l) := Lib.hid (HB.out.old B3.out.below)
          clear hS hg3 hcut
          by_cases h3 : k + 3 ≤ l.length
          · have g1 : decide ((l.length : Int) < (k : Int) + 3) = false := by rw [decide_eq_false_iff_not]; omega
            obtain ⟨av', cap', hv', hcell⟩ := T3.out.read
            obtain ⟨b, off, rfl, e0⟩ := hcell k (by omega)
            obtain ⟨b', off', hb', e1⟩ := hcell (k + 1) (by omega)
            obtain ⟨b2, off2, hb2, e2⟩ := hcell (k + 2) (by omega)
            simp only [Option.some.injEq, Addr.mk.injEq, and_true] at hb' hb2
            obtain ⟨rfl, rfl⟩ := hb'
            obtain ⟨rfl, rfl⟩ := hb2
            simp only [Value.slice.injEq, true_and] at hv'
            obtain ⟨rfl, rfl⟩ := hv'
            have q0 : l.getD k 0 = l[k] := by rw [List.getD_eq_getElem?_getD, List.getElem?_eq_getElem (by omega)]; rfl
            have q1 : l.getD (k + 1) 0 = l[k + 1] := by rw [List.getD_eq_getElem?_getD, List.getElem?_eq_getElem (by omega)]; rfl
            have q2 : l.getD (k + 2) 0 = l[k + 2] := by rw [List.getD_eq_getElem?_getD, List.getElem?_eq_getElem (by omega)]; rfl
            have LQ := lastQ_at l k h3 k (Nat.le_refl _)
            have LS : ∀ q, lastQ l (k + 1) q = if q = bytes3 l k then some (k : Int) else lastQ l k q := fun q => by
              rw [lastQ]
              by_cases e : q = bytes3 l k
              · rw [if_pos ⟨h3, e⟩, if_pos e]
              · rw [if_neg (fun h => e h.2), if_neg e]
            have hbe : bytes3 l k = (l[k], l[k + 1], l[k + 2]) := by unfold bytes3; rw [q0, q1, q2]
            rw [hbe] at LQ LS
            generalize l[k] = x at *
            generalize l[k + 1] = y at *
            generalize l[k + 2] = z at *
            have LQ := Lib.hid LQ
            have LS := Lib.hid LS
            clear q0 q1 q2 hbe hcell
            have hcap : k < cap := by
              rcases T3.out.2 with ⟨a, c, h, h0⟩ | ⟨b', o', c, h, hc, _⟩
              · omega
              · simp only [Value.slice.injEq] at h; omega
            have hck : ¬ cap = k := by omega
            have AA := fun W => run_arrayAt (P := Try.prog) (w := W) 97 5 3 (some ⟨b, off + k, none⟩) (l.length - k) (cap - k) Try.underlying97 (by omega)
            have e1' : w3.cell? ⟨b, off + k + 1, none⟩ = some (.int .u8 (y.toNat : Int)) := e1
            have e2' : w3.cell? ⟨b, off + k + 2, none⟩ = some (.int .u8 (z.toNat : Int)) := e2
            clear e1 e2
            have WA : Hid (Below w3.heap.size w3 (w3.alloc (.cells #[.int .u8 (x.toNat : Int), .int .u8 (y.toNat : Int), .int .u8 (z.toNat : Int)] 97))) := Lib.hid ((Below.refl _ _).alloc (Nat.le_refl _) _)
            have WN : Hid ((w3.alloc (.cells #[.int .u8 (x.toNat : Int), .int .u8 (y.toNat : Int), .int .u8 (z.toNat : Int)] 97)).heap[w3.heap.size]? = some (.cells #[.int .u8 (x.toNat : Int), .int .u8 (y.toNat : Int), .int .u8 (z.toNat : Int)] 97 (0, 0))) := Lib.hid (heap_alloc_new _ _)
            have MA : Hid (Map3 (w3.alloc (.cells #[.int .u8 (x.toNat : Int), .int .u8 (y.toNat : Int), .int .u8 (z.toNat : Int)] 97)) gm k (lastQ l k)) := Lib.hid (M3.out.kept (World.grownBy_alloc _ _ none) (by simp))
            go_upto_region 11 with (fail)
            clear e0 e1' e2' AA
            obtain ⟨w4, hw4⟩ : ∃ w4, w3.alloc (.cells #[.int .u8 (x.toNat : Int), .int .u8 (y.toNat : Int), .int .u8 (z.toNat : Int)] 97) = w4 := ⟨_, rfl⟩
            rw [hw4] at WA WN MA
            rw [hw4]
            clear hw4
            obtain ⟨ga, hga⟩ : ∃ ga, w3.heap.size = ga := ⟨_, rfl⟩
            rw [hga] at WN
            rw [hga]
            have B4 := Lib.hid (B3.out.low WA.out)
            have R4 := Lib.hid (R3.out.of_block (WA.out.block _ R3.out.lt))
            have n0 : w4.cell? ⟨ga, 0, none⟩ = some (.int .u8 (x.toNat : Int)) := by rw [cell_of_row _ _ 0 _ _ _ WN.out]; rfl
            have n1 : w4.cell? ⟨ga, 1, none⟩ = some (.int .u8 (y.toNat : Int)) := by rw [cell_of_row _ _ 1 _ _ _ WN.out]; rfl
            have n2 : w4.cell? ⟨ga, 2, none⟩ = some (.int .u8 (z.toNat : Int)) := by rw [cell_of_row _ _ 2 _ _ _ WN.out]; rfl
            have c1 : w4.cell? ⟨g, 1, none⟩ = some (.slice (some ⟨gp, 0, none⟩) l.length l.length) := by rw [cell_of_row _ _ 1 _ _ _ B4.out.fin]; rfl
            have c2 := R4.out.cell hkl
            have c3 := R4.out.frozen k
            have GA : Hid (w3.heap.size = ga) := Lib.hid hga
            have GP : Hid (gp < w3.heap.size) := Lib.hid R3.out.lt
            clear hga
            go_wp2_with (at_lookup; refine stop ?_)
            refine unstop (wpList_look3 rfl _ _ rfl gm k (lastQ l k) rfl MA.out x y z rfl ?_)
            rcases LQ.out with ⟨a, e⟩ | ⟨v, a, e⟩
            case' inl =>
              rw [a]
              have E := Lib.hid e
              clear a e
              go_upto_region 14 with (fail)
              have R5 : Hid (w4.rowIs gp 3 l.length (fun i => .int .i64 (if i < k + 1 then lastK l i i else 0))) := Lib.hid (by
                refine R4.out.congr (fun i _ => ?_)
                by_cases h1 : i = k
                · subst h1; rw [if_neg (Nat.lt_irrefl _), if_pos rfl, if_pos (Nat.lt_succ_self _), E.out]
                · by_cases h2 : i < k
                  · rw [if_pos h2, if_pos (by omega)]
                  · rw [if_neg h2, if_neg h1, if_neg (by omega)])
              have B5 : Hid (FinB w l g gp tv w4) := B4
              have M5 : Hid (Map3 w4 gm k (lastQ l k)) := MA
              have N5 : Hid (w4.heap[ga]? = some (.cells #[.int .u8 (x.toNat : Int), .int .u8 (y.toNat : Int), .int .u8 (z.toNat : Int)] 97 (0, 0))) := WN
              obtain ⟨w5, hw5⟩ : ∃ w5, w4 = w5 := ⟨_, rfl⟩
            case' inr =>
              rw [a]
              have E := Lib.hid e
              clear a e
              go_upto_region 14 with (fail)
              have hS := HS.out
              have hg5 := grown_set w4 gp k (.int .i64 v)
              have B5 := Lib.hid (B4.out.grown hg5 hS.base.p0 (Ne.symm hS.base.gp_) (fun h => (hS.base.own _ h).2.1 rfl))
              have M5 := Lib.hid (MA.out.kept hg5 (fun h => hS.mp (Option.some.inj h)))
              have R5 : Hid ((w4.setCell ⟨gp, k, none⟩ (.int .i64 v)).rowIs gp 3 l.length (fun i => .int .i64 (if i < k + 1 then lastK l i i else 0))) := Lib.hid (by
                refine (R4.out.set k _).congr (fun i _ => ?_)
                by_cases h1 : i = k
                · subst h1; rw [if_pos rfl, if_pos (Nat.lt_succ_self _), E.out]
                · by_cases h2 : i < k
                  · rw [if_neg h1, if_pos h2, if_pos (by omega)]
                  · rw [if_neg h1, if_neg h2, if_neg h1, if_neg (by omega)])
              have N5 : Hid ((w4.setCell ⟨gp, k, none⟩ (.int .i64 v)).heap[ga]? = some (.cells #[.int .u8 (x.toNat : Int), .int .u8 (y.toNat : Int), .int .u8 (z.toNat : Int)] 97 (0, 0))) := Lib.hid (by
                rw [hg5.block ga (Array.getElem?_eq_some_iff.1 WN.out).1 (fun h => by have := Option.some.inj h; have := GP.out; have := GA.out; omega)]
                exact WN.out)
              obtain ⟨w5, hw5⟩ : ∃ w5, w4.setCell ⟨gp, k, none⟩ (.int .i64 v) = w5 := ⟨_, rfl⟩
              clear hS hg5
            all_goals
              clear n0 n1 n2 c1 c2 c3
              rw [hw5] at B5 M5 R5 N5
              rw [hw5]
              have n0 : w5.cell? ⟨ga, 0, none⟩ = some (.int .u8 (x.toNat : Int)) := by rw [cell_of_row _ _ 0 _ _ _ N5.out]; rfl
              have n1 : w5.cell? ⟨ga, 1, none⟩ = some (.int .u8 (y.toNat : Int)) := by rw [cell_of_row _ _ 1 _ _ _ N5.out]; rfl
              have n2 : w5.cell? ⟨ga, 2, none⟩ = some (.int .u8 (z.toNat : Int)) := by rw [cell_of_row _ _ 2 _ _ _ N5.out]; rfl
              clear hw5 LQ B4 R4 MA WN WA
              go_wp2_with (at_mapUpdate; refine stop ?_)
              refine unstop (wpList_store3 rfl _ _ _ rfl gm k (lastQ l k) rfl M5.out (by unfold maxLen; omega) x y z rfl (k : Int) rfl (by simp [Lit.wf, IntKind.min, IntKind.max, IntKind.signed, IntKind.bits]; omega) ?_)
              intro w6 hM6 hg6
              have FI : Hid (FinI w l g gp gm tv (k + 1) w6) := Lib.hid (by
                have hS := HS.out
                refine ⟨B5.out.grown hg6 hS.m0 hS.mg hS.mt, R5.out.of_block (hg6.block _ R5.out.lt (fun h => hS.mp (Option.some.inj h).symm)), hM6.congr (fun q => (LS.out q).symm), hS.m0, hS.mp, hS.mg, hS.mt⟩)
              clear hM6 hg6 n0 n1 n2
              go_wp2_with fail
              go_roundw
              case rel => exact ⟨k + 1, by omega, by go_num, FI.out⟩
              case measure => simp [intOf]; omega
          · have g1 : decide ((l.length : Int) < (k : Int) + 3) = true := by rw [decide_eq_true_eq]; omega
            have FI : Hid (FinI w l g gp gm tv (k + 1) w3) := Lib.hid (by
              have hS := HS.out
              refine ⟨B3.out, R3.out.congr (fun i _ => ?_), (M3.out.mono (Nat.le_succ k)).congr (fun q => ?_), hS.m0, hS.mp, hS.mg, hS.mt⟩
              · by_cases e : i = k
                · subst e; rw [if_neg (Nat.lt_irrefl _), if_pos rfl, if_pos (Nat.lt_succ_self _), lastK_end l i (by omega)]
                · by_cases e2 : i < k
                  · rw [if_pos e2, if_pos (by omega)]
                  · rw [if_neg e2, if_neg e, if_neg (by omega)]
              · rw [lastQ, if_neg (fun h => h3 h.1)])
            clear h3
            go_wp2_with fail
            go_roundw
            case rel => exact ⟨k + 1, by omega, by go_num, FI.out⟩
            case measure => simp [intOf]; omega
      · obtain rfl : k = l.length := by omega
        have f1 : decide ((l.length : Int) < (l.length : Int)) = false := by rw [decide_eq_false_iff_not]; omega
        have NS : Hid (Fin w.heap.size wr (.pointer (some ⟨g, 0, none⟩)) l) := Lib.hid (by
          refine ⟨g, tv, _, rfl, hst.base.fin, hst.base.text, ns_row hst.row _ (by simp [prevL]) (fun i hi => ?_), hst.base.g0, fun b hb => (hst.base.own b hb).1, fun b hb => by
            have e : gp = b := by simpa [Value.ownBlock] using hb
            rw [← e]; exact hst.base.p0⟩
          have hi' : i < l.length := by simpa [prevL] using hi
          rw [if_pos hi']
          simp [prevL])
        have BL := Lib.hid hst.base.below
        clear hst c1
        go_wp2_with fail
        go_ret2
        exact ⟨_, rfl, NS.out, BL.out⟩
end Go.Proofs.Ytheomjoadgfkeaa
