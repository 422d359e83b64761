/- MatchFound: the law's walk. By an AI agent. -/
import Derived.Test.YtbfpofgbapkkeaaAlive8
import Derived.Test.YtbfpofgbapkkeaaLawVerifies
import Derived.StillTailTactics
import Derived.Deep.DeepCutAuto
import Derived.Deep.CutRange
namespace Go.Proofs.Ytbfpofgbapkkeaa
open Go.RowKit Go.Shelf
set_option linter.unusedVariables false
set_option linter.unusedSimpArgs false

/-- how often three bytes have come -/
def cntQ (l : List UInt8) : Nat → UInt8 × UInt8 × UInt8 → Nat
  | 0, _ => 0
  | k + 1, q => if k + 3 ≤ l.length ∧ q = bytes3 l k then cntQ l k q + 1 else cntQ l k q
def cntF (l : List UInt8) (k : Nat) (q : UInt8 × UInt8 × UInt8) : Option Int := if cntQ l k q = 0 then none else some ((cntQ l k q : Nat) : Int)
theorem cntF_getD (l : List UInt8) (k : Nat) (q : UInt8 × UInt8 × UInt8) : (cntF l k q).getD 0 = ((cntQ l k q : Nat) : Int) := by
  unfold cntF
  split
  · rename_i h; rw [h]; rfl
  · rfl
theorem cntF_end {l : List UInt8} {k : Nat} (h3 : ¬ k + 3 ≤ l.length) (q : UInt8 × UInt8 × UInt8) : cntF l k q = cntF l (k + 1) q := by
  have e : cntQ l (k + 1) q = cntQ l k q := by rw [cntQ, if_neg (fun hh => h3 hh.1)]
  unfold cntF
  rw [e]
theorem cntQ_le (l : List UInt8) (q : UInt8 × UInt8 × UInt8) : ∀ k, cntQ l k q ≤ k
  | 0 => Nat.le_refl _
  | k + 1 => by have := cntQ_le l q k; rw [cntQ]; split <;> omega
theorem cntQ_pos (l : List UInt8) (p : Nat) (hp : p + 3 ≤ l.length) : ∀ k, k ≤ p → (0 < cntQ l k (bytes3 l p) ↔ ∃ j, j < k ∧ 3 ≤ commonOf l j p)
  | 0, _ => ⟨fun h => absurd h (by simp [cntQ]), fun ⟨j, h, _⟩ => absurd h (Nat.not_lt_zero j)⟩
  | k + 1, h => by
    have ih := cntQ_pos l p hp k (by omega)
    have e := bytes3_iff l k p hp
    rw [cntQ]
    by_cases hc : 3 ≤ commonOf l k p
    · rw [if_pos ⟨by omega, e.1 hc⟩]
      exact ⟨fun _ => ⟨k, Nat.lt_succ_self k, hc⟩, fun _ => by omega⟩
    · rw [if_neg (fun hh => hc (e.2 hh.2)), ih]
      refine ⟨fun ⟨j, h1, h2⟩ => ⟨j, by omega, h2⟩, fun ⟨j, h1, h2⟩ => ⟨j, ?_, h2⟩⟩
      by_cases e2 : j = k
      · subst e2; exact absurd h2 hc
      · omega
theorem recs_some_iff (l : List UInt8) (p : Nat) (hp : p ≤ 32768) : recs l p ≠ [] ↔ ∃ j, j < p ∧ 3 ≤ commonOf l j p := by
  constructor
  · intro h
    obtain ⟨t, ht⟩ := List.exists_mem_of_ne_nil _ h
    have ok := recs_ok l p _ t ht
    exact ⟨p - t.2, by have := ok.2.2.1; have := ok.2.2.2.1; omega, by rw [← ok.2.2.2.2]; exact ok.1⟩
  · rintro ⟨j, h1, h2⟩ h0
    have := le_best l p (min p 32768) (p - j) (by omega) (by omega)
    unfold recs at h0
    rw [h0, bestOf_nil, show p - (p - j) = j by omega] at this
    omega
/-- what is found at a place of a short text -/
theorem found_at (l : List UInt8) (k : Nat) (hk : k < l.length) (hl : l.length ≤ 3000) :
    (betterL (some l) (k : Int) = [] ∧ (k + 3 ≤ l.length → cntQ l k (bytes3 l k) = 0)) ∨
    ∃ t : Nat × Nat, lastT (betterL (some l) (k : Int)) = t ∧ 3 ≤ t.1 ∧ t.1 ≤ 258 ∧ 1 ≤ t.2 ∧ t.2 ≤ k ∧ t.1 = commonOf l (k - t.2) k ∧ k + t.1 ≤ l.length ∧ 0 < cntQ l k (bytes3 l k) := by
  have e1 : betterL (some l) (k : Int) = recs l k := by
    show (if 0 ≤ (k : Int) ∧ (k : Int) < (l.length : Int) then recs l (k : Int).toNat else []) = _
    rw [if_pos ⟨by omega, by omega⟩]; rfl
  rw [e1]
  have hs := recs_some_iff l k (by omega)
  cases hr : (recs l k).getLast? with
  | none =>
    have h0 : recs l k = [] := by simpa using hr
    refine .inl ⟨h0, fun h3 => ?_⟩
    have hc := cntQ_pos l k h3 k (Nat.le_refl _)
    rcases Nat.eq_zero_or_pos (cntQ l k (bytes3 l k)) with h | h
    · exact h
    · exact absurd h0 (hs.2 (hc.1 h))
  | some t =>
    have hm := List.mem_of_getLast? hr
    have ok := recs_ok l k _ t hm
    obtain ⟨o1, o2, o3, o4, o5⟩ := ok
    have hend := common_end l (k - t.2) k t.1 (by omega) (by omega)
    refine .inr ⟨t, by simp [lastT, hr], o1, o2, o3, by omega, o5, hend, ?_⟩
    exact (cntQ_pos l k (by omega) k (Nat.le_refl _)).2 (hs.1 (List.ne_nil_of_mem hm))

/-- where the loop stands -/
structure FoundI (w0 : World) (l : List UInt8) (fv : Value) (bs : List Nat) (gm k : Nat) (V : World) : Prop where
  map : Map3 V gm k (cntF l k)
  fin : FV bs V fv (some l)
  below : Below w0.heap.size w0 V
  m0 : w0.heap.size ≤ gm
  bl : ∀ b ∈ bs, b < V.heap.size ∧ b ≠ gm

theorem FoundI.low {w0 : World} {l : List UInt8} {fv : Value} {bs : List Nat} {gm k : Nat} {V W : World} (h : FoundI w0 l fv bs gm k V) (hb : Below V.heap.size V W) : FoundI w0 l fv bs gm k W :=
  ⟨h.map.kept (row := none) ⟨hb.os, hb.tape, hb.output, hb.size, fun j hj _ => hb.block j hj⟩ (by simp), h.fin.keep (KeepB.below hb hb.size (fun b hb' => (h.bl b hb').1)), h.below.trans (hb.mono h.below.size), h.m0, fun b hb' => ⟨Nat.lt_of_lt_of_le (h.bl b hb').1 hb.size, (h.bl b hb').2⟩⟩

set_option maxRecDepth 20000 in
set_option maxHeartbeats 6400000 in
theorem lawFound_any (v : Value) (l : List UInt8) (w : World) (hb : Bs w v l) (hl : l.length ≤ 140737488351232) :
    Calls Try.prog 5 #[v] w fun e w' => e = .returned (.bool true) ∧ Below w.heap.size w w' := by
  obtain ⟨av, cap, rfl⟩ := hb.len
  have HB := Lib.hid hb
  clear hb
  go_enter Try.func5, Try.ntmps5
  go_wp2_with fail
  refine (alive_any _).mono ?_; rintro e w1 ⟨rfl, hb1⟩
  have B1 := Lib.hid hb1
  clear hb1
  by_cases hbig : 3000 < l.length
  · have d1 : decide ((3000 : Int) < (l.length : Int)) = true := by rw [decide_eq_true_eq]; omega
    clear hbig
    go_wp2_with fail
    go_ret
    exact ⟨rfl, B1.out⟩
  have d1 : decide ((3000 : Int) < (l.length : Int)) = false := by rw [decide_eq_false_iff_not]; omega
  go_wp2_with fail
  refine (newFinder_any _ l w1 (HB.out.old B1.out) (by omega)).mono ?_
  rintro e w3 ⟨f, rfl, hF, hb3⟩
  obtain ⟨g, bs, rfl, hFV, hbs⟩ := hF.fv
  have B3 := Lib.hid (B1.out.trans (hb3.mono B1.out.size))
  have FV3 := Lib.hid hFV
  have BS := Lib.hid hbs
  have MP := Lib.hid (Map3.made w3)
  have hmm := @run_makeMap Try.prog
  clear hF hFV hbs hb3 d1
  go_wp2_with fail
  obtain ⟨gm, hgm⟩ : ∃ gm, w3.heap.size = gm := ⟨_, rfl⟩
  obtain ⟨w4, hw4⟩ : ∃ w4, w3.alloc (.map #[] 0) = w4 := ⟨_, rfl⟩
  have ST : Hid (FoundI w l (.pointer (some ⟨g, 0, none⟩)) bs gm 0 w4) := Lib.hid (by
    have b1 : Below w3.heap.size w3 w4 := by rw [← hw4]; exact (Below.refl _ _).alloc (Nat.le_refl _) _
    refine ⟨?_, FV3.out.keep (KeepB.below b1 b1.size (fun b hb => (BS.out b hb).2)), B3.out.trans (b1.mono B3.out.size), by rw [← hgm]; exact B3.out.size, fun b hb => ⟨Nat.lt_of_lt_of_le (BS.out b hb).2 b1.size, by have := (BS.out b hb).2; omega⟩⟩
    rw [← hgm, ← hw4]; exact MP.out)
  rw [hw4, hgm]
  clear hw4 hmm hgm MP
  go_loopw [25] (fun i V => ∃ k : Nat, k ≤ l.length ∧ i = .int .i64 k ∧ FoundI w l (.pointer (some ⟨g, 0, none⟩)) bs gm k V) (fun i _ => l.length - (intOf i).toNat)
  case atStart => exact ⟨0, Nat.zero_le _, rfl, ST.out⟩
  case round =>
    obtain ⟨k, hk, rfl, hst⟩ := hrel
    have HS := Lib.hid hst
    clear hst
    by_cases hkl : k < l.length
    · have f1 : decide ((k : Int) < (l.length : Int)) = true := by rw [decide_eq_true_eq]; omega
      have f2 : decide (k < l.length) = true := by rw [decide_eq_true_eq]; omega
      have FA : Hid (∃ a b : Nat, ∃ ok : Bool, lastT (betterL (some l) (k : Int)) = (a, b) ∧ decide (0 < a) = ok ∧ a ≤ 258 ∧ b ≤ 32768 ∧ ((ok = false ∧ (k + 3 ≤ l.length → cntQ l k (bytes3 l k) = 0)) ∨ (ok = true ∧ 3 ≤ a ∧ 1 ≤ b ∧ b ≤ k ∧ a = commonOf l (k - b) k ∧ k + a ≤ l.length ∧ 0 < cntQ l k (bytes3 l k)))) := Lib.hid (by
        rcases found_at l k hkl (by omega) with ⟨n1, n2⟩ | ⟨⟨a, b⟩, n1, n2, n3, n4, n5, n6, n7, n8⟩
        · exact ⟨0, 0, false, by rw [n1]; rfl, rfl, by omega, by omega, .inl ⟨rfl, n2⟩⟩
        · exact ⟨a, b, true, n1, by rw [decide_eq_true_eq]; simp only at n2; omega, n3, by simp only at n5; omega, .inr ⟨rfl, n2, n4, n5, n6, n7, n8⟩⟩)
      go_wp2_with fail
      refine (longest_any bs (k : Int) (some ⟨g, 0, none⟩) (some l) wr (by omega) (by have : lenO (some l) = l.length := rfl; omega) HS.out.fin (fun b hb => (HS.out.bl b hb).1)).mono ?_
      rintro e w5 ⟨rfl, hb5⟩
      have hS := HS.out
      have gl : gm < wr.heap.size := by
        obtain ⟨D, h1, _⟩ := hS.map
        exact h1.lt
      have F5 : Hid (FoundI w l (.pointer (some ⟨g, 0, none⟩)) bs gm k w5) := Lib.hid (hS.low hb5)
      obtain ⟨a, b, ok, hT, hok, ha, hbb, hcase⟩ := FA.out
      rw [hT]
      simp only
      rw [hok, show tokC (a, b) = #[.int .i64 (a : Int), .int .i64 (b : Int)] from rfl]
      have CASE := Lib.hid hcase
      clear hb5 hS gl FA hT hok hcase
      by_cases h3 : k + 3 ≤ l.length
      · have g1 : decide ((l.length : Int) < (k : Int) + 3) = false := by rw [decide_eq_false_iff_not]; omega
        have ba : Below w5.heap.size w5 (w5.alloc (.cells #[.int .i64 (a : Int), .int .i64 (b : Int)] 24)) := (Below.refl _ _).alloc (Nat.le_refl _) _
        have TX := Lib.hid (HB.out.old (F5.out.below.trans (ba.mono F5.out.below.size)))
        obtain ⟨av', cap', hv', hcell⟩ := TX.out.read
        obtain ⟨bt, off, rfl, e0⟩ := hcell k (by omega)
        obtain ⟨b', off', hb', e1⟩ := hcell (k + 1) (by omega)
        obtain ⟨b2, off2, hb2, e2⟩ := hcell (k + 2) (by omega)
        simp only [Option.some.injEq, Addr.mk.injEq, and_true] at hb' hb2
        obtain ⟨rfl, rfl⟩ := hb'
        obtain ⟨rfl, rfl⟩ := hb2
        simp only [Value.slice.injEq, true_and] at hv'
        obtain ⟨rfl, rfl⟩ := hv'
        have hbe : bytes3 l k = (l[k], l[k + 1], l[k + 2]) := by
          unfold bytes3
          rw [List.getD_eq_getElem?_getD, List.getD_eq_getElem?_getD, List.getD_eq_getElem?_getD, List.getElem?_eq_getElem (by omega), List.getElem?_eq_getElem (by omega), List.getElem?_eq_getElem (by omega)]
          rfl
        have CS := CASE.out
        have CQ : ∀ q, cntQ l (k + 1) q = if q = bytes3 l k then cntQ l k q + 1 else cntQ l k q := fun q => by
          rw [cntQ]
          by_cases e : q = bytes3 l k
          · rw [if_pos ⟨h3, e⟩, if_pos e]
          · rw [if_neg (fun h => e h.2), if_neg e]
        rw [hbe] at CS CQ
        generalize l[k] = x at *
        generalize l[k + 1] = y at *
        generalize l[k + 2] = z at *
        have CS := Lib.hid CS
        have CQ := Lib.hid CQ
        have E0 := fun O : Obj => cell_old ((Below.refl _ _).alloc (Nat.le_refl _) O) e0
        have E1 := fun O : Obj => cell_old ((Below.refl _ _).alloc (Nat.le_refl _) O) e1
        have E2 := fun O : Obj => cell_old ((Below.refl _ _).alloc (Nat.le_refl _) O) e2
        have s1 : IntKind.i64.wrap ((k : Int) + 1) = (k : Int) + 1 := IntWalk.i64_in _ (by omega)
        have s2 : IntKind.i64.wrap ((k : Int) + 2) = (k : Int) + 2 := IntWalk.i64_in _ (by omega)
        have t1 : ((k : Int) + 1).toNat = k + 1 := by omega
        have t2 : ((k : Int) + 2).toNat = k + 2 := by omega
        clear hcell CASE hbe ba
        go_wp2_with fail
        go_region
        clear e0 e1 e2 E0 E1 E2 s1 s2 t1 t2
        obtain ⟨w7, hw7⟩ : ∃ w7, ((w5.alloc (.cells #[.int .i64 (a : Int), .int .i64 (b : Int)] 24)).alloc (.cells #[.int .u8 (x.toNat : Int), .int .u8 (y.toNat : Int), .int .u8 (z.toNat : Int)] 43)).drew = w7 := ⟨_, rfl⟩
        have b57 : Below w5.heap.size w5 w7 := by rw [← hw7]; exact (((Below.refl _ _).alloc (Nat.le_refl _) _).alloc (by simp) _).drew
        obtain ⟨Z, hZ⟩ : ∃ Z, w5.heap.size = Z := ⟨_, rfl⟩
        have z0 : w7.heap[Z]? = some (.cells #[.int .i64 (a : Int), .int .i64 (b : Int)] 24 (0, 0)) := by rw [← hw7, ← hZ]; exact heap_new0 _ _ _
        have z1 : w7.heap[Z + 1]? = some (.cells #[.int .u8 (x.toNat : Int), .int .u8 (y.toNat : Int), .int .u8 (z.toNat : Int)] 43 (0, 0)) := by rw [← hw7, ← hZ]; exact heap_new1 _ _ _
        have F7 : Hid (FoundI w l (.pointer (some ⟨g, 0, none⟩)) bs gm k w7) := Lib.hid (F5.out.low b57)
        have T7 := Lib.hid (HB.out.old F7.out.below)
        rw [hw7, hZ]
        have Z0 := Lib.hid z0
        have Z1 := Lib.hid z1
        have c0 : w7.cell? ⟨Z, 0, none⟩ = some (.int .i64 (a : Int)) := by rw [cell_of_row _ _ 0 _ _ _ z0]; rfl
        have c1 : w7.cell? ⟨Z, 1, none⟩ = some (.int .i64 (b : Int)) := by rw [cell_of_row _ _ 1 _ _ _ z0]; rfl
        have n0 : w7.cell? ⟨Z + 1, 0, none⟩ = some (.int .u8 (x.toNat : Int)) := by rw [cell_of_row _ _ 0 _ _ _ z1]; rfl
        have n1 : w7.cell? ⟨Z + 1, 1, none⟩ = some (.int .u8 (y.toNat : Int)) := by rw [cell_of_row _ _ 1 _ _ _ z1]; rfl
        have n2 : w7.cell? ⟨Z + 1, 2, none⟩ = some (.int .u8 (z.toNat : Int)) := by rw [cell_of_row _ _ 2 _ _ _ z1]; rfl
        clear hw7 hZ b57 z0 z1 TX F5
        go_wp2_with (at_lookup; refine stop ?_)
        refine unstop (wpList_look3' rfl _ _ rfl gm k (cntF l k) rfl F7.out.map x y z rfl ?_)
        rw [cntF_getD]
        have hl4 : l.length ≤ 3000 := by omega
        rcases CS.out with ⟨rfl, n3⟩ | ⟨rfl, n3, n4, n5, n6, n7, n8⟩
        case' inl =>
          rw [n3 h3, show ((0 : Nat) : Int) = 0 from rfl]
          clear n3
          go_upto_region 21 with (fail)
          have FZ : Hid (FoundI w l (.pointer (some ⟨g, 0, none⟩)) bs gm k w7) := F7
          have NZ : Hid (w7.heap[Z + 1]? = some (.cells #[.int .u8 (x.toNat : Int), .int .u8 (y.toNat : Int), .int .u8 (z.toNat : Int)] 43 (0, 0))) := Z1
          obtain ⟨wz, hwz⟩ : ∃ wz, w7 = wz := ⟨_, rfl⟩
        case' inr =>
          have V1 : Hid (∀ W, Bs W (.slice (some ⟨bt, off, none⟩) l.length cap) l → Calls Try.prog 8 #[.slice (some ⟨bt, off, none⟩) l.length cap, .int .i64 (k : Int), .agg #[.int .i64 (a : Int), .int .i64 (b : Int)]] W fun e w' => e = .returned (.bool true) ∧ Below W.heap.size W w') := Lib.hid (fun W hW => by
            have h := verify_good _ l k a b W hW (by omega) ⟨n3, ha, n4, hbb, n5, n7⟩
            rw [show decide (a ≤ commonOf l (k - b) k) = true from decide_eq_true (by omega)] at h
            exact h)
          have V2 : Hid (∀ W, Bs W (.slice (some ⟨bt, off, none⟩) l.length cap) l → a < 258 → Calls Try.prog 8 #[.slice (some ⟨bt, off, none⟩) l.length cap, .int .i64 (k : Int), .agg #[.int .i64 ((a : Int) + 1), .int .i64 (b : Int)]] W fun e w' => e = .returned (.bool false) ∧ Below W.heap.size W w') := Lib.hid (fun W hW h258 => by
            by_cases hfit : k + (a + 1) ≤ l.length
            · have h := verify_good _ l k (a + 1) b W hW (by omega) ⟨by omega, by omega, n4, hbb, n5, hfit⟩
              rw [show decide (a + 1 ≤ commonOf l (k - b) k) = false from decide_eq_false (by omega)] at h
              exact h
            · exact verify_bad _ l (k : Int) ((a : Int) + 1) (b : Int) W hW (by omega) (by omega) (by omega) (by omega) (by omega))
          obtain ⟨c, hc⟩ : ∃ c, cntQ l k (x, y, z) = c := ⟨_, rfl⟩
          rw [hc] at n8 ⊢
          have p1 : decide ((0 : Int) < (c : Int)) = true := by rw [decide_eq_true_eq]; omega
          have p2 : decide (0 < c) = true := by rw [decide_eq_true_eq]; exact n8
          clear hc n6
          go_wp2_with fail
          refine (V1.out w7 T7.out).mono ?_; rintro e w8 ⟨rfl, hb8⟩
          have B8 := Lib.hid hb8
          have d0 := cell_old hb8 c0
          have d1 := cell_old hb8 c1
          have NZ8 : Hid (w8.heap[Z + 1]? = some (.cells #[.int .u8 (x.toNat : Int), .int .u8 (y.toNat : Int), .int .u8 (z.toNat : Int)] 43 (0, 0))) := Lib.hid (by rw [hb8.block _ (Array.getElem?_eq_some_iff.1 Z1.out).1]; exact Z1.out)
          have F8 := Lib.hid (F7.out.low hb8)
          have T8 := Lib.hid (T7.out.old hb8)
          clear hb8 c0 c1 n0 n1 n2
          by_cases h258 : a < 258
          case' pos =>
            have i1 : decide ((a : Int) < 258) = true := by rw [decide_eq_true_eq]; omega
            have i2 : decide (a < 258) = true := by rw [decide_eq_true_eq]; exact h258
            go_wp2_with fail
            refine (V2.out w8 T8.out h258).mono ?_; rintro e w9 ⟨rfl, hb9⟩
            have NZ : Hid (w9.heap[Z + 1]? = some (.cells #[.int .u8 (x.toNat : Int), .int .u8 (y.toNat : Int), .int .u8 (z.toNat : Int)] 43 (0, 0))) := Lib.hid (by rw [hb9.block _ (Array.getElem?_eq_some_iff.1 NZ8.out).1]; exact NZ8.out)
            have FZ := Lib.hid (F8.out.low hb9)
            clear hb9 d0 d1
            go_upto_region 21 with (fail)
            obtain ⟨wz, hwz⟩ : ∃ wz, w9 = wz := ⟨_, rfl⟩
          case' neg =>
            obtain rfl : a = 258 := by omega
            have i1 : ((258 : Nat) : Int) = 258 := rfl
            rw [i1] at d0 ⊢
            go_upto_region 21 with (fail)
            have FZ : Hid (FoundI w l (.pointer (some ⟨g, 0, none⟩)) bs gm k w8) := F8
            have NZ : Hid (w8.heap[Z + 1]? = some (.cells #[.int .u8 (x.toNat : Int), .int .u8 (y.toNat : Int), .int .u8 (z.toNat : Int)] 43 (0, 0))) := NZ8
            obtain ⟨wz, hwz⟩ : ∃ wz, w8 = wz := ⟨_, rfl⟩
        all_goals
          rw [hwz] at FZ NZ
          rw [hwz]
          have m0 : wz.cell? ⟨Z + 1, 0, none⟩ = some (.int .u8 (x.toNat : Int)) := by rw [cell_of_row _ _ 0 _ _ _ NZ.out]; rfl
          have m1 : wz.cell? ⟨Z + 1, 1, none⟩ = some (.int .u8 (y.toNat : Int)) := by rw [cell_of_row _ _ 1 _ _ _ NZ.out]; rfl
          have m2 : wz.cell? ⟨Z + 1, 2, none⟩ = some (.int .u8 (z.toNat : Int)) := by rw [cell_of_row _ _ 2 _ _ _ NZ.out]; rfl
          clear hwz
          have MD : Map3 wz.drew gm k (cntF l k) := FZ.out.map.kept (row := none) ⟨rfl, rfl, rfl, Nat.le_refl _, fun _ _ _ => rfl⟩ (by simp)
          have hL0 := MD.look x y z
          obtain ⟨W1, v0, st, hE, hM1, hSt⟩ := MD.incr (by unfold maxLen; omega) x y z
          have hL1 := hM1.look x y z
          rw [if_pos rfl, Option.getD_some] at hL1
          rw [cntF_getD] at hL0 hL1
          obtain ⟨c, hc⟩ : ∃ c, cntQ l k (x, y, z) = c := ⟨_, rfl⟩
          have hcl : c ≤ 3000 := by have := cntQ_le l (x, y, z) k; omega
          rw [hc] at hL0 hL1
          obtain ⟨W2, hS2, hM2, hg2⟩ := hSt ((c : Int) + 1) (by simp [Lit.wf, IntKind.min, IntKind.max, IntKind.signed, IntKind.bits]; omega)
          have hM3 : Map3 W2 gm (k + 1) (cntF l (k + 1)) := hM2.congr (fun q => by
            have e := CQ.out q
            unfold cntF
            rw [e]
            by_cases hq : q = (x, y, z)
            · subst hq
              rw [if_pos rfl, if_pos rfl, if_neg (by omega), hc]
              congr 1
            · rw [if_neg hq, if_neg hq])
          have FI : Hid (FoundI w l (.pointer (some ⟨g, 0, none⟩)) bs gm (k + 1) W2) := Lib.hid (by
            have h := FZ.out
            exact ⟨hM3, h.fin.keep ⟨hg2.size, fun b hb => hg2.block b (h.bl b hb).1 (fun e => (h.bl b hb).2 (Option.some.inj e))⟩, (Below.drew h.below).grown hg2 h.below.size (fun j hj => by cases hj; exact h.m0), h.m0, fun b hb => ⟨Nat.lt_of_lt_of_le (h.bl b hb).1 hg2.size, (h.bl b hb).2⟩⟩)
          have s9 : IntKind.i64.wrap ((c : Int) + 1) = (c : Int) + 1 := IntWalk.i64_in _ (by omega)
          unfold key3 at hL0 hL1 hE
          clear hM1 hSt hM2 hM3 hg2 MD hc
          go_region
          clear hL0 hL1 hE hS2 m0 m1 m2 s9
          go_wp2_with fail
          go_roundw
          case rel => exact ⟨k + 1, by omega, by go_num, FI.out⟩
          case measure => simp [intOf]; omega
      · have g1 : decide ((l.length : Int) < (k : Int) + 3) = true := by rw [decide_eq_true_eq]; omega
        obtain rfl : ok = false := by
          rcases CASE.out with ⟨h, _⟩ | ⟨_, h⟩
          · exact h
          · omega
        have FI : Hid (FoundI w l (.pointer (some ⟨g, 0, none⟩)) bs gm (k + 1) (w5.alloc (.cells #[.int .i64 (a : Int), .int .i64 (b : Int)] 24))) := Lib.hid (by
          have h := F5.out.low ((Below.refl _ _).alloc (Nat.le_refl _) (.cells #[.int .i64 (a : Int), .int .i64 (b : Int)] 24))
          exact ⟨(h.map.mono (Nat.le_succ k)).congr (fun q => cntF_end h3 q), h.fin, h.below, h.m0, h.bl⟩)
        clear h3
        go_wp2_with fail
        go_roundw
        case rel => exact ⟨k + 1, by omega, by go_num, FI.out⟩
        case measure => simp [intOf]; omega
    · obtain rfl : k = l.length := by omega
      have f1 : decide ((l.length : Int) < (l.length : Int)) = false := by rw [decide_eq_false_iff_not]; omega
      have BL := Lib.hid HS.out.below
      go_wp2_with fail
      go_ret
      exact ⟨rfl, BL.out⟩
end Go.Proofs.Ytbfpofgbapkkeaa
