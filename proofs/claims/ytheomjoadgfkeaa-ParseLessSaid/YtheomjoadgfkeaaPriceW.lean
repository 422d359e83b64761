/- parse.Price walked. By an AI agent. -/
import Derived.Test.YtheomjoadgfkeaaPrice
import Derived.Test.YtheomjoadgfkeaaTok
import Derived.Test.YtheomjoadgfkeaaErr
namespace Go.Proofs.Ytheomjoadgfkeaa
open Go.RowKit
set_option linter.unusedVariables false
set_option linter.unusedSimpArgs false

def gT (t : Int × Int) : Bool := goodT t.1 t.2
def sumT (a b c : List Int) (ts : List (Int × Int)) : Int := (ts.map (prT a b c)).sum
theorem sumT_nil (a b c : List Int) : sumT a b c [] = 0 := rfl
theorem sumT_app (a b c : List Int) (ts : List (Int × Int)) (t : Int × Int) : sumT a b c (ts ++ [t]) = sumT a b c ts + prT a b c t := by simp [sumT]
theorem sumT_in {a b c : List Int} (h : goodP a b c = true) : ∀ ts : List (Int × Int), ts.all gT = true → 0 ≤ sumT a b c ts ∧ sumT a b c ts ≤ 2097152 * ts.length
  | [], _ => ⟨Int.le_refl _, Int.le_refl _⟩
  | t :: ts, ht => by
    rw [List.all_cons, Bool.and_eq_true] at ht
    have i1 := prT_in h (t := t) ht.1
    have i2 := sumT_in h ts ht.2
    have e : sumT a b c (t :: ts) = prT a b c t + sumT a b c ts := by simp [sumT]
    rw [e, List.length_cons]
    omega
theorem all_step {ts : List (Int × Int)} {k : Nat} (h : k < ts.length) : (ts.take (k + 1)).all gT = ((ts.take k).all gT && gT ts[k]) := by
  rw [List.take_succ_eq_append_getElem h, List.all_append]; simp only [List.all_cons, List.all_nil, Bool.and_true]
theorem all_bad {ts : List (Int × Int)} {k : Nat} (h : k < ts.length) (hb : gT ts[k] = false) : ts.all gT = false := by
  rw [List.all_eq_false]; exact ⟨ts[k], List.getElem_mem h, by simp [hb]⟩

/-- what parse.Price answers -/
def priceA (a b c : List Int) (ts : List (Int × Int)) : Int × Int := if goodP a b c && ts.all gT then (sumT a b c ts, 0) else (0, 6)

set_option maxRecDepth 20000 in
set_option maxHeartbeats 3200000 in
theorem price_any (vt u v x : Value) (ts : List (Int × Int)) (a b c : List Int) (w : World) (ht : Tk w vt ts) (hlen : ts.length ≤ 3000) (hin : ∀ t ∈ ts, In1 t.1 ∧ In1 t.2) (hu : Ns w u a) (hv : Ns w v b) (hx : Ns w x c) (ha : a.length ≤ 1000) (hb : b.length ≤ 1000) (hc : c.length ≤ 1000) :
    Calls Try.prog 13 #[vt, .agg #[u, v, x]] w fun e w' => e = .returned (.tuple #[.int .i64 (priceA a b c ts).1, errV (priceA a b c ts).2]) ∧ Below w.heap.size w w' := by
  obtain ⟨w1, hw1⟩ : ∃ w1, w1 = w.alloc (.cells #[u, v, x] 38) := ⟨_, rfl⟩
  have hw : Below w.heap.size w w1 := by rw [hw1]; exact (Below.refl _ _).alloc (Nat.le_refl _) _
  have k0 : w1.cell? ⟨w.heap.size, 0, none⟩ = some u := by rw [hw1, cell_of_row _ w.heap.size 0 _ _ (0, 0) (heap_alloc_new _ _)]; rfl
  have k1 : w1.cell? ⟨w.heap.size, 1, none⟩ = some v := by rw [hw1, cell_of_row _ w.heap.size 1 _ _ (0, 0) (heap_alloc_new _ _)]; rfl
  have k2 : w1.cell? ⟨w.heap.size, 2, none⟩ = some x := by rw [hw1, cell_of_row _ w.heap.size 2 _ _ (0, 0) (heap_alloc_new _ _)]; rfl
  have HZ1 : Hid (w.heap.size < w1.heap.size) := Lib.hid (by rw [hw1]; simp)
  have S := sound_any u v x a b c w1 (hu.old hw) (hv.old hw) (hx.old hw) ha hb hc
  obtain ⟨at_, ct, rfl, hcell⟩ := ht
  have HT := Lib.hid hcell
  have HW := Lib.hid hw
  have HU := Lib.hid (hu.old hw)
  have HV := Lib.hid (hv.old hw)
  have HX := Lib.hid (hx.old hw)
  have HIN := Lib.hid hin
  obtain ⟨ea, eb, hE⟩ : ∃ ea eb, priceA a b c ts = (ea, eb) := ⟨_, _, rfl⟩
  rw [hE]
  have HE := Lib.hid hE
  have hn3 : (ts.length : Int) ≤ 3000 := by omega
  obtain ⟨g, hg⟩ : ∃ g, goodP a b c = g := ⟨_, rfl⟩
  rw [hg] at S
  have HG := Lib.hid hg
  clear hcell hw hu hv hx ha hb hc hin hE hg
  go_enter Try.func13, Try.ntmps13
  go_wp2_with fail
  rw [← hw1]
  clear hw1
  refine S.mono ?_
  rintro e w2 ⟨rfl, hb2⟩
  cases g
  · have HB : Hid (Below w.heap.size w w2) := Lib.hid (HW.out.trans (hb2.mono HW.out.size))
    have hea : ea = 0 ∧ eb = 6 := by have h := HE.out; unfold priceA at h; rw [HG.out] at h; simp at h; exact ⟨h.1.symm, h.2.symm⟩
    obtain ⟨rfl, rfl⟩ := hea
    clear hb2 HE HG S k0 k1 k2
    go_wp2_with fail
    go_ret2
    exact ⟨rfl, HB.out⟩
  have HB : Hid (Below w.heap.size w w2) := Lib.hid (HW.out.trans (hb2.mono HW.out.size))
  have HU2 := Lib.hid (HU.out.old hb2)
  have HV2 := Lib.hid (HV.out.old hb2)
  have HX2 := Lib.hid (HX.out.old hb2)
  have HZ2 : Hid (w.heap.size < w2.heap.size) := Lib.hid (by have := HZ1.out; have := hb2.size; omega)
  have K0 := Lib.hid (cell_old hb2 k0)
  have K1 := Lib.hid (cell_old hb2 k1)
  have K2 := Lib.hid (cell_old hb2 k2)
  clear hb2 S k0 k1 k2 HU HV HX HW
  go_wp2_with fail
  go_loopw [6, 17] (fun s i w' => ∃ k : Nat, k ≤ ts.length ∧ i = .int .i64 k ∧ s = .int .i64 (sumT a b c (ts.take k)) ∧ (ts.take k).all gT = true ∧ Below w2.heap.size w2 w') (fun _ i _ => ts.length - (intOf i).toNat)
  case atStart => exact ⟨0, Nat.zero_le _, rfl, by rw [List.take_zero, sumT_nil], by rw [List.take_zero]; rfl, Below.refl _ _⟩
  case round =>
    obtain ⟨k, hk, rfl, rfl, hall, hbl⟩ := hrel
    have AL := Lib.hid hall
    have BL := Lib.hid hbl
    have j0 := cell_old hbl K0.out
    have j1 := cell_old hbl K1.out
    have j2 := cell_old hbl K2.out
    have nA : ¬ w.heap.size = wr.heap.size := by have := HZ2.out; have := hbl.size; omega
    have nA' : ¬ wr.heap.size = w.heap.size := Ne.symm nA
    have hsum := sumT_in HG.out _ hall
    have hle : ((ts.take k).length : Int) ≤ 3000 := by rw [List.length_take]; omega
    obtain ⟨s, hs⟩ : ∃ s, sumT a b c (ts.take k) = s := ⟨_, rfl⟩
    rw [hs] at hsum ⊢
    have HS := Lib.hid hs
    have hs1 : 0 ≤ s ∧ s ≤ 6291456000 := by omega
    clear hall hs hsum hle
    by_cases hkl : k < ts.length
    · have f1 : decide ((k : Int) < (ts.length : Int)) = true := by rw [decide_eq_true_eq]; omega
      have f2 : decide (k < ts.length) = true := by rw [decide_eq_true_eq]; omega
      obtain ⟨bb, off, rfl, hc1, hc2⟩ := HT.out k hkl
      have hc1' := cell_old HB.out hc1
      have hc2' := cell_old HB.out hc2
      have hc1'' := cell_old hbl hc1'
      have hc2'' := cell_old hbl hc2'
      obtain ⟨i1, i2⟩ := HIN.out _ (List.getElem_mem hkl)
      have ST := Lib.hid (all_step hkl)
      have SB := Lib.hid (all_bad hkl)
      have SP : Hid (sumT a b c (ts.take (k + 1)) = s + prT a b c ts[k]) := Lib.hid (by rw [List.take_succ_eq_append_getElem hkl, sumT_app, HS.out])
      have PI : Hid (gT ts[k] = true → 0 ≤ prT a b c ts[k] ∧ prT a b c ts[k] ≤ 2097152) := Lib.hid (fun h => prT_in HG.out h)
      generalize hq : ts[k] = q at *
      obtain ⟨ta, tb⟩ := q
      simp only at hc1'' hc2'' i1 i2
      clear hc1 hc2 hc1' hc2' hbl hq
      have ba : Below wr.heap.size wr (wr.alloc (.cells #[.int .i64 ta, .int .i64 tb] 27)) := (Below.refl _ _).alloc (Nat.le_refl _) _
      have q0 := cell_old ba j0
      have q1 := cell_old ba j1
      have q2 := cell_old ba j2
      clear ba
      cases hgt : goodT ta tb
      · have hea : ea = 0 ∧ eb = 6 := by
          have h := HE.out
          unfold priceA at h
          rw [SB.out hgt, Bool.and_false] at h
          simp at h
          exact ⟨h.1.symm, h.2.symm⟩
        obtain ⟨rfl, rfl⟩ := hea
        have OF := Lib.hid (fun W => of_no u v x ta tb W i1 i2 hgt)
        clear i1 i2 HE hgt
        go_wp2_with fail
        refine (OF.out _).mono ?_
        rintro e w3 ⟨rfl, hb3⟩
        have B3 : Hid (Below w.heap.size w w3) := Lib.hid (by
          have h1 := HB.out.trans (BL.out.mono HB.out.size)
          have h2 : Below wr.heap.size wr w3 := ((Below.refl _ _).alloc (Nat.le_refl _) _).trans (hb3.mono (by simp))
          exact h1.trans (h2.mono h1.size))
        clear hb3
        go_wp2_with fail
        go_ret2
        exact ⟨rfl, B3.out⟩
      · obtain ⟨p, hp⟩ : ∃ p, prT a b c (ta, tb) = p := ⟨_, rfl⟩
        have pi := PI.out hgt
        rw [hp] at pi SP
        have OF := Lib.hid (fun W (h1 : Ns W u a) (h2 : Ns W v b) (h3 : Ns W x c) => of_yes u v x a b c ta tb W h1 h2 h3 HG.out hgt)
        rw [hp] at OF
        have GT := Lib.hid hgt
        clear i1 i2 HE hgt PI hp
        go_wp2_with fail
        have ha : Below wr.heap.size wr (wr.alloc (.cells #[.int .i64 ta, .int .i64 tb] 27)) := (Below.refl _ _).alloc (Nat.le_refl _) _
        have hA := BL.out.trans (ha.mono BL.out.size)
        refine (OF.out _ (HU2.out.old hA) (HV2.out.old hA) (HX2.out.old hA)).mono ?_
        rintro e w3 ⟨rfl, hb3⟩
        have B3 : Hid (Below w2.heap.size w2 w3) := Lib.hid (hA.trans (hb3.mono hA.size))
        clear hb3 ha hA
        go_wp2_with fail
        go_roundw
        case rel => exact ⟨k + 1, by omega, by go_num, by rw [SP.out], by rw [ST.out, AL.out]; exact GT.out, B3.out⟩
        case measure => simp [intOf]; omega
    · obtain rfl : k = ts.length := by omega
      have hea : ea = s ∧ eb = 0 := by
        have h := HE.out
        have h2 := AL.out
        have h3 := HS.out
        rw [List.take_length] at h2 h3
        unfold priceA at h
        rw [h2, HG.out, h3] at h
        simp at h
        exact ⟨h.1.symm, h.2.symm⟩
      obtain ⟨rfl, rfl⟩ := hea
      have f1 : decide ((ts.length : Int) < (ts.length : Int)) = false := by rw [decide_eq_false_iff_not]; omega
      clear j0 j1 j2 HE
      go_wp2_with fail
      go_ret2
      exact ⟨rfl, HB.out.trans (BL.out.mono HB.out.size)⟩
end Go.Proofs.Ytheomjoadgfkeaa
