/- SumsParts: the law's walk. By an AI agent. -/
import Derived.Test.YtfkdfdcnmbaheaaWalkA
import Derived.Test.YtfkdfdcnmbaheaaWalkC
import Derived.Test.YtfkdfdcnmbaheaaNum
namespace Go.Proofs.Ytfkdfdcnmbaheaa
open Go.RowKit
set_option linter.unusedVariables false
set_option linter.unusedSimpArgs false

theorem bss_nil (w : World) : Bss w (.slice none 0 0) [] := ⟨[], ⟨rfl, .inl ⟨none, 0, rfl, rfl⟩⟩, fun i hi => absurd hi (Nat.not_lt_zero i)⟩
theorem adler_none (w : World) : Calls Try.prog 12 #[.slice none 0 0] w fun e w' => e = .returned (.int .i64 1) ∧ w = w' := by
  have h := adler_any _ [] w (bss_nil w) (by simp) (by simp)
  have e : adler ([] : List (List UInt8)).flatten = 1 := by decide +kernel
  rw [e] at h
  exact h
theorem bss_two {w : World} {g : Nat} {v1 v2 : Value} {t : TypeId} {fr : Nat × Nat} {l1 l2 : List UInt8} (h : w.heap[g]? = some (.cells #[v1, v2] t fr)) (hb1 : Bs w v1 l1) (hb2 : Bs w v2 l2) : Bss w (.slice (some ⟨g, 0, none⟩) 2 2) [l1, l2] :=
  bss_heap [l1, l2] h rfl (Nat.le_refl _) rfl fun i hi => by
    match i, hi with
    | 0, _ => exact ⟨v1, rfl, hb1⟩
    | 1, _ => exact ⟨v2, rfl, hb2⟩
theorem bss_three {w : World} {g : Nat} {v1 v2 v3 : Value} {t : TypeId} {fr : Nat × Nat} {l1 l2 l3 : List UInt8} (h : w.heap[g]? = some (.cells #[v1, v2, v3] t fr)) (hb1 : Bs w v1 l1) (hb2 : Bs w v2 l2) (hb3 : Bs w v3 l3) : Bss w (.slice (some ⟨g, 0, none⟩) 3 3) [l1, l2, l3] :=
  bss_heap [l1, l2, l3] h rfl (Nat.le_refl _) rfl fun i hi => by
    match i, hi with
    | 0, _ => exact ⟨v1, rfl, hb1⟩
    | 1, _ => exact ⟨v2, rfl, hb2⟩
    | 2, _ => exact ⟨v3, rfl, hb3⟩

theorem crc_three (w : World) (va vb vc : Value) (la lb lc lall : List UInt8) (t : TypeId) (hall : lall = la ++ lb ++ lc) (ha : Bs w va la) (hb : Bs w vb lb) (hc : Bs w vc lc) (hla : la.length ≤ 1048576) (hlb : lb.length ≤ 1048576) (hlc : lc.length ≤ 1048576) :
    Calls Try.prog 14 #[.slice (some ⟨w.heap.size, 0, none⟩) 3 3] (w.alloc (.cells #[va, vb, vc] t)) fun e w' => e = .returned (.int .i64 (crc lall)) ∧ Below w.heap.size w w' := by
  have hw : Below w.heap.size w (w.alloc (.cells #[va, vb, vc] t)) := (Below.refl _ _).alloc (Nat.le_refl _) _
  refine (crc_any _ [la, lb, lc] _ (bss_three (heap_alloc_new _ _) (ha.old hw) (hb.old hw) (hc.old hw)) (by simp; omega) (by simp)).mono fun e w' h => ?_
  obtain ⟨rfl, rfl⟩ := h
  subst hall
  exact ⟨by simp, hw⟩
theorem crc_one (w : World) (va : Value) (la : List UInt8) (t : TypeId) (ha : Bs w va la) (hla : la.length ≤ 140737488355328) :
    Calls Try.prog 14 #[.slice (some ⟨w.heap.size, 0, none⟩) 1 1] (w.alloc (.cells #[va] t)) fun e w' => e = .returned (.int .i64 (crc la)) ∧ Below w.heap.size w w' := by
  have hw : Below w.heap.size w (w.alloc (.cells #[va] t)) := (Below.refl _ _).alloc (Nat.le_refl _) _
  refine (crc_any _ [la] _ (bss_one (heap_alloc_new _ _) (ha.old hw)) (by simpa using hla) (by simp)).mono fun e w' h => ?_
  obtain ⟨rfl, rfl⟩ := h
  exact ⟨by simp, hw⟩
theorem adler_three (w : World) (va vb vc : Value) (la lb lc lall : List UInt8) (t : TypeId) (hall : lall = la ++ lb ++ lc) (ha : Bs w va la) (hb : Bs w vb lb) (hc : Bs w vc lc) (hla : la.length ≤ 1048576) (hlb : lb.length ≤ 1048576) (hlc : lc.length ≤ 1048576) :
    Calls Try.prog 12 #[.slice (some ⟨w.heap.size, 0, none⟩) 3 3] (w.alloc (.cells #[va, vb, vc] t)) fun e w' => e = .returned (.int .i64 (adler lall)) ∧ Below w.heap.size w w' := by
  have hw : Below w.heap.size w (w.alloc (.cells #[va, vb, vc] t)) := (Below.refl _ _).alloc (Nat.le_refl _) _
  refine (adler_any _ [la, lb, lc] _ (bss_three (heap_alloc_new _ _) (ha.old hw) (hb.old hw) (hc.old hw)) (by simp; omega) (by simp)).mono fun e w' h => ?_
  obtain ⟨rfl, rfl⟩ := h
  subst hall
  exact ⟨by simp, hw⟩
theorem adler_one (w : World) (va : Value) (la : List UInt8) (t : TypeId) (ha : Bs w va la) (hla : la.length ≤ 140737488355328) :
    Calls Try.prog 12 #[.slice (some ⟨w.heap.size, 0, none⟩) 1 1] (w.alloc (.cells #[va] t)) fun e w' => e = .returned (.int .i64 (adler la)) ∧ Below w.heap.size w w' := by
  have hw : Below w.heap.size w (w.alloc (.cells #[va] t)) := (Below.refl _ _).alloc (Nat.le_refl _) _
  refine (adler_any _ [la] _ (bss_one (heap_alloc_new _ _) (ha.old hw)) (by simpa using hla) (by simp)).mono fun e w' h => ?_
  obtain ⟨rfl, rfl⟩ := h
  exact ⟨by simp, hw⟩

set_option maxHeartbeats 1600000 in
theorem lawParts_any (va : Value) (la : List UInt8) (vb : Value) (lb : List UInt8) (vc : Value) (lc : List UInt8) (w : World) (ha : Bs w va la) (hla : la.length ≤ 140737488351232) (hb : Bs w vb lb) (hlb : lb.length ≤ 140737488351232) (hc : Bs w vc lc) (hlc : lc.length ≤ 140737488351232) :
    Calls Try.prog 6 #[va, vb, vc] w fun e w' => e = .returned (.bool true) ∧ Below w.heap.size w w' := by
  obtain ⟨a0, c0, rfl⟩ := ha.len
  obtain ⟨a1, c1, rfl⟩ := hb.len
  obtain ⟨a2, c2, rfl⟩ := hc.len
  by_cases hbig : 1048576 < la.length ∨ 1048576 < lb.length ∨ 1048576 < lc.length
  · have k0 : decide ((1048576 : Int) < la.length) = true ∨ (decide ((1048576 : Int) < la.length) = false ∧ decide ((1048576 : Int) < lb.length) = true) ∨ (decide ((1048576 : Int) < la.length) = false ∧ decide ((1048576 : Int) < lb.length) = false ∧ decide ((1048576 : Int) < lc.length) = true) := by
      simp only [decide_eq_true_eq, decide_eq_false_iff_not]; omega
    clear hbig hla hlb hlc ha hb hc
    rcases k0 with k0 | ⟨k0, k1⟩ | ⟨k0, k1, k2⟩
    all_goals
      go_enter Try.func6, Try.ntmps6
      go_wp2_with (go_at_call 12; refine (adler_none _).mono ?_; rintro e w' ⟨rfl, rfl⟩)
      go_ret
      exact ⟨rfl, Below.refl _ _⟩
  · have k0 : decide ((1048576 : Int) < la.length) = false := by simp only [decide_eq_false_iff_not]; omega
    have k1 : decide ((1048576 : Int) < lb.length) = false := by simp only [decide_eq_false_iff_not]; omega
    have k2 : decide ((1048576 : Int) < lc.length) = false := by simp only [decide_eq_false_iff_not]; omega
    have hs : la.length ≤ 1048576 ∧ lb.length ≤ 1048576 ∧ lc.length ≤ 1048576 := by omega
    have HS := Lib.hid hs
    clear hbig hla hlb hlc hs
    have kc := fun (w : World) (C : Array Value) (n c g : Nat) (hg : g = w.heap.size) => Joins.run_convert_bytes_const_at (P := Try.prog) w 22 5 C n c g hg Try.underlying22 Try.underlying5
    go_enter Try.func6, Try.ntmps6
    go_wp2_with (at_builtin; refine stop ?_)
    have hb0 : Below w.heap.size w (w.alloc (.cells #[] 5)) := (Below.refl _ _).alloc (Nat.le_refl _) _
    have hs0 := HS.out
    refine unstop (wpList_app tyB rfl _ _ rfl w.heap.size _ 0 [] rfl (own0 w _) _ la.length (vBs la) rfl (SlN.old ha hb0) (vBs_one la) (by omega) (by omega) (by simp) ?_)
    intro v1 w1 hown1 hg1 _
    have HB1 := Lib.hid (run_app_below (own0 w _) hg1 hb0 (Nat.le_refl _))
    have HO1 := Lib.hid hown1
    clear hb0 hs0 hown1 hg1
    go_wp2_with (at_builtin; refine stop ?_)
    have hs0 := HS.out
    refine unstop (wpList_app tyB rfl _ _ rfl w.heap.size _ _ _ rfl HO1.out _ lb.length (vBs lb) rfl (SlN.old hb HB1.out) (vBs_one lb) (by omega) (by omega) HB1.out.size ?_)
    intro v2 w2 hown2 hg2 _
    have HB2 := Lib.hid (run_app_below HO1.out hg2 HB1.out (Nat.le_refl _))
    have HO2 := Lib.hid hown2
    clear hs0 hown2 hg2 HO1 HB1
    go_wp2_with (at_builtin; refine stop ?_)
    have hs0 := HS.out
    refine unstop (wpList_app tyB rfl _ _ rfl w.heap.size _ _ _ rfl HO2.out _ lc.length (vBs lc) rfl (SlN.old hc HB2.out) (vBs_one lc) (by omega) (by omega) HB2.out.size ?_)
    intro v3 w3 hown3 hg3 _
    have hb3 := run_app_below HO2.out hg3 HB2.out (Nat.le_refl _)
    have hbs : Bs w3 v3 (la ++ lb ++ lc) := by
      have := sl_of_owns hown3
      rw [List.nil_append, ← vBs_append, ← vBs_append] at this
      simpa [Bs, Nat.add_assoc] using this
    obtain ⟨lall, hall⟩ : ∃ l, l = la ++ lb ++ lc := ⟨_, rfl⟩
    rw [← hall] at hbs
    have HALL := Lib.hid hall
    have HAL2 : Hid (lall.length ≤ 140737488355328) := Lib.hid (by rw [hall]; have := HS.out; simp; omega)
    clear hall
    obtain ⟨a3, c3, rfl⟩ := hbs.len
    have HA := Lib.hid (ha.old hb3)
    have HBb := Lib.hid (hb.old hb3)
    have HC := Lib.hid (hc.old hb3)
    have HBS := Lib.hid hbs
    have HB3 := Lib.hid hb3
    clear hs0 hown3 hg3 hbs hb3 HO2 HB2 ha hb hc
    go_wp2_with fail
    have hw : crc ([[49], [50, 51, 52, 53, 54, 55, 56, 57]] : List (List UInt8)).flatten = 3421780262 := by decide +kernel
    refine (crc_any _ [[49], [50, 51, 52, 53, 54, 55, 56, 57]] _ ?hb (by simp) (by simp)).mono ?_
    case hb => exact bss_two (heap_new2 _ _ _ _) (bs_heap (n := 1) (cap := 1) _ (heap_old (heap_new0 _ _ _)) rfl rfl (by decide)) (bs_heap (n := 8) (cap := 8) _ (heap_old (heap_new1 _ _ _)) rfl rfl (by decide))
    rintro e w4 ⟨rfl, hw4⟩
    rw [hw]
    have hb4 : Below w3.heap.size w3 w4 := by rw [← hw4]; exact (((Below.refl _ _).alloc (Nat.le_refl _) _).alloc (by simp) _).alloc (by simp; omega) _
    clear hw hw4
    have HA4 := Lib.hid (HA.out.old hb4)
    have HBb4 := Lib.hid (HBb.out.old hb4)
    have HC4 := Lib.hid (HC.out.old hb4)
    have HBS4 := Lib.hid (HBS.out.old hb4)
    have HB4 := Lib.hid (HB3.out.trans (hb4.mono HB3.out.size))
    clear hb4 HA HBb HC HBS HB3
    go_wp2_with fail
    refine (crc_three _ _ _ _ la lb lc lall _ HALL.out HA4.out HBb4.out HC4.out HS.out.1 HS.out.2.1 HS.out.2.2).mono ?_
    rintro e w5 ⟨rfl, hb5⟩
    have HA5 := Lib.hid (HA4.out.old hb5)
    have HBb5 := Lib.hid (HBb4.out.old hb5)
    have HC5 := Lib.hid (HC4.out.old hb5)
    have HBS5 := Lib.hid (HBS4.out.old hb5)
    have HB5 := Lib.hid (HB4.out.trans (hb5.mono HB4.out.size))
    clear hb5 HA4 HBb4 HC4 HBS4 HB4
    go_wp2_with fail
    refine (crc_one _ _ _ _ HBS5.out HAL2.out).mono ?_
    rintro e w6 ⟨rfl, hb6⟩
    have HA6 := Lib.hid (HA5.out.old hb6)
    have HBb6 := Lib.hid (HBb5.out.old hb6)
    have HC6 := Lib.hid (HC5.out.old hb6)
    have HBS6 := Lib.hid (HBS5.out.old hb6)
    have HB6 := Lib.hid (HB5.out.trans (hb6.mono HB5.out.size))
    clear hb6 HA5 HBb5 HC5 HBS5 HB5
    go_wp2_with fail
    refine (adler_three _ _ _ _ la lb lc lall _ HALL.out HA6.out HBb6.out HC6.out HS.out.1 HS.out.2.1 HS.out.2.2).mono ?_
    rintro e w7 ⟨rfl, hb7⟩
    have HA7 := Lib.hid (HA6.out.old hb7)
    have HBb7 := Lib.hid (HBb6.out.old hb7)
    have HC7 := Lib.hid (HC6.out.old hb7)
    have HBS7 := Lib.hid (HBS6.out.old hb7)
    have HB7 := Lib.hid (HB6.out.trans (hb7.mono HB6.out.size))
    clear hb7 HA6 HBb6 HC6 HBS6 HB6
    go_wp2_with fail
    refine (adler_one _ _ _ _ HBS7.out HAL2.out).mono ?_
    rintro e w8 ⟨rfl, hb8⟩
    have HA8 := Lib.hid (HA7.out.old hb8)
    have HBb8 := Lib.hid (HBb7.out.old hb8)
    have HC8 := Lib.hid (HC7.out.old hb8)
    have HBS8 := Lib.hid (HBS7.out.old hb8)
    have HB8 := Lib.hid (HB7.out.trans (hb8.mono HB7.out.size))
    clear hb8 HA7 HBb7 HC7 HBS7 HB7
    go_wp2_with fail
    refine (adler_none _).mono ?_; rintro e w' ⟨rfl, rfl⟩
    go_wp2_with fail
    go_ret
    exact ⟨rfl, HB8.out⟩
end Go.Proofs.Ytfkdfdcnmbaheaa
