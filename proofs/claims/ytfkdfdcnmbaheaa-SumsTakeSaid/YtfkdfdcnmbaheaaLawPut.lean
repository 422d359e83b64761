/- SumsPut: the law's walk. By an AI agent. -/
import Derived.Test.YtfkdfdcnmbaheaaPutB
import Derived.Test.YtfkdfdcnmbaheaaWalkA
namespace Go.Proofs.Ytfkdfdcnmbaheaa
open Go.RowKit
set_option linter.unusedVariables false
set_option linter.unusedSimpArgs false

theorem cp_own {w : World} {v : Value} {g base : Nat} {l : List UInt8} (h : Cp w v g l) (hb : base ≤ g) (hl : l.length ≤ 140737488351232) : w.ownsRow base 5 1 v l.length (vBs l) := by
  obtain ⟨rfl, hg⟩ := h
  exact ⟨by simp [vBs], .inr ⟨g, l.length + 2, _, rfl, hb, hg, by omega, by unfold maxLen; omega, by simp [vBs], by simp [vBs]⟩⟩
theorem apart_two (w0 w : World) (vb vo : Value) (nb g B1 : Nat) (lb l : List UInt8) (hB : Below w0.heap.size w0 w) (hb : w.ownsRow B1 5 1 vb nb (vBs lb)) (hB1 : w0.heap.size ≤ B1) (hc : Cp w vo g l) (hg : w0.heap.size ≤ g) (hgB : g < B1)
    (hl1 : nb ≤ 140737488351232) (hl2 : l.length ≤ 140737488351232) :
    Calls Try.prog 20 #[.slice (some ⟨w.heap.size, 0, none⟩) 2 2] (w.alloc (.cells #[vb, vo] 22)) fun e w' => e = .returned (.bool true) ∧ Below w0.heap.size w0 w' := by
  have hco := cp_own hc hg hl2
  have hob : vo.ownBlock = some g := by rw [hc.1]; rfl
  have hgs : g < w.heap.size := (Array.getElem?_eq_some_iff.1 hc.2).1
  have hsz : (w.alloc (.cells #[vb, vo] 22)).heap.size = w.heap.size + 1 := by simp
  have hnb : lb.length = nb := by have := hb.1; rw [vBs_length, Nat.mul_one] at this; exact this
  have hcell : ∀ i u, (#[vb, vo] : Array Value)[i]? = some u → (w.alloc (.cells #[vb, vo] 22)).cell? ⟨w.heap.size, i, none⟩ = some u := fun i u hu => by
    rw [cell_of_row _ w.heap.size i _ _ (0, 0) (heap_alloc_new _ _)]; exact hu
  refine (apart_any w0.heap.size w.heap.size 2 2 (fun i => if i = 0 then vb else vo) (fun i => if i = 0 then nb else l.length) (fun i => if i = 0 then lb else l) _ ⟨?_, ?_, ?_, ?_, ?_, ?_⟩ ⟨?_, ?_, ?_⟩ ?_ (by decide)).mono ?_
  · intro i hi j hj hij b hbi hbj
    rcases (by omega : (i = 0 ∧ j = 1) ∨ (i = 1 ∧ j = 0)) with ⟨rfl, rfl⟩ | ⟨rfl, rfl⟩
    · simp at hbi hbj
      have := (hb.lt b hbi).1
      rw [hob] at hbj
      cases hbj
      omega
    · simp at hbi hbj
      have := (hb.lt b hbj).1
      rw [hob] at hbi
      cases hbi
      omega
  · intro i hi he
    rcases (by omega : i = 0 ∨ i = 1) with rfl | rfl
    · simp at he
      have := (hb.lt _ he).2
      omega
    · simp at he
      rw [hob] at he
      cases he
      omega
  · intro i hi b hbi
    rw [hsz]
    rcases (by omega : i = 0 ∨ i = 1) with rfl | rfl
    · simp at hbi
      have := hb.lt _ hbi
      omega
    · simp at hbi
      rw [hob] at hbi
      cases hbi
      omega
  · intro i hi
    rcases (by omega : i = 0 ∨ i = 1) with rfl | rfl
    · simp
      rcases hb.2 with h | ⟨g', cap, cur, hv, _⟩
      · exact .inl h
      · exact .inr ⟨g', cap, hv⟩
    · simp
      exact .inr ⟨g, _, hc.1⟩
  · rw [hsz]; omega
  · rw [hsz]; have := hB.size; omega
  · intro i hi
    rcases (by omega : i = 0 ∨ i = 1) with rfl | rfl
    · exact own_mono (World.ownsRow.alloc hb _) hB1
    · exact World.ownsRow.alloc hco _
  · intro i hi
    rcases (by omega : i = 0 ∨ i = 1) with rfl | rfl
    · exact hcell 0 _ rfl
    · exact hcell 1 _ rfl
  · exact Below.refl _ _
  · intro i hi
    rcases (by omega : i = 0 ∨ i = 1) with rfl | rfl
    · exact ⟨hnb, hl1⟩
    · exact ⟨rfl, hl2⟩
  · rintro e w' ⟨he, hbl⟩
    exact ⟨he, (hB.alloc hB.size _).trans hbl⟩
theorem put_300 (w : World) : Calls Try.prog 16 #[.slice none 0 0, .int .i64 2, .int .i64 300] w fun e w' => ∃ v', e = .returned (.tuple #[v', .nilIface]) ∧ Bs w' v' [1, 44] ∧ Below w.heap.size w w' :=
  (put_good (.slice none 0 0) [] 2 300 w (Bs.nil _ _ _) (by decide) (by decide) (by decide)).mono (by
    rintro e w' ⟨v, he, hv, hb⟩
    refine ⟨v, he, ?_, hb⟩
    have := sl_of_owns hv
    exact this)
theorem put_refused (S n : Int) (hn : -9223372036854775808 ≤ n ∧ n ≤ 9223372036854775807) (h : ¬ ∃ s k : Nat, S = s ∧ n = k ∧ (1 ≤ s ∧ s ≤ 4) ∧ k < 256 ^ s) :
    ∃ c : Int, c ≠ 0 ∧ (∀ v w, Calls Try.prog 16 #[v, .int .i64 S, .int .i64 n] w fun e w' => e = .returned (.tuple #[.slice none 0 0, errV c]) ∧ w = w') ∧
      (∀ w, Calls Try.prog 17 #[.int .i64 S, .int .i64 n] w fun e w' => e = .returned (.tuple #[.slice none 0 0, .int .i64 c]) ∧ Below w.heap.size w w') := by
  by_cases hS : S < 1 ∨ 4 < S
  · exact ⟨6, by decide, fun v w => put_size v S n w hS, fun w => (number_size S n w hS).mono fun e w' ⟨he, hw⟩ => ⟨he, hw ▸ Below.refl _ _⟩⟩
  obtain ⟨s, rfl⟩ : ∃ s : Nat, S = (s : Int) := ⟨S.toNat, by omega⟩
  have hs : 1 ≤ s ∧ s ≤ 4 := by omega
  by_cases hneg : n < 0
  · exact ⟨7, by decide, fun v w => put_neg v s n w hs hneg, fun w => number_neg s n w hs hneg⟩
  obtain ⟨k, rfl⟩ : ∃ k : Nat, n = (k : Int) := ⟨n.toNat, by omega⟩
  have hk : 256 ^ s ≤ k := Nat.le_of_not_lt fun x => h ⟨s, k, rfl, rfl, hs, x⟩
  exact ⟨7, by decide, fun v w => put_big v s k w hs hk, fun w => number_big s k w hs hk (by omega)⟩
theorem adler_none (w : World) : Calls Try.prog 12 #[.slice none 0 0] w fun e w' => e = .returned (.int .i64 1) ∧ w = w' := by
  have h := adler_any (.slice none 0 0) [] w ⟨[], ⟨rfl, .inl ⟨none, 0, rfl, rfl⟩⟩, fun i h => absurd h (Nat.not_lt_zero i)⟩ (by simp) (by simp)
  have h1 : adler ([] : List (List UInt8)).flatten = 1 := by decide +kernel
  rw [h1] at h
  exact h.mono fun e w' ⟨he, hw⟩ => ⟨he, by simpa using hw⟩

set_option maxHeartbeats 3200000 in
theorem sumsPut_good (v : Value) (l : List UInt8) (s n : Nat) (w : World) (hb : Bs w v l) (hl : l.length ≤ 140737488351232) (hs : 1 ≤ s ∧ s ≤ 4) (hn : n < 256 ^ s) :
    Calls Try.prog 7 #[v, .int .i64 (s : Int), .int .i64 (n : Int)] w fun e w' => e = .returned (.bool true) ∧ Below w.heap.size w w' := by
  obtain ⟨av, cap, rfl⟩ := hb.len
  have HB := Lib.hid hb
  have HL := Lib.hid hl
  have HS := Lib.hid hs
  have HN := Lib.hid hn
  clear hs hn
  clear hb hl
  by_cases hk : l.length ≤ 1048576
  case neg =>
    have e1 : decide ((1048576 : Int) < (l.length : Int)) = true := by rw [decide_eq_true_eq]; omega
    have e2 : decide (1048576 < l.length) = true := by rw [decide_eq_true_eq]; omega
    clear hk
    go_enter Try.func7, Try.ntmps7
    go_wp2_with fail
    refine (adler_none _).mono ?_; rintro e w1 ⟨rfl, rfl⟩
    go_wp2_with fail
    go_ret
    exact ⟨rfl, Below.refl _ _⟩
  have e1 : decide ((1048576 : Int) < (l.length : Int)) = false := by rw [decide_eq_false_iff_not]; omega
  have e2 : decide (1048576 < l.length) = false := by rw [decide_eq_false_iff_not]; omega
  have HK := Lib.hid hk
  clear hk
  go_enter Try.func7, Try.ntmps7
  go_wp2_with fail
  refine (put_300 _).mono ?_; rintro e w1 ⟨v1, rfl, hv1, hb1⟩
  have s1 := run_str (P := Try.prog) w1 22 5 9 Try.underlying22 Try.underlying5 Try.underlying9 hv1
  have se : strOf [1, 44] = ({ data := #[1, 44] } : ByteArray) := rfl
  rw [se] at s1
  have B1 := Lib.hid hb1
  clear hv1 hb1 e1 e2 se
  go_wp2_with fail
  clear s1
  refine (copy_any _ l _ (HB.out.old B1.out) HL.out).mono ?_; rintro e w2 ⟨v2, rfl, hc2, hb2, hz2⟩
  obtain rfl := hc2.1
  have P2 := Lib.hid hc2
  have B2 := Lib.hid (B1.out.trans (hb2.mono B1.out.size))
  have Z1 : Hid (w.heap.size ≤ w1.heap.size) := Lib.hid B1.out.size
  have Z2 := Lib.hid hz2
  clear hc2 hb2 hz2
  go_wp2_with fail
  refine (put_good _ l s n _ P2.out.bs HL.out HS.out HN.out).mono ?_; rintro e w3 ⟨v3, rfl, hv3, hb3⟩
  obtain ⟨a3, c3, rfl⟩ := own_len hv3
  have O3 := Lib.hid hv3
  have P3 := Lib.hid (P2.out.old hb3)
  have B3 := Lib.hid (B2.out.trans (hb3.mono B2.out.size))
  clear hv3 hb3 P2
  go_wp2_with fail
  refine (number_good s n _ HS.out HN.out).mono ?_; rintro e w4 ⟨v4, rfl, hv4, _, hb4⟩
  have V4 := Lib.hid hv4
  have O4 := Lib.hid (own_old O3.out (fun b hb => hb4.block b (O3.out.lt b hb).2))
  have P4 := Lib.hid (P3.out.old hb4)
  have B4 := Lib.hid (B3.out.trans (hb4.mono B3.out.size))
  have VL4 := Lib.hid (HB.out.old B4.out)
  have Z4 : Hid (w.heap.size ≤ w4.heap.size) := Lib.hid B4.out.size
  clear hv4 hb4 P3 O3
  go_wp2_with (at_builtin; refine stop ?_)
  have hbA : Below w4.heap.size w4 (w4.alloc (.cells #[] 5)) := (Below.refl _ _).alloc (Nat.le_refl _) _
  refine unstop (wpList_app tyB rfl _ _ rfl w4.heap.size _ 0 [] rfl (own0 w4 _) _ l.length (vBs l) rfl (SlN.old VL4.out hbA) (vBs_one l) (by have := HK.out; omega) (by have := HK.out; omega) (by simp) ?_)
  intro v5 w5 hown5 hg5 _
  have hb5 : Below w4.heap.size w4 w5 := run_app_below (own0 w4 _) hg5 hbA (Nat.le_refl _)
  have OW5 : Hid (w5.ownsRow w4.heap.size 5 1 v5 l.length (vBs l)) := Lib.hid (by have := hown5; rw [List.nil_append, Nat.zero_add] at this; exact this)
  have V5 := Lib.hid (V4.out.old hb5)
  have B5 := Lib.hid (B4.out.trans (hb5.mono B4.out.size))
  have B45 := Lib.hid hb5
  clear hbA hown5 hg5 hb5 V4 VL4
  go_wp2_with (at_builtin; refine stop ?_)
  refine unstop (wpList_app tyB rfl _ _ rfl w4.heap.size _ l.length (vBs l) rfl OW5.out _ (putL s n).length (vBs (putL s n)) rfl V5.out (vBs_one _) (by rw [putL_length]; have := HK.out; have := HS.out; omega) (by rw [putL_length]; have := HK.out; have := HS.out; omega) B45.out.size ?_)
  intro v6 w6 hown6 hg6 _
  have hb6 : Below w4.heap.size w4 w6 := run_app_below OW5.out hg6 B45.out (Nat.le_refl _)
  have V6 : Hid (Bs w6 v6 (l ++ putL s n)) := Lib.hid (by
    have h := sl_of_owns hown6
    rw [← vBs_append] at h
    unfold Bs
    rw [List.length_append]
    exact h)
  have B6 := Lib.hid (B4.out.trans (hb6.mono B4.out.size))
  have O6 : Hid (w6.ownsRow w2.heap.size 5 1 (.slice a3 (l.length + s) c3) (l.length + s) (vBs (l ++ putL s n))) := Lib.hid (own_old O4.out (fun b hb => hb6.block b (O4.out.lt b hb).2))
  have P6 := Lib.hid (P4.out.old hb6)
  have V36 : Hid (Bs w6 (.slice a3 (l.length + s) c3) (l ++ putL s n)) := Lib.hid (by
    have h := sl_of_owns O6.out
    unfold Bs
    rw [List.length_append, putL_length]
    exact h)
  clear hown6 hg6 hb6 O4 P4 OW5 V5 B45 B5 B4 Z4
  go_wp2_with fail
  have hsame := same_any _ _ _ _ _ V36.out V6.out
  rw [decide_eq_true rfl] at hsame
  refine hsame.mono ?_; rintro e w7 ⟨rfl, rfl⟩
  clear hsame
  go_wp2_with fail
  have hnum := num_any 0 w6
  rw [errV_zero] at hnum
  refine hnum.mono ?_; rintro e w7 ⟨rfl, rfl⟩
  clear hnum
  go_wp2_with fail
  refine (kept_any _ _ _ l _ P6.out (HB.out.old B6.out) HL.out).mono ?_; rintro e w7 ⟨rfl, rfl⟩
  go_wp2_with fail
  refine (apart_two w w6 _ _ (l.length + s) w1.heap.size w2.heap.size (l ++ putL s n) l B6.out O6.out (Nat.le_trans Z1.out (Nat.le_of_lt Z2.out)) P6.out Z1.out Z2.out (by have := HK.out; have := HS.out; omega) HL.out).mono ?_; rintro e w7 ⟨rfl, hb7⟩
  have B7 := Lib.hid hb7
  clear hb7
  go_wp2_with fail
  go_ret
  exact ⟨rfl, B7.out⟩
set_option maxHeartbeats 3200000 in
theorem sumsPut_bad (v : Value) (l : List UInt8) (S n c : Int) (w : World) (hb : Bs w v l) (hl : l.length ≤ 140737488351232) (hc : c ≠ 0) (hp : ∀ v w, Calls Try.prog 16 #[v, .int .i64 S, .int .i64 n] w fun e w' => e = .returned (.tuple #[.slice none 0 0, errV c]) ∧ w = w')
    (hq : ∀ w, Calls Try.prog 17 #[.int .i64 S, .int .i64 n] w fun e w' => e = .returned (.tuple #[.slice none 0 0, .int .i64 c]) ∧ Below w.heap.size w w') :
    Calls Try.prog 7 #[v, .int .i64 S, .int .i64 n] w fun e w' => e = .returned (.bool true) ∧ Below w.heap.size w w' := by
  obtain ⟨av, cap, rfl⟩ := hb.len
  have HB := Lib.hid hb
  have HL := Lib.hid hl
  have HP := Lib.hid hp
  have HQ := Lib.hid hq
  have HC := Lib.hid hc
  clear hp hq hc
  clear hb hl
  by_cases hk : l.length ≤ 1048576
  case neg =>
    have e1 : decide ((1048576 : Int) < (l.length : Int)) = true := by rw [decide_eq_true_eq]; omega
    have e2 : decide (1048576 < l.length) = true := by rw [decide_eq_true_eq]; omega
    clear hk
    go_enter Try.func7, Try.ntmps7
    go_wp2_with fail
    refine (adler_none _).mono ?_; rintro e w1 ⟨rfl, rfl⟩
    go_wp2_with fail
    go_ret
    exact ⟨rfl, Below.refl _ _⟩
  have e1 : decide ((1048576 : Int) < (l.length : Int)) = false := by rw [decide_eq_false_iff_not]; omega
  have e2 : decide (1048576 < l.length) = false := by rw [decide_eq_false_iff_not]; omega
  have HK := Lib.hid hk
  clear hk
  go_enter Try.func7, Try.ntmps7
  go_wp2_with fail
  refine (put_300 _).mono ?_; rintro e w1 ⟨v1, rfl, hv1, hb1⟩
  have s1 := run_str (P := Try.prog) w1 22 5 9 Try.underlying22 Try.underlying5 Try.underlying9 hv1
  have se : strOf [1, 44] = ({ data := #[1, 44] } : ByteArray) := rfl
  rw [se] at s1
  have B1 := Lib.hid hb1
  clear hv1 hb1 e1 e2 se
  go_wp2_with fail
  clear s1
  refine (copy_any _ l _ (HB.out.old B1.out) HL.out).mono ?_; rintro e w2 ⟨v2, rfl, hc2, hb2, hz2⟩
  obtain rfl := hc2.1
  have P2 := Lib.hid hc2
  have B2 := Lib.hid (B1.out.trans (hb2.mono B1.out.size))
  have Z1 : Hid (w.heap.size ≤ w1.heap.size) := Lib.hid B1.out.size
  have Z2 := Lib.hid hz2
  clear hc2 hb2 hz2
  go_wp2_with fail
  refine (HP.out _ _).mono ?_; rintro e w3 ⟨rfl, rfl⟩
  go_wp2_with fail
  refine (HQ.out _).mono ?_; rintro e w4 ⟨rfl, hb4⟩
  have P4 := Lib.hid (P2.out.old hb4)
  have B4 := Lib.hid (B2.out.trans (hb4.mono B2.out.size))
  clear hb4
  have e3 : (c == 0) = false := by rw [beq_eq_false_iff_ne]; exact HC.out
  go_wp2_with fail
  have hsame := same_any (.slice none 0 0) (.slice none 0 0) [] [] w4 (Bs.nil _ _ _) (Bs.nil _ _ _)
  rw [decide_eq_true rfl] at hsame
  refine hsame.mono ?_; rintro e w5 ⟨rfl, rfl⟩
  clear hsame
  go_wp2_with fail
  refine (num_any c _).mono ?_; rintro e w5 ⟨rfl, rfl⟩
  go_wp2_with fail
  refine (kept_any _ _ _ l _ P4.out (HB.out.old B4.out) HL.out).mono ?_; rintro e w5 ⟨rfl, rfl⟩
  go_wp2_with fail
  refine (apart_two w w4 (.slice none 0 0) _ 0 w1.heap.size w4.heap.size [] l B4.out ⟨rfl, .inl ⟨rfl, rfl⟩⟩ B4.out.size P4.out Z1.out (Array.getElem?_eq_some_iff.1 P4.out.2).1 (by decide) HL.out).mono ?_; rintro e w5 ⟨rfl, hb5⟩
  have B5 := Lib.hid hb5
  clear hb5
  go_wp2_with fail
  go_ret
  exact ⟨rfl, B5.out⟩
theorem sumsPut_any (v : Value) (l : List UInt8) (S n : Int) (w : World) (hb : Bs w v l) (hl : l.length ≤ 140737488351232) (hS : -9223372036854775808 ≤ S ∧ S ≤ 9223372036854775807) (hn : -9223372036854775808 ≤ n ∧ n ≤ 9223372036854775807) :
    Calls Try.prog 7 #[v, .int .i64 S, .int .i64 n] w fun e w' => e = .returned (.bool true) ∧ Below w.heap.size w w' := by
  by_cases h : ∃ s k : Nat, S = s ∧ n = k ∧ (1 ≤ s ∧ s ≤ 4) ∧ k < 256 ^ s
  · obtain ⟨s, k, rfl, rfl, hs, hk⟩ := h
    exact sumsPut_good v l s k w hb hl hs hk
  · obtain ⟨c, hc, hp, hq⟩ := put_refused S n hn h
    exact sumsPut_bad v l S n c w hb hl hc hp hq
end Go.Proofs.Ytfkdfdcnmbaheaa
