/- The iterator lace.Passes over a laced picture: its rounds are handed passes alone. By an AI agent. -/
import Derived.Test.YtfmkcpilljfidaaPassI
import Derived.Test.YtfmkcpilljfidaaOnceP
namespace Go.Proofs.Ytfmkcpilljfidaa
open Go.RowKit Go.Shelf
set_option linter.unusedVariables false
set_option linter.unusedSimpArgs false
attribute [local go_sem] Oper.semAt_some

abbrev Pas (a b : Nat) : Type := { x : Int × Int × Int // x ∈ lacedTo a b 7 }
theorem pas_prop {a b : Nat} (x : Pas a b) : ∃ p, p < 7 ∧ 0 < (sizeN p a b).1 ∧ x.1 = ((p : Int), (((sizeN p a b).1 : Nat) : Int), (((sizeN p a b).2 : Nat) : Int)) := by
  obtain ⟨x, hx⟩ := x
  unfold lacedTo at hx
  rw [List.mem_filterMap] at hx
  obtain ⟨p, hp, h⟩ := hx
  by_cases e : 0 < (sizeN p a b).1
  · rw [if_pos e] at h
    exact ⟨p, List.mem_range.1 hp, e, (Option.some.inj h).symm⟩
  · rw [if_neg e] at h
    cases h
theorem take_next (a b k : Nat) (hk : k < 7) (h : 0 < (sizeN k a b).1) : ∃ x : Pas a b, x.1 = ((k : Int), (((sizeN k a b).1 : Nat) : Int), (((sizeN k a b).2 : Nat) : Int)) ∧
    (lacedTo a b 7).attach.take (lacedTo a b (k + 1)).length = (lacedTo a b 7).attach.take (lacedTo a b k).length ++ [x] ∧ (lacedTo a b k).length < (lacedTo a b 7).length := by
  have hs := lacedTo_succ a b k
  rw [if_pos h] at hs
  obtain ⟨t, ht⟩ := lacedTo_pre a b (k + 1) 7 (by omega)
  have hl : (lacedTo a b k).length < (lacedTo a b 7).length := by rw [← ht, hs]; simp
  have hl' : (lacedTo a b k).length < (lacedTo a b 7).attach.length := by rw [List.length_attach]; exact hl
  refine ⟨(lacedTo a b 7).attach[(lacedTo a b k).length], ?_, ?_, hl⟩
  · rw [List.getElem_attach]
    have : (lacedTo a b 7)[(lacedTo a b k).length]? = some ((k : Int), (((sizeN k a b).1 : Nat) : Int), (((sizeN k a b).2 : Nat) : Int)) := by
      rw [← ht, hs, List.append_assoc, List.getElem?_append_right (Nat.le_refl _), Nat.sub_self]
      rfl
    rw [List.getElem?_eq_getElem hl] at this
    exact Option.some.inj this
  · rw [hs, List.length_append, List.length_singleton]
    exact List.take_succ_eq_append_getElem hl'

set_option maxRecDepth 100000 in
set_option maxHeartbeats 4000000 in
theorem passes_laced (n : Nat) (hn : 2 ≤ n) (b1 b2 b3 : Nat) (a b : Nat) (ha : 1 ≤ a ∧ a ≤ 65535) (hb : 1 ≤ b ∧ b ≤ 65535) (w : World)
    (c1 : w.cell? ⟨b1, 0, none⟩ = some (.int .i64 (a : Int))) (c2 : w.cell? ⟨b2, 0, none⟩ = some (.int .i64 (b : Int))) (c3 : w.cell? ⟨b3, 0, none⟩ = some (.int .i64 1)) :
    SeqStopsK Fence.wide n Try.prog 28 #[.pointer (some ⟨b1, 0, none⟩), .pointer (some ⟨b2, 0, none⟩), .pointer (some ⟨b3, 0, none⟩)] (fun x : Pas a b => encP x.1) (KeepB [b1, b2, b3]) (fun xs => xs = (lacedTo a b 7).attach) (fun pre => pre <+: (lacedTo a b 7).attach) (lacedTo a b 7).length w := fun l J Jx V hV hJ hJx hY h0 => by
  have d1 := cell_old hV c1
  have d2 := cell_old hV c2
  have d3 := cell_old hV c3
  have BL : Hid (∀ b ∈ [b1, b2, b3], b < V.heap.size) := Lib.hid (by
    intro b hb
    simp only [List.mem_cons, List.not_mem_nil, or_false] at hb
    rcases hb with rfl | rfl | rfl
    · exact World.block_lt_of_cell? _ _ d1
    · exact World.block_lt_of_cell? _ _ d2
    · exact World.block_lt_of_cell? _ _ d3)
  clear c1 c2 c3
  have q1 : sideB (a : Int) = true := decide_eq_true (by omega)
  have q2 : sideB (b : Int) = true := decide_eq_true (by omega)
  have SW := Lib.hid (fun X => side_any (a : Int) X)
  have SH := Lib.hid (fun X => side_any (b : Int) X)
  rw [q1] at SW
  rw [q2] at SH
  have YY := Lib.hid hY
  have JJ := Lib.hid hJ
  have H0 := Lib.hid h0
  have HA := Lib.hid ha
  have HB := Lib.hid hb
  clear q1 q2 hY hJ hJx h0 ha hb
  refine callsIn_of_wp Try.func28 rfl trivial ?_ rfl
  simp only [Try.ntmps28, List.size_toArray, List.length_cons, List.length_nil, Nat.reduceAdd, Nat.reduceSub, Array.replicate_succ, Array.replicate_zero, List.push_toArray, List.append_toArray, List.nil_append, List.cons_append]
  gi_wp2_with fail
  refine ⟨trivial, fun _ => by omega, (callsIn_wide.2 (SW.out _)).mono ?_⟩; rintro e w' ⟨rfl, rfl⟩
  gi_wp2_with fail
  refine ⟨trivial, fun _ => by omega, (callsIn_wide.2 (SH.out _)).mono ?_⟩; rintro e w' ⟨rfl, rfl⟩
  gi_wp2_with fail
  clear SW SH
  have D1 := Lib.hid d1
  have D2 := Lib.hid d2
  clear d1 d2 d3
  gi_loopw [31] (fun i wr => ∃ k : Nat, k ≤ 7 ∧ i = .int .i64 k ∧ J ((lacedTo a b 7).attach.take (lacedTo a b k).length) wr ∧ KeepB [b1, b2, b3] V wr) (fun i _ => 7 - (intOf i).toNat)
  case atStart => exact ⟨0, Nat.zero_le _, rfl, H0.out, KeepB.refl _ _⟩
  case round =>
    obtain ⟨k, hk, rfl, hJs, hbl⟩ := hrel
    have HJs := Lib.hid hJs
    have HBL := Lib.hid hbl
    have d1 := (hbl.cell (b := b1) (by simp) 0).trans D1.out
    have d2 := (hbl.cell (b := b2) (by simp) 0).trans D2.out
    clear hJs hbl
    by_cases hk7 : k < 7
    · have f1 : decide ((k : Int) < 7) = true := by rw [decide_eq_true_eq]; omega
      have SZ := Lib.hid (fun X => size_in k a b hk7 X HA.out HB.out)
      have SC := Lib.hid (lacedTo_succ a b k)
      have TN := Lib.hid (take_next a b k hk7)
      obtain ⟨p, hp⟩ : ∃ p, (sizeN k a b).1 = p := ⟨_, rfl⟩
      obtain ⟨q, hq⟩ : ∃ q, (sizeN k a b).2 = q := ⟨_, rfl⟩
      rw [hp, hq] at SZ SC TN
      clear hp hq
      by_cases hp0 : 0 < p
      · obtain ⟨x, hx, htk, hlt⟩ := TN.out hp0
        have g1 : decide (0 < (p : Int)) = true := by rw [decide_eq_true_eq]; omega
        have g2 : decide (0 < p) = true := by rw [decide_eq_true_eq]; exact hp0
        have HX := Lib.hid hx
        have HTK := Lib.hid htk
        have HLT := Lib.hid hlt
        clear hx htk hlt TN SC
        gi_wp2_with fail
        refine ⟨trivial, fun _ => by omega, (callsIn_wide.2 (SZ.out _)).mono ?_⟩; rintro e w2 ⟨rfl, hb2⟩
        have J2 := Lib.hid (abides_below JJ.out HJs.out hb2)
        have B2 := Lib.hid (HBL.out.trans (KeepB.below hb2 hb2.size (fun b hb => Nat.lt_of_lt_of_le (BL.out b hb) HBL.out.1)))
        clear hb2
        obtain ⟨f1, t1, a1, y1, hy1, hR1⟩ := YY.out _ x w2 J2.out (by have := HLT.out; rw [List.length_take]; omega)
        rw [HX.out] at hy1
        dsimp only [encP] at hy1
        have RR := Lib.hid hR1
        clear hR1
        gi_wp2_with fail
        refine ⟨fun _ => by omega, RR.out.mono ?_⟩
        rintro e W3 (⟨rfl, hJ3, hk3⟩ | ⟨rfl, hJx3⟩)
        · have J3 := Lib.hid hJ3
          have B3 := Lib.hid (B2.out.trans hk3)
          clear hJ3 hk3
          gi_wp2_with fail
          go_roundw
          case rel => exact ⟨k + 1, by omega, by go_num, by rw [HTK.out]; exact J3.out, B3.out⟩
          case measure => simp [intOf]; omega
        · gi_wp2_with fail
          refine bodyPost_ret (results_none rfl _ _ _) rfl ?_
          exact ⟨⟨_, rfl⟩, .inr ⟨_, by rw [← HTK.out]; exact List.take_prefix _ _, hJx3⟩⟩
      · rw [if_neg hp0] at SC
        have g1 : decide (0 < (p : Int)) = false := by rw [decide_eq_false_iff_not]; omega
        have g2 : decide (0 < p) = false := by rw [decide_eq_false_iff_not]; exact hp0
        clear TN
        gi_wp2_with fail
        refine ⟨trivial, fun _ => by omega, (callsIn_wide.2 (SZ.out _)).mono ?_⟩; rintro e w2 ⟨rfl, hb2⟩
        have J2 := Lib.hid (abides_below JJ.out HJs.out hb2)
        have B2 := Lib.hid (HBL.out.trans (KeepB.below hb2 hb2.size (fun b hb => Nat.lt_of_lt_of_le (BL.out b hb) HBL.out.1)))
        clear hb2
        gi_wp2_with fail
        refine ⟨fun _ h => (by cases h), ?_⟩
        gi_wp2_with fail
        go_roundw
        case rel => exact ⟨k + 1, by omega, by go_num, by rw [SC.out, List.append_nil]; exact J2.out, B2.out⟩
        case measure => simp [intOf]; omega
    · obtain rfl : k = 7 := by omega
      gi_wp2_with fail
      go_end0
      exact ⟨⟨_, rfl⟩, .inl ⟨_, rfl, by have h := HJs.out; rw [List.take_of_length_le (by simp)] at h; exact h⟩⟩
end Go.Proofs.Ytfmkcpilljfidaa
