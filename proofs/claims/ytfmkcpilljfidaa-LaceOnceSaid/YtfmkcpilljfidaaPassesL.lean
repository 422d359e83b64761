/- LaceAll: the law's walk. By an AI agent. -/
import Derived.Test.YtfmkcpilljfidaaData
import Derived.Test.YtfmkcpilljfidaaRF
import Derived.Test.YtfmkcpilljfidaaRefSize
import Derived.Test.YtfmkcpilljfidaaLace
import Derived.Test.YtfmkcpilljfidaaApp
import Derived.Deep.CutRange
import Derived.BigQuiet
import Derived.Test.YtfmkcpilljfidaaEq3
namespace Go.Proofs.Ytfmkcpilljfidaa
open Go.RowKit Go.Shelf Go.BigFrame
set_option linter.unusedVariables false
set_option linter.unusedSimpArgs false
attribute [local go_sem] Oper.semAt_some

theorem passes_8 : (passesL 8 8 1).length = 7 := by decide +kernel
/-- most, between 1 and 8 -/
theorem most8 (k : Int) : ∃ m : Nat, 1 ≤ m ∧ m ≤ 8 ∧ wrap64 (1 + wrap64 ((IntKind.u64.wrap k).tmod 8)) = (m : Int) := by
  have h0 : 0 ≤ IntKind.u64.wrap k := by simp [IntKind.wrap, IntKind.signed, IntKind.bits]; omega
  refine ⟨(1 + IntKind.u64.wrap k % 8).toNat, by omega, by omega, ?_⟩
  rw [Int.tmod_eq_emod_of_nonneg h0, IntWalk.wrap64_in (IntKind.u64.wrap k % 8) (by omega), IntWalk.wrap64_in _ (by omega)]
  omega

def flatP (l : List (Int × Int × Int)) : List Value := l.flatMap fun x => [.int .i64 x.1, .int .i64 x.2.1, .int .i64 x.2.2]
theorem flatP_snoc (l : List (Int × Int × Int)) (x : Int × Int × Int) : flatP (l ++ [x]) = flatP l ++ [.int .i64 x.1, .int .i64 x.2.1, .int .i64 x.2.2] := by simp [flatP]
theorem tyP : ElemTy Try.prog 61 62 (.agg #[.int .i64 0, .int .i64 0, .int .i64 0]) 3 24 := elemTy Try.underlying61 (by kernel_rfl) rfl (by decide)
theorem sl3 (w : World) (a b c : Value) (t : TypeId) : SlN 3 (w.alloc (.cells #[a, b, c] t)) (.slice (some ⟨w.heap.size, 0, none⟩) 1 1) 1 [a, b, c] :=
  ⟨rfl, .inr ⟨_, 0, 1, rfl, Nat.le_refl _, by decide, fun i u hu => by rw [Nat.zero_add, cell_of_row _ _ i _ _ (0, 0) (heap_alloc_new w _)]; simpa using hu⟩⟩
theorem one3 (a b c : Int) : ∀ u ∈ [Value.int .i64 a, .int .i64 b, .int .i64 c], u.oneCell' = true := by intro u hu; simp at hu; rcases hu with rfl | rfl | rfl <;> rfl
theorem tyNe : 61 ≠ 62 := by decide
theorem lacedTo_len (w h k : Nat) : (lacedTo w h k).length ≤ k := by
  unfold lacedTo
  exact Nat.le_trans (List.length_filterMap_le _ _) (by simp)
theorem flatP_at : ∀ (l : List (Int × Int × Int)) (n : Nat) (h : n < l.length) (a b c : Int), l[n] = (a, b, c) → (flatP l)[n * 3]? = some (.int .i64 a) ∧ (flatP l)[n * 3 + 1]? = some (.int .i64 b) ∧ (flatP l)[n * 3 + 2]? = some (.int .i64 c)
  | [], _, h, _, _, _, _ => absurd h (Nat.not_lt_zero _)
  | y :: l, 0, _, a, b, c, e => by simp at e; subst e; exact ⟨rfl, rfl, rfl⟩
  | y :: l, n + 1, h, a, b, c, e => by
    have ih := flatP_at l n (by simpa using h) a b c (by simpa using e)
    have hc : flatP (y :: l) = .int .i64 y.1 :: .int .i64 y.2.1 :: .int .i64 y.2.2 :: flatP l := by simp [flatP]
    rw [hc, show (n + 1) * 3 = n * 3 + 1 + 1 + 1 by omega]
    exact ⟨by simpa using ih.1, by simpa using ih.2.1, by simpa using ih.2.2⟩
theorem snoc_prefix {α : Type} {pre : List α} {l : List α} {x : α} (hp : pre <+: l) (hn : pre.length < l.length) : pre ++ [x] <+: l ↔ x = l[pre.length] := by
  obtain ⟨t, rfl⟩ := hp
  cases t with
  | nil => simp at hn
  | cons y t =>
    rw [List.prefix_append_right_inj]
    simp
def act1 (W H L M : Int) (B S : Nat) (x : Int × Int × Int) : Act := { tmps := #[Value.int IntKind.i64 W, Value.int IntKind.i64 H, Value.int IntKind.i64 L, Value.int IntKind.i64 M, undef, undef, undef, Value.pointer (some { block := B, off := 0 }), Value.pointer (some { block := B + 1, off := 0 }), Value.int IntKind.i64 4, Value.int IntKind.i64 4, Value.pointer (some { block := S, off := 0 }), undef, undef, undef, undef, undef, undef, undef, Value.tuple #[Value.int IntKind.i64 4, Value.int IntKind.i64 4], Value.tuple #[Value.int IntKind.i64 4, Value.int IntKind.i64 4], Value.int IntKind.i64 4, Value.int IntKind.i64 4, Value.int IntKind.i64 4, Value.bool false, Value.bool false, Value.int IntKind.i64 4, Value.bool false, Value.bool false, Value.func (Fn.func 28) #[] #[Value.pointer (some { block := S + 1, off := 0 }), Value.pointer (some { block := S + 1 + 1, off := 0 }), Value.pointer (some { block := S + 1 + 1 + 1, off := 0 })], .int .i64 x.1, .agg #[.int .i64 x.2.1, .int .i64 x.2.2], undef, undef, undef, undef, undef, undef, undef, undef, undef, undef, undef, undef, undef, undef, undef, undef, undef, undef, undef, undef, undef, undef, undef, undef, undef, undef, undef, undef, undef, undef, undef, undef, undef, undef, undef, undef, undef, undef, undef, undef, undef, undef, undef, undef, undef, undef, undef, undef, undef, undef, undef, undef, undef, undef, undef, undef, undef, undef, undef, undef, undef, undef, undef, undef, undef, undef, undef, undef, undef, undef, undef, undef, undef, undef, undef, undef, undef, undef, undef, undef, undef, undef, undef, undef, undef, undef, undef, undef, undef, undef, undef, undef, undef, undef], defers := [] }

set_option maxRecDepth 100000 in
set_option maxHeartbeats 8000000 in
theorem lawPasses_any (W H L M : Int) (w : World) :
    Calls Try.prog 18 #[.int .i64 W, .int .i64 H, .int .i64 L, .int .i64 M] w fun e w' => e = .returned (.bool true) ∧ Below w.heap.size w w' := by
  refine (callsIn_wide (n := 6)).1 ?_
  refine callsIn_of_wp_marks Try.func18 rfl trivial ?_ rfl
  simp only [Try.ntmps18, List.size_toArray, List.length_cons, List.length_nil, Nat.reduceAdd, Nat.reduceSub, Array.replicate_succ, Array.replicate_zero, List.push_toArray, List.append_toArray, List.nil_append, List.cons_append]
  refine wpIn_wide.2 ?_
  go_wp2_with fail
  refine (place_at 2 2 rfl (by decide) 1 0 4 4 _ (by decide) (by decide) (by decide) (by decide)).mono ?_; rintro e w1 ⟨rfl, hb1⟩
  obtain ⟨B, hB⟩ : ∃ B, w.heap.size = B := ⟨_, rfl⟩
  rw [hB]
  have q1 : Boxed w1 B 3 (.int .i64 M) := by rw [← hB]; exact boxed_below ((Boxed.new w _ _).alloc _) hb1
  have q2 : Boxed w1 (B + 1) 4 (.bool false) := by rw [← hB]; have h := Boxed.new (w.alloc (.cells #[.int .i64 M] 3)) 4 (.bool false); rw [World.size_alloc] at h; exact boxed_below h hb1
  have b1 : Below w.heap.size w w1 := (((Below.refl _ _).alloc (Nat.le_refl _) _).alloc (by simp) _).trans (hb1.mono (by simp; omega))
  have Q1 := Lib.hid q1
  have Q2 := Lib.hid q2
  have B1 := Lib.hid b1
  clear hb1 q1 q2 b1
  go_wp2_with fail
  refine (passes_any 8 8 1 _).mono ?_; rintro e w2 ⟨rfl, hw2⟩
  go_wp2_with fail
  rw [← hw2]
  obtain ⟨S, hS⟩ : ∃ S, w1.heap.size = S := ⟨_, rfl⟩
  have bS : Boxed w2 S 3 (.int .i64 0) := by rw [hw2, ← hS]; exact (((Boxed.new w1 _ _).alloc _).alloc _).alloc _
  have p1 : Boxed w2 (S + 1) 3 (.int .i64 8) := by rw [hw2, ← hS]; have h := Boxed.new (w1.alloc (.cells #[.int .i64 0] 3)) 3 (.int .i64 8); rw [World.size_alloc] at h; exact (h.alloc _).alloc _
  have p2 : Boxed w2 (S + 1 + 1) 3 (.int .i64 8) := by rw [hw2, ← hS]; have h := Boxed.new ((w1.alloc (.cells #[.int .i64 0] 3)).alloc (.cells #[.int .i64 8] 3)) 3 (.int .i64 8); simp only [World.size_alloc] at h; exact h.alloc _
  have p3 : Boxed w2 (S + 1 + 1 + 1) 3 (.int .i64 1) := by rw [hw2, ← hS]; have h := Boxed.new (((w1.alloc (.cells #[.int .i64 0] 3)).alloc (.cells #[.int .i64 8] 3)).alloc (.cells #[.int .i64 8] 3)) 3 (.int .i64 1); simp only [World.size_alloc] at h; exact h
  have b12 : Below w1.heap.size w1 w2 := by rw [hw2]; exact ((((Below.refl _ _).alloc (Nat.le_refl _) _).alloc (by simp) _).alloc (by simp; omega) _).alloc (by simp; omega) _
  have b2 : Below w.heap.size w w2 := B1.out.trans (b12.mono B1.out.size)
  have r1 := boxed_below Q1.out b12
  have r2 := boxed_below Q2.out b12
  have sz2 : w2.heap.size = S + 4 := by rw [hw2, ← hS]; simp
  have SB : B + 1 < S := by rw [← hS]; exact Q2.out.lt
  rw [hS]
  have HB0 := Lib.hid hB
  clear hw2 b12 Q1 Q2 B1 hS hB
  refine wpIn_wide.1 (wpIn_rangeFunc_ownH (F := Fence.wide) (n := 6) rfl (by omega) (gf := 28) (lb := #[.pointer (some ⟨S + 1, 0, none⟩), .pointer (some ⟨S + 1 + 1, 0, none⟩), .pointer (some ⟨S + 1 + 1 + 1, 0, none⟩)]) rfl trivial (enters_of Try.func28 (by kernel_rfl) rfl)
    (passes_stops (6 - 1) (by omega) (S + 1) (S + 1 + 1) (S + 1 + 1 + 1) 8 8 1 w2 p1.cell p2.cell p3.cell) KeepB.trans (KeepB.put (by intro b hb; simp only [List.mem_cons, List.not_mem_nil, or_false] at hb; omega)) (Below.refl _ _) (fun _ => rfl)
    (fun pre V => (Boxed V S 3 (.int .i64 (pre.length : Nat)) ∧ Boxed V B 3 (.int .i64 M) ∧ Boxed V (B + 1) 4 (.bool false)) ∧ (Below w.heap.size w V ∧ w2.heap.size ≤ V.heap.size))
    (fun _ _ _ => False)
    (OwnFrom.and (OwnFrom.and (ownFrom_boxed _ _ _ _) (OwnFrom.and (ownFrom_boxed _ _ _ _) (ownFrom_boxed _ _ _ _))) (OwnFrom.and (ownFrom_below (Nat.le_refl _) b2.size) (ownFrom_size _ _)))
    (fun _ _ _ _ _ hs _ _ => hs)
    ⟨⟨bS, r1, r2⟩, b2, Nat.le_refl _⟩
    (fun x a' _ => a' = act1 W H L M B S x) (fun _ _ _ _ _ _ hs _ _ => hs) ?assign ?body ?done ?stop)
  case assign =>
    rintro l pre x V K hI hK
    gi_wp2
    exact hK _ _ (KeepsFrom.refl _ _) (KeepB.refl _ _) hI (by simp [act1])
  case body =>
    rintro l pre x a' V hl ⟨r, hr⟩ ⟨⟨s1, s2, s3⟩, hB1, hs1⟩ rfl hlt
    rw [passes_8] at hlt
    unfold act1
    have c1 := s1.cell
    have f1 := s1.frozen
    have n0 : B + 1 < V.heap.size := s3.lt
    obtain ⟨n, hn⟩ : ∃ n, pre.length = n := ⟨_, rfl⟩
    rw [hn] at c1 hlt
    have g1 : decide ((7 : Int) < (n : Int) + 1) = false := by rw [decide_eq_false_iff_not]; omega
    have g2 : decide (7 < n + 1) = false := by rw [decide_eq_false_iff_not]; omega
    gi_wp2
    refine ⟨keepsFrom_set _ _ _, ⟨by simp, fun b hb => Go.Deep.blk_setCell_other _ _ _ _ (by simp only [List.mem_cons, List.not_mem_nil, or_false] at hb; simp only; omega)⟩, ⟨?_, Boxed.other s2 (by omega) _, Boxed.other s3 (by omega) _⟩, hB1.setCell (p := ⟨S, 0, none⟩) (by simp only; have := HB0.out; omega) _, by simp; exact hs1⟩
    have e : (((pre ++ [x]).length : Nat) : Int) = (n : Int) + 1 := by rw [← hn]; simp
    rw [e]
    exact Boxed.set _ s1
  case stop =>
    rintro Dd c pre V _ _ h _
    exact h.elim
  case done =>
    rintro D1 zs V hD rfl ⟨⟨s1, s2, s3⟩, hB1, hs1⟩ hK
    rw [passes_8] at s1
    obtain ⟨N, hN⟩ : ∃ N, V.heap.size = N := ⟨_, rfl⟩
    have c2 := s2.cell
    have f2 := s2.frozen
    obtain ⟨m, hm1, hm8, hm⟩ := most8 M
    have SN : S + 4 ≤ N := by omega
    have S1 := Lib.hid s1
    have S2 := Lib.hid s2
    have S3 := Lib.hid s3
    have HB1 := Lib.hid hB1
    have HM := Lib.hid hm
    have HD1 : Hid (w2.heap.size ≤ D1) := Lib.hid hD
    have DK := Lib.hid hK
    have HNV := Lib.hid hN
    have HS2 := Lib.hid hs1
    clear s1 s2 s3 hB1 hm hD hK hN hs1 bS p1 p2 p3 r1 r2 b2
    go_upto_region 11 with (fail)
    obtain ⟨W3, hW3⟩ : ∃ W, ((V.setCell ⟨B, 0, none⟩ (.int .i64 (wrap64 (1 + wrap64 ((IntKind.u64.wrap M).tmod 8))))).alloc (.cells #[] 62)).alloc (.cells #[.slice (some ⟨V.heap.size, 0, none⟩) 0 0] 61) = W := ⟨_, rfl⟩
    rw [hW3]
    obtain ⟨V1, hV1⟩ : ∃ V1, V.setCell ⟨B, 0, none⟩ (.int .i64 (wrap64 (1 + wrap64 ((IntKind.u64.wrap M).tmod 8)))) = V1 := ⟨_, rfl⟩
    have v1 : Boxed V1 B 3 (.int .i64 (m : Int)) := by rw [← hV1, HM.out]; exact Boxed.set _ S2.out
    have v2 : Boxed V1 (B + 1) 4 (.bool false) := by rw [← hV1]; exact Boxed.other S3.out (by omega) _
    have v3 : Boxed V1 S 3 (.int .i64 7) := by rw [← hV1]; exact Boxed.other S1.out (by omega) _
    have v4 : Below w.heap.size w V1 := by rw [← hV1]; exact HB1.out.setCell (p := ⟨B, 0, none⟩) (by simp only; have := HB0.out; omega) _
    have v5 : V1.heap[D1]? = some (.deferred (some [])) := by rw [← hV1]; exact (KeepsOthers.setCell _ _ _).same D1 _ DK.out rfl
    have v6 : V1.heap.size = N := by rw [← hV1]; simp; exact HNV.out
    have hN3 : V.heap.size = N := HNV.out
    rw [hV1, hN3] at hW3
    have x4 := ((Below.refl V1.heap.size V1).alloc (Nat.le_refl _) (.cells #[] 62)).alloc (by simp) (.cells #[.slice (some ⟨N, 0, none⟩) 0 0] 61)
    rw [hW3] at x4
    have ROW : W3.ownsRow N 62 3 (.slice (some ⟨N, 0, none⟩) 0 0) 0 [] := by
      have h := (World.ownsRow_made (e := 62) (size := 3) V1 #[] 0 (Nat.le_refl _) (by decide) rfl).alloc (.cells #[.slice (some ⟨N, 0, none⟩) 0 0] 61)
      rw [v6, hW3] at h
      exact h
    have y1 := boxed_below v1 x4
    have y2 := boxed_below v2 x4
    have y3 := boxed_below v3 x4
    have y4 := v4.trans (x4.mono v4.size)
    have y5 : W3.heap[D1]? = some (.deferred (some [])) := (x4.block D1 (Array.getElem?_eq_some_iff.1 v5).1).trans v5
    have y6 : Boxed W3 (N + 1) 61 (.slice (some ⟨N, 0, none⟩) 0 0) := by
      rw [← hW3]; have h := Boxed.new (V1.alloc (.cells #[] 62)) 61 (.slice (some ⟨N, 0, none⟩) 0 0); rw [World.size_alloc, v6] at h; exact h
    have y7 : W3.heap.size = N + 2 := by rw [← hW3]; simp [v6]
    rw [hN3]
    rw [HM.out]
    have D1N : D1 < N := by have := (Array.getElem?_eq_some_iff.1 v5).1; omega
    have Y1 := Lib.hid y1
    have Y2 := Lib.hid y2
    have Y3 := Lib.hid y3
    have Y4 := Lib.hid y4
    have Y5 := Lib.hid y5
    have Y6 := Lib.hid y6
    have Y7 := Lib.hid y7
    have YR := Lib.hid ROW
    clear v1 v2 v3 v4 v5 v6 x4 y1 y2 y3 y4 y5 y6 y7 ROW hW3 hV1 hN3 S1 S2 S3 HB1 DK HNV HS2 c2 f2 HM
    go_cut [55] from 42 to 55 (fun c wx => c = .bool (sideB W && sideB H) ∧ W3 = wx)
    case first =>
      have cs : (decide (1 ≤ W) = false ∧ (sideB W && sideB H) = false) ∨ (decide (1 ≤ W) = true ∧ decide (1 ≤ H) = false ∧ (sideB W && sideB H) = false) ∨ (decide (1 ≤ W) = true ∧ decide (1 ≤ H) = true ∧ decide (W ≤ 65535) = false ∧ (sideB W && sideB H) = false) ∨ (decide (1 ≤ W) = true ∧ decide (1 ≤ H) = true ∧ decide (W ≤ 65535) = true ∧ decide (H ≤ 65535) = false ∧ (sideB W && sideB H) = false) ∨ (decide (1 ≤ W) = true ∧ decide (1 ≤ H) = true ∧ decide (W ≤ 65535) = true ∧ decide (H ≤ 65535) = true ∧ (sideB W && sideB H) = true) := by
        unfold sideB
        simp only [decide_eq_true_eq, decide_eq_false_iff_not, Bool.and_eq_false_iff, Bool.and_eq_true]
        omega
      rcases cs with ⟨a1, o⟩ | ⟨a1, a2, o⟩ | ⟨a1, a2, a3, o⟩ | ⟨a1, a2, a3, a4, o⟩ | ⟨a1, a2, a3, a4, o⟩
      all_goals
        have HO := Lib.hid o
        clear o
        go_wp2_with fail
        go_meet
        exact ⟨by rw [HO.out], rfl⟩
    case rest =>
      obtain ⟨rfl, rfl⟩ := hcut
      obtain ⟨ok, hok⟩ : ∃ b, (sideB W && sideB H) = b := ⟨_, rfl⟩
      rw [hok]
      have OK := Lib.hid hok
      clear hok
      go_upto_if 55 with (fail)
      go_cut [] from 13 to 87 (fun wx => ∃ v, Boxed wx (N + 1) 61 v ∧ wx.ownsRow N 62 3 v (passesL W H L).length (flatP (passesL W H L)) ∧ Below N W3 wx)
      case first =>
        cases ok with
        | false => 
          have OL : passesL W H L = [] := if_neg (fun h => by have := OK.out; rw [h.1, h.2.1] at this; exact absurd this (by decide))
          have OLH := Lib.hid OL
          clear OL
          go_wp2_with fail
          go_meet
          exact ⟨_, Y6.out, by rw [OLH.out]; exact YR.out, Below.refl _ _⟩
        | true =>
          have okk := OK.out
          rw [Bool.and_eq_true] at okk
          obtain ⟨a, ha, rfl⟩ : ∃ a : Nat, (1 ≤ a ∧ a ≤ 65535) ∧ W = (a : Int) := ⟨W.toNat, by have := of_decide_eq_true okk.1; omega, by have := of_decide_eq_true okk.1; omega⟩
          obtain ⟨b, hb, rfl⟩ : ∃ b : Nat, (1 ≤ b ∧ b ≤ 65535) ∧ H = (b : Int) := ⟨H.toNat, by have := of_decide_eq_true okk.2; omega, by have := of_decide_eq_true okk.2; omega⟩
          by_cases hL0 : L = 0
          · subst hL0
            have OLH : Hid (passesL (a : Int) (b : Int) 0 = [(0, (a : Int), (b : Int))]) := Lib.hid (by unfold passesL; rw [if_pos ⟨okk.1, okk.2, .inl rfl⟩, if_pos rfl])
            have c6 := Y6.out.cell
            clear okk ha hb
            go_wp2_with (at_builtin; refine stop ?_)
            refine unstop (wpList_app tyP rfl (.tmp 58) (.tmp 62) rfl N _ 0 [] rfl (YR.out.alloc _) _ 1 [.int .i64 0, .int .i64 (a : Int), .int .i64 (b : Int)] rfl (sl3 _ _ _ _ _) (one3 _ _ _) (by omega) (by omega) (by simp; have := Y7.out; omega) ?_)
            intro v' w4 hown hg _
            obtain ⟨g', cap', rfl⟩ := ownsRow_succ hown
            obtain ⟨h1, h2, h3, _, h5⟩ := Boxed.appended Y6.out tyNe YR.out (by have := Y7.out; omega) (by omega) hown hg
            have h1c := h1.cell
            have h1f := h1.frozen
            have H2 := Lib.hid h2
            have H3 := Lib.hid h3
            have H5 := Lib.hid h5
            clear h1 h2 h3 h5 hown hg c6
            go_wp2_with fail
            obtain ⟨w5, hw5⟩ : ∃ w5, w4.setCell ⟨N + 1, 0, none⟩ (.slice (some ⟨g', 0, none⟩) (0 + 1) cap') = w5 := ⟨_, rfl⟩
            have hw5' : w4.setCell ⟨N + 1, 0, none⟩ (.slice (some ⟨g', 0, none⟩) 1 cap') = w5 := hw5
            rw [hw5'] 
            rw [hw5] at H2 H3 H5
            clear hw5 hw5' h1c h1f
            go_loopw [13] (fun p w' => p = .int .i64 0 ∧ w5 = w') (fun _ _ => 0)
            case atStart => exact ⟨rfl, rfl⟩
            case round =>
              obtain ⟨rfl, rfl⟩ := hrel
              go_wp2_with fail
              go_meet
              exact ⟨_, H2.out, by rw [OLH.out]; exact H3.out, H5.out⟩
          · by_cases hL1 : L = 1
            · subst hL1
              have OLH : Hid (passesL (a : Int) (b : Int) 1 = lacedTo a b 7) := Lib.hid (by unfold passesL; rw [if_pos ⟨okk.1, okk.2, .inr rfl⟩, if_neg (by decide)]; rfl)
              have HA := Lib.hid ha
              have HBb := Lib.hid hb
              clear okk ha hb hL0
              go_wp2_with fail
              go_loopw [13, 14, 15] (fun p _ _ w' => ∃ k : Nat, k ≤ 7 ∧ p = .int .i64 k ∧ ∃ v, Boxed w' (N + 1) 61 v ∧ w'.ownsRow N 62 3 v (lacedTo a b k).length (flatP (lacedTo a b k)) ∧ Below N W3 w') (fun p _ _ _ => 7 - (intOf p).toNat)
              case atStart => exact ⟨0, Nat.zero_le _, rfl, _, Y6.out, YR.out, Below.refl _ _⟩
              case round =>
                obtain ⟨k, hk, rfl, v, hbv, hrow, hbel⟩ := hrel
                have BV := Lib.hid hbv
                have RW := Lib.hid hrow
                have BE := Lib.hid hbel
                clear hbv hrow hbel
                by_cases hk7 : k < 7
                · have f1 : decide ((k : Int) < 7) = true := by rw [decide_eq_true_eq]; omega
                  have SZ := Lib.hid (fun X => refSize_at (a : Int) (b : Int) (k : Int) a b k X rfl rfl rfl hk7 HA.out HBb.out)
                  obtain ⟨p, hp⟩ : ∃ p, (sizeN k a b).1 = p := ⟨_, rfl⟩
                  obtain ⟨q, hq⟩ : ∃ q, (sizeN k a b).2 = q := ⟨_, rfl⟩
                  have SC := Lib.hid (lacedTo_succ a b k)
                  have LK := Lib.hid (lacedTo_len a b k)
                  rw [hp, hq] at SZ SC
                  clear hp hq
                  by_cases hp0 : 0 < p
                  · rw [if_pos hp0] at SC
                    have g1 : decide (0 < (p : Int)) = true := by rw [decide_eq_true_eq]; omega
                    have g2 : decide (0 < p) = true := by rw [decide_eq_true_eq]; exact hp0
                    go_wp2_with fail
                    refine (SZ.out _).mono ?_; rintro e w4 ⟨rfl, hb4⟩
                    have bv4 := boxed_below BV.out hb4
                    have rw4 : w4.ownsRow N 62 3 v (lacedTo a b k).length (flatP (lacedTo a b k)) := owns_below RW.out hb4
                    have be4 := BE.out.trans (hb4.mono (by have := BE.out.size; have := Y7.out; omega))
                    have c6 := bv4.cell
                    have sz4 : N + 2 ≤ w4.heap.size := by have := be4.size; have := Y7.out; omega
                    have BV4 := Lib.hid bv4
                    have RW4 := Lib.hid rw4
                    have BE4 := Lib.hid be4
                    have SZ4 := Lib.hid sz4
                    clear hb4 bv4 rw4 be4 sz4
                    go_wp2_with (at_builtin; refine stop ?_)
                    refine unstop (wpList_app tyP rfl (.tmp 81) (.tmp 86) rfl N v (lacedTo a b k).length (flatP (lacedTo a b k)) rfl (RW4.out.alloc _) _ 1 [.int .i64 (k : Int), .int .i64 (p : Int), .int .i64 (q : Int)] rfl (sl3 _ _ _ _ _) (one3 _ _ _) (by have := LK.out; omega) (by have := LK.out; omega) (by simp; have := SZ4.out; omega) ?_)
                    intro v' w5 hown hg _
                    obtain ⟨g', cap', rfl⟩ := ownsRow_succ hown
                    obtain ⟨h1, h2, h3, _, h5⟩ := Boxed.appended BV4.out tyNe RW4.out (by have := SZ4.out; omega) (by omega) hown hg
                    have h1c := h1.cell
                    have h1f := h1.frozen
                    have H2 := Lib.hid h2
                    have H3 := Lib.hid h3
                    have H5 := Lib.hid (BE4.out.trans h5)
                    clear h1 h2 h3 h5 hown hg c6
                    go_wp2_with fail
                    go_roundw
                    case rel => exact ⟨k + 1, by omega, by go_num, _, H2.out, by rw [SC.out, flatP_snoc, List.length_append]; exact H3.out, H5.out⟩
                    case measure => simp [intOf]; omega
                  · rw [if_neg hp0] at SC
                    have g1 : decide (0 < (p : Int)) = false := by rw [decide_eq_false_iff_not]; omega
                    have g2 : decide (0 < p) = false := by rw [decide_eq_false_iff_not]; exact hp0
                    go_wp2_with fail
                    refine (SZ.out _).mono ?_; rintro e w4 ⟨rfl, hb4⟩
                    have BV4 := Lib.hid (boxed_below BV.out hb4)
                    have RW4 : Hid (w4.ownsRow N 62 3 v (lacedTo a b k).length (flatP (lacedTo a b k))) := Lib.hid (owns_below RW.out hb4)
                    have BE4 := Lib.hid (BE.out.trans (hb4.mono (by have := BE.out.size; have := Y7.out; omega)))
                    clear hb4
                    go_wp2_with fail
                    go_roundw
                    case rel => exact ⟨k + 1, by omega, by go_num, _, BV4.out, by rw [SC.out, List.append_nil]; exact RW4.out, BE4.out⟩
                    case measure => simp [intOf]; omega
                · obtain rfl : k = 7 := by omega
                  clear hk7
                  go_wp2_with fail
                  go_meet
                  exact ⟨_, BV.out, by rw [OLH.out]; exact RW.out, BE.out⟩
            · have OLH : Hid (passesL (a : Int) (b : Int) L = []) := Lib.hid (if_neg (fun h => h.2.2.elim hL0 hL1))
              have z0 : (L == 0) = false := by rw [beq_eq_false_iff_ne]; exact hL0
              have z1 : (L == 1) = false := by rw [beq_eq_false_iff_ne]; exact hL1
              clear okk ha hb hL0 hL1
              go_wp2_with fail
              go_loopw [13] (fun p w' => p = .int .i64 0 ∧ W3 = w') (fun _ _ => 0)
              case atStart => exact ⟨rfl, rfl⟩
              case round =>
                obtain ⟨rfl, rfl⟩ := hrel
                go_wp2_with fail
                go_meet
                exact ⟨_, Y6.out, by rw [OLH.out]; exact YR.out, Below.refl _ _⟩
      case rest =>
        obtain ⟨v, bv, rowv, belv⟩ := hcut
        have szc : N + 2 ≤ wc.heap.size := by have := belv.size; have := Y7.out; omega
        have z1 := boxed_low Y1.out belv (by omega)
        have z2 := boxed_low Y2.out belv (by omega)
        have z3 := boxed_low Y3.out belv (by omega)
        have z4 := Y4.out.trans (belv.mono (by have := HB0.out; omega))
        have z5 : wc.heap[D1]? = some (.deferred (some [])) := (belv.block D1 D1N).trans Y5.out
        have sl := sl_of_owns rowv
        obtain ⟨T, hT⟩ : ∃ T, wc.heap.size = T := ⟨_, rfl⟩
        obtain ⟨Ls, hLs⟩ : ∃ l, passesL W H L = l := ⟨_, rfl⟩
        rw [hLs] at sl
        have Z1 := Lib.hid z1
        have Z2 := Lib.hid z2
        have Z3 := Lib.hid z3
        have Z4 := Lib.hid z4
        have Z5 := Lib.hid z5
        have Z6 := Lib.hid bv
        have VLOW : Hid (∀ b off cap, v = .slice (some ⟨b, off, none⟩) Ls.length cap → 0 < Ls.length → b < T) := Lib.hid (fun b off cap hv hn => by rw [← hT]; exact SlN.low sl hv hn (by decide))
        have SL := Lib.hid sl
        have HT := Lib.hid hT
        have HLS := Lib.hid hLs
        clear z1 z2 z3 z4 z5 bv sl rowv belv Y1 Y2 Y3 Y4 Y5 Y6 Y7 YR OK hT hLs
        go_wp2_with fail
        refine (passes_any W H L _).mono ?_; rintro e w6 ⟨rfl, hw6⟩
        go_wp2_with fail
        rw [← hw6]
        rw [show wc.heap.size = T from HT.out]
        have bT : Boxed w6 T 3 (.int .i64 0) := by rw [hw6, ← HT.out]; exact (((Boxed.new wc _ _).alloc _).alloc _).alloc _
        have p1 : Boxed w6 (T + 1) 3 (.int .i64 W) := by rw [hw6, ← HT.out]; have h := Boxed.new (wc.alloc (.cells #[.int .i64 0] 3)) 3 (.int .i64 W); rw [World.size_alloc] at h; exact (h.alloc _).alloc _
        have p2 : Boxed w6 (T + 1 + 1) 3 (.int .i64 H) := by rw [hw6, ← HT.out]; have h := Boxed.new ((wc.alloc (.cells #[.int .i64 0] 3)).alloc (.cells #[.int .i64 W] 3)) 3 (.int .i64 H); simp only [World.size_alloc] at h; exact h.alloc _
        have p3 : Boxed w6 (T + 1 + 1 + 1) 3 (.int .i64 L) := by rw [hw6, ← HT.out]; have h := Boxed.new (((wc.alloc (.cells #[.int .i64 0] 3)).alloc (.cells #[.int .i64 W] 3)).alloc (.cells #[.int .i64 H] 3)) 3 (.int .i64 L); simp only [World.size_alloc] at h; exact h
        have b12 : Below wc.heap.size wc w6 := by rw [hw6]; exact ((((Below.refl _ _).alloc (Nat.le_refl _) _).alloc (by simp) _).alloc (by simp; omega) _).alloc (by simp; omega) _
        have sz6 : w6.heap.size = T + 4 := by rw [hw6, ← HT.out]; simp
        have NT : N + 2 ≤ T := by rw [← HT.out]; exact szc
        have b6 := Z4.out.trans (b12.mono Z4.out.size)
        have r1 := boxed_below Z1.out b12
        have r2 := boxed_below Z2.out b12
        have r3 := boxed_below Z3.out b12
        have r5 : w6.heap[D1]? = some (.deferred (some [])) := (b12.block D1 (by rw [HT.out]; omega)).trans Z5.out
        have r6 := boxed_below Z6.out b12
        have rs := SL.out.old b12
        have BN : B < N := by omega
        have OX : OwnFrom w6.heap.size (fun (_ : Unit) V => (((Boxed V T 3 (.int .i64 (m : Int)) ∧ Boxed V B 3 (.int .i64 (m : Int)) ∧ Boxed V (B + 1) 4 (.bool false) ∧ Boxed V S 3 (.int .i64 7) ∧ Boxed V (N + 1) 61 v) ∧ V.heap[D1]? = some (.deferred (some []))) ∧ (Below w.heap.size w V ∧ w6.heap.size ≤ V.heap.size))) :=
          OwnFrom.and (OwnFrom.and (OwnFrom.and (ownFrom_boxed _ _ _ _) (OwnFrom.and (ownFrom_boxed _ _ _ _) (OwnFrom.and (ownFrom_boxed _ _ _ _) (OwnFrom.and (ownFrom_boxed _ _ _ _) (ownFrom_boxed _ _ _ _))))) (ownFrom_low (by omega) _)) (OwnFrom.and (ownFrom_below (Nat.le_refl _) b6.size) (ownFrom_size _ _))
        clear hw6 b12 szc Z1 Z2 Z3 Z4 Z5 Z6 SL HT
        refine wpIn_wide.1 (wpIn_rangeFunc_ownH (F := Fence.wide) (n := 6) rfl (by omega) (gf := 28) (lb := #[.pointer (some ⟨T + 1, 0, none⟩), .pointer (some ⟨T + 1 + 1, 0, none⟩), .pointer (some ⟨T + 1 + 1 + 1, 0, none⟩)]) rfl trivial (enters_of Try.func28 (by kernel_rfl) rfl)
          (passes_stops (6 - 1) (by omega) (T + 1) (T + 1 + 1) (T + 1 + 1 + 1) W H L w6 p1.cell p2.cell p3.cell) KeepB.trans (KeepB.put (by intro b hb; simp only [List.mem_cons, List.not_mem_nil, or_false] at hb; omega)) (Below.refl _ _) (fun _ => rfl)
          (fun pre V => ((((Boxed V T 3 (.int .i64 (pre.length : Nat)) ∧ Boxed V B 3 (.int .i64 (m : Int)) ∧ Boxed V (B + 1) 4 (.bool false) ∧ Boxed V S 3 (.int .i64 7) ∧ Boxed V (N + 1) 61 v) ∧ SlN 3 V v Ls.length (flatP Ls)) ∧ V.heap[D1]? = some (.deferred (some []))) ∧ (Below w.heap.size w V ∧ w6.heap.size ≤ V.heap.size)) ∧ (pre <+: Ls ∧ pre.length < m))
          (fun c pre V => (c = .ret ∧ ¬ pre <+: Ls) ∨ (c = .exit 4 ∧ pre <+: Ls ∧ pre.length = m ∧ (((Boxed V T 3 (.int .i64 (m : Int)) ∧ Boxed V B 3 (.int .i64 (m : Int)) ∧ Boxed V (B + 1) 4 (.bool false) ∧ Boxed V S 3 (.int .i64 7) ∧ Boxed V (N + 1) 61 v) ∧ V.heap[D1]? = some (.deferred (some []))) ∧ (Below w.heap.size w V ∧ w6.heap.size ≤ V.heap.size))))
          (OwnFrom.and (OwnFrom.and (OwnFrom.and (OwnFrom.and (OwnFrom.and (ownFrom_boxed _ _ _ _) (OwnFrom.and (ownFrom_boxed _ _ _ _) (OwnFrom.and (ownFrom_boxed _ _ _ _) (OwnFrom.and (ownFrom_boxed _ _ _ _) (ownFrom_boxed _ _ _ _))))) (Own.from (slN_own _ _ _ _) _)) (ownFrom_low (B := w6.heap.size) (b := D1) (by omega) _)) (OwnFrom.and (ownFrom_below (Nat.le_refl _) b6.size) (ownFrom_size _ _))) (ownFrom_pure _ _))
          (fun c s X Y row hs hg hr => by
            rcases hs with h | ⟨h1, h2, h3, h4⟩
            · exact .inl h
            · exact .inr ⟨h1, h2, h3, OX () X Y row h4 hg hr⟩)
          ⟨⟨⟨⟨⟨bT, r1, r2, r3, r6⟩, rs⟩, r5⟩, b6, Nat.le_refl _⟩, List.nil_prefix, hm1⟩
          (fun x a' V => ∃ Bx, w6.heap.size ≤ Bx ∧ V.heap[Bx]? = some (.cells #[.int .i64 x.2.1, .int .i64 x.2.2] 45 (0, 0)) ∧ a' = { tmps := #[Value.int IntKind.i64 W, Value.int IntKind.i64 H, Value.int IntKind.i64 L, Value.int IntKind.i64 M, undef, undef, undef, Value.pointer (some { block := B, off := 0 }), Value.pointer (some { block := B + 1, off := 0 }), Value.int IntKind.i64 4, Value.int IntKind.i64 4, Value.pointer (some { block := S, off := 0 }), Value.pointer (some { block := N + 1, off := 0 }), u13, u14, u15, Value.pointer (some { block := T, off := 0 }), .int .i64 x.1, .pointer (some ⟨Bx, 0, none⟩), u19, u20, u21, u22, u23, u24, u25, u26, u27, u28, u29, u30, u31, u32, u33, u34, u35, u36, u37, u38, u39, u40, u41, u42, u43, u44, u45, u46, u47, u48, u49, u50, u51, u52, u53, u54, u55, u56, u57, u58, u59, u60, u61, u62, u63, u64, u65, u66, u67, u68, u69, u70, u71, u72, u73, u74, u75, u76, u77, u78, u79, u80, u81, u82, u83, u84, u85, u86, u87, Value.int IntKind.i64 W, Value.int IntKind.i64 H, Value.int IntKind.i64 L, Value.func (Fn.func 28) #[] #[Value.pointer (some { block := T + 1, off := 0 }), Value.pointer (some { block := T + 1 + 1, off := 0 }), Value.pointer (some { block := T + 1 + 1 + 1, off := 0 })], .int .i64 x.1, .agg #[.int .i64 x.2.1, .int .i64 x.2.2], undef, undef, undef, undef, undef, undef, undef, undef, undef, undef, undef, undef, undef, undef, undef, undef, undef, undef, undef, undef, undef, undef, undef, undef, undef, undef, undef, undef, undef, undef, undef, undef], defers := [] })
          (fun x a' _ X Y row hs hg hr => by
            obtain ⟨Bx, h1, h2, h3⟩ := hs
            exact ⟨Bx, h1, heap_own Bx _ rfl () X Y row h2 hg (fun r e => (hr r e).2), h3⟩)
          ?assign2 ?body2 ?done2 ?stop2)
        case assign2 =>
          rintro l pre x V K ⟨⟨⟨⟨⟨t1, t2, t3, t4, t5⟩, t6⟩, t7⟩, hB1, hs1⟩, hp⟩ hK
          gi_wp2
          refine hK _ _ ((KeepsOthers.alloc _ _).from _) ⟨by simp, fun b hb => Below.heap_alloc _ _ _ (by simp only [List.mem_cons, List.not_mem_nil, or_false] at hb; omega)⟩
            ⟨⟨⟨⟨⟨t1.alloc _, t2.alloc _, t3.alloc _, t4.alloc _, t5.alloc _⟩, t6.old ((Below.refl _ V).alloc (Nat.le_refl _) _)⟩, (Below.heap_alloc _ _ _ (Array.getElem?_eq_some_iff.1 t7).1).trans t7⟩, hB1.alloc hB1.size _, Nat.le_trans hs1 (by simp)⟩, hp⟩ ⟨V.heap.size, hs1, heap_alloc_new V _, rfl⟩
        case body2 =>
          rintro l pre x a' V hl ⟨r, hr⟩ ⟨⟨⟨⟨⟨t1, t2, t3, t4, t5⟩, t6⟩, t7⟩, hB1, hs1⟩, hpre, hpm⟩ ⟨Bx, hBx, bX, rfl⟩ hlt
          have x0 : V.cell? ⟨Bx, 0, none⟩ = some (.int .i64 x.2.1) := by rw [cell_of_row _ _ 0 _ _ (0, 0) bX]; rfl
          have x1 : V.cell? ⟨Bx, 1, none⟩ = some (.int .i64 x.2.2) := by rw [cell_of_row _ _ 1 _ _ (0, 0) bX]; rfl
          obtain ⟨va, vc, rfl⟩ : ∃ a c, v = .slice a Ls.length c := by
            rcases t6.2 with ⟨a, c, h, _⟩ | ⟨b, o, c, h, _⟩
            · exact ⟨_, _, h⟩
            · exact ⟨_, _, h⟩
          have TT := Lib.hid (And.intro t1 (And.intro t2 (And.intro t3 (And.intro t4 t5))))
          have T6 := Lib.hid t6
          have T7 := Lib.hid t7
          have HB := Lib.hid hB1
          have HS := Lib.hid hs1
          have c1 := t1.cell
          have c5 := t5.cell
          obtain ⟨n, hn⟩ : ∃ n, pre.length = n := ⟨_, rfl⟩
          rw [hn] at c1 hpm
          have HN := Lib.hid hn
          have PRE := Lib.hid hpre
          have n8 : n < 8 := by omega
          have BXV : Bx < V.heap.size := (Array.getElem?_eq_some_iff.1 bX).1
          obtain ⟨xa, xb, xc⟩ := x
          dsimp only at x0 x1
          have NOT : Hid (¬ (pre ++ [(xa, xb, xc)] <+: Ls) → KeepsFrom w6.heap.size V (V.drew.setCell ⟨B + 1, 0, none⟩ (.bool false))) := Lib.hid (fun _ => (keepsFrom_below (Below.refl _ V).drew).trans (keepsFrom_set _ _ _))
          clear t1 t2 t3 t4 t5 t6 t7 hB1 hs1 hn hpre hlt
          by_cases hnl : n < Ls.length
          · have g1 : decide ((Ls.length : Int) ≤ (n : Int)) = false := by rw [decide_eq_false_iff_not]; omega
            have g2 : decide (Ls.length ≤ n) = false := by rw [decide_eq_false_iff_not]; omega
            have g3 : (n : Int) < (Ls.length : Int) := by omega
            obtain ⟨ya, yb, yc, hy⟩ : ∃ a b c, Ls[n] = (a, b, c) := ⟨_, _, _, rfl⟩
            obtain ⟨vb, vo, rfl, va1, va2, va3⟩ : ∃ vb vo, va = some ⟨vb, vo, none⟩ ∧ V.cell? ⟨vb, vo + n * 3, none⟩ = some (.int .i64 ya) ∧ V.cell? ⟨vb, vo + n * 3 + 1, none⟩ = some (.int .i64 yb) ∧ V.cell? ⟨vb, vo + n * 3 + 2, none⟩ = some (.int .i64 yc) := by
              obtain ⟨q1, q2, q3⟩ := flatP_at Ls n hnl ya yb yc hy
              rcases T6.out.2 with ⟨a, c, h, h0⟩ | ⟨b, o, c, h, _, _, hx⟩
              · omega
              · simp only [Value.slice.injEq] at h
                exact ⟨b, o, h.1, hx _ _ q1, by rw [Nat.add_assoc]; exact hx _ _ q2, by rw [Nat.add_assoc]; exact hx _ _ q3⟩
            have EQ3 := Lib.hid (eq3 xa xb xc ya yb yc)
            have RX : Hid ((xa == ya && (xb == yb && xc == yc)) = decide (pre ++ [(xa, xb, xc)] <+: Ls)) := Lib.hid (by
              rw [Bool.eq_iff_iff, decide_eq_true_eq, snoc_prefix PRE.out (by rw [HN.out]; exact hnl)]
              have e : Ls[pre.length]'(by rw [HN.out]; exact hnl) = (ya, yb, yc) := by simp only [HN.out]; exact hy
              rw [e]
              simp)
            rw [RX.out] at EQ3
            obtain ⟨r, hr⟩ : ∃ r, decide (pre ++ [(xa, xb, xc)] <+: Ls) = r := ⟨_, rfl⟩
            rw [hr] at EQ3
            have HR := Lib.hid hr
            clear hr hy RX
            gi_wp2_with fail
            refine wpIn_region_q (fun X => X.cell? ⟨T, 0, none⟩ = some (.int .i64 (n : Int)) ∧ X.cell? ⟨N + 1, 0, none⟩ = some (.slice (some ⟨vb, vo, none⟩) Ls.length vc) ∧ X.cell? ⟨Bx, 0, none⟩ = some (.int .i64 xb) ∧ X.cell? ⟨Bx, 1, none⟩ = some (.int .i64 xc) ∧
              X.cell? ⟨vb, vo + n * 3, none⟩ = some (.int .i64 ya) ∧ X.cell? ⟨vb, vo + n * 3 + 1, none⟩ = some (.int .i64 yb) ∧ X.cell? ⟨vb, vo + n * 3 + 2, none⟩ = some (.int .i64 yc) ∧ X = V.drew) (by kernel_rfl) (by kernel_rfl) (by kernel_rfl) (fun _ _ h => h) ⟨c1, c5, x0, x1, va1, va2, va3, rfl⟩ ?_
            clear c1 c5 x0 x1 va1 va2 va3
            repeat
              first
              | go_big_quiet_skip
              | (go_big_quiet_want
                 first
                 | (go_big_quiet_op; go_big_quiet_on)
                 | (apply Exists.intro
                    refine ⟨fun X hX => ?_, ?_⟩
                    · obtain ⟨e1, e2, e3, e4, e5, e6, e7, e8⟩ := hX
                      clear e8
                      unfold Oper.quietAt
                      go_simp
                      first
                      | exact ⟨rfl, rfl⟩
                      | exact rfl
                    go_big_quiet_on
                    try simp only [Act.put, List.setIfInBounds_toArray, List.set_cons_zero, List.set_cons_succ]))
            go_big_quiet_want
            apply Exists.intro
            refine ⟨fun X hX => ?_, ?_⟩
            · have hq := EQ3.out X
              clear hX
              unfold Oper.quietAt
              go_simp
              first
              | exact ⟨rfl, rfl⟩
              | exact rfl
            go_big_quiet_on
            simp only [Act.put, List.setIfInBounds_toArray, List.set_cons_zero, List.set_cons_succ]
            cases r with
            | true =>
              repeat
                first
                | go_big_quiet_skip
                | (go_big_quiet_want
                   first
                   | (go_big_quiet_op; go_big_quiet_on)
                   | (apply Exists.intro
                      refine ⟨fun X hX => ?_, ?_⟩
                      · clear hX
                        unfold Oper.quietAt
                        go_simp
                        first
                        | exact ⟨rfl, rfl⟩
                        | exact rfl
                      go_big_quiet_on
                      try simp only [Act.put, List.setIfInBounds_toArray, List.set_cons_zero, List.set_cons_succ]))
              refine wpQuiet_nil ?_
              rintro X ⟨_, _, _, _, _, _, _, rfl⟩
              have hpx : pre ++ [(xa, xb, xc)] <+: Ls := of_decide_eq_true HR.out
              have hle : (((pre ++ [(xa, xb, xc)]).length : Nat) : Int) = (n : Int) + 1 := by rw [List.length_append, HN.out]; simp
              have d1 := TT.out.1.cell
              rw [HN.out] at d1
              have d2 := TT.out.1.frozen
              have d3 := TT.out.2.1.cell
              obtain ⟨t1, t2, t3, t4, t5⟩ := TT.out
              have G1 := Lib.hid (Boxed.set (.int .i64 ((n : Int) + 1)) t1)
              have G2 := Lib.hid (Boxed.other t2 (show B ≠ T by omega) (.int .i64 ((n : Int) + 1)))
              have G3 := Lib.hid (Boxed.other t3 (show B + 1 ≠ T by omega) (.int .i64 ((n : Int) + 1)))
              have G4 := Lib.hid (Boxed.other t4 (show S ≠ T by omega) (.int .i64 ((n : Int) + 1)))
              have G5 := Lib.hid (Boxed.other t5 (show N + 1 ≠ T by omega) (.int .i64 ((n : Int) + 1)))
              have G6 := Lib.hid (SlN.setOther (a := ⟨T, 0, none⟩) T6.out (.int .i64 ((n : Int) + 1)) (fun b off cap hv => Nat.ne_of_lt (VLOW.out b off cap hv (by omega))))
              have G7 := Lib.hid ((KeepsOthers.setCell V ⟨T, 0, none⟩ (.int .i64 ((n : Int) + 1))).same D1 _ T7.out rfl)
              have G8 := Lib.hid (HB.out.setCell (p := ⟨T, 0, none⟩) (by simp only; have := HB0.out; omega) (.int .i64 ((n : Int) + 1)))
              have HPX := Lib.hid hpx
              have HLE := Lib.hid hle
              have KF : Hid (KeepsFrom w6.heap.size V (V.drew.setCell ⟨T, 0, none⟩ (.int .i64 ((n : Int) + 1)))) := Lib.hid ((keepsFrom_below (Below.refl _ V).drew).trans (keepsFrom_set _ _ _))
              have KB : Hid (KeepB [T + 1, T + 1 + 1, T + 1 + 1 + 1] V (V.drew.setCell ⟨T, 0, none⟩ (.int .i64 ((n : Int) + 1)))) := Lib.hid ⟨by simp, fun b hb => Go.Deep.blk_setCell_other _ _ _ _ (by simp only [List.mem_cons, List.not_mem_nil, or_false] at hb; simp only; omega)⟩
              clear t1 t2 t3 t4 t5 hpx hle
              by_cases hnm : n + 1 = m
              · have i1 : ((n : Int) + 1 == (m : Int)) = true := by rw [beq_iff_eq]; omega
                have i2 : (n + 1 == m) = true := by rw [beq_iff_eq]; exact hnm
                have HNM := Lib.hid hnm
                clear hnm
                gi_wp2
                refine ⟨KF.out, .inr ⟨rfl, HPX.out, ?_, ⟨⟨?_, G2.out, G3.out, G4.out, G5.out⟩, G7.out⟩, G8.out.drew, ?_⟩⟩
                · have := HLE.out; have := HNM.out; omega
                · have e : ((m : Nat) : Int) = (n : Int) + 1 := by have := HNM.out; omega
                  rw [e]; exact G1.out
                · simp; exact HS.out
              · have i1 : ((n : Int) + 1 == (m : Int)) = false := by rw [beq_eq_false_iff_ne]; omega
                have i2 : (n + 1 == m) = false := by rw [beq_eq_false_iff_ne]; exact hnm
                have HNM := Lib.hid hnm
                clear hnm
                gi_wp2
                refine ⟨KF.out, KB.out, ⟨⟨⟨⟨?_, G2.out, G3.out, G4.out, G5.out⟩, G6.out⟩, G7.out⟩, G8.out.drew, ?_⟩, HPX.out, ?_⟩
                · rw [HLE.out]; exact G1.out
                · simp; exact HS.out
                · have := HLE.out; have := HNM.out; omega
            | false =>
              repeat
                first
                | go_big_quiet_skip
                | (go_big_quiet_want
                   first
                   | (go_big_quiet_op; go_big_quiet_on)
                   | (apply Exists.intro
                      refine ⟨fun X hX => ?_, ?_⟩
                      · clear hX
                        unfold Oper.quietAt
                        go_simp
                        first
                        | exact ⟨rfl, rfl⟩
                        | exact rfl
                      go_big_quiet_on
                      try simp only [Act.put, List.setIfInBounds_toArray, List.set_cons_zero, List.set_cons_succ]))
              refine wpQuiet_nil ?_
              rintro X ⟨_, _, _, _, _, _, _, rfl⟩
              have d3 := TT.out.2.2.1.cell
              have d4 := TT.out.2.2.1.frozen
              gi_wp2
              exact ⟨NOT.out (of_decide_eq_false HR.out), .inl ⟨rfl, of_decide_eq_false HR.out⟩⟩
          · have g1 : decide ((Ls.length : Int) ≤ (n : Int)) = true := by rw [decide_eq_true_eq]; omega
            have g2 : decide (Ls.length ≤ n) = true := by rw [decide_eq_true_eq]; omega
            gi_wp2_with fail
            refine wpIn_region_q (fun X => X.cell? ⟨T, 0, none⟩ = some (.int .i64 (n : Int)) ∧ X.cell? ⟨N + 1, 0, none⟩ = some (.slice va Ls.length vc) ∧ X.cell? ⟨Bx, 0, none⟩ = some (.int .i64 xb) ∧ X.cell? ⟨Bx, 1, none⟩ = some (.int .i64 xc) ∧ X = V.drew) (by kernel_rfl) (by kernel_rfl) (by kernel_rfl) (fun _ _ h => h) ⟨c1, c5, x0, x1, rfl⟩ ?_
            clear c1 c5 x0 x1
            repeat
              first
              | go_big_quiet_skip
              | (go_big_quiet_want
                 first
                 | (go_big_quiet_op; go_big_quiet_on)
                 | (apply Exists.intro
                    refine ⟨fun X hX => ?_, ?_⟩
                    · obtain ⟨e1, e2, e3, e4, e5⟩ := hX
                      clear e5
                      unfold Oper.quietAt
                      go_simp
                      first
                      | exact ⟨rfl, rfl⟩
                      | exact rfl
                    go_big_quiet_on
                    try simp only [Act.put, List.setIfInBounds_toArray, List.set_cons_zero, List.set_cons_succ]))
            refine wpQuiet_nil ?_
            rintro X ⟨e1, e2, e3, e4, rfl⟩
            have d3 := TT.out.2.2.1.cell
            have d4 := TT.out.2.2.1.frozen
            have hnot : ¬ (pre ++ [(xa, xb, xc)] <+: Ls) := fun h => by have := h.length_le; rw [List.length_append, HN.out] at this; simp at this; omega
            have HNOT := Lib.hid hnot
            clear hnot
            gi_wp2
            exact ⟨NOT.out HNOT.out, .inl ⟨rfl, HNOT.out⟩⟩
        case done2 =>
          rintro D2 zs Z hD2 rfl ⟨⟨⟨⟨⟨t1, t2, t3, t4, t5⟩, t6⟩, t7⟩, hBz, hs1⟩, hpre, hpm⟩ hK2
          rw [HLS.out] at t1 hpm
          obtain ⟨va, vc, rfl⟩ : ∃ a c, v = .slice a Ls.length c := by
            rcases t6.2 with ⟨a, c, h, _⟩ | ⟨b, o, c, h, _⟩
            · exact ⟨_, _, h⟩
            · exact ⟨_, _, h⟩
          have m1 : min (m : Int) (Ls.length : Int) = (Ls.length : Int) := by omega
          have m2 : decide ((m : Int) ≤ (Ls.length : Int)) = false := by rw [decide_eq_false_iff_not]; omega
          have m3 : decide ((Ls.length : Int) < (m : Int)) = true := by rw [decide_eq_true_eq]; omega
          have m4 : decide ((m : Int) < (Ls.length : Int)) = false := by rw [decide_eq_false_iff_not]; omega
          clear t6 hpre hs1
          have c1 := t1.cell
          have c2 := t2.cell
          have c3 := t3.cell
          have f3 := t3.frozen
          have c4 := t4.cell
          have c5 := t5.cell
          have K2 : Hid ((Z.setCell ⟨B + 1, 0, none⟩ (.bool true)).heap[D2]? = some (.deferred (some []))) := Lib.hid ((KeepsOthers.setCell _ _ _).same D2 _ hK2 rfl)
          have K1 : Hid ((Z.setCell ⟨B + 1, 0, none⟩ (.bool true)).heap[D1]? = some (.deferred (some []))) := Lib.hid ((KeepsOthers.setCell _ _ _).same D1 _ t7 rfl)
          have RS := Lib.hid (Boxed.set (.bool true) t3)
          have BZ := Lib.hid (hBz.setCell (p := ⟨B + 1, 0, none⟩) (by simp only; have := HB0.out; omega) (.bool true))
          have D12 : D1 ≠ D2 := by omega
          have D1w : w.heap.size ≤ D1 := by have := HD1.out; have := HB0.out; omega
          have D2w : w.heap.size ≤ D2 := by have := HB0.out; omega
          clear t1 t2 t3 t4 t5 t7 hK2 hBz
          go_wp2_with fail
          obtain ⟨Y, hY⟩ : ∃ Y, Z.setCell ⟨B + 1, 0, none⟩ (.bool true) = Y := ⟨_, rfl⟩
          rw [hY] at K2 K1 RS BZ
          rw [hY]
          clear hY
          have K1' : (Y.putObj D2 (.deferred none)).heap[D1]? = some (.deferred (some [])) := (World.putObj_heap_other D12).trans K1.out
          refine ⟨by simp, .inl ⟨_, _, rfl, run_takeDeferred K2.out, by simp, .inl ⟨_, _, rfl, run_takeDeferred K1', ?_⟩⟩⟩
          have r1 := cell_kept RS.out.cell (grownBy_putObj' _ D2 (.deferred none)) (fun r e => by cases e; exact ⟨_, K2.out, rfl⟩)
          have r2 := cell_kept r1 (grownBy_putObj' _ D1 (.deferred none)) (fun r e => by cases e; exact ⟨_, K1', rfl⟩)
          refine ⟨.bool true, ?_, rfl, ?_⟩
          · simp [results, Try.f18, go_sem, r2]
          · exact (BZ.out.trans (belowK_b (w := w) (Nat.le_refl _) Y D2 _ _ D2w K2.out rfl rfl)).trans (belowK_b (w := w) (Nat.le_refl _) _ D1 _ _ D1w K1' rfl rfl)
        case stop2 =>
          rintro D2 c pre Z hD2 hSp hIx hK2
          rcases hIx with ⟨rfl, hn⟩ | ⟨rfl, hp, hpm, ⟨⟨t1, t2, t3, t4, t5⟩, t7⟩, hBz, hs1⟩
          · exact absurd (by rw [← HLS.out]; exact hSp) hn
          obtain ⟨va, vc, rfl⟩ : ∃ a c, v = .slice a Ls.length c := by
            rcases rs.2 with ⟨a, c, h, _⟩ | ⟨b, o, c, h, _⟩
            · exact ⟨_, _, h⟩
            · exact ⟨_, _, h⟩
          have hml : m ≤ Ls.length := by have := hp.length_le; omega
          have m1 : min (m : Int) (Ls.length : Int) = (m : Int) := by omega
          have m2 : decide ((Ls.length : Int) ≤ (m : Int)) = decide (Ls.length ≤ m) := by rw [Bool.eq_iff_iff]; simp
          have m3 : decide ((Ls.length : Int) < (m : Int)) = false := by rw [decide_eq_false_iff_not]; omega
          clear hp hs1 hSp hpm
          have c1 := t1.cell
          have c2 := t2.cell
          have c3 := t3.cell
          have f3 := t3.frozen
          have c4 := t4.cell
          have c5 := t5.cell
          have K2 : Hid ((Z.setCell ⟨B + 1, 0, none⟩ (.bool true)).heap[D2]? = some (.deferred (some []))) := Lib.hid ((KeepsOthers.setCell _ _ _).same D2 _ hK2 rfl)
          have K1 : Hid ((Z.setCell ⟨B + 1, 0, none⟩ (.bool true)).heap[D1]? = some (.deferred (some []))) := Lib.hid ((KeepsOthers.setCell _ _ _).same D1 _ t7 rfl)
          have RS := Lib.hid (Boxed.set (.bool true) t3)
          have BZ := Lib.hid (hBz.setCell (p := ⟨B + 1, 0, none⟩) (by simp only; have := HB0.out; omega) (.bool true))
          have D12 : D1 ≠ D2 := by omega
          have D1w : w.heap.size ≤ D1 := by have := HD1.out; have := HB0.out; omega
          have D2w : w.heap.size ≤ D2 := by have := HB0.out; omega
          clear t1 t2 t3 t4 t5 t7 hK2 hBz
          refine wpIn_exit ?_
          go_wp2_with fail
          obtain ⟨Y, hY⟩ : ∃ Y, Z.setCell ⟨B + 1, 0, none⟩ (.bool true) = Y := ⟨_, rfl⟩
          rw [hY] at K2 K1 RS BZ
          rw [hY]
          clear hY
          have K1' : (Y.putObj D2 (.deferred none)).heap[D1]? = some (.deferred (some [])) := (World.putObj_heap_other D12).trans K1.out
          refine ⟨by simp, .inl ⟨_, _, rfl, run_takeDeferred K2.out, by simp, .inl ⟨_, _, rfl, run_takeDeferred K1', ?_⟩⟩⟩
          have r1 := cell_kept RS.out.cell (grownBy_putObj' _ D2 (.deferred none)) (fun r e => by cases e; exact ⟨_, K2.out, rfl⟩)
          have r2 := cell_kept r1 (grownBy_putObj' _ D1 (.deferred none)) (fun r e => by cases e; exact ⟨_, K1', rfl⟩)
          refine ⟨.bool true, ?_, rfl, ?_⟩
          · simp [results, Try.f18, go_sem, r2]
          · exact (BZ.out.trans (belowK_b (w := w) (Nat.le_refl _) Y D2 _ _ D2w K2.out rfl rfl)).trans (belowK_b (w := w) (Nat.le_refl _) _ D1 _ _ D1w K1' rfl rfl)
end Go.Proofs.Ytfmkcpilljfidaa
