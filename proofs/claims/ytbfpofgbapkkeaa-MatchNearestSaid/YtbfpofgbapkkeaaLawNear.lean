/- MatchNearest: the law's walk. By an AI agent. -/
import Derived.Test.YtbfpofgbapkkeaaNearI
import Derived.Test.YtbfpofgbapkkeaaAlive8
namespace Go.Proofs.Ytbfpofgbapkkeaa
open Go.RowKit Go.Shelf
set_option linter.unusedVariables false
set_option linter.unusedSimpArgs false
attribute [local go_sem] Oper.semAt_some

theorem firstFar_least {l : List UInt8} {p n : Nat} : ∀ {m d far : Nat}, firstFar l p n m = some d → 1 ≤ far → far ≤ m → n ≤ commonOf l (p - far) p → d ≤ far
  | 0, d, far, h, _, _, _ => by simp [firstFar] at h
  | m + 1, d, far, h, h1, h2, h3 => by
    rw [firstFar] at h
    cases hf : firstFar l p n m with
    | some x =>
      rw [hf] at h
      simp only [Option.some.injEq] at h
      subst h
      by_cases e : far = m + 1
      · have := firstFar_pos hf; omega
      · exact firstFar_least hf h1 (by omega) h3
    | none =>
      rw [hf] at h
      simp only at h
      by_cases e : far = m + 1
      · split at h
        · simp only [Option.some.injEq] at h; omega
        · cases h
      · exfalso
        have hno : ∀ (k : Nat), firstFar l p n k = none → ∀ far, 1 ≤ far → far ≤ k → ¬ n ≤ commonOf l (p - far) p := by
          intro k
          induction k with
          | zero => intro _ far a b; omega
          | succ k ih =>
            intro hk far a b c
            rw [firstFar] at hk
            cases hk2 : firstFar l p n k with
            | some z => rw [hk2] at hk; cases hk
            | none =>
              rw [hk2] at hk
              simp only at hk
              by_cases e2 : far = k + 1
              · subst e2; rw [if_pos c] at hk; cases hk
              · exact ih hk2 far a (by omega) c
        exact hno m hf far h1 (by omega) h3
theorem firstFar_common {l : List UInt8} {p n : Nat} : ∀ {m d : Nat}, firstFar l p n m = some d → n ≤ commonOf l (p - d) p
  | 0, d, h => by simp [firstFar] at h
  | m + 1, d, h => by
    rw [firstFar] at h
    cases hf : firstFar l p n m with
    | some x => rw [hf] at h; simp only [Option.some.injEq] at h; subst h; exact firstFar_common hf
    | none =>
      rw [hf] at h
      simp only at h
      split at h
      · simp only [Option.some.injEq] at h; subst h; assumption
      · cases h
theorem pairs_want {l : List UInt8} {p : Int} {pre : List (Nat × Nat)} {x : Nat × Nat} (h : pre ++ [x] <+: pairsL (some l) p) :
    x.1 = 3 + pre.length ∧ (nearI l p)[pre.length]? = some (x.2 : Int) ∧ (lastT pre).2 ≤ x.2 := by
  have key : ∀ (q : List (Nat × Nat)) (y : Nat × Nat), q ++ [y] <+: pairsL (some l) p → (pairsL (some l) p)[q.length]? = some y := by
    rintro q y ⟨t, ht⟩
    rw [← ht]
    simp
  have hx := key pre x h
  unfold pairsL at hx
  rw [betterL_some] at hx
  by_cases hok : 0 ≤ p ∧ p < (l.length : Int)
  · rw [if_pos hok] at hx
    have hr : Rising 2 (recs l p.toNat) := recs_rising l p.toNat (min p.toNat 32768)
    rw [pairs_at 2 _ hr] at hx
    rw [show nearI l p = (nearL l p.toNat).map fun d : Nat => (d : Int) from if_pos hok]
    change ((nearL l p.toNat)[pre.length]?).map _ = some x at hx
    cases hn : (nearL l p.toNat)[pre.length]? with
    | none => rw [hn] at hx; cases hx
    | some d =>
      rw [hn] at hx
      simp only [Option.map_some, Option.some.injEq] at hx
      subst hx
      refine ⟨rfl, by rw [List.getElem?_map, hn]; rfl, ?_⟩
      rcases List.eq_nil_or_concat pre with rfl | ⟨q, y, rfl⟩
      · simp [lastT]
      · rw [List.concat_eq_append] at *
        rw [lastT_snoc]
        have hy := key q y ((List.prefix_append (q ++ [y]) [_]).trans h)
        unfold pairsL at hy
        rw [betterL_some, if_pos hok, pairs_at 2 _ hr] at hy
        change ((nearL l p.toNat)[q.length]?).map _ = some y at hy
        cases hm : (nearL l p.toNat)[q.length]? with
        | none => rw [hm] at hy; cases hy
        | some e =>
          rw [hm] at hy
          simp only [Option.map_some, Option.some.injEq] at hy
          subst hy
          simp only
          rw [near_at] at hn hm
          rw [show (q ++ [(2 + 1 + q.length, e)]).length = q.length + 1 by simp] at hn
          have hd := firstFar_pos hn
          exact firstFar_least hm hd.1 hd.2 (by have := firstFar_common hn; omega)
  · rw [if_neg hok] at hx
    simp [pairs] at hx
theorem pairs_len (l : List UInt8) (p : Int) : (pairsL (some l) p).length = (nearI l p).length := by
  unfold pairsL
  rw [betterL_some]
  by_cases hok : 0 ≤ p ∧ p < (l.length : Int)
  · rw [if_pos hok, show nearI l p = (nearL l p.toNat).map fun d : Nat => (d : Int) from if_pos hok, List.length_map]
    have hr : Rising 2 (recs l p.toNat) := recs_rising l p.toNat (min p.toNat 32768)
    have h := pairs_at 2 (recs l p.toNat) hr
    have e : ∀ i, (pairs 2 (recs l p.toNat))[i]? = none ↔ (nearL l p.toNat)[i]? = none := fun i => by
      rw [h i]
      change ((nearL l p.toNat)[i]?).map _ = none ↔ _
      exact Option.map_eq_none_iff
    refine Nat.le_antisymm ?_ ?_
    · have := (e (nearL l p.toNat).length).2 (by simp)
      rwa [List.getElem?_eq_none_iff] at this
    · have := (e (pairs 2 (recs l p.toNat)).length).1 (by simp)
      rwa [List.getElem?_eq_none_iff] at this
  · rw [if_neg hok, show nearI l p = [] from if_neg hok]
    rfl
/-- most, between 1 and 300 -/
theorem most300 (k : Int) : ∃ m : Nat, 1 ≤ m ∧ m ≤ 300 ∧ wrap64 (1 + wrap64 ((IntKind.u64.wrap k).tmod 300)) = (m : Int) := by
  have h0 : 0 ≤ IntKind.u64.wrap k := by simp [IntKind.wrap, IntKind.signed, IntKind.bits]; omega
  refine ⟨(1 + IntKind.u64.wrap k % 300).toNat, by omega, by omega, ?_⟩
  rw [Int.tmod_eq_emod_of_nonneg h0, IntWalk.wrap64_in (IntKind.u64.wrap k % 300) (by omega), IntWalk.wrap64_in _ (by omega)]
  omega

/-- where the loop stands -/
structure NearL (R S m : Nat) (w : World) (wv : Value) (W : List Int) (pre : List (Nat × Nat)) (V : World) : Prop where
  mb : Boxed V R 3 (.int .i64 (m : Int))
  rb : Boxed V (R + 1) 4 (.bool false)
  wb : Boxed V S 38 wv
  kb : Boxed V (S + 1) 3 (.int .i64 ((pre.length : Nat) : Int))
  lb : Boxed V (S + 1 + 1) 3 (.int .i64 (((lastT pre).2 : Nat) : Int))
  below : Below R w V
  size : S + 5 ≤ V.heap.size
  ws : ∀ i (h : i < W.length), ∃ b off, b < S ∧ b ≠ R ∧ b ≠ R + 1 ∧ (∃ n c, wv = .slice (some ⟨b, off, none⟩) n c) ∧ V.cell? ⟨b, off + i, none⟩ = some (.int .i64 W[i])
theorem NearL.low {R S m : Nat} {w : World} {wv : Value} {W : List Int} {pre : List (Nat × Nat)} {V X : World} (h : NearL R S m w wv W pre V) (hRS : R + 2 ≤ S) (hb : Below (S + 5) V X) : NearL R S m w wv W pre X :=
  ⟨boxed_low h.mb hb (by omega), boxed_low h.rb hb (by omega), boxed_low h.wb hb (by omega), boxed_low h.kb hb (by omega), boxed_low h.lb hb (by omega), h.below.trans (hb.mono (by omega)), Nat.le_trans h.size hb.size,
    fun i hi => let ⟨b, off, h1, h2, h3, h4, h5⟩ := h.ws i hi; ⟨b, off, h1, h2, h3, h4, by rw [World.cell?_of_block (hb.block b (by omega))]; exact h5⟩⟩

set_option maxRecDepth 100000 in
set_option maxHeartbeats 8000000 in
theorem lawNear_any (v : Value) (l : List UInt8) (p M : Int) (w : World) (hb : Bs w v l) (hl : l.length ≤ 140737488351232) (hp : -9223372036854775808 ≤ p ∧ p ≤ 9223372036854775807) (hM : -9223372036854775808 ≤ M ∧ M ≤ 9223372036854775807) :
    Calls Try.prog 6 #[v, .int .i64 p, .int .i64 M] w fun e w' => e = .returned (.bool true) ∧ Below w.heap.size w w' := by
  obtain ⟨av, cap, rfl⟩ := hb.len
  have HB := Lib.hid hb
  have HP := Lib.hid hp
  clear hb hp
  refine (callsIn_wide (n := 8)).1 ?_
  refine callsIn_of_wp_marks Try.func6 rfl trivial ?_ rfl
  simp only [Try.ntmps6, List.size_toArray, List.length_cons, List.length_nil, Nat.reduceAdd, Nat.reduceSub, Array.replicate_succ, Array.replicate_zero, List.push_toArray, List.append_toArray, List.nil_append, List.cons_append]
  refine wpIn_wide.2 ?_
  go_wp2_with fail
  refine (alive_any _).mono ?_; rintro e w1 ⟨rfl, hb1⟩
  obtain ⟨R, hR⟩ : ∃ R, w.heap.size = R := ⟨_, rfl⟩
  rw [hR]
  have q0 : Boxed w1 R 3 (.int .i64 M) := by rw [← hR]; exact boxed_below ((Boxed.new w _ _).alloc _) hb1
  have q1 : Boxed w1 (R + 1) 4 (.bool false) := by rw [← hR]; have h := Boxed.new (w.alloc (.cells #[.int .i64 M] 3)) 4 (.bool false); rw [World.size_alloc] at h; exact boxed_below h hb1
  have bb : Below R w w1 := by rw [← hR]; exact (((Below.refl _ _).alloc (Nat.le_refl _) _).alloc (by simp) _).trans (hb1.mono (by simp; omega))
  have s1 : R + 2 ≤ w1.heap.size := by have := hb1.size; simp at this; omega
  have HR := Lib.hid hR
  have Q0 := Lib.hid q0
  have Q1 := Lib.hid q1
  have B1 := Lib.hid bb
  have S1 := Lib.hid s1
  have x1 := q1.cell
  have x2 := q1.frozen
  clear hb1 hR q0 q1 bb s1
  by_cases hbig : 400 < l.length
  · have d1 : decide ((400 : Int) < (l.length : Int)) = true := by rw [decide_eq_true_eq]; omega
    clear hbig
    go_wp2_with fail
    have r := (Boxed.set (.bool true) Q1.out).cell
    refine ⟨.bool true, by simp [results, Try.f6, go_sem, r], rfl, ?_⟩
    rw [HR.out]
    exact B1.out.setCell (p := ⟨R + 1, 0, none⟩) (by simp only; omega) _
  have d1 : decide ((400 : Int) < (l.length : Int)) = false := by rw [decide_eq_false_iff_not]; omega
  go_wp2_with fail
  refine (newFinder_any _ l w1 (HB.out.old (by rw [HR.out]; exact B1.out)) (by omega)).mono ?_
  rintro e w3 ⟨f, rfl, hF, hb3⟩
  obtain ⟨g, bs, rfl, hFV, hbs⟩ := hF.fv
  have q0 := boxed_below Q0.out hb3
  have q1 := boxed_below Q1.out hb3
  have B3 := Lib.hid (B1.out.trans (hb3.mono (Nat.le_trans (by omega) S1.out)))
  have S3 : Hid (R + 2 ≤ w3.heap.size) := Lib.hid (Nat.le_trans S1.out hb3.size)
  have c0 := q0.cell
  have c1 := q0.frozen
  have FV3 := Lib.hid hFV
  have BS3 : Hid (∀ b ∈ bs, R + 2 ≤ b ∧ b < w3.heap.size) := Lib.hid (fun b hb => ⟨Nat.le_trans S1.out (hbs b hb).1, (hbs b hb).2⟩)
  have Q0 := Lib.hid q0
  have Q1 := Lib.hid q1
  obtain ⟨m, hm1, hm2, hm⟩ := most300 M
  have HM := Lib.hid hm
  clear hF hFV hbs hb3 q0 q1 x1 x2 hm
  go_upto_region 9 with (fail)
  rw [HM.out]
  obtain ⟨w4, hw4⟩ : ∃ w4, w3.setCell ⟨R, 0, none⟩ (.int .i64 (m : Int)) = w4 := ⟨_, rfl⟩
  have q0 : Boxed w4 R 3 (.int .i64 (m : Int)) := by rw [← hw4]; exact Boxed.set _ Q0.out
  have q1 : Boxed w4 (R + 1) 4 (.bool false) := by rw [← hw4]; exact Boxed.other Q1.out (by omega) _
  have B4 : Hid (Below R w w4) := Lib.hid (by rw [← hw4]; exact B3.out.setCell (p := ⟨R, 0, none⟩) (by simp only; omega) _)
  have z4 : w4.heap.size = w3.heap.size := by rw [← hw4]; simp
  have FV4 : Hid (FV bs w4 (.pointer (some ⟨g, 0, none⟩)) (some l)) := Lib.hid (FV3.out.keep ⟨by omega, fun b hb => by rw [← hw4]; exact Go.Deep.blk_setCell_other _ _ _ _ (by simp only; have := BS3.out b hb; omega)⟩)
  have BS4 : Hid (∀ b ∈ bs, R + 2 ≤ b ∧ b < w4.heap.size) := Lib.hid (by rw [z4]; exact BS3.out)
  have S4 : Hid (R + 2 ≤ w4.heap.size) := Lib.hid (by rw [z4]; exact S3.out)
  rw [hw4]
  clear hw4 z4 c0 c1 FV3 BS3 S3 B3
  go_wp2_with fail
  refine (refNear_any _ l p w4 (HB.out.old (by rw [HR.out]; exact B4.out)) (by omega)).mono ?_
  rintro e w5 ⟨wv, rfl, hW, hb5, hown⟩
  obtain ⟨S, hS⟩ : ∃ S, w5.heap.size = S := ⟨_, rfl⟩
  have r0 := boxed_below q0 hb5
  have r1 := boxed_below q1 hb5
  have B5 := Lib.hid (B4.out.trans (hb5.mono (Nat.le_trans (by omega) S4.out)))
  have FV5 := Lib.hid (FV4.out.keep (KeepB.below hb5 hb5.size (fun b hb => (BS4.out b hb).2)))
  have BS5 : Hid (∀ b ∈ bs, b < S) := Lib.hid (fun b hb => by rw [← hS]; exact Nat.lt_of_lt_of_le (BS4.out b hb).2 hb5.size)
  have S5 : Hid (R + 2 ≤ S) := Lib.hid (by rw [← hS]; exact Nat.le_trans S4.out hb5.size)
  have WS : Hid (∀ i (h : i < (nearI l p).length), ∃ b off, b < S ∧ b ≠ R ∧ b ≠ R + 1 ∧ (∃ n c, wv = .slice (some ⟨b, off, none⟩) n c) ∧ w5.cell? ⟨b, off + i, none⟩ = some (.int .i64 (nearI l p)[i])) := Lib.hid (fun i hi => by
    obtain ⟨a, c, rfl, hc⟩ := hW.read
    obtain ⟨b, off, rfl, hx⟩ := hc i hi
    have h1 := hown b rfl
    have h2 := S4.out
    exact ⟨b, off, by rw [← hS]; exact World.block_lt_of_cell? _ _ hx, by omega, by omega, ⟨_, _, rfl⟩, hx⟩)
  obtain ⟨wa, wc, rfl⟩ := hW.len
  have R0 := Lib.hid r0
  have R1 := Lib.hid r1
  have WL := Lib.hid (pairs_len l p)
  obtain ⟨W, hWd⟩ : ∃ W, nearI l p = W := ⟨_, rfl⟩
  have PW : Hid (∀ pre x, pre ++ [x] <+: pairsL (some l) p → x.1 = 3 + pre.length ∧ W[pre.length]? = some (x.2 : Int) ∧ (lastT pre).2 ≤ x.2) := Lib.hid (by rw [← hWd]; exact fun pre x h => pairs_want h)
  have NL2 : Hid (W.length ≤ 256) := Lib.hid (by
    rw [← hWd]; unfold nearI; split
    · rw [List.length_map]; exact near_le _ _
    · simp)
  rw [hWd] at WS WL
  rw [hWd]
  have HS := Lib.hid hS
  clear hW hb5 hown q0 q1 r0 r1 hWd hS
  go_wp2_with fail
  refine (nearest_any p (some ⟨g, 0, none⟩) _).mono ?_; rintro e w6 ⟨rfl, hw6⟩
  go_wp2_with fail
  rw [← hw6]
  rw [HS.out]
  have s6 : w6.heap.size = S + 5 := by rw [hw6]; simp [HS.out]
  have b56 : Below S w5 w6 := by rw [hw6, ← HS.out]; exact (((((Below.refl _ _).alloc (Nat.le_refl _) _).alloc (by simp) _).alloc (by simp; omega) _).alloc (by simp; omega) _).alloc (by simp; omega) _
  have t0 : Boxed w6 S 38 (.slice wa W.length wc) := by rw [hw6, ← HS.out]; exact ((((Boxed.new w5 _ _).alloc _).alloc _).alloc _).alloc _
  have t1 : Boxed w6 (S + 1) 3 (.int .i64 0) := by
    rw [hw6, ← HS.out]
    have h := Boxed.new (w5.alloc (.cells #[.slice wa W.length wc] 38)) 3 (.int .i64 0)
    simp only [World.size_alloc] at h
    exact ((h.alloc _).alloc _).alloc _
  have t2 : Boxed w6 (S + 1 + 1) 3 (.int .i64 0) := by
    rw [hw6, ← HS.out]
    have h := Boxed.new ((w5.alloc (.cells #[.slice wa W.length wc] 38)).alloc (.cells #[.int .i64 0] 3)) 3 (.int .i64 0)
    simp only [World.size_alloc] at h
    exact (h.alloc _).alloc _
  have t3 : Boxed w6 (S + 1 + 1 + 1) 29 (.pointer (some ⟨g, 0, none⟩)) := by
    rw [hw6, ← HS.out]
    have h := Boxed.new (((w5.alloc (.cells #[.slice wa W.length wc] 38)).alloc (.cells #[.int .i64 0] 3)).alloc (.cells #[.int .i64 0] 3)) 29 (.pointer (some ⟨g, 0, none⟩))
    simp only [World.size_alloc] at h
    exact h.alloc _
  have t4 : Boxed w6 (S + 1 + 1 + 1 + 1) 3 (.int .i64 p) := by
    rw [hw6, ← HS.out]
    have h := Boxed.new ((((w5.alloc (.cells #[.slice wa W.length wc] 38)).alloc (.cells #[.int .i64 0] 3)).alloc (.cells #[.int .i64 0] 3)).alloc (.cells #[.pointer (some ⟨g, 0, none⟩)] 29)) 3 (.int .i64 p)
    simp only [World.size_alloc] at h
    exact h
  have hRS := S5.out
  have ST : NearL R S m w (.slice wa W.length wc) W [] w6 :=
    ⟨boxed_low R0.out b56 (by omega), boxed_low R1.out b56 (by omega), t0, t1, t2, B5.out.trans (b56.mono (by omega)), by omega,
      fun i hi => let ⟨b, off, h1, h2, h3, h4, h5⟩ := WS.out i hi; ⟨b, off, h1, h2, h3, h4, by rw [World.cell?_of_block (b56.block b h1)]; exact h5⟩⟩
  have hf6 : FV bs w6 (.pointer (some ⟨g, 0, none⟩)) (some l) := FV5.out.keep ⟨by have := HS.out; omega, fun b hb => b56.block b (BS5.out b hb)⟩
  have hbs6 : ∀ b ∈ bs, b < w6.heap.size := fun b hb => by have := BS5.out b hb; omega
  clear hw6 b56 t0 t1 t2
  refine wpIn_wide.1 (rangeB (n := 8) (by omega) (gf := 23) (lb := #[.pointer (some ⟨S + 1 + 1 + 1, 0, none⟩), .pointer (some ⟨S + 1 + 1 + 1 + 1, 0, none⟩)]) rfl (enters_of Try.func23 (by kernel_rfl) rfl)
    (near_seq (8 - 1) (by omega) (S + 1 + 1 + 1) (S + 1 + 1 + 1 + 1) bs p (some ⟨g, 0, none⟩) (some l) w6 HP.out (by have : lenO (some l) = l.length := rfl; omega) t3.cell t4.cell hf6 hbs6) (Below.refl _ _) (fun _ => rfl) hbs6
    (fun pre V => NearL R S m w (.slice wa W.length wc) W pre V ∧ pre.length < m) (fun c pre V => c = .exit 0 ∧ NearL R S m w (.slice wa W.length wc) W pre V ∧ pre.length = m)
    (fun s X Y h hb => ⟨h.1.low hRS (by rw [← s6]; exact hb), h.2⟩) (fun c s X Y h hb => ⟨h.1, h.2.1.low hRS (by rw [← s6]; exact hb), h.2.2⟩) ⟨ST, by simp; omega⟩ ?round ?done ?stop)
  case round =>
    rintro ll pre x X hl hlX ⟨hI, hlt⟩ hx
    have HI := Lib.hid hI
    clear hI
    gi_wp2
    refine ⟨KeepsFrom.refl _ _, fun V hV => ?_⟩
    have hN : NearL R S m w (.slice wa W.length wc) W pre V := HI.out.low hRS (hV.below (by omega))
    obtain ⟨h1, h2, h3⟩ := PW.out pre x hx
    obtain ⟨xa, xb⟩ := x
    simp only at h1 h2 h3
    obtain ⟨j, hj⟩ : ∃ j, pre.length = j := ⟨_, rfl⟩
    obtain ⟨q, hq⟩ : ∃ q, (lastT pre).2 = q := ⟨_, rfl⟩
    have hjW : j < W.length := by rw [← hj]; exact (List.getElem?_eq_some_iff.1 h2).1
    have wj : W[j] = (xb : Int) := by subst hj; exact (List.getElem?_eq_some_iff.1 h2).2
    have m0 := hN.mb.cell
    have k0 := hN.kb.cell
    have k1 := hN.kb.frozen
    have l0 := hN.lb.cell
    have l1 := hN.lb.frozen
    have wb := hN.wb.cell
    obtain ⟨b, off, o1, o2, o3, ⟨n', c', o4⟩, o5⟩ := hN.ws j hjW
    simp only [Value.slice.injEq] at o4
    obtain ⟨rfl, rfl, rfl⟩ := o4
    rw [wj] at o5
    rw [hj] at k0 h1 hlt
    rw [hq] at l0 h3
    have hbig2 : xa ≤ 10000 := by have := NL2.out; omega
    have NN := Lib.hid hN
    have HJ := Lib.hid hj
    have HX1 := Lib.hid h1
    have g0 : decide (W.length ≤ j) = false := by rw [decide_eq_false_iff_not]; omega
    have g1 : ((xa : Int) != 3 + (j : Int)) = false := by have := HX1.out; rw [bne_eq_false_iff_eq]; omega
    have g2 : ((xb : Int) != (xb : Int)) = false := by rw [bne_eq_false_iff_eq]
    have g3 : decide ((xb : Int) < (q : Int)) = false := by rw [decide_eq_false_iff_not]; omega
    have g4 : decide (xb < q) = false := by rw [decide_eq_false_iff_not]; omega
    have hjl : j ≤ 256 := by have := NL2.out; omega
    have HV := Lib.hid hV
    clear hN h1 h2 wj hq hj hV
    have POST : Hid (NearL R S m w (.slice (some ⟨b, off, none⟩) W.length wc) W (pre ++ [(xa, xb)]) ((V.setCell ⟨S + 1 + 1, 0, none⟩ (.int .i64 (xb : Int))).setCell ⟨S + 1, 0, none⟩ (.int .i64 ((j : Int) + 1)))) := Lib.hid (by
      have h := NN.out
      have e : (((pre ++ [(xa, xb)]).length : Nat) : Int) = (j : Int) + 1 := by rw [List.length_append, HJ.out]; simp
      refine ⟨Boxed.other (Boxed.other h.mb (by omega) _) (by omega) _, Boxed.other (Boxed.other h.rb (by omega) _) (by omega) _, Boxed.other (Boxed.other h.wb (by omega) _) (by omega) _, ?_, ?_, (h.below.setCell (p := ⟨S + 1 + 1, 0, none⟩) (by simp only; omega) _).setCell (p := ⟨S + 1, 0, none⟩) (by simp only; omega) _, by simp; exact h.size, fun i hi => ?_⟩
      · rw [e]; exact Boxed.set _ (Boxed.other h.kb (by omega) _)
      · rw [lastT_snoc]; exact Boxed.other (Boxed.set _ h.lb) (by omega) _
      · obtain ⟨b', off', p1, p2, p3, p4, p5⟩ := h.ws i hi
        exact ⟨b', off', p1, p2, p3, p4, by rw [World.cell?_of_block (Go.Deep.blk_setCell_other _ _ _ _ (by simp only; omega)), World.cell?_of_block (Go.Deep.blk_setCell_other _ _ _ _ (by simp only; omega))]; exact p5⟩)
    have KF : Hid (KeepsFrom w6.heap.size V ((V.setCell ⟨S + 1 + 1, 0, none⟩ (.int .i64 (xb : Int))).setCell ⟨S + 1, 0, none⟩ (.int .i64 ((j : Int) + 1)))) := Lib.hid ((keepsFrom_set _ _ _).trans (keepsFrom_set _ _ _))
    have KU : Hid (KeepU bs (w6.heap.size + 2) X ((V.setCell ⟨S + 1 + 1, 0, none⟩ (.int .i64 (xb : Int))).setCell ⟨S + 1, 0, none⟩ (.int .i64 ((j : Int) + 1)))) := Lib.hid (by
      have n1 : ∀ k, S ≤ k → k ∉ bs := fun k hk hb => by have := BS5.out k hb; omega
      refine KeepU.trans ⟨by have := HV.out.size; omega, fun k hk hlt => HV.out.block k ?_⟩ ((keepU_set bs _ V (S + 1 + 1) _ (by omega) (n1 _ (by omega))).trans (keepU_set bs _ _ (S + 1) _ (by omega) (n1 _ (by omega))))
      rcases hk with hk | hk
      · have := hbs6 k hk; omega
      · omega)
    by_cases hjm : j + 1 = m
    · have e1 : ((j : Int) + 1 == (m : Int)) = true := by rw [beq_iff_eq]; omega
      have e2 : (j + 1 == m) = true := by rw [beq_iff_eq]; exact hjm
      have HJM := Lib.hid hjm
      clear hjm
      gi_wp2_with fail
      exact ⟨KF.out, KU.out, rfl, POST.out, by have := HJM.out; have := HJ.out; simp; omega⟩
    · have e1 : ((j : Int) + 1 == (m : Int)) = false := by rw [beq_eq_false_iff_ne]; omega
      have e2 : (j + 1 == m) = false := by rw [beq_eq_false_iff_ne]; exact hjm
      gi_wp2_with fail
      exact ⟨KF.out, KU.out, POST.out, by have := HJ.out; simp; omega⟩
  case done =>
    rintro D X hD hDX ⟨hI, hlt⟩ hK
    have hlen : (pairsL (some l) p).length = W.length := WL.out
    rw [hlen] at hlt
    have k0 := hI.kb.cell
    rw [hlen] at k0
    have m0 := hI.mb.cell
    have w0 := hI.wb.cell
    have r0 := hI.rb.cell
    have r1 := hI.rb.frozen
    have e1 : min (m : Int) (W.length : Int) = (W.length : Int) := by omega
    have e2 : min m W.length = W.length := by omega
    have e3 : decide ((m : Int) ≤ (W.length : Int)) = false := by rw [decide_eq_false_iff_not]; omega
    have e3' : decide (m ≤ W.length) = false := by rw [decide_eq_false_iff_not]; omega
    have e4 : decide ((W.length : Int) < (m : Int)) = true := by rw [decide_eq_true_eq]; omega
    have e4' : decide (W.length < m) = true := by rw [decide_eq_true_eq]; omega
    have e5 : decide ((m : Int) < (W.length : Int)) = false := by rw [decide_eq_false_iff_not]; omega
    have e5' : decide (m < W.length) = false := by rw [decide_eq_false_iff_not]; omega
    have RS := Lib.hid (Boxed.set (.bool true) hI.rb)
    have BX := Lib.hid (hI.below.setCell (p := ⟨R + 1, 0, none⟩) (by simp only; omega) (.bool true))
    have K2 : Hid ((X.setCell ⟨R + 1, 0, none⟩ (.bool true)).heap[D]? = some (.deferred (some []))) := Lib.hid ((KeepsOthers.setCell _ _ _).same D _ hK rfl)
    clear hlen hI hK
    go_wp2_with fail
    obtain ⟨Y, hY⟩ : ∃ Y, X.setCell ⟨R + 1, 0, none⟩ (.bool true) = Y := ⟨_, rfl⟩
    rw [hY] at RS BX K2 ⊢
    have r2 : (Y.putObj D (.deferred none)).cell? ⟨R + 1, 0, none⟩ = some (.bool true) := Boxed.cell (t := 4) ((World.putObj_heap_other (by omega)).trans RS.out)
    refine ⟨by simp, .inl ⟨_, _, rfl, run_takeDeferred K2.out, ?_⟩⟩
    refine ⟨.bool true, by simp [results, Try.f6, go_sem, r2], rfl, ?_⟩
    rw [HR.out]
    exact BX.out.trans ((sameBut_put _ _ _).below (by omega))
  case stop =>
    rintro D c pre X hD hDX hpre ⟨rfl, hI, hlt⟩ hK
    have hle : m ≤ W.length := by have := hpre.length_le; have := WL.out; omega
    have k0 := hI.kb.cell
    rw [hlt] at k0
    have m0 := hI.mb.cell
    have w0 := hI.wb.cell
    have r0 := hI.rb.cell
    have r1 := hI.rb.frozen
    have hn : ¬ W.length < m := by omega
    have e1 : min (m : Int) (W.length : Int) = (m : Int) := by omega
    have e2 : min m W.length = m := by omega
    have e4 : decide ((W.length : Int) < (m : Int)) = false := by rw [decide_eq_false_iff_not]; omega
    have e4' : decide (W.length < m) = false := by rw [decide_eq_false_iff_not]; omega
    have RS := Lib.hid (Boxed.set (.bool true) hI.rb)
    have BX := Lib.hid (hI.below.setCell (p := ⟨R + 1, 0, none⟩) (by simp only; omega) (.bool true))
    have K2 : Hid ((X.setCell ⟨R + 1, 0, none⟩ (.bool true)).heap[D]? = some (.deferred (some []))) := Lib.hid ((KeepsOthers.setCell _ _ _).same D _ hK rfl)
    clear hlt hI hK hpre
    refine wpIn_exit ?_
    go_wp2_with fail
    obtain ⟨Y, hY⟩ : ∃ Y, X.setCell ⟨R + 1, 0, none⟩ (.bool true) = Y := ⟨_, rfl⟩
    rw [hY] at RS BX K2 ⊢
    have r2 : (Y.putObj D (.deferred none)).cell? ⟨R + 1, 0, none⟩ = some (.bool true) := Boxed.cell (t := 4) ((World.putObj_heap_other (by omega)).trans RS.out)
    refine ⟨by simp, .inl ⟨_, _, rfl, run_takeDeferred K2.out, ?_⟩⟩
    refine ⟨.bool true, by simp [results, Try.f6, go_sem, r2], rfl, ?_⟩
    rw [HR.out]
    exact BX.out.trans ((sameBut_put _ _ _).below (by omega))
end Go.Proofs.Ytbfpofgbapkkeaa
