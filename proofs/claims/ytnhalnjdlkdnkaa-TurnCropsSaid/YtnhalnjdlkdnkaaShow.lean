/- slices.Clone of blocks; frame.Shown. By an AI agent. -/
import Derived.Test.YtnhalnjdlkdnkaaBkO
import Derived.Test.YtnhalnjdlkdnkaaSizes
namespace Go.Proofs.Ytnhalnjdlkdnkaa
open Go.RowKit Go.BigFrame
set_option linter.unusedVariables false
set_option linter.unusedSimpArgs false
set_option maxRecDepth 20000

theorem szL_in (P : PicL) (k : Int) : (0 ≤ (sizeL P k).1 ∧ (sizeL P k).1 ≤ 262140) ∧ 0 ≤ (sizeL P k).2 ∧ (sizeL P k).2 ≤ 262140 := by
  unfold sizeL
  rcases hm : mostL P k with _ | ⟨h, v⟩
  · simp
  · obtain ⟨hk, hw, hh, hf, h14, v14⟩ := mostL_some hm
    obtain ⟨ph1, pv1, _⟩ := part_in hm
    have u1 := upI_in P.w (8 * h) (by omega) (by omega)
    have u2 := upI_in P.h (8 * v) (by omega) (by omega)
    exact ⟨mul_in (a := (partAt P k).h) (b := upI P.w (8 * h)) (m := 4) (n := 65535) (by omega) (by omega), mul_in (a := (partAt P k).v) (b := upI P.h (8 * v)) (m := 4) (n := 65535) (by omega) (by omega)⟩
theorem owL_in (P : PicL) (k : Int) : (0 ≤ (ownL P k).1 ∧ (ownL P k).1 ≤ 262140) ∧ 0 ≤ (ownL P k).2 ∧ (ownL P k).2 ≤ 262140 := by
  unfold ownL
  rcases hm : mostL P k with _ | ⟨h, v⟩
  · simp
  · obtain ⟨hk, hw, hh, hf, h14, v14⟩ := mostL_some hm
    obtain ⟨ph1, pv1, _⟩ := part_in hm
    have b1 := mul_in (a := P.w) (b := (partAt P k).h) (m := 65535) (n := 4) (by omega) (by omega)
    have b2 := mul_in (a := P.h) (b := (partAt P k).v) (m := 65535) (n := 4) (by omega) (by omega)
    have u1 := upI_in (P.w * (partAt P k).h) h (by omega) (by omega)
    have u2 := upI_in (P.h * (partAt P k).v) v (by omega) (by omega)
    have u3 := upI_in (upI (P.w * (partAt P k).h) h) 8 (by omega) (by omega)
    have u4 := upI_in (upI (P.h * (partAt P k).v) v) 8 (by omega) (by omega)
    simp only
    omega
theorem mostOf {P : PicL} {k : Int} (h : (sizeL P k).1 ≠ 0) : mostL P k = some (maxH P.parts, maxV P.parts) := by
  unfold sizeL at h
  rcases hm : mostL P k with _ | ⟨a, b⟩
  · rw [hm] at h; simp at h
  · unfold mostL at hm
    split at hm
    · exact hm.symm
    · cases hm
theorem own0' (w : World) (e : TypeId) (size : Nat) : (w.alloc (.cells #[] e)).ownsRow w.heap.size e size (.slice (some ⟨w.heap.size, 0, none⟩) 0 0) 0 [] := World.ownsRow_made w #[] 0 (Nat.le_refl _) (by decide) (by simp)
set_option maxHeartbeats 800000 in
theorem cloneB_any (v : Value) (bs : List (List Int)) (w : World) (hb : Bks w v bs) (hl : bs.length ≤ 100000000000) :
    Calls Try.prog 60 #[v] w fun e w' => ∃ v', e = .returned v' ∧ BkO w.heap.size w' v' bs ∧ Below w.heap.size w w' := by
  obtain ⟨hall, a, cap, rfl, _, hx⟩ := hb.range
  have HB := Lib.hid hb
  have HL := Lib.hid hl
  have HA := Lib.hid hall
  clear hb hl hall
  cases a with
  | none =>
    have hn : bs = [] := by
      rcases Nat.eq_zero_or_pos bs.length with h | h
      · exact List.eq_nil_of_length_eq_zero h
      · obtain ⟨_, _, h, _⟩ := hx 0 h
        simp at h
    subst hn
    clear hx
    have ne : ∀ w, (binOp .eql 68 (.slice none 0 cap) (.slice none 0 0)).run Try.prog w = .ok (.bool true) w := fun w => by kernel_rfl
    go_enter Try.func60, Try.ntmps60
    go_wp2_with fail
    go_ret
    exact ⟨_, rfl, BkO.nil _ _, Below.refl _ _⟩
  | some a =>
    clear hx
    obtain ⟨n, hn⟩ : ∃ n, bs.length = n := ⟨_, rfl⟩
    rw [hn] at HB ⊢
    have HN := Lib.hid hn
    clear hn
    have ne : ∀ w, (binOp .eql 68 (.slice (some a) n cap) (.slice none 0 0)).run Try.prog w = .ok (.bool false) w := fun w => by kernel_rfl
    go_enter Try.func60, Try.ntmps60
    go_wp2_with (at_builtin; refine stop ?_)
    have hb0 : Below w.heap.size w (w.alloc (.cells #[] 23)) := (Below.refl _ _).alloc (Nat.le_refl _) _
    have sl := Bks.sl (HB.out.old hb0)
    rw [HN.out] at sl
    refine unstop (wpList_app tyB rfl _ _ rfl w.heap.size _ 0 [] rfl (own0' w _ 64) _ n (fB bs) rfl sl (fB_one bs) (by have := HL.out; have := HN.out; omega) (by have := HL.out; have := HN.out; omega) (by simp) ?_)
    intro v1 w1 hown1 hg1 _
    have HB1 := Lib.hid (run_app_below (own0' w _ 64) hg1 hb0 (Nat.le_refl _))
    have HO1 : Hid (BkO w.heap.size w1 v1 bs) := Lib.hid ⟨by have := hown1; rw [List.nil_append, Nat.zero_add, ← HN.out] at this; exact this, HA.out⟩
    clear hb0 hown1 hg1 sl
    go_wp2_with fail
    go_ret
    exact ⟨_, rfl, HO1.out, HB1.out⟩

/-! ## what is shown -/
def shB (sw ow oh : Int) (i : Nat) (b : List Int) : List Int := if ow ≤ (i : Int) % sw ∨ oh ≤ (i : Int) / sw then zero64 else b
def shTo (sw ow oh : Int) (bs : List (List Int)) (k : Nat) : List (List Int) := bs.mapIdx fun i b => if i < k then shB sw ow oh i b else b
theorem shTo_zero (sw ow oh : Int) (bs : List (List Int)) : shTo sw ow oh bs 0 = bs := by
  unfold shTo
  apply List.ext_getElem?
  intro i
  simp
theorem shTo_length (sw ow oh : Int) (bs : List (List Int)) (k : Nat) : (shTo sw ow oh bs k).length = bs.length := by simp [shTo]
theorem shTo_at (sw ow oh : Int) (bs : List (List Int)) (k i : Nat) (hi : i < bs.length) : (shTo sw ow oh bs k)[i]'(by rw [shTo_length]; exact hi) = if i < k then shB sw ow oh i bs[i] else bs[i] := by simp [shTo]
theorem shTo_succ (sw ow oh : Int) (bs : List (List Int)) (k : Nat) (hk : k < bs.length) : shTo sw ow oh bs (k + 1) = (shTo sw ow oh bs k).set k (shB sw ow oh k bs[k]) := by
  apply List.ext_getElem (by simp [shTo])
  intro i h1 h2
  have hi : i < bs.length := by rw [shTo_length] at h1; exact h1
  rw [shTo_at _ _ _ _ _ _ hi, List.getElem_set, shTo_at _ _ _ _ _ _ hi]
  by_cases e : k = i
  · subst e; simp
  · rw [if_neg e]
    by_cases h : i < k
    · rw [if_pos h, if_pos (by omega)]
    · rw [if_neg h, if_neg (by omega)]
theorem shTo_same (sw ow oh : Int) (bs : List (List Int)) (k : Nat) (hk : k < bs.length) (h : shB sw ow oh k bs[k] = bs[k]) : shTo sw ow oh bs (k + 1) = shTo sw ow oh bs k := by
  rw [shTo_succ _ _ _ _ _ hk, h]
  apply List.ext_getElem (by simp)
  intro i h1 h2
  have hi : i < bs.length := by rw [shTo_length] at h2; exact h2
  rw [List.getElem_set]
  split
  · rename_i e; subst e; rw [shTo_at _ _ _ _ _ _ hi, if_neg (by omega)]
  · rfl
/-- are there as many blocks as the part has? -/
def fullB (P : PicL) (k : Int) : Bool := !decide ((sizeL P k).1 = 0) && decide (((partAt P k).bs.length : Int) = (sizeL P k).1 * (sizeL P k).2)
def shownL (P : PicL) (k : Int) : List (List Int) := if fullB P k then shTo (sizeL P k).1 (ownL P k).1 (ownL P k).2 (partAt P k).bs (partAt P k).bs.length else []
theorem zb_built : Try.prog.built 23 [] = some (vIs zero64).toArray := by kernel_rfl
theorem zb_info : (Try.prog.info? 23).map (·.size) = some (vIs zero64).toArray.size := by kernel_rfl
theorem zb_one : (vIs zero64).toArray.all (·.oneCell') = true := by kernel_rfl
/-- remainder and quotient, as the walk finds them -/
theorem place_q (i : Nat) {sw : Int} (h : 1 ≤ sw) : 0 ≤ (i : Int) % sw ∧ (i : Int) % sw < sw ∧ 0 ≤ (i : Int) / sw ∧ (i : Int) / sw ≤ i :=
  ⟨Int.emod_nonneg _ (by omega), Int.emod_lt_of_pos _ (by omega), Int.ediv_nonneg (by omega) (by omega), Int.ediv_le_self _ (by omega)⟩
set_option maxRecDepth 20000 in
set_option maxHeartbeats 8000000 in
theorem shown_any (P : PicL) (q0 q1 q2 q3 pv kv : Value) (k : Int) (w : World) (hc : Pts w pv P.parts) (hl : P.parts.length ≤ 140737488351232) :
    Calls Try.prog 58 #[.agg (vPic P q0 q1 q2 q3 pv kv), .int .i64 k] w fun e w' => ∃ v, e = .returned v ∧ BkO w.heap.size w' v (shownL P k) ∧ Below w.heap.size w w' := by
  obtain ⟨pa, pc, rfl, _, hx⟩ := pts_at hc
  have HX := Lib.hid hx
  have HC := Lib.hid hc
  clear hx hc
  obtain ⟨w1, hw1⟩ : ∃ w1, w.alloc (.cells (vPic P q0 q1 q2 q3 (.slice pa P.parts.length pc) kv) 36) = w1 := ⟨_, rfl⟩
  have hb1 : Below w.heap.size w w1 := by rw [← hw1]; exact (Below.refl _ _).alloc (Nat.le_refl _) _
  have hbox : PBox w1 w.heap.size P q0 q1 q2 q3 (.slice pa P.parts.length pc) kv := by rw [← hw1]; exact heap_alloc_new _ _
  have B1 := Lib.hid hb1
  have BX1 := Lib.hid hbox
  obtain ⟨a0, a1, a2, a3, a4, a5, a6, a7, a8⟩ := hbox.cells
  unfold vPic at hw1
  clear hb1 hbox
  unfold vPic
  go_enter Try.func58, Try.ntmps58
  go_wp2_with fail
  refine (size_any P q0 q1 q2 q3 _ kv k w1 (HC.out.old B1.out) hl).mono ?_
  rintro e w2 ⟨rfl, hb2⟩
  have B2 := Lib.hid (B1.out.trans (hb2.mono B1.out.size))
  have BX2 := Lib.hid (BX1.out.old hb2)
  clear hb2 hw1 a0 a1 a2 a3 a4 a5 a6 a7 a8
  obtain ⟨a0, a1, a2, a3, a4, a5, a6, a7, a8⟩ := BX2.out.cells
  have SI := szL_in P k
  obtain ⟨sw, hsw⟩ : ∃ z, (sizeL P k).1 = z := ⟨_, rfl⟩
  obtain ⟨sh, hsh⟩ : ∃ z, (sizeL P k).2 = z := ⟨_, rfl⟩
  rw [hsw, hsh] at SI ⊢
  have HSI := Lib.hid SI
  have HSW := Lib.hid hsw
  have HSH := Lib.hid hsh
  by_cases hz : sw = 0
  · have z1 : (sw == 0) = true := by rw [beq_iff_eq]; exact hz
    have SL : Hid (shownL P k = []) := Lib.hid (by
      have : fullB P k = false := by unfold fullB; rw [hsw, hz]; rfl
      unfold shownL; rw [this]; rfl)
    clear hz hsw hsh SI
    go_wp2_with fail
    go_ret
    exact ⟨_, rfl, by rw [SL.out]; exact BkO.nil _ _, B2.out⟩
  have z1 : (sw == 0) = false := by rw [beq_eq_false_iff_ne]; exact hz
  have hm := mostOf (P := P) (k := k) (by rw [hsw]; exact hz)
  obtain ⟨hkr, hw, hh, hfx, h14, v14⟩ := mostL_some hm
  obtain ⟨ph1, pv1, hlt, -⟩ := part_in hm
  obtain ⟨b, off, x, rfl, -, hBK, c0, c1, c2, c3, c4, c5, c6⟩ := HX.out k.toNat hlt
  have hpa : P.parts[k.toNat] = partAt P k := by unfold partAt; rw [List.getD_eq_getElem?_getD, List.getElem?_eq_getElem hlt]; rfl
  rw [hpa] at hBK
  obtain ⟨kn, hkn⟩ : ∃ n : Nat, k = (n : Int) := ⟨k.toNat, by omega⟩
  subst hkn
  simp only [Int.toNat_natCast] at c6 hlt
  obtain ⟨bs, hbs⟩ : ∃ bs, (partAt P (kn : Int)).bs = bs := ⟨_, rfl⟩
  rw [hbs] at hBK
  obtain ⟨xa, xc, rfl, _⟩ := Els.len hBK
  obtain ⟨n, hn⟩ : ∃ n, bs.length = n := ⟨_, rfl⟩
  rw [hn] at hBK c6
  have HN := Lib.hid hn
  have d6 := cell_old B2.out c6
  have i1 : decide ((kn : Int) < (P.parts.length : Int)) = true := by rw [decide_eq_true_eq]; omega
  have i2 : kn < P.parts.length := hlt
  have i3 : (0 : Int) ≤ (kn : Int) := by omega
  have i4 : (kn : Int) < (P.parts.length : Int) := by omega
  have mm := mul_in (a := sw) (b := sh) (m := 262140) (n := 262140) SI.1 SI.2
  obtain ⟨pr, hpr⟩ : ∃ pr, sw * sh = pr := ⟨_, rfl⟩
  rw [hpr] at mm
  have g1 : wrap64 (sw * sh) = pr := by rw [hpr]; exact IntWalk.wrap64_in _ (by omega)
  have HK := Lib.hid hBK
  have HBS := Lib.hid hbs
  have HPR := Lib.hid hpr
  clear hm hkr hw hh hfx h14 v14 ph1 pv1 c0 c1 c2 c3 c4 c5 c6 hpa hBK hsw hsh hbs hn
  by_cases hf : (n : Int) = pr
  · have f1 : ((n : Int) != pr) = false := by rw [bne_eq_false_iff_eq]; exact hf
    have NL : Hid (n ≤ 100000000000) := Lib.hid (by omega)
    have NZ : Hid (1 ≤ sw) := Lib.hid (by omega)
    have SL : Hid (shownL P (kn : Int) = shTo sw (ownL P (kn : Int)).1 (ownL P (kn : Int)).2 bs n) := Lib.hid (by
      have h1 : fullB P (kn : Int) = true := by
        unfold fullB
        rw [HSW.out, HSH.out, HBS.out, HN.out, HPR.out, hf, decide_eq_false hz, decide_eq_true rfl]
        rfl
      unfold shownL
      rw [h1, if_pos rfl, HSW.out, HBS.out, HN.out])
    clear hf hz hpr SI mm
    go_wp2_with fail
    refine (own_any P q0 q1 q2 q3 _ kv (kn : Int) w2 (HC.out.old B2.out) hl).mono ?_
    rintro e w3 ⟨rfl, hb3⟩
    have B3 := Lib.hid (B2.out.trans (hb3.mono B2.out.size))
    have e6 := cell_old hb3 d6
    have BX3 := Lib.hid (BX2.out.old hb3)
    clear hb3 a0 a1 a2 a3 a4 a5 a6 a7 a8 d6 g1 f1 z1
    obtain ⟨a0, a1, a2, a3, a4, a5, a6, a7, a8⟩ := BX3.out.cells
    have OI := owL_in P (kn : Int)
    obtain ⟨ow, how⟩ : ∃ z, (ownL P (kn : Int)).1 = z := ⟨_, rfl⟩
    obtain ⟨oh, hoh⟩ : ∃ z, (ownL P (kn : Int)).2 = z := ⟨_, rfl⟩
    rw [how, hoh] at OI SL ⊢
    have HOI := Lib.hid OI
    clear OI how hoh
    go_wp2_with fail
    refine (cloneB_any _ bs w3 (HK.out.old B3.out) (by have := NL.out; have := HN.out; omega)).mono ?_
    rintro e w4 ⟨v4, rfl, ho4, hb4⟩
    obtain ⟨va, vc, rfl⟩ := ho4.shape
    rw [HN.out] at ho4 ⊢
    have B4 := Lib.hid (B3.out.trans (hb4.mono B3.out.size))
    have O4 := Lib.hid (ho4.mono B3.out.size)
    clear ho4 hb4 a0 a1 a2 a3 a4 a5 a6 a7 a8 e6 i1 i2 i3 i4
    go_wp2_with fail
    go_loopw [47] (fun t W => ∃ i : Nat, t = .int .i64 (i : Nat) ∧ i ≤ n ∧ BkO w.heap.size W (.slice va n vc) (shTo sw ow oh bs i) ∧ Below w.heap.size w W) (fun t _ => n - (intOf t).toNat)
    case atStart => exact ⟨0, rfl, Nat.zero_le _, by rw [shTo_zero]; exact O4.out, B4.out⟩
    case round =>
      clear O4 B4
      obtain ⟨i, rfl, hi, ho, hb⟩ := hrel
      have OO := Lib.hid ho
      have BB := Lib.hid hb
      clear ho hb
      by_cases hil : i < n
      · have l1 : decide ((i : Int) < (n : Int)) = true := by rw [decide_eq_true_eq]; omega
        have l2 : decide (i < n) = true := by rw [decide_eq_true_eq]; omega
        have l3 : (i : Int) < (n : Int) := by omega
        obtain ⟨m0, m1, q0', q1'⟩ := place_q i NZ.out
        have SHS : Hid (shTo sw ow oh bs (i + 1) = (shTo sw ow oh bs i).set i (shB sw ow oh i (bs[i]'(by rw [HN.out]; exact hil)))) := Lib.hid (shTo_succ _ _ _ _ _ (by rw [HN.out]; exact hil))
        have SHE : Hid (shB sw ow oh i (bs[i]'(by rw [HN.out]; exact hil)) = bs[i]'(by rw [HN.out]; exact hil) → shTo sw ow oh bs (i + 1) = shTo sw ow oh bs i) := Lib.hid (shTo_same _ _ _ _ _ (by rw [HN.out]; exact hil))
        have zz : (sw == 0) = false := by rw [beq_eq_false_iff_ne]; have := NZ.out; omega
        have zz2 : ¬ sw = 0 := by have := NZ.out; omega
        have gi : IntKind.i64.wrap ((i : Int) + 1) = (i : Int) + 1 := IntWalk.i64_in _ (by have := NL.out; omega)
        obtain ⟨mr, hmr⟩ : ∃ z, (i : Int) % sw = z := ⟨_, rfl⟩
        obtain ⟨dq, hdq⟩ : ∃ z, (i : Int) / sw = z := ⟨_, rfl⟩
        have t1 : (i : Int).tmod sw = mr := by rw [← hmr]; exact Int.tmod_eq_emod_of_nonneg (by omega)
        have t2 : (i : Int).tdiv sw = dq := by rw [← hdq]; exact Int.tdiv_eq_ediv_of_nonneg (by omega)
        rw [hmr] at m0 m1
        rw [hdq] at q0' q1'
        have t3 : wrap64 mr = mr := IntWalk.wrap64_in _ (by have := HSI.out; omega)
        have t4 : wrap64 dq = dq := IntWalk.wrap64_in _ (by have := NL.out; omega)
        have t5 : IntKind.i64.wrap mr = mr := IntWalk.i64_in _ (by have := HSI.out; omega)
        have t6 : IntKind.i64.wrap dq = dq := IntWalk.i64_in _ (by have := NL.out; omega)
        have HMR := Lib.hid hmr
        have HDQ := Lib.hid hdq
        have HIL := Lib.hid hil
        clear hmr hdq m0 m1 q0' q1'
        obtain ⟨g, gc, hge, hg1, hg2⟩ := OO.out.got (by rw [shTo_length, HN.out]; omega)
        simp only [Value.slice.injEq] at hge
        obtain ⟨rfl, -, rfl⟩ := hge
        have HG := Lib.hid hg1
        have TH := Lib.hid (OO.out.there i (by rw [shTo_length, HN.out]; exact hil))
        have BL := Lib.hid zb_built
        have HI := Lib.hid zb_info
        have H1 := Lib.hid zb_one
        clear hg1 hg2
        by_cases hc1 : ow ≤ mr
        · have v1 : decide (ow ≤ mr) = true := decide_eq_true hc1
          have SS : Hid (shB sw ow oh i (bs[i]'(by rw [HN.out]; exact hil)) = zero64) := Lib.hid (by unfold shB; rw [if_pos (.inl (by rw [HMR.out]; exact hc1))])
          go_wp2_with (first | refine wpList_agg rfl _ _ rfl _ _ rfl BL.out ?_ | (refine wpList_store_mid rfl _ _ _ rfl g (i * 64) (vIs zero64).toArray rfl rfl TH.out HI.out H1.out ?_; refine stop ?_))
          refine unstop ?_
          obtain ⟨W9, hW9⟩ : ∃ W9, wr.setCells g (i * 64) (vIs zero64).toArray.toList = W9 := ⟨_, rfl⟩
          rw [hW9]
          have hst := OO.out.stored i (by rw [shTo_length, HN.out]; exact HIL.out) blk_zero
          have hW9' : wr.setCells g (i * 64) (vIs zero64) = W9 := hW9
          rw [hW9'] at hst
          have O9 : Hid (BkO w.heap.size W9 (.slice (some ⟨g, 0, none⟩) n vc) (shTo sw ow oh bs (i + 1))) := Lib.hid (by rw [SHS.out, SS.out]; exact hst.1)
          have B9 : Hid (Below w.heap.size w W9) := Lib.hid (BB.out.grown hst.2 BB.out.size fun k hk => by simp only [Option.some.injEq] at hk; have := HG.out; omega)
          clear hst hW9 hW9'
          go_wp2_with fail
          go_roundw
          case rel => exact ⟨i + 1, by go_num, HIL.out, O9.out, B9.out⟩
          case measure => simp [intOf]; have := HIL.out; omega
        · have v1 : decide (ow ≤ mr) = false := decide_eq_false hc1
          by_cases hc2 : oh ≤ dq
          · have v2 : decide (oh ≤ dq) = true := decide_eq_true hc2
            have SS : Hid (shB sw ow oh i (bs[i]'(by rw [HN.out]; exact hil)) = zero64) := Lib.hid (by unfold shB; rw [if_pos (.inr (by rw [HDQ.out]; exact hc2))])
            go_wp2_with (first | refine wpList_agg rfl _ _ rfl _ _ rfl BL.out ?_ | (refine wpList_store_mid rfl _ _ _ rfl g (i * 64) (vIs zero64).toArray rfl rfl TH.out HI.out H1.out ?_; refine stop ?_))
            refine unstop ?_
            obtain ⟨W9, hW9⟩ : ∃ W9, wr.setCells g (i * 64) (vIs zero64).toArray.toList = W9 := ⟨_, rfl⟩
            rw [hW9]
            have hst := OO.out.stored i (by rw [shTo_length, HN.out]; exact HIL.out) blk_zero
            have hW9' : wr.setCells g (i * 64) (vIs zero64) = W9 := hW9
            rw [hW9'] at hst
            have O9 : Hid (BkO w.heap.size W9 (.slice (some ⟨g, 0, none⟩) n vc) (shTo sw ow oh bs (i + 1))) := Lib.hid (by rw [SHS.out, SS.out]; exact hst.1)
            have B9 : Hid (Below w.heap.size w W9) := Lib.hid (BB.out.grown hst.2 BB.out.size fun k hk => by simp only [Option.some.injEq] at hk; have := HG.out; omega)
            clear hst hW9 hW9'
            go_wp2_with fail
            go_roundw
            case rel => exact ⟨i + 1, by go_num, HIL.out, O9.out, B9.out⟩
            case measure => simp [intOf]; have := HIL.out; omega
          · have v2 : decide (oh ≤ dq) = false := decide_eq_false hc2
            have SS : Hid (shTo sw ow oh bs (i + 1) = shTo sw ow oh bs i) := Lib.hid (SHE.out (by unfold shB; rw [if_neg (by rw [HMR.out, HDQ.out]; omega)]))
            clear hc1 hc2
            go_wp2_with fail
            go_roundw
            case rel => exact ⟨i + 1, by go_num, HIL.out, by rw [SS.out]; exact OO.out, BB.out⟩
            case measure => simp [intOf]; have := HIL.out; omega
      · obtain rfl : i = n := by omega
        have l1 : decide ((i : Int) < (i : Int)) = false := by rw [decide_eq_false_iff_not]; omega
        go_wp2_with fail
        go_ret
        exact ⟨_, rfl, by rw [SL.out]; exact OO.out, BB.out⟩
  · have f1 : ((n : Int) != pr) = true := by rw [bne_iff_ne]; exact hf
    have SL : Hid (shownL P (kn : Int) = []) := Lib.hid (by
      have : fullB P (kn : Int) = false := by
        unfold fullB
        rw [HSW.out, HSH.out, HBS.out, HN.out, HPR.out, decide_eq_false hf, Bool.and_false]
      unfold shownL; rw [this]; rfl)
    clear hf hz hpr SI mm
    go_wp2_with fail
    go_ret
    exact ⟨_, rfl, by rw [SL.out]; exact BkO.nil _ _, B2.out⟩
end Go.Proofs.Ytnhalnjdlkdnkaa
