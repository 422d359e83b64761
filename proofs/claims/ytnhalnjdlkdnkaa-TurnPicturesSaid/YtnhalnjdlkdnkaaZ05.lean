/- slices.Clone of blocks; frame.Shown. By an AI agent. The walks of turn.of and turn.crossed. By an AI agent. Rows of records that hold a slice each; own rows; slices.Clone of all that a picture is made of. By an AI agent; the clones printed by a program of its own. slices.Equal of blocks. By an AI agent. Errors as numbers: the walks of burnishnum.Num, Is. By an AI agent. Is a block good? scan.Check, burnishref21.Good; which markers are kept. By an AI agent. slices.ContainsFunc over blocks and over parts; frame.used. By an AI agent. -/
import Derived.Test.YtnhalnjdlkdnkaaZ01
import Derived.Test.YtnhalnjdlkdnkaaZ04
import Derived.Handy
import Derived.Deep.OwnRows
import Derived.Lib.LazyBuf
import Derived.Test.YtnhalnjdlkdnkaaZ02
import Derived.BigFrame
import Derived.BigQuiet
import Derived.Test.YtnhalnjdlkdnkaaProg
import Derived.Deep.DeepCutAuto
namespace Go.Proofs.Ytnhalnjdlkdnkaa
open Go.RowKit Go.BigFrame
set_option linter.unusedVariables false
set_option linter.unusedSimpArgs false
set_option maxRecDepth 20000

theorem szL_in (P : PicL) (k : Int) : (0 ≤ (sizeL P k).1 ∧ (sizeL P k).1 ≤ 262140) ∧ 0 ≤ (sizeL P k).2 ∧ (sizeL P k).2 ≤ 262140 := by
  unfold sizeL
  rcases hm : mostL P k with _ | ⟨h, v⟩
  · simp
  · obtain ⟨hk, hw, hh, hf, h14, v14⟩ := mostL_some hm
    obtain ⟨ph1, pv1, _⟩ := part_in hm
    have u1 := upI_in P.w (8 * h) (by omega) (by omega)
    have u2 := upI_in P.h (8 * v) (by omega) (by omega)
    exact ⟨mul_in (a := (partAt P k).h) (b := upI P.w (8 * h)) (m := 4) (n := 65535) (by omega) (by omega), mul_in (a := (partAt P k).v) (b := upI P.h (8 * v)) (m := 4) (n := 65535) (by omega) (by omega)⟩
theorem owL_in (P : PicL) (k : Int) : (0 ≤ (ownL P k).1 ∧ (ownL P k).1 ≤ 262140) ∧ 0 ≤ (ownL P k).2 ∧ (ownL P k).2 ≤ 262140 := by
  unfold ownL
  rcases hm : mostL P k with _ | ⟨h, v⟩
  · simp
  · obtain ⟨hk, hw, hh, hf, h14, v14⟩ := mostL_some hm
    obtain ⟨ph1, pv1, _⟩ := part_in hm
    have b1 := mul_in (a := P.w) (b := (partAt P k).h) (m := 65535) (n := 4) (by omega) (by omega)
    have b2 := mul_in (a := P.h) (b := (partAt P k).v) (m := 65535) (n := 4) (by omega) (by omega)
    have u1 := upI_in (P.w * (partAt P k).h) h (by omega) (by omega)
    have u2 := upI_in (P.h * (partAt P k).v) v (by omega) (by omega)
    have u3 := upI_in (upI (P.w * (partAt P k).h) h) 8 (by omega) (by omega)
    have u4 := upI_in (upI (P.h * (partAt P k).v) v) 8 (by omega) (by omega)
    simp only
    omega
theorem mostOf {P : PicL} {k : Int} (h : (sizeL P k).1 ≠ 0) : mostL P k = some (maxH P.parts, maxV P.parts) := by
  unfold sizeL at h
  rcases hm : mostL P k with _ | ⟨a, b⟩
  · rw [hm] at h; simp at h
  · unfold mostL at hm
    split at hm
    · exact hm.symm
    · cases hm
theorem own0' (w : World) (e : TypeId) (size : Nat) : (w.alloc (.cells #[] e)).ownsRow w.heap.size e size (.slice (some ⟨w.heap.size, 0, none⟩) 0 0) 0 [] := World.ownsRow_made w #[] 0 (Nat.le_refl _) (by decide) (by simp)
set_option maxHeartbeats 800000 in
theorem cloneB_any (v : Value) (bs : List (List Int)) (w : World) (hb : Bks w v bs) (hl : bs.length ≤ 100000000000) :
    Calls Try.prog 60 #[v] w fun e w' => ∃ v', e = .returned v' ∧ BkO w.heap.size w' v' bs ∧ Below w.heap.size w w' := by
  obtain ⟨hall, a, cap, rfl, _, hx⟩ := hb.range
  have HB := Lib.hid hb
  have HL := Lib.hid hl
  have HA := Lib.hid hall
  clear hb hl hall
  cases a with
  | none =>
    have hn : bs = [] := by
      rcases Nat.eq_zero_or_pos bs.length with h | h
      · exact List.eq_nil_of_length_eq_zero h
      · obtain ⟨_, _, h, _⟩ := hx 0 h
        simp at h
    subst hn
    clear hx
    have ne : ∀ w, (binOp .eql 68 (.slice none 0 cap) (.slice none 0 0)).run Try.prog w = .ok (.bool true) w := fun w => by kernel_rfl
    go_enter Try.func60, Try.ntmps60
    go_wp2_with fail
    go_ret
    exact ⟨_, rfl, BkO.nil _ _, Below.refl _ _⟩
  | some a =>
    clear hx
    obtain ⟨n, hn⟩ : ∃ n, bs.length = n := ⟨_, rfl⟩
    rw [hn] at HB ⊢
    have HN := Lib.hid hn
    clear hn
    have ne : ∀ w, (binOp .eql 68 (.slice (some a) n cap) (.slice none 0 0)).run Try.prog w = .ok (.bool false) w := fun w => by kernel_rfl
    go_enter Try.func60, Try.ntmps60
    go_wp2_with (at_builtin; refine stop ?_)
    have hb0 : Below w.heap.size w (w.alloc (.cells #[] 23)) := (Below.refl _ _).alloc (Nat.le_refl _) _
    have sl := Bks.sl (HB.out.old hb0)
    rw [HN.out] at sl
    refine unstop (wpList_app tyB rfl _ _ rfl w.heap.size _ 0 [] rfl (own0' w _ 64) _ n (fB bs) rfl sl (fB_one bs) (by have := HL.out; have := HN.out; omega) (by have := HL.out; have := HN.out; omega) (by simp) ?_)
    intro v1 w1 hown1 hg1 _
    have HB1 := Lib.hid (run_app_below (own0' w _ 64) hg1 hb0 (Nat.le_refl _))
    have HO1 : Hid (BkO w.heap.size w1 v1 bs) := Lib.hid ⟨by have := hown1; rw [List.nil_append, Nat.zero_add, ← HN.out] at this; exact this, HA.out⟩
    clear hb0 hown1 hg1 sl
    go_wp2_with fail
    go_ret
    exact ⟨_, rfl, HO1.out, HB1.out⟩

/-! ## what is shown -/
def shB (sw ow oh : Int) (i : Nat) (b : List Int) : List Int := if ow ≤ (i : Int) % sw ∨ oh ≤ (i : Int) / sw then zero64 else b
def shTo (sw ow oh : Int) (bs : List (List Int)) (k : Nat) : List (List Int) := bs.mapIdx fun i b => if i < k then shB sw ow oh i b else b
theorem shTo_zero (sw ow oh : Int) (bs : List (List Int)) : shTo sw ow oh bs 0 = bs := by
  unfold shTo
  apply List.ext_getElem?
  intro i
  simp
theorem shTo_length (sw ow oh : Int) (bs : List (List Int)) (k : Nat) : (shTo sw ow oh bs k).length = bs.length := by simp [shTo]
theorem shTo_at (sw ow oh : Int) (bs : List (List Int)) (k i : Nat) (hi : i < bs.length) : (shTo sw ow oh bs k)[i]'(by rw [shTo_length]; exact hi) = if i < k then shB sw ow oh i bs[i] else bs[i] := by simp [shTo]
theorem shTo_succ (sw ow oh : Int) (bs : List (List Int)) (k : Nat) (hk : k < bs.length) : shTo sw ow oh bs (k + 1) = (shTo sw ow oh bs k).set k (shB sw ow oh k bs[k]) := by
  apply List.ext_getElem (by simp [shTo])
  intro i h1 h2
  have hi : i < bs.length := by rw [shTo_length] at h1; exact h1
  rw [shTo_at _ _ _ _ _ _ hi, List.getElem_set, shTo_at _ _ _ _ _ _ hi]
  by_cases e : k = i
  · subst e; simp
  · rw [if_neg e]
    by_cases h : i < k
    · rw [if_pos h, if_pos (by omega)]
    · rw [if_neg h, if_neg (by omega)]
theorem shTo_same (sw ow oh : Int) (bs : List (List Int)) (k : Nat) (hk : k < bs.length) (h : shB sw ow oh k bs[k] = bs[k]) : shTo sw ow oh bs (k + 1) = shTo sw ow oh bs k := by
  rw [shTo_succ _ _ _ _ _ hk, h]
  apply List.ext_getElem (by simp)
  intro i h1 h2
  have hi : i < bs.length := by rw [shTo_length] at h2; exact h2
  rw [List.getElem_set]
  split
  · rename_i e; subst e; rw [shTo_at _ _ _ _ _ _ hi, if_neg (by omega)]
  · rfl
/-- are there as many blocks as the part has? -/
def fullB (P : PicL) (k : Int) : Bool := !decide ((sizeL P k).1 = 0) && decide (((partAt P k).bs.length : Int) = (sizeL P k).1 * (sizeL P k).2)
def shownL (P : PicL) (k : Int) : List (List Int) := if fullB P k then shTo (sizeL P k).1 (ownL P k).1 (ownL P k).2 (partAt P k).bs (partAt P k).bs.length else []
theorem zb_built : Try.prog.built 23 [] = some (vIs zero64).toArray := by kernel_rfl
theorem zb_info : (Try.prog.info? 23).map (·.size) = some (vIs zero64).toArray.size := by kernel_rfl
theorem zb_one : (vIs zero64).toArray.all (·.oneCell') = true := by kernel_rfl
/-- remainder and quotient, as the walk finds them -/
theorem place_q (i : Nat) {sw : Int} (h : 1 ≤ sw) : 0 ≤ (i : Int) % sw ∧ (i : Int) % sw < sw ∧ 0 ≤ (i : Int) / sw ∧ (i : Int) / sw ≤ i :=
  ⟨Int.emod_nonneg _ (by omega), Int.emod_lt_of_pos _ (by omega), Int.ediv_nonneg (by omega) (by omega), Int.ediv_le_self _ (by omega)⟩
set_option maxRecDepth 20000 in
set_option maxHeartbeats 8000000 in
theorem shown_any (P : PicL) (q0 q1 q2 q3 pv kv : Value) (k : Int) (w : World) (hc : Pts w pv P.parts) (hl : P.parts.length ≤ 140737488351232) :
    Calls Try.prog 58 #[.agg (vPic P q0 q1 q2 q3 pv kv), .int .i64 k] w fun e w' => ∃ v, e = .returned v ∧ BkO w.heap.size w' v (shownL P k) ∧ Below w.heap.size w w' := by
  obtain ⟨pa, pc, rfl, _, hx⟩ := pts_at hc
  have HX := Lib.hid hx
  have HC := Lib.hid hc
  clear hx hc
  obtain ⟨w1, hw1⟩ : ∃ w1, w.alloc (.cells (vPic P q0 q1 q2 q3 (.slice pa P.parts.length pc) kv) 36) = w1 := ⟨_, rfl⟩
  have hb1 : Below w.heap.size w w1 := by rw [← hw1]; exact (Below.refl _ _).alloc (Nat.le_refl _) _
  have hbox : PBox w1 w.heap.size P q0 q1 q2 q3 (.slice pa P.parts.length pc) kv := by rw [← hw1]; exact heap_alloc_new _ _
  have B1 := Lib.hid hb1
  have BX1 := Lib.hid hbox
  obtain ⟨a0, a1, a2, a3, a4, a5, a6, a7, a8⟩ := hbox.cells
  unfold vPic at hw1
  clear hb1 hbox
  unfold vPic
  go_enter Try.func58, Try.ntmps58
  go_wp2_with fail
  refine (size_any P q0 q1 q2 q3 _ kv k w1 (HC.out.old B1.out) hl).mono ?_
  rintro e w2 ⟨rfl, hb2⟩
  have B2 := Lib.hid (B1.out.trans (hb2.mono B1.out.size))
  have BX2 := Lib.hid (BX1.out.old hb2)
  clear hb2 hw1 a0 a1 a2 a3 a4 a5 a6 a7 a8
  obtain ⟨a0, a1, a2, a3, a4, a5, a6, a7, a8⟩ := BX2.out.cells
  have SI := szL_in P k
  obtain ⟨sw, hsw⟩ : ∃ z, (sizeL P k).1 = z := ⟨_, rfl⟩
  obtain ⟨sh, hsh⟩ : ∃ z, (sizeL P k).2 = z := ⟨_, rfl⟩
  rw [hsw, hsh] at SI ⊢
  have HSI := Lib.hid SI
  have HSW := Lib.hid hsw
  have HSH := Lib.hid hsh
  by_cases hz : sw = 0
  · have z1 : (sw == 0) = true := by rw [beq_iff_eq]; exact hz
    have SL : Hid (shownL P k = []) := Lib.hid (by
      have : fullB P k = false := by unfold fullB; rw [hsw, hz]; rfl
      unfold shownL; rw [this]; rfl)
    clear hz hsw hsh SI
    go_wp2_with fail
    go_ret
    exact ⟨_, rfl, by rw [SL.out]; exact BkO.nil _ _, B2.out⟩
  have z1 : (sw == 0) = false := by rw [beq_eq_false_iff_ne]; exact hz
  have hm := mostOf (P := P) (k := k) (by rw [hsw]; exact hz)
  obtain ⟨hkr, hw, hh, hfx, h14, v14⟩ := mostL_some hm
  obtain ⟨ph1, pv1, hlt, -⟩ := part_in hm
  obtain ⟨b, off, x, rfl, -, hBK, c0, c1, c2, c3, c4, c5, c6⟩ := HX.out k.toNat hlt
  have hpa : P.parts[k.toNat] = partAt P k := by unfold partAt; rw [List.getD_eq_getElem?_getD, List.getElem?_eq_getElem hlt]; rfl
  rw [hpa] at hBK
  obtain ⟨kn, hkn⟩ : ∃ n : Nat, k = (n : Int) := ⟨k.toNat, by omega⟩
  subst hkn
  simp only [Int.toNat_natCast] at c6 hlt
  obtain ⟨bs, hbs⟩ : ∃ bs, (partAt P (kn : Int)).bs = bs := ⟨_, rfl⟩
  rw [hbs] at hBK
  obtain ⟨xa, xc, rfl, _⟩ := Els.len hBK
  obtain ⟨n, hn⟩ : ∃ n, bs.length = n := ⟨_, rfl⟩
  rw [hn] at hBK c6
  have HN := Lib.hid hn
  have d6 := cell_old B2.out c6
  have i1 : decide ((kn : Int) < (P.parts.length : Int)) = true := by rw [decide_eq_true_eq]; omega
  have i2 : kn < P.parts.length := hlt
  have i3 : (0 : Int) ≤ (kn : Int) := by omega
  have i4 : (kn : Int) < (P.parts.length : Int) := by omega
  have mm := mul_in (a := sw) (b := sh) (m := 262140) (n := 262140) SI.1 SI.2
  obtain ⟨pr, hpr⟩ : ∃ pr, sw * sh = pr := ⟨_, rfl⟩
  rw [hpr] at mm
  have g1 : wrap64 (sw * sh) = pr := by rw [hpr]; exact IntWalk.wrap64_in _ (by omega)
  have HK := Lib.hid hBK
  have HBS := Lib.hid hbs
  have HPR := Lib.hid hpr
  clear hm hkr hw hh hfx h14 v14 ph1 pv1 c0 c1 c2 c3 c4 c5 c6 hpa hBK hsw hsh hbs hn
  by_cases hf : (n : Int) = pr
  · have f1 : ((n : Int) != pr) = false := by rw [bne_eq_false_iff_eq]; exact hf
    have NL : Hid (n ≤ 100000000000) := Lib.hid (by omega)
    have NZ : Hid (1 ≤ sw) := Lib.hid (by omega)
    have SL : Hid (shownL P (kn : Int) = shTo sw (ownL P (kn : Int)).1 (ownL P (kn : Int)).2 bs n) := Lib.hid (by
      have h1 : fullB P (kn : Int) = true := by
        unfold fullB
        rw [HSW.out, HSH.out, HBS.out, HN.out, HPR.out, hf, decide_eq_false hz, decide_eq_true rfl]
        rfl
      unfold shownL
      rw [h1, if_pos rfl, HSW.out, HBS.out, HN.out])
    clear hf hz hpr SI mm
    go_wp2_with fail
    refine (own_any P q0 q1 q2 q3 _ kv (kn : Int) w2 (HC.out.old B2.out) hl).mono ?_
    rintro e w3 ⟨rfl, hb3⟩
    have B3 := Lib.hid (B2.out.trans (hb3.mono B2.out.size))
    have e6 := cell_old hb3 d6
    have BX3 := Lib.hid (BX2.out.old hb3)
    clear hb3 a0 a1 a2 a3 a4 a5 a6 a7 a8 d6 g1 f1 z1
    obtain ⟨a0, a1, a2, a3, a4, a5, a6, a7, a8⟩ := BX3.out.cells
    have OI := owL_in P (kn : Int)
    obtain ⟨ow, how⟩ : ∃ z, (ownL P (kn : Int)).1 = z := ⟨_, rfl⟩
    obtain ⟨oh, hoh⟩ : ∃ z, (ownL P (kn : Int)).2 = z := ⟨_, rfl⟩
    rw [how, hoh] at OI SL ⊢
    have HOI := Lib.hid OI
    clear OI how hoh
    go_wp2_with fail
    refine (cloneB_any _ bs w3 (HK.out.old B3.out) (by have := NL.out; have := HN.out; omega)).mono ?_
    rintro e w4 ⟨v4, rfl, ho4, hb4⟩
    obtain ⟨va, vc, rfl⟩ := ho4.shape
    rw [HN.out] at ho4 ⊢
    have B4 := Lib.hid (B3.out.trans (hb4.mono B3.out.size))
    have O4 := Lib.hid (ho4.mono B3.out.size)
    clear ho4 hb4 a0 a1 a2 a3 a4 a5 a6 a7 a8 e6 i1 i2 i3 i4
    go_wp2_with fail
    go_loopw [47] (fun t W => ∃ i : Nat, t = .int .i64 (i : Nat) ∧ i ≤ n ∧ BkO w.heap.size W (.slice va n vc) (shTo sw ow oh bs i) ∧ Below w.heap.size w W) (fun t _ => n - (intOf t).toNat)
    case atStart => exact ⟨0, rfl, Nat.zero_le _, by rw [shTo_zero]; exact O4.out, B4.out⟩
    case round =>
      clear O4 B4
      obtain ⟨i, rfl, hi, ho, hb⟩ := hrel
      have OO := Lib.hid ho
      have BB := Lib.hid hb
      clear ho hb
      by_cases hil : i < n
      · have l1 : decide ((i : Int) < (n : Int)) = true := by rw [decide_eq_true_eq]; omega
        have l2 : decide (i < n) = true := by rw [decide_eq_true_eq]; omega
        have l3 : (i : Int) < (n : Int) := by omega
        obtain ⟨m0, m1, q0', q1'⟩ := place_q i NZ.out
        have SHS : Hid (shTo sw ow oh bs (i + 1) = (shTo sw ow oh bs i).set i (shB sw ow oh i (bs[i]'(by rw [HN.out]; exact hil)))) := Lib.hid (shTo_succ _ _ _ _ _ (by rw [HN.out]; exact hil))
        have SHE : Hid (shB sw ow oh i (bs[i]'(by rw [HN.out]; exact hil)) = bs[i]'(by rw [HN.out]; exact hil) → shTo sw ow oh bs (i + 1) = shTo sw ow oh bs i) := Lib.hid (shTo_same _ _ _ _ _ (by rw [HN.out]; exact hil))
        have zz : (sw == 0) = false := by rw [beq_eq_false_iff_ne]; have := NZ.out; omega
        have zz2 : ¬ sw = 0 := by have := NZ.out; omega
        have gi : IntKind.i64.wrap ((i : Int) + 1) = (i : Int) + 1 := IntWalk.i64_in _ (by have := NL.out; omega)
        obtain ⟨mr, hmr⟩ : ∃ z, (i : Int) % sw = z := ⟨_, rfl⟩
        obtain ⟨dq, hdq⟩ : ∃ z, (i : Int) / sw = z := ⟨_, rfl⟩
        have t1 : (i : Int).tmod sw = mr := by rw [← hmr]; exact Int.tmod_eq_emod_of_nonneg (by omega)
        have t2 : (i : Int).tdiv sw = dq := by rw [← hdq]; exact Int.tdiv_eq_ediv_of_nonneg (by omega)
        rw [hmr] at m0 m1
        rw [hdq] at q0' q1'
        have t3 : wrap64 mr = mr := IntWalk.wrap64_in _ (by have := HSI.out; omega)
        have t4 : wrap64 dq = dq := IntWalk.wrap64_in _ (by have := NL.out; omega)
        have t5 : IntKind.i64.wrap mr = mr := IntWalk.i64_in _ (by have := HSI.out; omega)
        have t6 : IntKind.i64.wrap dq = dq := IntWalk.i64_in _ (by have := NL.out; omega)
        have HMR := Lib.hid hmr
        have HDQ := Lib.hid hdq
        have HIL := Lib.hid hil
        clear hmr hdq m0 m1 q0' q1'
        obtain ⟨g, gc, hge, hg1, hg2⟩ := OO.out.got (by rw [shTo_length, HN.out]; omega)
        simp only [Value.slice.injEq] at hge
        obtain ⟨rfl, -, rfl⟩ := hge
        have HG := Lib.hid hg1
        have TH := Lib.hid (OO.out.there i (by rw [shTo_length, HN.out]; exact hil))
        have BL := Lib.hid zb_built
        have HI := Lib.hid zb_info
        have H1 := Lib.hid zb_one
        clear hg1 hg2
        by_cases hc1 : ow ≤ mr
        · have v1 : decide (ow ≤ mr) = true := decide_eq_true hc1
          have SS : Hid (shB sw ow oh i (bs[i]'(by rw [HN.out]; exact hil)) = zero64) := Lib.hid (by unfold shB; rw [if_pos (.inl (by rw [HMR.out]; exact hc1))])
          go_wp2_with (first | refine wpList_agg rfl _ _ rfl _ _ rfl BL.out ?_ | (refine wpList_store_mid rfl _ _ _ rfl g (i * 64) (vIs zero64).toArray rfl rfl TH.out HI.out H1.out ?_; refine stop ?_))
          refine unstop ?_
          obtain ⟨W9, hW9⟩ : ∃ W9, wr.setCells g (i * 64) (vIs zero64).toArray.toList = W9 := ⟨_, rfl⟩
          rw [hW9]
          have hst := OO.out.stored i (by rw [shTo_length, HN.out]; exact HIL.out) blk_zero
          have hW9' : wr.setCells g (i * 64) (vIs zero64) = W9 := hW9
          rw [hW9'] at hst
          have O9 : Hid (BkO w.heap.size W9 (.slice (some ⟨g, 0, none⟩) n vc) (shTo sw ow oh bs (i + 1))) := Lib.hid (by rw [SHS.out, SS.out]; exact hst.1)
          have B9 : Hid (Below w.heap.size w W9) := Lib.hid (BB.out.grown hst.2 BB.out.size fun k hk => by simp only [Option.some.injEq] at hk; have := HG.out; omega)
          clear hst hW9 hW9'
          go_wp2_with fail
          go_roundw
          case rel => exact ⟨i + 1, by go_num, HIL.out, O9.out, B9.out⟩
          case measure => simp [intOf]; have := HIL.out; omega
        · have v1 : decide (ow ≤ mr) = false := decide_eq_false hc1
          by_cases hc2 : oh ≤ dq
          · have v2 : decide (oh ≤ dq) = true := decide_eq_true hc2
            have SS : Hid (shB sw ow oh i (bs[i]'(by rw [HN.out]; exact hil)) = zero64) := Lib.hid (by unfold shB; rw [if_pos (.inr (by rw [HDQ.out]; exact hc2))])
            go_wp2_with (first | refine wpList_agg rfl _ _ rfl _ _ rfl BL.out ?_ | (refine wpList_store_mid rfl _ _ _ rfl g (i * 64) (vIs zero64).toArray rfl rfl TH.out HI.out H1.out ?_; refine stop ?_))
            refine unstop ?_
            obtain ⟨W9, hW9⟩ : ∃ W9, wr.setCells g (i * 64) (vIs zero64).toArray.toList = W9 := ⟨_, rfl⟩
            rw [hW9]
            have hst := OO.out.stored i (by rw [shTo_length, HN.out]; exact HIL.out) blk_zero
            have hW9' : wr.setCells g (i * 64) (vIs zero64) = W9 := hW9
            rw [hW9'] at hst
            have O9 : Hid (BkO w.heap.size W9 (.slice (some ⟨g, 0, none⟩) n vc) (shTo sw ow oh bs (i + 1))) := Lib.hid (by rw [SHS.out, SS.out]; exact hst.1)
            have B9 : Hid (Below w.heap.size w W9) := Lib.hid (BB.out.grown hst.2 BB.out.size fun k hk => by simp only [Option.some.injEq] at hk; have := HG.out; omega)
            clear hst hW9 hW9'
            go_wp2_with fail
            go_roundw
            case rel => exact ⟨i + 1, by go_num, HIL.out, O9.out, B9.out⟩
            case measure => simp [intOf]; have := HIL.out; omega
          · have v2 : decide (oh ≤ dq) = false := decide_eq_false hc2
            have SS : Hid (shTo sw ow oh bs (i + 1) = shTo sw ow oh bs i) := Lib.hid (SHE.out (by unfold shB; rw [if_neg (by rw [HMR.out, HDQ.out]; omega)]))
            clear hc1 hc2
            go_wp2_with fail
            go_roundw
            case rel => exact ⟨i + 1, by go_num, HIL.out, by rw [SS.out]; exact OO.out, BB.out⟩
            case measure => simp [intOf]; have := HIL.out; omega
      · obtain rfl : i = n := by omega
        have l1 : decide ((i : Int) < (i : Int)) = false := by rw [decide_eq_false_iff_not]; omega
        go_wp2_with fail
        go_ret
        exact ⟨_, rfl, by rw [SL.out]; exact OO.out, BB.out⟩
  · have f1 : ((n : Int) != pr) = true := by rw [bne_iff_ne]; exact hf
    have SL : Hid (shownL P (kn : Int) = []) := Lib.hid (by
      have : fullB P (kn : Int) = false := by
        unfold fullB
        rw [HSW.out, HSH.out, HBS.out, HN.out, HPR.out, decide_eq_false hf, Bool.and_false]
      unfold shownL; rw [this]; rfl)
    clear hf hz hpr SI mm
    go_wp2_with fail
    go_ret
    exact ⟨_, rfl, by rw [SL.out]; exact BkO.nil _ _, B2.out⟩
end Go.Proofs.Ytnhalnjdlkdnkaa

namespace Go.Proofs.Ytnhalnjdlkdnkaa
open Go.RowKit
set_option linter.unusedVariables false
set_option linter.unusedSimpArgs false

def crossB (t : Int) : Bool := decide (t = 4 ∨ t = 5 ∨ t = 6 ∨ t = 7)
def flipB (t : Int) : Bool := decide (t = 1 ∨ t = 3 ∨ t = 5 ∨ t = 7)
def flopB (t : Int) : Bool := decide (t = 2 ∨ t = 3 ∨ t = 6 ∨ t = 7)
def wayV (c f o : Bool) : Value := .agg #[.bool c, .bool f, .bool o]

set_option maxHeartbeats 800000 in
theorem of_any (t : Int) (w : World) : Calls Try.prog 27 #[.int .i64 t] w fun e w' => e = .returned (wayV (crossB t) (flipB t) (flopB t)) ∧ Below w.heap.size w w' := by
  by_cases h : t = 1 ∨ t = 2 ∨ t = 3 ∨ t = 4 ∨ t = 5 ∨ t = 6 ∨ t = 7
  · rcases h with rfl | rfl | rfl | rfl | rfl | rfl | rfl
    all_goals
      go_enter Try.func27, Try.ntmps27
      go_wp2_with fail
      go_returns
      exact ⟨rfl, (Below.refl _ _).alloc (Nat.le_refl _) _⟩
  · have e1 : (t == 1) = false := by rw [beq_eq_false_iff_ne]; omega
    have e2 : (t == 2) = false := by rw [beq_eq_false_iff_ne]; omega
    have e3 : (t == 3) = false := by rw [beq_eq_false_iff_ne]; omega
    have e4 : (t == 4) = false := by rw [beq_eq_false_iff_ne]; omega
    have e5 : (t == 5) = false := by rw [beq_eq_false_iff_ne]; omega
    have e6 : (t == 6) = false := by rw [beq_eq_false_iff_ne]; omega
    have e7 : (t == 7) = false := by rw [beq_eq_false_iff_ne]; omega
    have F1 : Hid (crossB t = false) := Lib.hid (by unfold crossB; rw [decide_eq_false_iff_not]; omega)
    have F2 : Hid (flipB t = false) := Lib.hid (by unfold flipB; rw [decide_eq_false_iff_not]; omega)
    have F3 : Hid (flopB t = false) := Lib.hid (by unfold flopB; rw [decide_eq_false_iff_not]; omega)
    clear h
    go_enter Try.func27, Try.ntmps27
    go_wp2_with fail
    go_returns
    exact ⟨by rw [F1.out, F2.out, F3.out]; rfl, (Below.refl _ _).alloc (Nat.le_refl _) _⟩

/-- rows and columns change places -/
def crossL (l : List Int) : List Int := (List.range 64).map fun k => l.getD (k % 8 * 8 + k / 8) 0
theorem crossL_len (l : List Int) : (crossL l).length = 64 := by simp [crossL]
theorem cr_idx (k q r m : Nat) (h : k = 8 * q + r) (hr : r < 8) (hm : r * 8 + q = m) : k % 8 * 8 + k / 8 = m := by
  have h1 : k % 8 = r := by omega
  have h2 : k / 8 = q := by omega
  rw [h1, h2]; exact hm
def crF (l : List Int) (i k : Nat) : Value := if k % 8 * 8 + k / 8 < i then .int .i64 (l.getD (k % 8 * 8 + k / 8) 0) else .int .i64 0
theorem crF_step (l : List Int) (i : Nat) (hi : i < 64) (k : Nat) (hk : k < 64) : crF l (i + 1) k = if k = i % 8 * 8 + i / 8 then .int .i64 (l.getD i 0) else crF l i k := by
  unfold crF
  by_cases h : k = i % 8 * 8 + i / 8
  · have e : k % 8 * 8 + k / 8 = i := by omega
    rw [if_pos h, e, if_pos (by omega)]
  · rw [if_neg h]
    have e : k % 8 * 8 + k / 8 ≠ i := by omega
    by_cases h2 : k % 8 * 8 + k / 8 < i
    · rw [if_pos h2, if_pos (by omega)]
    · rw [if_neg h2, if_neg (by omega)]
theorem tyN4 : ElemTy Try.prog 31 3 (.int .i64 0) 1 8 := elemTy Try.underlying31 (by kernel_rfl) rfl (by decide)
set_option maxHeartbeats 1600000 in
theorem crossed_any (v : Value) (l : List Int) (w : World) (hb : Ns w v l) (hl : l.length = 64) :
    Calls Try.prog 28 #[v] w fun e w' => ∃ g, e = .returned (.slice (some ⟨g, 0, none⟩) 64 64) ∧ w.heap.size ≤ g ∧ w'.rowIs g 3 64 (fun k => .int .i64 ((crossL l).getD k 0)) ∧ Below w.heap.size w w' := by
  obtain ⟨a, cap, rfl, hcell⟩ := hb.read
  rw [hl]
  have HC := Lib.hid hcell
  have HL := Lib.hid hl
  clear hb hcell hl
  go_enter Try.func28, Try.ntmps28
  go_wp2_with (at_make; refine stop ?_)
  obtain ⟨ti, hti, htz, hts, htb⟩ := tyN4.hi
  refine unstop (wpList_make_row _ rfl _ _ _ rfl 3 ti (.int .i64 0) Try.underlying31 hti htz hts rfl .i64 .i64 64 rfl rfl (by rw [htb]; decide) (by decide) ?_)
  have hr0 : (w.alloc (.cells (madeCells #[.int .i64 0] 64) 3)).rowIs w.heap.size 3 64 (crF l 0) := (World.rowIs_made w (.int .i64 0) 64 3).congr (fun i _ => by unfold crF; rw [if_neg (Nat.not_lt_zero _)])
  obtain ⟨w1, hw1⟩ : ∃ w1, w.alloc (.cells (madeCells #[.int .i64 0] 64) 3) = w1 := ⟨_, rfl⟩
  have hb0 : Below w.heap.size w w1 := by rw [← hw1]; exact (Below.refl _ _).alloc (Nat.le_refl _) _
  rw [hw1] at hr0
  rw [hw1]
  have R0 := Lib.hid hr0
  have B0 := Lib.hid hb0
  clear hr0 hti htz hts htb hw1 hb0
  go_wp2_with fail
  go_loopw [11] (fun i w' => ∃ k : Nat, k ≤ 64 ∧ i = .int .i64 k ∧ w'.rowIs w.heap.size 3 64 (crF l k) ∧ Below w.heap.size w w') (fun i _ => 64 - (intOf i).toNat)
  case atStart => exact ⟨0, Nat.zero_le _, rfl, R0.out, B0.out⟩
  case round =>
    obtain ⟨k, hk, rfl, hrow, hbl⟩ := hrel
    have HR := Lib.hid hrow
    have HB := Lib.hid hbl
    clear hrow hbl R0 B0
    by_cases hk6 : k < 64
    · have f1 : decide (k < 64) = true := by rw [decide_eq_true_eq]; exact hk6
      have f1' : decide ((k : Int) < 64) = true := by rw [decide_eq_true_eq]; omega
      obtain ⟨b, off, rfl, hc⟩ := HC.out k (by rw [HL.out]; exact hk6)
      have hc' := cell_old HB.out hc
      have hx : l[k]'(by rw [HL.out]; exact hk6) = l.getD k 0 := by rw [List.getD_eq_getElem?_getD, List.getElem?_eq_getElem]; rfl
      rw [hx] at hc'
      clear hc hx
      obtain ⟨q, r, hqr, hr8, hq8⟩ : ∃ q r : Nat, k = 8 * q + r ∧ r < 8 ∧ q < 8 := ⟨k / 8, k % 8, by omega, by omega, by omega⟩
      have t3 : (k : Int) / 8 = (q : Int) := by omega
      have t4 : (k : Int) % 8 = (r : Int) := by omega
      obtain ⟨m, hm⟩ : ∃ m, r * 8 + q = m := ⟨_, rfl⟩
      have m64 : m < 64 := by clear t3 t4; omega
      have i1 : (m : Int) < 64 := Int.ofNat_lt.2 m64
      have i2 : decide (m < 64) = true := by rw [decide_eq_true_eq]; exact m64
      have w1 : wrap64 ((r : Int) * 8) = (r : Int) * 8 ∧ IntKind.i64.wrap ((r : Int) * 8) = (r : Int) * 8 := ⟨IntWalk.wrap64_in _ (by omega), IntWalk.i64_in _ (by omega)⟩
      have w2 : wrap64 ((r : Int) * 8 + (q : Int)) = (m : Int) ∧ IntKind.i64.wrap ((r : Int) * 8 + (q : Int)) = (m : Int) := ⟨by rw [IntWalk.wrap64_in _ (by omega)]; omega, by rw [IntWalk.i64_in _ (by omega)]; omega⟩
      have w3 : wrap64 (q : Int) = (q : Int) ∧ IntKind.i64.wrap (q : Int) = (q : Int) := ⟨IntWalk.wrap64_in _ (by omega), IntWalk.i64_in _ (by omega)⟩
      obtain ⟨w1a, w1b⟩ := w1
      obtain ⟨w2a, w2b⟩ := w2
      obtain ⟨w3a, w3b⟩ := w3
      have c1 := HR.out.cell m64
      have c2 := HR.out.frozen m
      have hmk : k % 8 * 8 + k / 8 = m := cr_idx k q r m hqr hr8 hm
      have STEP : Hid ((wr.setCell ⟨w.heap.size, m, none⟩ (.int .i64 (l.getD k 0))).rowIs w.heap.size 3 64 (crF l (k + 1))) := Lib.hid ((HR.out.set m (.int .i64 (l.getD k 0))).congr (fun j hj => by rw [crF_step l k hk6 j hj, hmk]))
      have BS : Hid (Below w.heap.size w (wr.setCell ⟨w.heap.size, m, none⟩ (.int .i64 (l.getD k 0)))) := Lib.hid (HB.out.setCell (by exact Nat.le_refl _) _)
      clear hqr hm hmk hr8 hq8
      obtain ⟨y, hy⟩ : ∃ y, crF l k m = y := ⟨_, rfl⟩
      rw [hy] at c1
      obtain ⟨x, hx⟩ : ∃ x, l.getD k 0 = x := ⟨_, rfl⟩
      rw [hx] at hc' STEP BS
      clear hy hx
      go_wp2_with fail
      go_roundw
      case rel => exact ⟨k + 1, by omega, by go_num, STEP.out, BS.out⟩
      case measure => simp [intOf]; omega
    · obtain rfl : k = 64 := by omega
      go_wp2_with fail
      go_ret
      refine ⟨_, rfl, Nat.le_refl _, HR.out.congr (fun j hj => ?_), HB.out⟩
      unfold crF
      rw [if_pos (by omega)]
      simp [crossL, hj]
end Go.Proofs.Ytnhalnjdlkdnkaa

namespace Go.Proofs.Ytnhalnjdlkdnkaa
open Go.RowKit Go.BigFrame
set_option linter.unusedVariables false
set_option linter.unusedSimpArgs false
set_option maxRecDepth 20000

/-! ## rows of records -/
def cellsW {α : Type} (c : α → Value → List Value) (rs : List (α × Value)) : List Value := rs.flatMap fun p => c p.1 p.2
theorem cellsW_len {α : Type} {c : α → Value → List Value} {size : Nat} (hc : ∀ q x, (c q x).length = size) (rs : List (α × Value)) : (cellsW c rs).length = rs.length * size := by
  induction rs with
  | nil => simp [cellsW]
  | cons p rs ih =>
    have e : cellsW c (p :: rs) = c p.1 p.2 ++ cellsW c rs := List.flatMap_cons
    rw [e, List.length_append, hc, ih, List.length_cons, Nat.add_mul]
    omega
theorem cellsW_at {α : Type} {c : α → Value → List Value} {size : Nat} (hc : ∀ q x, (c q x).length = size) (rs : List (α × Value)) (i j : Nat) (hi : i < rs.length) (hj : j < size) : (cellsW c rs)[i * size + j]? = (c rs[i].1 rs[i].2)[j]? := by
  induction rs generalizing i with
  | nil => exact absurd hi (Nat.not_lt_zero i)
  | cons p rs ih =>
    have e : cellsW c (p :: rs) = c p.1 p.2 ++ cellsW c rs := List.flatMap_cons
    rw [e]
    cases i with
    | zero => rw [Nat.zero_mul, Nat.zero_add, List.getElem?_append_left (by rw [hc]; exact hj)]; rfl
    | succ i =>
      rw [List.getElem?_append_right (by rw [hc, Nat.add_mul]; omega), hc, show (i + 1) * size + j - size = i * size + j by rw [Nat.add_mul]; omega]
      exact ih i (by simpa using hi)
theorem mul_add_lt {i n j size : Nat} (hi : i < n) (hj : j < size) : i * size + j < n * size := by
  have : (i + 1) * size ≤ n * size := Nat.mul_le_mul_right _ hi
  rw [Nat.add_mul] at this
  omega
/-- one cell of one record turned -/
theorem cellsW_set {α : Type} {c : α → Value → List Value} {size : Nat} (hc : ∀ q x, (c q x).length = size) (rs : List (α × Value)) (i j : Nat) (hi : i < rs.length) (hj : j < size) (u : Value) (p : α × Value) (hp : c p.1 p.2 = (c rs[i].1 rs[i].2).set j u) :
    (cellsW c rs).set (i * size + j) u = cellsW c (rs.set i p) := by
  apply List.ext_getElem?
  intro m
  have hl := cellsW_len hc rs
  by_cases hm : m < rs.length * size
  · have hs : 0 < size := by omega
    have hd : m / size < rs.length := Nat.div_lt_of_lt_mul (by rw [Nat.mul_comm]; exact hm)
    have hr : m % size < size := Nat.mod_lt _ hs
    have e : m / size * size + m % size = m := by rw [Nat.mul_comm]; exact Nat.div_add_mod m size
    have h1 : (cellsW c rs)[m]? = (c rs[m / size].1 rs[m / size].2)[m % size]? := by rw [← cellsW_at hc rs _ _ hd hr, e]
    have h2 : (cellsW c (rs.set i p))[m]? = (c ((rs.set i p)[m / size]'(by simpa using hd)).1 ((rs.set i p)[m / size]'(by simpa using hd)).2)[m % size]? := by rw [← cellsW_at hc (rs.set i p) _ _ (by simpa using hd) hr, e]
    rw [h2, List.getElem?_set]
    by_cases hmi : m / size = i
    · have e3 : (rs.set i p)[m / size]'(by simpa using hd) = p := by simp [hmi]
      rw [e3, hp, List.getElem?_set]
      by_cases hmj : m % size = j
      · have : i * size + j = m := by rw [← hmi, ← hmj]; exact e
        rw [if_pos this, if_pos hmj.symm, if_pos (by rw [hl, this]; exact hm), if_pos (by rw [hc]; exact hj)]
      · have : i * size + j ≠ m := fun h => hmj (by rw [← h, Nat.mul_comm, Nat.mul_add_mod, Nat.mod_eq_of_lt hj])
        rw [if_neg this, if_neg (Ne.symm hmj), h1]
        simp only [hmi]
    · have : i * size + j ≠ m := fun h => hmi (by rw [← h, Nat.mul_comm, Nat.mul_add_div hs, Nat.div_eq_of_lt hj, Nat.add_zero])
      rw [if_neg this, h1, List.getElem_set_ne (Ne.symm hmi)]
  · rw [List.getElem?_eq_none (by simp [hl]; omega), List.getElem?_eq_none (by rw [cellsW_len hc]; simp; omega)]
theorem els_rows {α : Type} {c : α → Value → List Value} {size : Nat} {Ψ : World → α → Value → Prop} {w : World} {v : Value} {qs : List α} (hc : ∀ q x, (c q x).length = size) (hs : 0 < size)
    (h : Els size (fun w cs q => ∃ x, cs = c q x ∧ Ψ w q x) w v qs) : ∃ rs : List (α × Value), rs.map (·.1) = qs ∧ SlN size w v qs.length (cellsW c rs) ∧ ∀ p ∈ rs, Ψ w p.1 p.2 := by
  obtain ⟨a, cap, hv, hcap, hx⟩ := h
  have key : ∀ i, i < qs.length → ∃ x : Value, ∃ hi : i < qs.length, ∃ b off, a = some ⟨b, off, none⟩ ∧ (∀ j u, (c qs[i] x)[j]? = some u → w.cell? ⟨b, off + i * size + j, none⟩ = some u) ∧ Ψ w qs[i] x := by
    intro i hi
    obtain ⟨b, off, cs, ha, _, hcell, x, rfl, hΨ⟩ := hx i hi
    exact ⟨x, hi, b, off, ha, hcell, hΨ⟩
  obtain ⟨f, hf⟩ := Go.Deep.choose_lt key
  obtain ⟨rs, hrs⟩ : ∃ rs : List (α × Value), rs = qs.mapIdx fun i q => (q, f i) := ⟨_, rfl⟩
  have hl : rs.length = qs.length := by rw [hrs]; simp
  have hat : ∀ i (hi : i < qs.length), rs[i]'(by omega) = (qs[i], f i) := fun i hi => by subst hrs; simp
  refine ⟨rs, ?_, ⟨by rw [cellsW_len hc, hl], ?_⟩, fun p hp => ?_⟩
  · apply List.ext_getElem (by simp [hl])
    intro i h1 h2
    rw [List.getElem_map, hat i h2]
  · by_cases h0 : qs.length = 0
    · exact .inl ⟨a, cap, hv, h0⟩
    · obtain ⟨_, b, off, ha, _, _⟩ := hf 0 (by omega)
      refine .inr ⟨b, off, cap, by rw [hv, ha], hcap, by omega, fun m u hu => ?_⟩
      have hm : m < qs.length * size := by have := (List.getElem?_eq_some_iff.1 hu).1; rw [cellsW_len hc, hl] at this; exact this
      have hd : m / size < qs.length := Nat.div_lt_of_lt_mul (by rw [Nat.mul_comm]; exact hm)
      have hr : m % size < size := Nat.mod_lt _ hs
      have e : m / size * size + m % size = m := by rw [Nat.mul_comm]; exact Nat.div_add_mod m size
      obtain ⟨_, b', off', ha', hcell, _⟩ := hf (m / size) hd
      rw [ha] at ha'
      simp only [Option.some.injEq, Addr.mk.injEq, and_true] at ha'
      obtain ⟨rfl, rfl⟩ := ha'
      rw [← e, cellsW_at hc rs _ _ (by omega) hr] at hu
      simp only [hat (m / size) hd] at hu
      have := hcell _ _ hu
      rwa [Nat.add_assoc, e] at this
  · obtain ⟨i, hi, rfl⟩ := List.getElem_of_mem hp
    rw [hat i (by omega)]
    obtain ⟨_, _, _, _, _, hΨ⟩ := hf i (by omega)
    exact hΨ
theorem rows_els {α : Type} {c : α → Value → List Value} {size : Nat} {Ψ : World → α → Value → Prop} {w : World} {v : Value} {rs : List (α × Value)} (hc : ∀ q x, (c q x).length = size) (hs : 0 < size)
    (h : SlN size w v rs.length (cellsW c rs)) (hΨ : ∀ p ∈ rs, Ψ w p.1 p.2) : Els size (fun w cs q => ∃ x, cs = c q x ∧ Ψ w q x) w v (rs.map (·.1)) := by
  rcases h.2 with ⟨a, cap, hv, h0⟩ | ⟨b, off, cap, hv, hcap, _, hx⟩
  · have : rs = [] := List.eq_nil_of_length_eq_zero h0
    subst this
    rw [hv]
    exact Els.nil _ _ _ _ _
  · refine ⟨some ⟨b, off, none⟩, cap, by rw [hv]; simp, by simpa using hcap, fun i hi => ?_⟩
    have hi' : i < rs.length := by simpa using hi
    refine ⟨b, off, c rs[i].1 rs[i].2, rfl, hc _ _, fun j u hj => ?_, rs[i].2, by simp, by simpa using hΨ _ (List.getElem_mem hi')⟩
    have hjs : j < size := by have := (List.getElem?_eq_some_iff.1 hj).1; rw [hc] at this; exact this
    rw [Nat.add_assoc]
    exact hx _ _ (by rw [cellsW_at hc rs _ _ hi' hjs]; exact hj)
theorem vPart_len (p : PartL) (x : Value) : (vPart p x).length = 7 := rfl
def vSeg (s : Int × List UInt8) (x : Value) : List Value := [.int .i64 s.1, x]
theorem vSeg_len (s : Int × List UInt8) (x : Value) : (vSeg s x).length = 2 := rfl
theorem pts_rows {w : World} {v : Value} {ps : List PartL} (h : Pts w v ps) : ∃ rs : List (PartL × Value), rs.map (·.1) = ps ∧ SlN 7 w v ps.length (cellsW vPart rs) ∧ ∀ p ∈ rs, PartB p.1 ∧ Bks w p.2 p.1.bs :=
  els_rows (Ψ := fun w p x => PartB p ∧ Bks w x p.bs) vPart_len (by decide) h
theorem rows_pts {w : World} {v : Value} {rs : List (PartL × Value)} (h : SlN 7 w v rs.length (cellsW vPart rs)) (hΨ : ∀ p ∈ rs, PartB p.1 ∧ Bks w p.2 p.1.bs) : Pts w v (rs.map (·.1)) :=
  rows_els (Ψ := fun w p x => PartB p ∧ Bks w x p.bs) vPart_len (by decide) h hΨ
theorem sgs_rows {w : World} {v : Value} {ks : List (Int × List UInt8)} (h : Sgs w v ks) : ∃ rs : List ((Int × List UInt8) × Value), rs.map (·.1) = ks ∧ SlN 2 w v ks.length (cellsW vSeg rs) ∧ ∀ p ∈ rs, R64 p.1.1 ∧ p.1.2.length ≤ 140737488351232 ∧ Bs w p.2 p.1.2 :=
  els_rows (Ψ := fun w (p : Int × List UInt8) x => R64 p.1 ∧ p.2.length ≤ 140737488351232 ∧ Bs w x p.2) vSeg_len (by decide) h
theorem rows_sgs {w : World} {v : Value} {rs : List ((Int × List UInt8) × Value)} (h : SlN 2 w v rs.length (cellsW vSeg rs)) (hΨ : ∀ p ∈ rs, R64 p.1.1 ∧ p.1.2.length ≤ 140737488351232 ∧ Bs w p.2 p.1.2) : Sgs w v (rs.map (·.1)) :=
  rows_els (Ψ := fun w (p : Int × List UInt8) x => R64 p.1 ∧ p.2.length ≤ 140737488351232 ∧ Bs w x p.2) vSeg_len (by decide) h hΨ
theorem cellsW_one {α : Type} {c : α → Value → List Value} {rs : List (α × Value)} (h : ∀ p ∈ rs, ∀ u ∈ c p.1 p.2, u.oneCell' = true) : ∀ u ∈ cellsW c rs, u.oneCell' = true := by
  intro u hu
  obtain ⟨p, hp, hu⟩ := List.mem_flatMap.1 hu
  exact h p hp u hu
theorem bks_slice {w : World} {v : Value} {bs : List (List Int)} (h : Bks w v bs) : ∃ a c, v = .slice a bs.length c := by
  obtain ⟨a, c, hv, _⟩ := h
  exact ⟨a, c, hv⟩
theorem parts_one {w : World} {rs : List (PartL × Value)} (h : ∀ p ∈ rs, PartB p.1 ∧ Bks w p.2 p.1.bs) : ∀ u ∈ cellsW vPart rs, u.oneCell' = true :=
  cellsW_one fun p hp u hu => by
    obtain ⟨a, c, hv⟩ := bks_slice (h p hp).2
    unfold vPart at hu
    simp only [List.mem_cons, List.not_mem_nil, or_false] at hu
    rcases hu with rfl | rfl | rfl | rfl | rfl | rfl | rfl
    · rfl
    · rfl
    · rfl
    · rfl
    · rfl
    · rfl
    · rw [hv]; rfl
theorem segs_one {w : World} {rs : List ((Int × List UInt8) × Value)} (h : ∀ p ∈ rs, R64 p.1.1 ∧ p.1.2.length ≤ 140737488351232 ∧ Bs w p.2 p.1.2) : ∀ u ∈ cellsW vSeg rs, u.oneCell' = true :=
  cellsW_one fun p hp u hu => by
    obtain ⟨a, c, hv⟩ := (h p hp).2.2.len
    unfold vSeg at hu
    simp only [List.mem_cons, List.not_mem_nil, or_false] at hu
    rcases hu with rfl | rfl
    · rfl
    · rw [hv]; rfl
/-! ## own rows in worlds that keep what lies high -/
def KeepHi (base : Nat) (w w' : World) : Prop := w.heap.size ≤ w'.heap.size ∧ ∀ b, base ≤ b → b < w.heap.size → w'.heap[b]? = w.heap[b]?
theorem keepHi_below {base : Nat} {w w' : World} (h : Below w.heap.size w w') : KeepHi base w w' := ⟨h.size, fun b _ hb => h.block b hb⟩
theorem KeepHi.trans {base : Nat} {a b c : World} (h : KeepHi base a b) (k : KeepHi base b c) : KeepHi base a c := ⟨Nat.le_trans h.1 k.1, fun i hi hl => (k.2 i hi (Nat.lt_of_lt_of_le hl h.1)).trans (h.2 i hi hl)⟩
theorem owns_hi {base : Nat} {w w' : World} {e : TypeId} {size : Nat} {v : Value} {n : Nat} {xs : List Value} (h : w.ownsRow base e size v n xs) (k : KeepHi base w w') : w'.ownsRow base e size v n xs := by
  refine ⟨h.1, ?_⟩
  rcases h.2 with h | ⟨g, cap, cur, hv, hg, hc, hr⟩
  · exact .inl h
  · refine .inr ⟨g, cap, cur, hv, hg, ?_, hr⟩
    rw [k.2 g hg (Array.getElem?_eq_some_iff.1 hc).1]
    exact hc
/-- a store into a block of another type, or another block -/
theorem owns_other {w : World} {base : Nat} {e t : TypeId} {size : Nat} {v : Value} {n : Nat} {xs : List Value} (h : w.ownsRow base e size v n xs) {B j : Nat} {C : Array Value} {fr : Nat × Nat} {u : Value} (hB : w.heap[B]? = some (.cells C t fr)) (ht : e ≠ t) : (w.setCell ⟨B, j, none⟩ u).ownsRow base e size v n xs := by
  refine ⟨h.1, ?_⟩
  rcases h.2 with h | ⟨g, cap, cur, hv, hg, hc, hr⟩
  · exact .inl h
  · refine .inr ⟨g, cap, cur, hv, hg, ?_, hr⟩
    rw [Go.Deep.blk_setCell_other _ _ _ _ (fun e' => ht (by simp only at e'; subst e'; rw [hB] at hc; simp only [Option.some.injEq, Obj.cells.injEq] at hc; exact hc.2.1.symm))]
    exact hc
theorem own_ne {w : World} {b1 b2 : Nat} {e1 e2 : TypeId} {s1 s2 : Nat} {v1 v2 : Value} {n1 n2 : Nat} {xs1 xs2 : List Value} (h1 : w.ownsRow b1 e1 s1 v1 n1 xs1) (h2 : w.ownsRow b2 e2 s2 v2 n2 xs2) (he : e1 ≠ e2) : v1.ownBlock = none ∨ v1.ownBlock ≠ v2.ownBlock := by
  rcases h1.2 with ⟨rfl, _⟩ | ⟨g, cap, cur, rfl, _, hg, _⟩
  · exact .inl rfl
  rcases h2.2 with ⟨rfl, _⟩ | ⟨g', cap', cur', rfl, _, hg', _⟩
  · right; simp [Value.ownBlock]
  right
  intro e
  simp only [Value.ownBlock, Option.some.injEq] at e
  subst e
  rw [hg] at hg'
  simp only [Option.some.injEq, Obj.cells.injEq] at hg'
  exact he hg'.2.1
theorem sl_shape {size : Nat} {w : World} {v : Value} {n : Nat} {xs : List Value} (h : SlN size w v n xs) : ∃ a cap, v = .slice a n cap ∧ (a = none → n = 0 ∧ xs = []) := by
  rcases h.2 with ⟨a, cap, hv, h0⟩ | ⟨b, off, cap, hv, _⟩
  · exact ⟨a, cap, hv, fun _ => ⟨h0, List.eq_nil_of_length_eq_zero (by rw [h.1, h0, Nat.zero_mul])⟩⟩
  · exact ⟨_, cap, hv, fun h => by cases h⟩
theorem tyPa : ElemTy Try.prog 33 70 (.agg #[.int .i64 0, .int .i64 0, .int .i64 0, .int .i64 0, .int .i64 0, .int .i64 0, .slice none 0 0]) 7 72 := elemTy Try.underlying33 (by kernel_rfl) rfl (by decide)
theorem tySe : ElemTy Try.prog 34 73 (.agg #[.int .i64 0, .slice none 0 0]) 2 32 := elemTy Try.underlying34 (by kernel_rfl) rfl (by decide)
theorem tyBy : ElemTy Try.prog 71 5 (.int .u8 0) 1 1 := elemTy Try.underlying71 (by kernel_rfl) rfl (by decide)
set_option maxHeartbeats 800000 in
theorem cloneI_any (v : Value) (n : Nat) (xs : List Value) (w : World) (hb : SlN 1 w v n xs) (h1 : ∀ u ∈ xs, u.oneCell' = true) (hl : n ≤ 1000000000000) :
    Calls Try.prog 59 #[v] w fun e w' => ∃ v', e = .returned v' ∧ w'.ownsRow w.heap.size 3 1 v' n xs ∧ Below w.heap.size w w' := by
  obtain ⟨a, cap, rfl, h0⟩ := sl_shape hb
  have HB := Lib.hid hb
  have HL := Lib.hid hl
  have H1 := Lib.hid h1
  clear hb hl h1
  cases a with
  | none =>
    obtain ⟨rfl, rfl⟩ := h0 rfl
    have ne : ∀ w, (binOp .eql 31 (.slice none 0 cap) (.slice none 0 0)).run Try.prog w = .ok (.bool true) w := fun w => by kernel_rfl
    go_enter Try.func59, Try.ntmps59
    go_wp2_with fail
    go_ret
    exact ⟨_, rfl, World.ownsRow_nil _ _ _ _, Below.refl _ _⟩
  | some a =>
    clear h0
    have ne : ∀ w, (binOp .eql 31 (.slice (some a) n cap) (.slice none 0 0)).run Try.prog w = .ok (.bool false) w := fun w => by kernel_rfl
    go_enter Try.func59, Try.ntmps59
    go_wp2_with (at_builtin; refine stop ?_)
    have hb0 : Below w.heap.size w (w.alloc (.cells #[] 3)) := (Below.refl _ _).alloc (Nat.le_refl _) _
    refine unstop (wpList_app tyN4 rfl _ _ rfl w.heap.size _ 0 [] rfl (own0' w _ 1) _ n xs rfl (SlN.old HB.out hb0) H1.out (by have := HL.out; omega) (by have := HL.out; omega) (by simp) ?_)
    intro v1 w1 hown1 hg1 _
    have HB1 := Lib.hid (run_app_below (own0' w _ 1) hg1 hb0 (Nat.le_refl _))
    have HO1 : Hid (w1.ownsRow w.heap.size 3 1 v1 n xs) := Lib.hid (by have := hown1; rw [List.nil_append, Nat.zero_add] at this; exact this)
    clear hb0 hown1 hg1
    go_wp2_with fail
    go_ret
    exact ⟨_, rfl, HO1.out, HB1.out⟩
set_option maxHeartbeats 800000 in
theorem cloneP_any (v : Value) (n : Nat) (xs : List Value) (w : World) (hb : SlN 7 w v n xs) (h1 : ∀ u ∈ xs, u.oneCell' = true) (hl : n ≤ 1000000000000) :
    Calls Try.prog 56 #[v] w fun e w' => ∃ v', e = .returned v' ∧ w'.ownsRow w.heap.size 70 7 v' n xs ∧ Below w.heap.size w w' := by
  obtain ⟨a, cap, rfl, h0⟩ := sl_shape hb
  have HB := Lib.hid hb
  have HL := Lib.hid hl
  have H1 := Lib.hid h1
  clear hb hl h1
  cases a with
  | none =>
    obtain ⟨rfl, rfl⟩ := h0 rfl
    have ne : ∀ w, (binOp .eql 33 (.slice none 0 cap) (.slice none 0 0)).run Try.prog w = .ok (.bool true) w := fun w => by kernel_rfl
    go_enter Try.func56, Try.ntmps56
    go_wp2_with fail
    go_ret
    exact ⟨_, rfl, World.ownsRow_nil _ _ _ _, Below.refl _ _⟩
  | some a =>
    clear h0
    have ne : ∀ w, (binOp .eql 33 (.slice (some a) n cap) (.slice none 0 0)).run Try.prog w = .ok (.bool false) w := fun w => by kernel_rfl
    go_enter Try.func56, Try.ntmps56
    go_wp2_with (at_builtin; refine stop ?_)
    have hb0 : Below w.heap.size w (w.alloc (.cells #[] 70)) := (Below.refl _ _).alloc (Nat.le_refl _) _
    refine unstop (wpList_app tyPa rfl _ _ rfl w.heap.size _ 0 [] rfl (own0' w _ 7) _ n xs rfl (SlN.old HB.out hb0) H1.out (by have := HL.out; omega) (by have := HL.out; omega) (by simp) ?_)
    intro v1 w1 hown1 hg1 _
    have HB1 := Lib.hid (run_app_below (own0' w _ 7) hg1 hb0 (Nat.le_refl _))
    have HO1 : Hid (w1.ownsRow w.heap.size 70 7 v1 n xs) := Lib.hid (by have := hown1; rw [List.nil_append, Nat.zero_add] at this; exact this)
    clear hb0 hown1 hg1
    go_wp2_with fail
    go_ret
    exact ⟨_, rfl, HO1.out, HB1.out⟩
set_option maxHeartbeats 800000 in
theorem cloneS_any (v : Value) (n : Nat) (xs : List Value) (w : World) (hb : SlN 2 w v n xs) (h1 : ∀ u ∈ xs, u.oneCell' = true) (hl : n ≤ 1000000000000) :
    Calls Try.prog 61 #[v] w fun e w' => ∃ v', e = .returned v' ∧ w'.ownsRow w.heap.size 73 2 v' n xs ∧ Below w.heap.size w w' := by
  obtain ⟨a, cap, rfl, h0⟩ := sl_shape hb
  have HB := Lib.hid hb
  have HL := Lib.hid hl
  have H1 := Lib.hid h1
  clear hb hl h1
  cases a with
  | none =>
    obtain ⟨rfl, rfl⟩ := h0 rfl
    have ne : ∀ w, (binOp .eql 34 (.slice none 0 cap) (.slice none 0 0)).run Try.prog w = .ok (.bool true) w := fun w => by kernel_rfl
    go_enter Try.func61, Try.ntmps61
    go_wp2_with fail
    go_ret
    exact ⟨_, rfl, World.ownsRow_nil _ _ _ _, Below.refl _ _⟩
  | some a =>
    clear h0
    have ne : ∀ w, (binOp .eql 34 (.slice (some a) n cap) (.slice none 0 0)).run Try.prog w = .ok (.bool false) w := fun w => by kernel_rfl
    go_enter Try.func61, Try.ntmps61
    go_wp2_with (at_builtin; refine stop ?_)
    have hb0 : Below w.heap.size w (w.alloc (.cells #[] 73)) := (Below.refl _ _).alloc (Nat.le_refl _) _
    refine unstop (wpList_app tySe rfl _ _ rfl w.heap.size _ 0 [] rfl (own0' w _ 2) _ n xs rfl (SlN.old HB.out hb0) H1.out (by have := HL.out; omega) (by have := HL.out; omega) (by simp) ?_)
    intro v1 w1 hown1 hg1 _
    have HB1 := Lib.hid (run_app_below (own0' w _ 2) hg1 hb0 (Nat.le_refl _))
    have HO1 : Hid (w1.ownsRow w.heap.size 73 2 v1 n xs) := Lib.hid (by have := hown1; rw [List.nil_append, Nat.zero_add] at this; exact this)
    clear hb0 hown1 hg1
    go_wp2_with fail
    go_ret
    exact ⟨_, rfl, HO1.out, HB1.out⟩
set_option maxHeartbeats 800000 in
theorem cloneY_any (v : Value) (n : Nat) (xs : List Value) (w : World) (hb : SlN 1 w v n xs) (h1 : ∀ u ∈ xs, u.oneCell' = true) (hl : n ≤ 1000000000000) :
    Calls Try.prog 62 #[v] w fun e w' => ∃ v', e = .returned v' ∧ w'.ownsRow w.heap.size 5 1 v' n xs ∧ Below w.heap.size w w' := by
  obtain ⟨a, cap, rfl, h0⟩ := sl_shape hb
  have HB := Lib.hid hb
  have HL := Lib.hid hl
  have H1 := Lib.hid h1
  clear hb hl h1
  cases a with
  | none =>
    obtain ⟨rfl, rfl⟩ := h0 rfl
    have ne : ∀ w, (binOp .eql 71 (.slice none 0 cap) (.slice none 0 0)).run Try.prog w = .ok (.bool true) w := fun w => by kernel_rfl
    go_enter Try.func62, Try.ntmps62
    go_wp2_with fail
    go_ret
    exact ⟨_, rfl, World.ownsRow_nil _ _ _ _, Below.refl _ _⟩
  | some a =>
    clear h0
    have ne : ∀ w, (binOp .eql 71 (.slice (some a) n cap) (.slice none 0 0)).run Try.prog w = .ok (.bool false) w := fun w => by kernel_rfl
    go_enter Try.func62, Try.ntmps62
    go_wp2_with (at_builtin; refine stop ?_)
    have hb0 : Below w.heap.size w (w.alloc (.cells #[] 5)) := (Below.refl _ _).alloc (Nat.le_refl _) _
    refine unstop (wpList_app tyBy rfl _ _ rfl w.heap.size _ 0 [] rfl (own0' w _ 1) _ n xs rfl (SlN.old HB.out hb0) H1.out (by have := HL.out; omega) (by have := HL.out; omega) (by simp) ?_)
    intro v1 w1 hown1 hg1 _
    have HB1 := Lib.hid (run_app_below (own0' w _ 1) hg1 hb0 (Nat.le_refl _))
    have HO1 : Hid (w1.ownsRow w.heap.size 5 1 v1 n xs) := Lib.hid (by have := hown1; rw [List.nil_append, Nat.zero_add] at this; exact this)
    clear hb0 hown1 hg1
    go_wp2_with fail
    go_ret
    exact ⟨_, rfl, HO1.out, HB1.out⟩
end Go.Proofs.Ytnhalnjdlkdnkaa

namespace Go.Proofs.Ytnhalnjdlkdnkaa
open Go.RowKit Go.BigFrame
set_option linter.unusedVariables false
set_option linter.unusedSimpArgs false
set_option maxRecDepth 20000

/-- a load of many cells, quiet -/
theorem quiet_load_mid {P : Program} {o : Oper} {a : Act} {C : World → Prop} {next : Act → Prop} {ty : TypeId} {x : Operand} (ho : o.op = .load ty x) (b off : Nat) (hx : a.eval x = .pointer (some ⟨b, off, none⟩)) (cs : List Value) (d : TypeDesc)
    (hS : ∀ w, C w → w.rangeAt b off cs) (hu : P.underlying ty = some d) (hd : d.isRow = true) (hi : (P.info? ty).map (·.size) = some cs.length) (h : next (a.put o.dst (.agg cs.toArray))) : o.quiet P a C next := by
  refine ⟨.agg cs.toArray, fun w hw => ?_, h⟩
  unfold Oper.quietAt Oper.quietUpon execOp
  simp only [ho, hx, Instr.loadAt, Instr.sureAddr, Sem.run_bind, Sem.run_pure, Result.andThen_ok, run_loadVar_mid w b off ty cs d (hS w hw) hu hd hi]
  simp [hw]
theorem range_old {w w' : World} (hb : Below w.heap.size w w') {b o : Nat} {cs : List Value} (h : w.rangeAt b o cs) : w'.rangeAt b o cs := fun j v hj => cell_old hb (h j v hj)
theorem blk_info {b : List Int} (h : b.length = 64) : (Try.prog.info? 23).map (·.size) = some (vIs b).length := by rw [vIs_length, h]; kernel_rfl
/-- beginnings of two lists -/
theorem take_eq_succ {α : Type} {l m : List α} (h : l.length = m.length) (k : Nat) (hk : k < l.length) (ht : l.take k = m.take k) : l.take (k + 1) = m.take (k + 1) ↔ l[k] = m[k]'(by omega) := by
  rw [List.take_succ_eq_append_getElem hk, List.take_succ_eq_append_getElem (show k < m.length by omega), ht]
  constructor
  · intro e
    have := List.append_cancel_left e
    simpa using this
  · intro e; rw [e]
theorem ne_at {α : Type} {l m : List α} (h : l.length = m.length) (k : Nat) (hk : k < l.length) (hne : l[k] ≠ m[k]'(by omega)) : l ≠ m := by
  rintro rfl
  exact hne rfl

set_option maxHeartbeats 1600000 in
theorem eqBlocks_any (u v : Value) (l m : List (List Int)) (w : World) (hu : Bks w u l) (hv : Bks w v m) (hl : l.length ≤ 140737488355328) :
    Calls Try.prog 74 #[u, v] w fun e w' => e = .returned (.bool (decide (l = m))) ∧ Below w.heap.size w w' := by
  obtain ⟨au, ua, uc, rfl, _, hux⟩ := hu.range
  obtain ⟨av, va, vc, rfl, _, hvx⟩ := hv.range
  have AU := Lib.hid au
  have AV := Lib.hid av
  clear au av
  have HU := Lib.hid hux
  have HV := Lib.hid hvx
  have HL := Lib.hid hl
  clear hu hv hux hvx hl
  by_cases hlen : l.length = m.length
  · obtain ⟨n, hn⟩ : ∃ n, l.length = n := ⟨_, rfl⟩
    have hn2 : m.length = n := by omega
    rw [hn, hn2]
    have HN := Lib.hid hn
    have HN2 := Lib.hid hn2
    have HE := Lib.hid hlen
    have ne : ((n : Int) != (n : Int)) = false := by rw [bne_eq_false_iff_eq]
    have ne' : (n != n) = false := by rw [bne_eq_false_iff_eq]
    clear hn hn2 hlen
    go_enter Try.func74, Try.ntmps74
    go_wp2_with fail
    go_loopw [5, 13] (fun _ i W => ∃ k : Nat, k ≤ n ∧ i = .int .i64 k ∧ l.take k = m.take k ∧ Below w.heap.size w W) (fun _ i _ => n - (intOf i).toNat)
    case atStart => exact ⟨0, Nat.zero_le _, rfl, by simp, Below.refl _ _⟩
    case round =>
      obtain ⟨k, hk, rfl, ht, hb⟩ := hrel
      have HT := Lib.hid ht
      have BB := Lib.hid hb
      clear ht hb
      by_cases hkl : k < n
      · have f1 : decide ((k : Int) < (n : Int)) = true := by rw [decide_eq_true_eq]; omega
        have f1' : decide (k < n) = true := by rw [decide_eq_true_eq]; omega
        have f2 : (k : Int) < (n : Int) := by omega
        have hkl1 : k < l.length := by rw [HN.out]; exact hkl
        have hkm1 : k < m.length := by rw [HN2.out]; exact hkl
        obtain ⟨b, off, rfl, c1⟩ := HU.out k hkl1
        obtain ⟨b', off', rfl, c2⟩ := HV.out k hkm1
        have c1' := range_old BB.out c1
        have c2' := range_old BB.out c2
        have SU := Lib.hid (take_eq_succ HE.out k hkl1 HT.out)
        have NE := Lib.hid (ne_at HE.out k hkl1)
        have BXk := AU.out.at k hkl1
        have BYk := AV.out.at k hkm1
        obtain ⟨x, hx⟩ : ∃ x, l[k]'hkl1 = x := ⟨_, rfl⟩
        obtain ⟨y, hy⟩ : ∃ y, m[k]'hkm1 = y := ⟨_, rfl⟩
        rw [hx] at c1' SU NE BXk
        rw [hy] at c2' SU NE BYk
        have HIX := Lib.hid (blk_info BXk.1)
        have HIY := Lib.hid (blk_info BYk.1)
        have EQ := fun W => eq_in BXk BYk W
        unfold arr at EQ
        obtain ⟨q, hq⟩ : ∃ q, decide (x = y) = q := ⟨_, rfl⟩
        simp only [hq] at EQ
        have HQ := Lib.hid hq
        clear hq
        have BXK := Lib.hid BXk
        have BYK := Lib.hid BYk
        have gk : IntKind.i64.wrap ((k : Int) + 1) = (k : Int) + 1 := IntWalk.i64_in _ (by have := HL.out; have := HN.out; omega)
        have HKL := Lib.hid hkl
        clear c1 c2 hx hy BXk BYk
        go_wp2_with fail
        refine wp_region_q (fun X => X.rangeAt b (off + k * 64) (vIs x) ∧ X.rangeAt b' (off' + k * 64) (vIs y) ∧ Below wr.heap.size wr X) (by kernel_rfl) (by kernel_rfl) ⟨range_old (Below.refl _ _).drew c1', range_old (Below.refl _ _).drew c2', (Below.refl _ _).drew⟩ ?_
        clear c1' c2'
        repeat
          first
          | go_big_quiet_skip
          | (go_big_quiet_want
             first
             | (refine quiet_load_mid rfl b (off + k * 64) rfl (vIs x) _ (fun w hw => hw.1) Try.underlying23 rfl HIX.out ?_; go_big_quiet_on; try simp only [Act.put, List.setIfInBounds_toArray, List.set_cons_zero, List.set_cons_succ])
             | (refine quiet_load_mid rfl b' (off' + k * 64) rfl (vIs y) _ (fun w hw => hw.2.1) Try.underlying23 rfl HIY.out ?_; go_big_quiet_on; try simp only [Act.put, List.setIfInBounds_toArray, List.set_cons_zero, List.set_cons_succ])
             | (go_big_quiet_op; go_big_quiet_on)
             | (apply Exists.intro
                refine ⟨fun X hX => ?_, ?_⟩
                · clear hX
                  unfold Oper.quietAt
                  go_simp
                  first
                  | exact ⟨rfl, rfl⟩
                  | exact rfl
                go_big_quiet_on
                try simp only [Act.put, List.setIfInBounds_toArray, List.set_cons_zero, List.set_cons_succ]))
        clear EQ
        refine wpQuiet_nil ?_
        rintro Y ⟨-, -, hbY⟩
        have BY := Lib.hid (BB.out.trans (hbY.mono BB.out.size))
        clear hbY f1 f1'
        cases q with
        | true =>
          have TT := Lib.hid (SU.out.2 (of_decide_eq_true HQ.out))
          go_wp2_with fail
          go_roundw
          case rel => exact ⟨k + 1, HKL.out, by go_num, TT.out, BY.out⟩
          case measure => simp [intOf]; have := HKL.out; omega
        | false =>
          have NN := Lib.hid (decide_eq_false (NE.out (of_decide_eq_false HQ.out)))
          go_wp2_with fail
          go_ret
          exact ⟨by rw [NN.out]; rfl, BY.out⟩
      · obtain rfl : k = n := by omega
        have f1 : decide ((k : Int) < (k : Int)) = false := by rw [decide_eq_false_iff_not]; omega
        have EE : Hid (decide (l = m) = true) := Lib.hid (by
          have := HT.out
          rw [List.take_of_length_le (by rw [HN.out]; omega), List.take_of_length_le (by rw [HN2.out]; omega)] at this
          rw [this]; simp)
        go_wp2_with fail
        go_ret
        exact ⟨by rw [EE.out]; rfl, BB.out⟩
  · have ne : ((l.length : Int) != (m.length : Int)) = true := by rw [bne_iff_ne]; omega
    have ne' : (l.length != m.length) = true := by rw [bne_iff_ne]; exact hlen
    have EE := Lib.hid (show decide (l = m) = false from decide_eq_false (fun e => hlen (by rw [e])))
    clear hlen
    go_enter Try.func74, Try.ntmps74
    go_wp2_with fail
    go_ret
    exact ⟨by rw [EE.out]; rfl, Below.refl _ _⟩
end Go.Proofs.Ytnhalnjdlkdnkaa

namespace Go.Proofs.Ytnhalnjdlkdnkaa
open Go.RowKit
set_option linter.unusedVariables false
set_option linter.unusedSimpArgs false

/-- an error by its number; 0: none -/
def errV (n : Int) : Value := if n = 0 then .nilIface else .iface 47 (.int .i64 n)
theorem errV_zero : errV 0 = .nilIface := rfl
theorem errV_some {n : Int} (h : n ≠ 0) : errV n = .iface 47 (.int .i64 n) := if_neg h

theorem assert_errno (n : Int) (w : World) : (Instr.typeAssert (.iface 47 (.int .i64 n)) 42 47 true).run Try.prog w = .ok (.tuple #[.int .i64 n, .bool true]) w := by kernel_rfl
set_option maxHeartbeats 800000 in
theorem num_any (n : Int) (w : World) : Calls Try.prog 21 #[errV n] w fun e w' => e = .returned (.int .i64 n) ∧ w = w' := by
  by_cases h : n = 0
  · subst h
    rw [errV_zero]
    go_enter Try.func21, Try.ntmps21
    go_wp2
    go_ret
    exact ⟨rfl, rfl⟩
  · rw [errV_some h]
    have e0 : (n == 0) = false := by rw [beq_eq_false_iff_ne]; exact h
    have ta := assert_errno n
    clear h
    go_enter Try.func21, Try.ntmps21
    go_wp2
    go_ret
    exact ⟨rfl, rfl⟩
theorem is_any (n m : Int) (w : World) : Calls Try.prog 18 #[errV n, .int .i64 m] w fun e w' => e = .returned (.bool (n == m)) ∧ w = w' := by
  go_enter Try.func18, Try.ntmps18
  go_wp2_with fail
  refine (num_any n _).mono ?_; rintro e w' ⟨rfl, rfl⟩
  go_wp2_with fail
  go_ret
  exact ⟨rfl, rfl⟩
end Go.Proofs.Ytnhalnjdlkdnkaa

namespace Go.Proofs.Ytnhalnjdlkdnkaa
open Go.RowKit Go.BigFrame
set_option linter.unusedVariables false
set_option linter.unusedSimpArgs false
set_option maxRecDepth 20000

def dcB (n : Int) : Bool := decide (-1024 ≤ n) && decide (n ≤ 1023)
def acB (n : Int) : Bool := decide (-1023 ≤ n) && decide (n ≤ 1023)
def blkB (b : List Int) : Bool := (b.drop 1).all acB && dcB (b.getD 0 0)
/-- the error's number -/
def chkN (q : Bool) : Int := if q then 0 else 6
def keptB (m : Int) : Bool := decide (m = 254) || (decide (224 ≤ m) && decide (m ≤ 239))
theorem dcIn_any (n : Int) (w : World) : Calls Try.prog 85 #[.int .i64 n] w fun e w' => e = .returned (.bool (dcB n)) ∧ w = w' := by
  rcases h1 : decide ((-1024 : Int) ≤ n) with _ | _ <;> rcases h2 : decide (n ≤ (1023 : Int)) with _ | _
  all_goals
    go_enter Try.func85, Try.ntmps85
    go_wp2
    go_ret
    exact ⟨rb (by simp only [dcB, h1, h2]; rfl), rfl⟩
theorem refDC_any (n : Int) (w : World) : Calls Try.prog 64 #[.int .i64 n] w fun e w' => e = .returned (.bool (dcB n)) ∧ w = w' := by
  rcases h1 : decide ((-1024 : Int) ≤ n) with _ | _ <;> rcases h2 : decide (n ≤ (1023 : Int)) with _ | _
  all_goals
    go_enter Try.func64, Try.ntmps64
    go_wp2
    go_ret
    exact ⟨rb (by simp only [dcB, h1, h2]; rfl), rfl⟩
theorem kept_any (n : Int) (w : World) : Calls Try.prog 55 #[.int .i64 n] w fun e w' => e = .returned (.bool (keptB n)) ∧ w = w' := by
  have c : (((n == 254) = true) ∧ keptB n = true) ∨ ((n == 254) = false ∧ decide (224 ≤ n) = false ∧ keptB n = false) ∨ ((n == 254) = false ∧ decide (224 ≤ n) = true ∧ decide (n < 240) = true ∧ keptB n = true) ∨ ((n == 254) = false ∧ decide (224 ≤ n) = true ∧ decide (n < 240) = false ∧ keptB n = false) := by
    unfold keptB
    simp only [decide_eq_true_eq, decide_eq_false_iff_not, Bool.or_eq_true, Bool.and_eq_true, Bool.or_eq_false_iff, Bool.and_eq_false_iff, beq_iff_eq, beq_eq_false_iff_ne]
    omega
  rcases c with ⟨g1, g⟩ | ⟨g1, g2, g⟩ | ⟨g1, g2, g3, g⟩ | ⟨g1, g2, g3, g⟩
  all_goals
    rw [g]
    clear g
    go_enter Try.func55, Try.ntmps55
    go_wp2
    go_ret
    exact ⟨rfl, rfl⟩
theorem refKept_any (n : Int) (w : World) : Calls Try.prog 41 #[.int .i64 n] w fun e w' => e = .returned (.bool (keptB n)) ∧ w = w' := by
  have c : (((n == 254) = true) ∧ keptB n = true) ∨ ((n == 254) = false ∧ decide (224 ≤ n) = false ∧ keptB n = false) ∨ ((n == 254) = false ∧ decide (224 ≤ n) = true ∧ decide (n ≤ 239) = true ∧ keptB n = true) ∨ ((n == 254) = false ∧ decide (224 ≤ n) = true ∧ decide (n ≤ 239) = false ∧ keptB n = false) := by
    unfold keptB
    simp only [decide_eq_true_eq, decide_eq_false_iff_not, Bool.or_eq_true, Bool.and_eq_true, Bool.or_eq_false_iff, Bool.and_eq_false_iff, beq_iff_eq, beq_eq_false_iff_ne]
    omega
  rcases c with ⟨g1, g⟩ | ⟨g1, g2, g⟩ | ⟨g1, g2, g3, g⟩ | ⟨g1, g2, g3, g⟩
  all_goals
    rw [g]
    clear g
    go_enter Try.func41, Try.ntmps41
    go_wp2
    go_ret
    exact ⟨rfl, rfl⟩
/-- a box of 64 numbers, read -/
theorem box_at {w : World} {B : Nat} {b : List Int} (h : w.heap[B]? = some (.cells (vIs b).toArray 23 (0, 0))) (j : Nat) (hj : j < b.length) : w.cell? ⟨B, j, none⟩ = some (.int .i64 b[j]) := by
  rw [cell_of_row _ _ j _ _ _ h]
  simp [vIs, vI, hj]
theorem drop1_take (b : List Int) (k : Nat) (hk : k + 1 < b.length) : ((b.drop 1).take (k + 1)).all acB = (((b.drop 1).take k).all acB && acB b[k + 1]) := by
  rw [List.take_succ_eq_append_getElem (by rw [List.length_drop]; omega), List.all_append]
  simp [Nat.add_comm]
set_option maxRecDepth 20000 in
set_option maxHeartbeats 4000000 in
theorem checkB_any (b : List Int) (w : World) (hb : Blk64 b) : Calls Try.prog 72 #[arr b] w fun e w' => e = .returned (errV (chkN (blkB b))) ∧ Below w.heap.size w w' := by
  obtain ⟨w1, hw1⟩ : ∃ w1, w.alloc (.cells (vIs b).toArray 23) = w1 := ⟨_, rfl⟩
  have hb1 : Below w.heap.size w w1 := by rw [← hw1]; exact (Below.refl _ _).alloc (Nat.le_refl _) _
  obtain ⟨B, hB⟩ : ∃ B, w.heap.size = B := ⟨_, rfl⟩
  have hx1 : w1.heap[B]? = some (.cells (vIs b).toArray 23 (0, 0)) := by rw [← hw1, ← hB]; exact heap_alloc_new _ _
  have X1 := Lib.hid hx1
  have B1 := Lib.hid hb1
  have HB := Lib.hid hB
  have H64 := Lib.hid hb.1
  clear hb hb1 hx1
  unfold arr
  go_enter Try.func72, Try.ntmps72
  go_wp2_with fail
  clear hw1 hB
  go_loopw [7] (fun i W => ∃ k : Nat, k ≤ 63 ∧ i = .int .i64 (k : Nat) ∧ ((b.drop 1).take k).all acB = true ∧ w1 = W) (fun i _ => 63 - (intOf i).toNat)
  case atStart => exact ⟨0, Nat.zero_le _, rfl, by simp, rfl⟩
  case round =>
    obtain ⟨k, hk, rfl, ha, rfl⟩ := hrel
    have HA := Lib.hid ha
    clear ha
    by_cases hkl : k < 63
    · have f1 : decide ((k : Int) < 63) = true := by rw [decide_eq_true_eq]; omega
      have f1' : decide (k < 63) = true := by rw [decide_eq_true_eq]; omega
      have f2 : (k : Int) < 63 := by omega
      have hkb : k + 1 < b.length := by rw [H64.out]; omega
      have c1 := box_at X1.out (k + 1) hkb
      have AS := Lib.hid (drop1_take b k hkb)
      have NA : Hid (acB (b[k + 1]'hkb) = false → blkB b = false) := Lib.hid (fun h => by
        have : (b.drop 1).all acB = false := by
          rw [List.all_eq_false]
          exact ⟨b[k + 1]'hkb, by rw [List.mem_iff_getElem]; exact ⟨k, by rw [List.length_drop]; omega, by simp [Nat.add_comm]⟩, by simp [h]⟩
        unfold blkB; rw [this]; rfl)
      obtain ⟨x, hx⟩ : ∃ x, b[k + 1]'hkb = x := ⟨_, rfl⟩
      rw [hx] at c1 AS NA
      rw [Nat.add_comm k 1] at c1
      have gk : IntKind.i64.wrap ((k : Int) + 1) = (k : Int) + 1 := IntWalk.i64_in _ (by omega)
      have HKL := Lib.hid hkl
      clear hx hkb
      have cs : (decide (x < -1023) = true ∧ acB x = false) ∨ (decide (x < -1023) = false ∧ decide (1023 < x) = true ∧ acB x = false) ∨ (decide (x < -1023) = false ∧ decide (1023 < x) = false ∧ acB x = true) := by
        unfold acB
        simp only [decide_eq_true_eq, decide_eq_false_iff_not, Bool.and_eq_true, Bool.and_eq_false_iff]
        omega
      rcases cs with ⟨v1, o⟩ | ⟨v1, v2, o⟩ | ⟨v1, v2, o⟩
      case inr.inr =>
        have AO := Lib.hid o
        clear o
        go_wp2_with fail
        go_roundw
        case rel => exact ⟨k + 1, HKL.out, by go_num, by rw [AS.out, HA.out, AO.out]; rfl, by first | rfl | trivial⟩
        case measure => simp [intOf]; have := HKL.out; omega
      all_goals
        have AO := Lib.hid (NA.out o)
        clear o
        go_wp2_with fail
        go_ret
        exact ⟨by rw [AO.out]; rfl, B1.out⟩
    · obtain rfl : k = 63 := by omega
      have c0 := box_at X1.out 0 (by rw [H64.out]; omega)
      have AL : Hid ((b.drop 1).all acB = true) := Lib.hid (by have := HA.out; rwa [List.take_of_length_le (by rw [List.length_drop, H64.out]; omega)] at this)
      have HG : Hid (b.getD 0 0 = b[0]'(by rw [H64.out]; omega)) := Lib.hid (by rw [List.getD_eq_getElem?_getD, List.getElem?_eq_getElem (by rw [H64.out]; omega)]; rfl)
      obtain ⟨x, hx⟩ : ∃ x, b[0]'(by rw [H64.out]; omega) = x := ⟨_, rfl⟩
      rw [hx] at c0 HG
      have BB : Hid (blkB b = dcB x) := Lib.hid (by unfold blkB; rw [AL.out, HG.out]; rfl)
      clear hx
      go_wp2_with fail
      refine (dcIn_any x _).mono ?_
      rintro e w2 ⟨rfl, rfl⟩
      cases hd : dcB x with
      | false =>
        rw [hd] at BB
        go_wp2_with fail
        go_ret
        exact ⟨by rw [BB.out]; rfl, B1.out⟩
      | true =>
        rw [hd] at BB
        go_wp2_with fail
        go_ret
        exact ⟨by rw [BB.out]; rfl, B1.out⟩
set_option maxRecDepth 20000 in
set_option maxHeartbeats 4000000 in
theorem refGoodB_any (b : List Int) (w : World) (hb : Blk64 b) : Calls Try.prog 40 #[arr b] w fun e w' => e = .returned (.bool (blkB b)) ∧ Below w.heap.size w w' := by
  obtain ⟨w1, hw1⟩ : ∃ w1, w.alloc (.cells (vIs b).toArray 23) = w1 := ⟨_, rfl⟩
  have hb1 : Below w.heap.size w w1 := by rw [← hw1]; exact (Below.refl _ _).alloc (Nat.le_refl _) _
  obtain ⟨B, hB⟩ : ∃ B, w.heap.size = B := ⟨_, rfl⟩
  have hx1 : w1.heap[B]? = some (.cells (vIs b).toArray 23 (0, 0)) := by rw [← hw1, ← hB]; exact heap_alloc_new _ _
  have X1 := Lib.hid hx1
  have B1 := Lib.hid hb1
  have HB := Lib.hid hB
  have H64 := Lib.hid hb.1
  clear hb hb1 hx1
  unfold arr
  go_enter Try.func40, Try.ntmps40
  go_wp2_with fail
  clear hw1 hB
  go_loopw [3] (fun i W => ∃ k : Nat, k ≤ 63 ∧ i = .int .i64 ((k + 1 : Nat) : Int) ∧ ((b.drop 1).take k).all acB = true ∧ w1 = W) (fun i _ => 64 - (intOf i).toNat)
  case atStart => exact ⟨0, Nat.zero_le _, rfl, by simp, rfl⟩
  case round =>
    obtain ⟨k, hk, rfl, ha, rfl⟩ := hrel
    have HA := Lib.hid ha
    clear ha
    obtain ⟨j, hj⟩ : ∃ j, k + 1 = j := ⟨_, rfl⟩
    have HJ := Lib.hid hj
    rw [hj]
    by_cases hkl : k < 63
    · have f1 : decide ((j : Int) < 64) = true := by rw [decide_eq_true_eq]; omega
      have f1' : decide (j < 64) = true := by rw [decide_eq_true_eq]; omega
      have f2 : (j : Int) < 64 := by omega
      have hkb : k + 1 < b.length := by rw [H64.out]; omega
      have c1 := box_at X1.out (k + 1) hkb
      have AS := Lib.hid (drop1_take b k hkb)
      have NA : Hid (acB (b[k + 1]'hkb) = false → blkB b = false) := Lib.hid (fun h => by
        have : (b.drop 1).all acB = false := by
          rw [List.all_eq_false]
          exact ⟨b[k + 1]'hkb, by rw [List.mem_iff_getElem]; exact ⟨k, by rw [List.length_drop]; omega, by simp [Nat.add_comm]⟩, by simp [h]⟩
        unfold blkB; rw [this]; rfl)
      obtain ⟨x, hx⟩ : ∃ x, b[k + 1]'hkb = x := ⟨_, rfl⟩
      rw [hx] at c1 AS NA
      rw [hj] at c1
      have gk : IntKind.i64.wrap ((j : Int) + 1) = (j : Int) + 1 := IntWalk.i64_in _ (by omega)
      have HKL := Lib.hid hkl
      clear hx hkb hj
      have cs : (decide (x < -1023) = true ∧ acB x = false) ∨ (decide (x < -1023) = false ∧ decide (1023 < x) = true ∧ acB x = false) ∨ (decide (x < -1023) = false ∧ decide (1023 < x) = false ∧ acB x = true) := by
        unfold acB
        simp only [decide_eq_true_eq, decide_eq_false_iff_not, Bool.and_eq_true, Bool.and_eq_false_iff]
        omega
      rcases cs with ⟨v1, o⟩ | ⟨v1, v2, o⟩ | ⟨v1, v2, o⟩
      case inr.inr =>
        have AO := Lib.hid o
        clear o
        go_wp2_with fail
        go_roundw
        case rel => exact ⟨k + 1, HKL.out, by rw [HJ.out]; go_num, by rw [AS.out, HA.out, AO.out]; rfl, by first | rfl | trivial⟩
        case measure => simp [intOf]; have := HKL.out; have := HJ.out; omega
      all_goals
        have AO := Lib.hid (NA.out o)
        clear o
        go_wp2_with fail
        go_ret
        exact ⟨by rw [AO.out]; rfl, B1.out⟩
    · have hj64 : j = 64 := by omega
      subst hj64
      have c0 := box_at X1.out 0 (by rw [H64.out]; omega)
      have AL : Hid ((b.drop 1).all acB = true) := Lib.hid (by have := HA.out; rwa [List.take_of_length_le (by rw [List.length_drop, H64.out]; omega)] at this)
      have HG : Hid (b.getD 0 0 = b[0]'(by rw [H64.out]; omega)) := Lib.hid (by rw [List.getD_eq_getElem?_getD, List.getElem?_eq_getElem (by rw [H64.out]; omega)]; rfl)
      obtain ⟨x, hx⟩ : ∃ x, b[0]'(by rw [H64.out]; omega) = x := ⟨_, rfl⟩
      rw [hx] at c0 HG
      have BB : Hid (blkB b = dcB x) := Lib.hid (by unfold blkB; rw [AL.out, HG.out]; rfl)
      clear hx hj
      go_wp2_with fail
      refine (refDC_any x _).mono ?_
      rintro e w2 ⟨rfl, rfl⟩
      go_wp2_with fail
      go_ret
      exact ⟨by rw [BB.out]; rfl, B1.out⟩
/-- the closure over a block -/
theorem badB_any (b : List Int) (w : World) (hb : Blk64 b) : Calls Try.prog 71 #[arr b] w fun e w' => e = .returned (.bool (!blkB b)) ∧ Below w.heap.size w w' := by
  obtain ⟨w1, hw1⟩ : ∃ w1, w.alloc (.cells (vIs b).toArray 23) = w1 := ⟨_, rfl⟩
  have hb1 : Below w.heap.size w w1 := by rw [← hw1]; exact (Below.refl _ _).alloc (Nat.le_refl _) _
  obtain ⟨B, hB⟩ : ∃ B, w.heap.size = B := ⟨_, rfl⟩
  have hx1 : w1.heap[B]? = some (.cells (vIs b).toArray 23 (0, 0)) := by rw [← hw1, ← hB]; exact heap_alloc_new _ _
  have RG : Hid (w1.rangeAt B 0 (vIs b)) := Lib.hid (fun j v hj => by rw [Nat.zero_add, cell_of_row _ _ j _ _ _ hx1]; simpa using hj)
  have B1 := Lib.hid hb1
  have HB := Lib.hid hB
  have H64 := Lib.hid hb
  have HI := Lib.hid (blk_info hb.1)
  clear hb hb1 hx1
  unfold arr
  go_enter Try.func71, Try.ntmps71
  go_wp2_with (refine wpList_load_mid rfl _ _ rfl B 0 rfl (vIs b) _ RG.out Try.underlying23 rfl HI.out ?_; refine stop ?_)
  refine unstop ?_
  clear hw1
  go_wp2_with fail
  refine (checkB_any b w1 H64.out).mono ?_
  rintro e w2 ⟨rfl, hb2⟩
  have B2 := Lib.hid (B1.out.trans (hb2.mono B1.out.size))
  clear hb2
  obtain ⟨q, hq⟩ : ∃ q, blkB b = q := ⟨_, rfl⟩
  rw [hq]
  have HX := Lib.hid hq
  clear hq
  cases q with
  | true =>
    have e0 : errV (chkN true) = .nilIface := rfl
    rw [e0]
    go_wp2_with fail
    go_ret
    exact ⟨by rw [HX.out]; rfl, B2.out⟩
  | false =>
    have e0 : errV (chkN false) = .iface 47 (.int .i64 6) := rfl
    rw [e0]
    go_wp2_with fail
    go_ret
    exact ⟨by rw [HX.out]; rfl, B2.out⟩
end Go.Proofs.Ytnhalnjdlkdnkaa

namespace Go.Proofs.Ytnhalnjdlkdnkaa
open Go.RowKit Go.BigFrame
set_option linter.unusedVariables false
set_option linter.unusedSimpArgs false
set_option maxRecDepth 20000

theorem all_take_succ {α : Type} (l : List α) (p : α → Bool) (k : Nat) (hk : k < l.length) : (l.take (k + 1)).all p = ((l.take k).all p && p l[k]) := by
  rw [List.take_succ_eq_append_getElem hk, List.all_append]; simp
theorem all_false_at {α : Type} (l : List α) (p : α → Bool) (k : Nat) (hk : k < l.length) (h : p l[k] = false) : l.all p = false := by
  rw [List.all_eq_false]; exact ⟨_, List.getElem_mem hk, by simp [h]⟩
set_option maxHeartbeats 1600000 in
theorem indexBlk (v : Value) (l : List (List Int)) (w : World) (hb : Bks w v l) (hl : l.length ≤ 140737488355328) :
    Calls Try.prog 86 #[v, .func (.func 71) #[] #[]] w fun e w' => (∃ r : Int, e = .returned (.int .i64 r) ∧ decide (0 ≤ r) = !l.all blkB) ∧ Below w.heap.size w w' := by
  obtain ⟨hall, av, cap, rfl, _, hcell⟩ := hb.range
  have HC := Lib.hid hcell
  have HL := Lib.hid hl
  have AL := Lib.hid hall
  clear hb hcell hl hall
  obtain ⟨n, hn⟩ : ∃ n, l.length = n := ⟨_, rfl⟩
  rw [hn]
  have HN := Lib.hid hn
  clear hn
  go_enter Try.func86, Try.ntmps86
  go_wp2_with fail
  go_loopw [5, 8] (fun _ i W => ∃ k : Nat, k ≤ n ∧ i = .int .i64 k ∧ (l.take k).all blkB = true ∧ Below w.heap.size w W) (fun _ i _ => n - (intOf i).toNat)
  case atStart => exact ⟨0, Nat.zero_le _, rfl, by simp, Below.refl _ _⟩
  case round =>
    obtain ⟨k, hk, rfl, heq, hbl⟩ := hrel
    have HEQ := Lib.hid heq
    have BB := Lib.hid hbl
    clear heq hbl
    by_cases hkn : k < n
    · have hkb : k < 140737488355328 := by have := HL.out; have := HN.out; omega
      have hkl : k < l.length := by rw [HN.out]; exact hkn
      obtain ⟨b, off, rfl, hc⟩ := HC.out k hkl
      have RG := Lib.hid (range_old BB.out hc)
      have hs := Lib.hid (all_take_succ l blkB k hkl)
      have hne := Lib.hid (all_false_at l blkB k hkl)
      have H64 := Lib.hid (AL.out.at k hkl)
      obtain ⟨x, hx⟩ : ∃ x, l[k]'hkl = x := ⟨_, rfl⟩
      rw [hx] at RG hs hne H64
      have HI := Lib.hid (blk_info H64.out.1)
      clear hx hc
      have f1 : decide ((k : Int) < (n : Int)) = true := by rw [decide_eq_true_eq]; omega
      have f1' : decide (k < n) = true := by rw [decide_eq_true_eq]; omega
      have f2 : (k : Int) < (n : Int) := by omega
      have gk : IntKind.i64.wrap ((k : Int) + 1) = (k : Int) + 1 := IntWalk.i64_in _ (by omega)
      have HKN := Lib.hid hkn
      clear hkl
      go_wp2_with (refine wpList_load_mid rfl _ _ rfl b (off + k * 64) rfl (vIs x) _ RG.out Try.underlying23 rfl HI.out ?_; refine stop ?_)
      refine unstop ?_
      go_wp2_with fail
      refine (badB_any x wr H64.out).mono ?_
      rintro e w1 ⟨rfl, hb1⟩
      have B1 := Lib.hid (BB.out.trans (hb1.mono BB.out.size))
      clear hb1
      obtain ⟨q, hq⟩ : ∃ q, blkB x = q := ⟨_, rfl⟩
      rw [hq] at hs hne ⊢
      clear hq
      cases q with
      | false =>
        have HD : Hid (l.all blkB = false) := Lib.hid (hne.out rfl)
        clear hne
        go_wp2_with fail
        go_ret
        exact ⟨⟨_, rfl, by rw [HD.out]; simp⟩, B1.out⟩
      | true =>
        clear hne
        go_wp2_with fail
        go_roundw
        case rel => exact ⟨k + 1, HKN.out, by go_num, by rw [hs.out, HEQ.out]; rfl, B1.out⟩
        case measure => simp [intOf]; have := HKN.out; omega
    · obtain rfl : k = n := by omega
      have HD : Hid (l.all blkB = true) := Lib.hid (by
        have h := HEQ.out
        rw [← HN.out, List.take_length] at h
        exact h)
      have f1 : decide ((k : Int) < (k : Int)) = false := by rw [decide_eq_false_iff_not]; omega
      go_wp2_with fail
      go_ret
      exact ⟨⟨_, rfl, by rw [HD.out]; rfl⟩, BB.out⟩
set_option maxHeartbeats 1600000 in
theorem containsBlk (v : Value) (l : List (List Int)) (w : World) (hb : Bks w v l) (hl : l.length ≤ 140737488355328) :
    Calls Try.prog 73 #[v, .func (.func 71) #[] #[]] w fun e w' => e = .returned (.bool (!l.all blkB)) ∧ Below w.heap.size w w' := by
  have hi := indexBlk v l w hb hl
  clear hb hl
  generalize l.all blkB = x at *
  go_enter Try.func73, Try.ntmps73
  go_wp2_with fail
  refine hi.mono ?_
  rintro e w1 ⟨⟨r, rfl, hr⟩, hb1⟩
  have HB := Lib.hid hb1
  clear hb1
  cases x
  all_goals
    simp only [Bool.not_true, Bool.not_false] at hr
    go_wp2_with fail
    go_ret
    exact ⟨rfl, HB.out⟩

/-! ## which tables are used -/
def usedB (ps : List PartL) (t : Int) : Bool := ps.any fun p => decide (p.tq = t)
def notTq (t : Int) (p : PartL) : Bool := !decide (p.tq = t)
theorem used_all (ps : List PartL) (t : Int) : usedB ps t = !ps.all (notTq t) := by
  unfold usedB notTq
  rw [List.not_all_eq_any_not]
  simp
set_option maxHeartbeats 1600000 in
theorem tq_any (p : PartL) (x : Value) (t : Int) (T : Nat) (w : World) (hT : w.cell? ⟨T, 0, none⟩ = some (.int .i64 t)) :
    Calls Try.prog 76 #[.agg (vPart p x).toArray, .pointer (some ⟨T, 0, none⟩)] w fun e w' => e = .returned (.bool (!notTq t p)) ∧ Below w.heap.size w w' := by
  obtain ⟨w1, hw1⟩ : ∃ w1, w.alloc (.cells (vPart p x).toArray 70) = w1 := ⟨_, rfl⟩
  have hb1 : Below w.heap.size w w1 := by rw [← hw1]; exact (Below.refl _ _).alloc (Nat.le_refl _) _
  obtain ⟨B, hB⟩ : ∃ B, w.heap.size = B := ⟨_, rfl⟩
  have hx1 : w1.heap[B]? = some (.cells (vPart p x).toArray 70 (0, 0)) := by rw [← hw1, ← hB]; exact heap_alloc_new _ _
  have c3 : w1.cell? ⟨B, 3, none⟩ = some (.int .i64 p.tq) := by rw [cell_of_row _ _ 3 _ _ _ hx1]; rfl
  have cT := cell_old hb1 hT
  have B1 := Lib.hid hb1
  clear hb1 hx1 hT
  unfold vPart at hw1 ⊢
  have e1 : notTq t p = !decide (p.tq = t) := rfl
  have NE := Lib.hid e1
  clear e1
  obtain ⟨q, hq⟩ : ∃ q, p.tq = q := ⟨_, rfl⟩
  rw [hq] at c3 NE hw1 ⊢
  clear hq
  by_cases h : q = t
  · have d : (q == t) = true := by rw [beq_iff_eq]; exact h
    have D := Lib.hid (decide_eq_true h)
    clear h
    go_enter Try.func76, Try.ntmps76
    go_wp2_with fail
    go_ret
    exact ⟨by rw [NE.out, D.out]; rfl, B1.out⟩
  · have d : (q == t) = false := by rw [beq_eq_false_iff_ne]; exact h
    have D := Lib.hid (decide_eq_false h)
    clear h
    go_enter Try.func76, Try.ntmps76
    go_wp2_with fail
    go_ret
    exact ⟨by rw [NE.out, D.out]; rfl, B1.out⟩
set_option maxHeartbeats 1600000 in
theorem indexPt (v : Value) (l : List PartL) (t : Int) (T : Nat) (w : World) (hb : Pts w v l) (hl : l.length ≤ 140737488355328) (hT : w.cell? ⟨T, 0, none⟩ = some (.int .i64 t)) :
    Calls Try.prog 87 #[v, .func (.func 76) #[] #[.pointer (some ⟨T, 0, none⟩)]] w fun e w' => (∃ r : Int, e = .returned (.int .i64 r) ∧ decide (0 ≤ r) = !l.all (notTq t)) ∧ Below w.heap.size w w' := by
  obtain ⟨av, cap, rfl, _, hcell⟩ := pts_at hb
  have HC := Lib.hid hcell
  have HL := Lib.hid hl
  have HT := Lib.hid hT
  clear hb hcell hl hT
  obtain ⟨n, hn⟩ : ∃ n, l.length = n := ⟨_, rfl⟩
  rw [hn]
  have HN := Lib.hid hn
  clear hn
  go_enter Try.func87, Try.ntmps87
  go_wp2_with fail
  go_loopw [5, 8] (fun _ i W => ∃ k : Nat, k ≤ n ∧ i = .int .i64 k ∧ (l.take k).all (notTq t) = true ∧ Below w.heap.size w W) (fun _ i _ => n - (intOf i).toNat)
  case atStart => exact ⟨0, Nat.zero_le _, rfl, by simp, Below.refl _ _⟩
  case round =>
    obtain ⟨k, hk, rfl, heq, hbl⟩ := hrel
    have HEQ := Lib.hid heq
    have BB := Lib.hid hbl
    clear heq hbl
    by_cases hkn : k < n
    · have hkb : k < 140737488355328 := by have := HL.out; have := HN.out; omega
      have hkl : k < l.length := by rw [HN.out]; exact hkn
      obtain ⟨b, off, xv, rfl, -, hBK, c0, c1, c2, c3, c4, c5, c6⟩ := HC.out k hkl
      obtain ⟨xa, xc, rfl, -⟩ := Els.len hBK
      obtain ⟨xn, hxn⟩ : ∃ xn, (l[k]'hkl).bs.length = xn := ⟨_, rfl⟩
      rw [hxn] at c6
      clear hBK hxn
      have hs := Lib.hid (all_take_succ l (notTq t) k hkl)
      have hne := Lib.hid (all_false_at l (notTq t) k hkl)
      obtain ⟨p, hp⟩ : ∃ x, l[k]'hkl = x := ⟨_, rfl⟩
      rw [hp] at c0 c1 c2 c3 c4 c5 hs hne
      have d0 := cell_old BB.out c0
      have d1 := cell_old BB.out c1
      have d2 := cell_old BB.out c2
      have d3 := cell_old BB.out c3
      have d4 := cell_old BB.out c4
      have d5 := cell_old BB.out c5
      have d6 := cell_old BB.out c6
      clear hp c0 c1 c2 c3 c4 c5 c6
      have f1 : decide ((k : Int) < (n : Int)) = true := by rw [decide_eq_true_eq]; omega
      have f1' : decide (k < n) = true := by rw [decide_eq_true_eq]; omega
      have f2 : (k : Int) < (n : Int) := by omega
      have gk : IntKind.i64.wrap ((k : Int) + 1) = (k : Int) + 1 := IntWalk.i64_in _ (by omega)
      have HKN := Lib.hid hkn
      clear hkl
      go_wp2_with fail
      refine (tq_any p _ t T wr (cell_old BB.out HT.out)).mono ?_
      rintro e w1 ⟨rfl, hb1⟩
      have B1 := Lib.hid (BB.out.trans (hb1.mono BB.out.size))
      clear hb1 d0 d1 d2 d3 d4 d5 d6
      obtain ⟨q, hq⟩ : ∃ q, notTq t p = q := ⟨_, rfl⟩
      rw [hq] at hs hne ⊢
      clear hq
      cases q with
      | false =>
        have HD : Hid (l.all (notTq t) = false) := Lib.hid (hne.out rfl)
        clear hne
        go_wp2_with fail
        go_ret
        exact ⟨⟨_, rfl, by rw [HD.out]; simp⟩, B1.out⟩
      | true =>
        clear hne
        go_wp2_with fail
        go_roundw
        case rel => exact ⟨k + 1, HKN.out, by go_num, by rw [hs.out, HEQ.out]; rfl, B1.out⟩
        case measure => simp [intOf]; have := HKN.out; omega
    · obtain rfl : k = n := by omega
      have HD : Hid (l.all (notTq t) = true) := Lib.hid (by
        have h := HEQ.out
        rw [← HN.out, List.take_length] at h
        exact h)
      have f1 : decide ((k : Int) < (k : Int)) = false := by rw [decide_eq_false_iff_not]; omega
      go_wp2_with fail
      go_ret
      exact ⟨⟨_, rfl, by rw [HD.out]; rfl⟩, BB.out⟩
set_option maxHeartbeats 1600000 in
theorem containsPt (v : Value) (l : List PartL) (t : Int) (T : Nat) (w : World) (hb : Pts w v l) (hl : l.length ≤ 140737488355328) (hT : w.cell? ⟨T, 0, none⟩ = some (.int .i64 t)) :
    Calls Try.prog 75 #[v, .func (.func 76) #[] #[.pointer (some ⟨T, 0, none⟩)]] w fun e w' => e = .returned (.bool (usedB l t)) ∧ Below w.heap.size w w' := by
  have hi := indexPt v l t T w hb hl hT
  have HU := Lib.hid (used_all l t)
  rw [used_all]
  clear hb hl hT HU
  generalize l.all (notTq t) = x at *
  go_enter Try.func75, Try.ntmps75
  go_wp2_with fail
  refine hi.mono ?_
  rintro e w1 ⟨⟨r, rfl, hr⟩, hb1⟩
  have HB := Lib.hid hb1
  clear hb1
  cases x
  all_goals
    simp only [Bool.not_true, Bool.not_false] at hr
    go_wp2_with fail
    go_ret
    exact ⟨rfl, HB.out⟩
set_option maxHeartbeats 1600000 in
theorem used_any (P : PicL) (q0 q1 q2 q3 pv kv : Value) (t : Int) (w : World) (hc : Pts w pv P.parts) (hl : P.parts.length ≤ 140737488351232) :
    Calls Try.prog 53 #[.agg (vPic P q0 q1 q2 q3 pv kv), .int .i64 t] w fun e w' => e = .returned (.bool (usedB P.parts t)) ∧ Below w.heap.size w w' := by
  obtain ⟨pa, pc, rfl, _⟩ := Els.len hc
  have HC := Lib.hid hc
  clear hc
  obtain ⟨w1, hw1⟩ : ∃ w1, (w.alloc (.cells (vPic P q0 q1 q2 q3 (.slice pa P.parts.length pc) kv) 36)).alloc (.cells #[.int .i64 t] 3) = w1 := ⟨_, rfl⟩
  have hb1 : Below w.heap.size w w1 := by rw [← hw1]; exact ((Below.refl _ _).alloc (Nat.le_refl _) _).alloc (by simp) _
  have hbox : PBox w1 w.heap.size P q0 q1 q2 q3 (.slice pa P.parts.length pc) kv := by rw [← hw1]; exact PBox.old (heap_alloc_new _ _) ((Below.refl _ _).alloc (Nat.le_refl _) _)
  have hT : Boxed w1 (w.heap.size + 1) 3 (.int .i64 t) := by
    rw [← hw1]
    have h := Boxed.new (w.alloc (.cells (vPic P q0 q1 q2 q3 (.slice pa P.parts.length pc) kv) 36)) 3 (.int .i64 t)
    rw [World.size_alloc] at h
    exact h
  have B1 := Lib.hid hb1
  have HT := Lib.hid hT.cell
  obtain ⟨a0, a1, a2, a3, a4, a5, a6, a7, a8⟩ := hbox.cells
  unfold vPic at hw1
  clear hb1 hbox hT
  unfold vPic
  go_enter Try.func53, Try.ntmps53
  go_wp2_with fail
  refine (containsPt _ P.parts t (w.heap.size + 1) w1 (HC.out.old B1.out) (by omega) HT.out).mono ?_
  rintro e w2 ⟨rfl, hb2⟩
  have B2 := Lib.hid (B1.out.trans (hb2.mono B1.out.size))
  clear hb2 hw1
  go_wp2_with fail
  go_ret
  exact ⟨rfl, B2.out⟩
end Go.Proofs.Ytnhalnjdlkdnkaa
