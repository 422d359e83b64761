/- The document's walks: burnishref03.Taken, Stuff, burnishref20.mark, plain. By an AI agent. -/
import Derived.Test.YtlljooncoingnaaSegT
namespace Go.Proofs.Ytlljooncoingnaa
open Go.RowKit Go.BigFrame
set_option linter.unusedVariables false
set_option linter.unusedSimpArgs false

/-! ## plain -/
def plF : Bool → List UInt8 → List UInt8
  | _, [] => []
  | ff, c :: r => (if ff && c == 0 then [] else [c]) ++ plF (c == 255) r
theorem plF_stuff : ∀ p : List UInt8, plF false (stuffL p) = p
  | [] => rfl
  | c :: p => by
    rw [stuffL_cons]
    unfold stuff1
    split
    · rename_i h
      subst h
      show plF false (255 :: 0 :: stuffL p) = _
      simp [plF, plF_stuff p]
    · rename_i h
      show plF false (c :: stuffL p) = _
      have : (c == 255) = false := by rw [beq_eq_false_iff_ne]; exact h
      simp [plF, this, plF_stuff p]
def ffAt (l : List UInt8) (k : Nat) : Bool := decide (0 < k) && (l.getD (k - 1) 0 == 255)
theorem ffAt_succ (l : List UInt8) (k : Nat) (h : k < l.length) : ffAt l (k + 1) = (l[k] == 255) := by
  simp [ffAt, List.getD_eq_getElem?_getD, h]
theorem unst_pos {l p : List UInt8} {k j : Nat} (hk : k ≤ l.length) (h : unst l = (p, l.drop k)) : l.length - (unst l).2.length = k := by
  rw [h]; simp; omega
set_option maxHeartbeats 4000000 in
theorem refTaken_any (v : Value) (l : List UInt8) (w : World) (hb : Bs w v l) (hl : l.length ≤ 70368744173568) :
    Calls Try.prog 35 #[v] w fun e w' => e = .returned (.int .i64 ((l.length - (unst l).2.length : Nat) : Int)) ∧ w = w' := by
  obtain ⟨a, cap, rfl⟩ := hb.len
  have HB := Lib.hid hb
  have HL := Lib.hid hl
  clear hb hl
  go_enter Try.func35, Try.ntmps35
  go_wp2_with fail
  go_loop [3] (fun i => ∃ (k : Nat) (p : List UInt8), k ≤ l.length ∧ i = .int .i64 k ∧ unst l = (p ++ (unst (l.drop k)).1, (unst (l.drop k)).2)) (fun i => l.length - (intOf i).toNat)
  case atStart => exact ⟨0, [], Nat.zero_le _, rfl, by simp⟩
  case round =>
    obtain ⟨k, p, hk, rfl, hun⟩ := hrel
    have UN := Lib.hid hun
    clear hun
    by_cases hkl : k < l.length
    · have hk1 : k < 70368744173568 := by have := HL.out; omega
      have e1 : decide ((k : Int) < (l.length : Int)) = true := by rw [decide_eq_true_eq]; omega
      have e2 : decide (k < l.length) = true := by rw [decide_eq_true_eq]; omega
      obtain ⟨b, off, rfl, hcell⟩ : ∃ b off, a = some ⟨b, off, none⟩ ∧ ∀ i (h : i < l.length), w.cell? ⟨b, off + i, none⟩ = some (.int .u8 ((l[i].toNat : Nat) : Int)) := by
        rcases HB.out.shape with ⟨a', c', hv, h0⟩ | ⟨b, off, c', hv, hcc, hp, hx⟩
        · subst h0; simp at hkl
        · simp only [Value.slice.injEq] at hv; exact ⟨b, off, hv.1, hx⟩
      have d1 := hcell k hkl
      by_cases h255 : l[k] = 255
      · rw [h255] at d1
        have e255 : (((255 : UInt8).toNat : Nat) : Int) = 255 := rfl
        rw [e255] at d1
        have f3 : wrap64 ((k : Int) + 1) = ((k + 1 : Nat) : Int) := by rw [IntWalk.wrap64_in _ (by omega)]; omega
        by_cases hlast : k + 1 = l.length
        · have ST := Lib.hid (len_back (r := []) (unst_step_last hlast h255 UN.out) hk)
          have f4 : decide (k + 1 < l.length) = false := by rw [decide_eq_false_iff_not]; omega
          have f5 : decide ((k : Int) + 1 < (l.length : Int)) = false := by rw [decide_eq_false_iff_not]; omega
          clear h255 e255 hcell hlast
          go_wp2_with fail
          go_ret
          exact ⟨by rw [ST.out.1]; rfl, rfl⟩
        · have hk2 : k + 1 < l.length := by omega
          have d2 := hcell (k + 1) hk2
          have f4 : decide (k + 1 < l.length) = true := by rw [decide_eq_true_eq]; exact hk2
          have f5 : decide ((k : Int) + 1 < (l.length : Int)) = true := by rw [decide_eq_true_eq]; omega
          by_cases h0 : l[k + 1] = 0
          · have ST := Lib.hid (unst_step_pair hk2 h255 h0 UN.out)
            rw [h0] at d2
            have e0 : (((0 : UInt8).toNat : Nat) : Int) = 0 := rfl
            rw [e0] at d2
            clear h255 e255 hcell hlast h0 e0
            go_wp2_with fail
            go_round
            case rel => exact ⟨k + 2, p ++ [255], by omega, by go_num, ST.out⟩
            case measure => simp [intOf]; omega
          · have ST := Lib.hid (len_back (r := []) (unst_step_stop hk2 h255 h0 UN.out) hk)
            obtain ⟨c, hc⟩ : ∃ c, l[k + 1] = c := ⟨_, rfl⟩
            rw [hc] at d2 h0
            have f5' : (((c.toNat : Nat) : Int) == 0) = false := by rw [beq_eq_false_iff_ne]; intro e; exact h0 (UInt8.toNat_inj.1 (by have : (0 : UInt8).toNat = 0 := rfl; omega))
            have f6 : c.toNat ≠ 0 := by intro e; rw [e] at f5'; simp at f5'
            obtain ⟨cn, hcn⟩ : ∃ n, c.toNat = n := ⟨_, rfl⟩
            rw [hcn] at d2 f5' f6
            clear h255 e255 hcell hlast h0 hc hcn
            go_wp2_with fail
            go_ret
            exact ⟨by rw [ST.out.1]; rfl, rfl⟩
      · have ST := Lib.hid (unst_step_plain hkl h255 UN.out)
        obtain ⟨c, hc⟩ : ∃ c, l[k] = c := ⟨_, rfl⟩
        rw [hc] at d1 h255 ST
        have f1 : decide (((c.toNat : Nat) : Int) < 255) = true := by
          rw [decide_eq_true_eq]
          have h1 := c.toNat_lt
          have h2 : c.toNat ≠ 255 := fun e => h255 (UInt8.toNat_inj.1 e)
          omega
        have f2 : decide (c.toNat < 255) = true := by rw [decide_eq_true_eq] at f1 ⊢; omega
        have ST2 : Hid (∃ q, unst l = (q ++ (unst (l.drop (k + 1))).1, (unst (l.drop (k + 1))).2)) := Lib.hid ⟨_, ST.out⟩
        clear h255 hcell hc ST
        go_wp2_with fail
        obtain ⟨q, hq⟩ := ST2.out
        go_round
        case rel => exact ⟨k + 1, q, by omega, by go_num, hq⟩
        case measure => simp [intOf]; omega
    · obtain rfl : k = l.length := by omega
      have e1 : decide ((l.length : Int) < (l.length : Int)) = false := by rw [decide_eq_false_iff_not]; omega
      have ST := Lib.hid (len_back (r := []) (unst_step_end (Nat.le_refl _) UN.out) hk)
      go_wp2_with fail
      go_ret
      exact ⟨by rw [ST.out.1]; rfl, rfl⟩
set_option maxHeartbeats 4000000 in
theorem refStuff_any (v : Value) (l : List UInt8) (w : World) (hb : Bs w v l) (hl : l.length ≤ 70368744173568) :
    Calls Try.prog 41 #[v] w fun e w' => ∃ v', e = .returned v' ∧ w'.ownsRow w.heap.size 5 1 v' (stuffL l).length (vBs (stuffL l)) ∧ Below w.heap.size w w' := by
  obtain ⟨a, cap, rfl⟩ := hb.len
  have HB := Lib.hid hb
  have HL := Lib.hid hl
  clear hb hl
  go_enter Try.func41, Try.ntmps41
  go_wp2_with fail
  go_loopw [3, 4] (fun v i W => ∃ k : Nat, k ≤ l.length ∧ i = .int .i64 k ∧ W.ownsRow w.heap.size 5 1 v (stuffL (l.take k)).length (vBs (stuffL (l.take k))) ∧ Below w.heap.size w W) (fun _ i _ => l.length - (intOf i).toNat)
  case atStart => exact ⟨0, Nat.zero_le _, rfl, World.ownsRow_nil _ _ _ _, Below.refl _ _⟩
  case round =>
    obtain ⟨k, hk, rfl, hown, hbel⟩ := hrel
    have HO := Lib.hid hown
    have BE := Lib.hid hbel
    clear hown hbel
    by_cases hkl : k < l.length
    · have hk1 : k < 140737488351232 := by have := HL.out; omega
      have e1 : decide ((k : Int) < (l.length : Int)) = true := by rw [decide_eq_true_eq]; omega
      have e2 : decide (k < l.length) = true := by rw [decide_eq_true_eq]; omega
      obtain ⟨b, off, rfl, hcell⟩ : ∃ b off, a = some ⟨b, off, none⟩ ∧ w.cell? ⟨b, off + k, none⟩ = some (.int .u8 ((l[k].toNat : Nat) : Int)) := by
        rcases HB.out.shape with ⟨a', c', hv, h0⟩ | ⟨b, off, c', hv, hcc, hp, hx⟩
        · subst h0; simp at hkl
        · simp only [Value.slice.injEq] at hv; exact ⟨b, off, hv.1, hx k hkl⟩
      have d1 := cell_old BE.out hcell
      have HCX := Lib.hid hcell
      have ST : Hid (stuffL (l.take (k + 1)) = stuffL (l.take k) ++ stuff1 l[k]) := Lib.hid (by
        rw [List.take_succ_eq_append_getElem hkl]; unfold stuffL; rw [List.map_append, List.flatten_append]; simp)
      have LN : Hid ((stuffL (l.take k)).length ≤ 2 * k) := Lib.hid (by have := (stuffL_len (l.take k)).2; rw [List.length_take] at this; omega)
      obtain ⟨c, hc⟩ : ∃ c, l[k] = c := ⟨_, rfl⟩
      rw [hc] at d1 ST HCX
      clear hc hcell
      obtain ⟨p, hp⟩ : ∃ p, stuffL (l.take k) = p := ⟨_, rfl⟩
      rw [hp] at HO ST LN
      clear hp
      have SW : Hid (w.heap.size ≤ wr.heap.size) := Lib.hid BE.out.size
      by_cases h255 : c = 255
      · have f1 : (((c.toNat : Nat) : Int) == 255) = true := by rw [beq_iff_eq, h255]; rfl
        rw [h255] at ST d1 HCX
        have S1 : Hid (stuff1 255 = [255, 0]) := Lib.hid rfl
        have e255 : (((255 : UInt8).toNat : Nat) : Int) = 255 := rfl
        rw [e255] at d1 HCX
        clear f1 h255 e255
        go_wp2_with (at_builtin; refine stop ?_)
        refine unstop (wpList_appB rfl _ _ rfl w.heap.size _ p rfl (HO.out.alloc _) wr.heap.size 255 rfl (heap_alloc_new _ _) (by have := LN.out; have := HL.out; omega) (by have := SW.out; simp; omega) ?_)
        intro v1 w1 o1 g1 n1
        obtain ⟨p1, hp1⟩ : ∃ p1, p ++ [(255 : UInt8)] = p1 := ⟨_, rfl⟩
        rw [hp1] at o1
        have LP : Hid (p1.length = p.length + 1) := Lib.hid (by rw [← hp1]; simp)
        have ST1 : Hid (stuffL (l.take (k + 1)) = p1 ++ [0]) := Lib.hid (by rw [ST.out, S1.out, ← hp1]; simp)
        obtain ⟨a1, c1, rfl⟩ := owns_len o1
        have O1 := Lib.hid o1
        have B1 : Hid (Below w.heap.size w w1) := Lib.hid (run_app_below (HO.out.alloc _) g1 (BE.out.alloc SW.out _) (Nat.le_refl _))
        clear hp1
        have d2 := cell_old B1.out HCX.out
        have SW1 : Hid (w.heap.size ≤ w1.heap.size) := Lib.hid B1.out.size
        have d2 := cell_old B1.out HCX.out
        clear o1 g1 n1
        go_wp2_with (at_builtin; refine stop ?_)
        refine unstop (wpList_appB rfl _ _ rfl w.heap.size _ p1 rfl (O1.out.alloc _) w1.heap.size 0 rfl (heap_alloc_new _ _) (by have := LN.out; have := HL.out; have := LP.out; omega) (by have := SW1.out; simp; omega) ?_)
        intro v2 w2 o2 g2 n2
        rw [← ST1.out] at o2
        obtain ⟨a2, c2, rfl⟩ := owns_len o2
        have O2 := Lib.hid o2
        have B2 : Hid (Below w.heap.size w w2) := Lib.hid (run_app_below (O1.out.alloc _) g2 (B1.out.alloc SW1.out _) (Nat.le_refl _))
        clear o2 g2 n2
        go_wp2_with fail
        go_roundw
        case rel => exact ⟨k + 1, by omega, by go_num, O2.out, B2.out⟩
        case measure => simp [intOf]; omega
      · have f1 : (((c.toNat : Nat) : Int) == 255) = false := by rw [beq_eq_false_iff_ne]; intro e; exact h255 (UInt8.toNat_inj.1 (by have : (255 : UInt8).toNat = 255 := rfl; omega))
        have S1 : Hid (stuff1 c = [c]) := Lib.hid (by unfold stuff1; rw [if_neg h255])
        clear h255
        go_wp2_with (at_builtin; refine stop ?_)
        refine unstop (wpList_appB rfl _ _ rfl w.heap.size _ p rfl (HO.out.alloc _) wr.heap.size c rfl (heap_alloc_new _ _) (by have := LN.out; have := HL.out; omega) (by have := SW.out; simp; omega) ?_)
        intro v1 w1 o1 g1 n1
        rw [show p ++ [c] = stuffL (l.take (k + 1)) by rw [ST.out, S1.out]] at o1
        obtain ⟨a1, c1, rfl⟩ := owns_len o1
        have O1 := Lib.hid o1
        have B1 : Hid (Below w.heap.size w w1) := Lib.hid (run_app_below (HO.out.alloc _) g1 (BE.out.alloc SW.out _) (Nat.le_refl _))
        have d2 := cell_old B1.out HCX.out
        clear o1 g1 n1
        go_wp2_with fail
        go_roundw
        case rel => exact ⟨k + 1, by omega, by go_num, O1.out, B1.out⟩
        case measure => simp [intOf]; omega
    · obtain rfl : k = l.length := by omega
      have e1 : decide ((l.length : Int) < (l.length : Int)) = false := by rw [decide_eq_false_iff_not]; omega
      rw [List.take_length] at HO
      go_wp2_with fail
      go_ret
      exact ⟨_, rfl, HO.out, BE.out⟩
set_option maxHeartbeats 4000000 in
theorem plain_any (v : Value) (l : List UInt8) (w : World) (hb : Bs w v l) (hl : l.length ≤ 70368744173568) :
    Calls Try.prog 36 #[v] w fun e w' => ∃ v', e = .returned v' ∧ w'.ownsRow w.heap.size 5 1 v' (plF false l).length (vBs (plF false l)) ∧ Below w.heap.size w w' := by
  obtain ⟨a, cap, rfl⟩ := hb.len
  have HB := Lib.hid hb
  have HL := Lib.hid hl
  clear hb hl
  go_enter Try.func36, Try.ntmps36
  go_wp2_with fail
  go_loopw [3, 4] (fun v i W => ∃ (k : Nat) (p : List UInt8), k ≤ l.length ∧ p.length ≤ k ∧ i = .int .i64 k ∧ W.ownsRow w.heap.size 5 1 v p.length (vBs p) ∧ plF false l = p ++ plF (ffAt l k) (l.drop k) ∧ Below w.heap.size w W) (fun _ i _ => l.length - (intOf i).toNat)
  case atStart => exact ⟨0, [], Nat.zero_le _, Nat.le_refl _, rfl, World.ownsRow_nil _ _ _ _, rfl, Below.refl _ _⟩
  case round =>
    obtain ⟨k, p, hk, hpk, rfl, hown, hun, hbel⟩ := hrel
    have BE := Lib.hid hbel
    have UN := Lib.hid hun
    have LN := Lib.hid hpk
    have SW : Hid (w.heap.size ≤ wr.heap.size) := Lib.hid hbel.size
    obtain ⟨a0, c0, rfl⟩ := owns_len hown
    have HO := Lib.hid hown
    clear hown hbel hun hpk
    by_cases hkl : k < l.length
    · have hk1 : k < 70368744173568 := by have := HL.out; omega
      have e1 : decide ((k : Int) < (l.length : Int)) = true := by rw [decide_eq_true_eq]; omega
      have e2 : decide (k < l.length) = true := by rw [decide_eq_true_eq]; omega
      obtain ⟨b, off, rfl, hcell⟩ : ∃ b off, a = some ⟨b, off, none⟩ ∧ ∀ i (h : i < l.length), w.cell? ⟨b, off + i, none⟩ = some (.int .u8 ((l[i].toNat : Nat) : Int)) := by
        rcases HB.out.shape with ⟨a', c', hv, h0⟩ | ⟨b, off, c', hv, hcc, hp, hx⟩
        · subst h0; simp at hkl
        · simp only [Value.slice.injEq] at hv; exact ⟨b, off, hv.1, hx⟩
      have d1 := cell_old BE.out (hcell k hkl)
      have UN2 : Hid (plF false l = p ++ ((if ffAt l k && (l[k]'hkl) == 0 then [] else [l[k]'hkl]) ++ plF (ffAt l (k + 1)) (l.drop (k + 1)))) := Lib.hid (by
        rw [UN.out, drop_get hkl, ffAt_succ l k hkl]; rfl)
      obtain ⟨c, hc⟩ : ∃ c, l[k]'hkl = c := ⟨_, rfl⟩
      rw [hc] at d1 UN2
      -- is there a ff ahead?
      have FA : Hid (ffAt l k = true → 0 < k ∧ ∃ x : UInt8, x = 255 ∧ wr.cell? ⟨b, off + (k - 1), none⟩ = some (.int .u8 ((x.toNat : Nat) : Int))) := Lib.hid (fun h => by
        simp only [ffAt, Bool.and_eq_true, decide_eq_true_eq, beq_iff_eq] at h
        have hk' : k - 1 < l.length := by omega
        exact ⟨h.1, l[k - 1], by have := h.2; rw [List.getD_eq_getElem?_getD, List.getElem?_eq_getElem hk'] at this; exact this, cell_old BE.out (hcell (k - 1) hk')⟩)
      have FB : Hid (ffAt l k = false → k = 0 ∨ (0 < k ∧ ∃ x : UInt8, x ≠ 255 ∧ wr.cell? ⟨b, off + (k - 1), none⟩ = some (.int .u8 ((x.toNat : Nat) : Int)))) := Lib.hid (fun h => by
        by_cases h0 : k = 0
        · exact .inl h0
        · right
          have hk' : k - 1 < l.length := by omega
          refine ⟨by omega, l[k - 1], ?_, cell_old BE.out (hcell (k - 1) hk')⟩
          intro e
          simp only [ffAt, Bool.and_eq_false_iff, decide_eq_false_iff_not, beq_eq_false_iff_ne] at h
          rw [List.getD_eq_getElem?_getD, List.getElem?_eq_getElem hk'] at h
          rcases h with h | h
          · omega
          · exact h e)
      clear hc hcell
      rcases hff : ffAt l k with _ | _
      · rw [hff, Bool.false_and, if_neg (by simp)] at UN2
        have FB2 := FB.out hff
        clear hff FA FB UN
        rcases FB2 with rfl | ⟨h0, x, hx, hcx⟩
        case' inl =>
          rw [Nat.add_zero] at d1
        case' inr =>
          have f1 : (((k : Nat) : Int) == 0) = false := by rw [beq_eq_false_iff_ne]; omega
          have f2 : ¬ k = 0 := by omega
          have f3 : wrap64 ((k : Int) - 1) = ((k - 1 : Nat) : Int) := by rw [IntWalk.wrap64_in _ (by omega)]; omega
          have f4 : (((x.toNat : Nat) : Int) == 255) = false := by rw [beq_eq_false_iff_ne]; intro e; exact hx (UInt8.toNat_inj.1 (by have : (255 : UInt8).toNat = 255 := rfl; omega))
          have f5 : decide (k - 1 < l.length) = true := by rw [decide_eq_true_eq]; omega
          clear hx
        case inl =>
          go_wp2_with (at_builtin; refine stop ?_)
          refine unstop (wpList_appB rfl _ _ rfl w.heap.size _ p rfl (HO.out.alloc _) wr.heap.size c rfl (heap_alloc_new _ _) (by have := LN.out; have := HL.out; omega) (by have := SW.out; simp; omega) ?_)
          intro v1 w1 o1 g1 n1
          obtain ⟨p1, hp1⟩ : ∃ p1, p ++ [c] = p1 := ⟨_, rfl⟩
          rw [hp1] at o1
          have LP : Hid (p1.length = p.length + 1) := Lib.hid (by rw [← hp1]; simp)
          have ST1 := Lib.hid (show plF false l = p1 ++ plF (ffAt l (0 + 1)) (l.drop (0 + 1)) by rw [← hp1, List.append_assoc]; exact UN2.out)
          obtain ⟨a1, c1, rfl⟩ := owns_len o1
          have O1 := Lib.hid o1
          have B1 : Hid (Below w.heap.size w w1) := Lib.hid (run_app_below (HO.out.alloc _) g1 (BE.out.alloc SW.out _) (Nat.le_refl _))
          clear o1 g1 n1 hp1
          go_wp2_with fail
          go_roundw
          case rel => exact ⟨0 + 1, p1, by omega, by have := LN.out; have := LP.out; omega, by go_num, O1.out, ST1.out, B1.out⟩
          case measure => simp [intOf]; omega
        case inr =>
          go_wp2_with (at_builtin; refine stop ?_)
          refine unstop (wpList_appB rfl _ _ rfl w.heap.size _ p rfl (HO.out.alloc _) wr.heap.size c rfl (heap_alloc_new _ _) (by have := LN.out; have := HL.out; omega) (by have := SW.out; simp; omega) ?_)
          intro v1 w1 o1 g1 n1
          obtain ⟨p1, hp1⟩ : ∃ p1, p ++ [c] = p1 := ⟨_, rfl⟩
          rw [hp1] at o1
          have LP : Hid (p1.length = p.length + 1) := Lib.hid (by rw [← hp1]; simp)
          have ST1 := Lib.hid (show plF false l = p1 ++ plF (ffAt l (k + 1)) (l.drop (k + 1)) by rw [← hp1, List.append_assoc]; exact UN2.out)
          obtain ⟨a1, c1, rfl⟩ := owns_len o1
          have O1 := Lib.hid o1
          have B1 : Hid (Below w.heap.size w w1) := Lib.hid (run_app_below (HO.out.alloc _) g1 (BE.out.alloc SW.out _) (Nat.le_refl _))
          clear o1 g1 n1 hp1
          go_wp2_with fail
          go_roundw
          case rel => exact ⟨k + 1, p1, by omega, by have := LN.out; have := LP.out; omega, by go_num, O1.out, ST1.out, B1.out⟩
          case measure => simp [intOf]; omega
      · rw [hff, Bool.true_and] at UN2
        obtain ⟨h0, x, hx, hcx⟩ := FA.out hff
        subst hx
        have e255 : (((255 : UInt8).toNat : Nat) : Int) = 255 := rfl
        rw [e255] at hcx
        have f1 : (((k : Nat) : Int) == 0) = false := by rw [beq_eq_false_iff_ne]; omega
        have f2 : ¬ k = 0 := by omega
        have f3 : wrap64 ((k : Int) - 1) = ((k - 1 : Nat) : Int) := by rw [IntWalk.wrap64_in _ (by omega)]; omega
        have f5 : decide (k - 1 < l.length) = true := by rw [decide_eq_true_eq]; omega
        clear hff FA FB UN e255
        by_cases hc0 : c = 0
        · rw [hc0, if_pos (by rfl)] at UN2
          rw [hc0] at d1
          have e0 : (((0 : UInt8).toNat : Nat) : Int) = 0 := rfl
          rw [e0] at d1
          clear hc0 e0
          go_wp2_with fail
          go_roundw
          case rel => exact ⟨k + 1, p, by omega, by have := LN.out; omega, by go_num, HO.out, UN2.out, BE.out⟩
          case measure => simp [intOf]; omega
        · rw [if_neg (by rw [beq_iff_eq]; exact hc0)] at UN2
          have f6 : (((c.toNat : Nat) : Int) == 0) = false := by rw [beq_eq_false_iff_ne]; intro e; exact hc0 (UInt8.toNat_inj.1 (by have : (0 : UInt8).toNat = 0 := rfl; omega))
          have f7 : ¬ c.toNat = 0 := by intro e; rw [e] at f6; simp at f6
          clear hc0
          go_wp2_with (at_builtin; refine stop ?_)
          refine unstop (wpList_appB rfl _ _ rfl w.heap.size _ p rfl (HO.out.alloc _) wr.heap.size c rfl (heap_alloc_new _ _) (by have := LN.out; have := HL.out; omega) (by have := SW.out; simp; omega) ?_)
          intro v1 w1 o1 g1 n1
          obtain ⟨p1, hp1⟩ : ∃ p1, p ++ [c] = p1 := ⟨_, rfl⟩
          rw [hp1] at o1
          have LP : Hid (p1.length = p.length + 1) := Lib.hid (by rw [← hp1]; simp)
          have ST1 := Lib.hid (show plF false l = p1 ++ plF (ffAt l (k + 1)) (l.drop (k + 1)) by rw [← hp1, List.append_assoc]; exact UN2.out)
          obtain ⟨a1, c1, rfl⟩ := owns_len o1
          have O1 := Lib.hid o1
          have B1 : Hid (Below w.heap.size w w1) := Lib.hid (run_app_below (HO.out.alloc _) g1 (BE.out.alloc SW.out _) (Nat.le_refl _))
          clear o1 g1 n1 hp1
          go_wp2_with fail
          go_roundw
          case rel => exact ⟨k + 1, p1, by omega, by have := LN.out; have := LP.out; omega, by go_num, O1.out, ST1.out, B1.out⟩
          case measure => simp [intOf]; omega
    · obtain rfl : k = l.length := by omega
      have e1 : decide ((l.length : Int) < (l.length : Int)) = false := by rw [decide_eq_false_iff_not]; omega
      have ST : Hid (plF false l = p) := Lib.hid (by rw [UN.out, List.drop_of_length_le (Nat.le_refl _)]; simp [plF])
      go_wp2_with fail
      go_ret
      exact ⟨_, rfl, by rw [ST.out]; exact HO.out, BE.out⟩
def markR (l : List UInt8) : Nat ⊕ (UInt8 × List UInt8) → Value
  | .inl n => .tuple #[.int .i64 0, .int .i64 0, .int .i64 (n : Int)]
  | .inr (c, r) => .tuple #[.int .i64 ((c.toNat : Nat) : Int), .int .i64 ((l.length - r.length : Nat) : Int), .int .i64 0]
set_option maxHeartbeats 4000000 in
theorem refMark_any (v : Value) (l : List UInt8) (k : Nat) (w : World) (hb : Bs w v l) (hl : l.length ≤ 70368744173568) (hk : k ≤ l.length) :
    Calls Try.prog 33 #[v, .int .i64 (k : Int)] w fun e w' => e = .returned (markR l (markM (l.drop k))) ∧ w = w' := by
  obtain ⟨a, cap, rfl⟩ := hb.len
  have HB := Lib.hid hb
  have HL := Lib.hid hl
  clear hb hl
  by_cases hkl : k < l.length
  rotate_left
  · have M : Hid (markM (l.drop k) = .inl 8) := Lib.hid (by rw [List.drop_of_length_le (by omega)]; rfl)
    have e1 : decide ((l.length : Int) ≤ (k : Int)) = true := by rw [decide_eq_true_eq]; omega
    have e2 : decide (l.length ≤ k) = true := by rw [decide_eq_true_eq]; omega
    clear hkl hk
    go_enter Try.func33, Try.ntmps33
    go_wp2_with fail
    go_ret3
    exact ⟨by rw [M.out]; rfl, rfl⟩
  obtain ⟨b, off, rfl, hcell⟩ : ∃ b off, a = some ⟨b, off, none⟩ ∧ ∀ i (h : i < l.length), w.cell? ⟨b, off + i, none⟩ = some (.int .u8 ((l[i].toNat : Nat) : Int)) := by
    rcases HB.out.shape with ⟨a', c', hv, h0⟩ | ⟨b, off, c', hv, hcc, hp, hx⟩
    · subst h0; simp at hkl
    · simp only [Value.slice.injEq] at hv; exact ⟨b, off, hv.1, hx⟩
  have HCX := Lib.hid hcell
  have d1 := hcell k hkl
  have e1 : decide ((l.length : Int) ≤ (k : Int)) = false := by rw [decide_eq_false_iff_not]; omega
  have e2 : decide (l.length ≤ k) = false := by rw [decide_eq_false_iff_not]; omega
  have e3 : decide (k < l.length) = true := by rw [decide_eq_true_eq]; omega
  have DG := drop_get hkl
  obtain ⟨c, hc⟩ : ∃ c, l[k]'hkl = c := ⟨_, rfl⟩
  rw [hc] at d1 DG
  by_cases h255 : c = 255
  rotate_left
  · have M : Hid (markM (l.drop k) = .inl 2) := Lib.hid (by rw [DG]; exact mark_no _ _ h255)
    have f1 : (((c.toNat : Nat) : Int) == 255) = false := by rw [beq_eq_false_iff_ne]; intro e; exact h255 (UInt8.toNat_inj.1 (by have : (255 : UInt8).toNat = 255 := rfl; omega))
    clear h255 DG hc hcell
    go_enter Try.func33, Try.ntmps33
    go_wp2_with fail
    go_ret3
    exact ⟨by rw [M.out]; rfl, rfl⟩
  · have M : Hid (markM (l.drop k) = aftM (l.drop k)) := Lib.hid (by rw [DG, h255, mark_ff, aft_ff])
    rw [h255] at d1
    have e255 : (((255 : UInt8).toNat : Nat) : Int) = 255 := rfl
    rw [e255] at d1
    rw [M.out]
    obtain ⟨m, hm⟩ : ∃ m, aftM (l.drop k) = m := ⟨_, rfl⟩
    rw [hm]
    have HM := Lib.hid hm
    have HKL := Lib.hid hk
    clear h255 DG hc hcell e255 hm
    go_enter Try.func33, Try.ntmps33
    go_wp2_with fail
    clear d1 e1 e2 e3
    go_loop [1] (fun i => ∃ j : Nat, j ≤ l.length ∧ i = .int .i64 j ∧ aftM (l.drop j) = m) (fun i => l.length - (intOf i).toNat)
    case atStart => exact ⟨k, HKL.out, rfl, HM.out⟩
    case round =>
      obtain ⟨j, hj, rfl, ha⟩ := hrel
      by_cases hjl : j < l.length
      · have hj1 : j < 70368744173568 := by have := HL.out; omega
        have e1 : decide ((j : Int) < (l.length : Int)) = true := by rw [decide_eq_true_eq]; omega
        have e2 : decide (j < l.length) = true := by rw [decide_eq_true_eq]; omega
        have e3 : decide ((l.length : Int) ≤ (j : Int)) = false := by rw [decide_eq_false_iff_not]; omega
        have e4 : decide (l.length ≤ j) = false := by rw [decide_eq_false_iff_not]; omega
        have d1 := HCX.out j hjl
        rw [drop_get hjl] at ha
        obtain ⟨c, hc⟩ : ∃ c, l[j]'hjl = c := ⟨_, rfl⟩
        rw [hc] at d1 ha
        by_cases h255 : c = 255
        · rw [h255, aft_ff] at ha
          rw [h255] at d1
          have e255 : (((255 : UInt8).toNat : Nat) : Int) = 255 := rfl
          rw [e255] at d1
          have HA := Lib.hid ha
          clear h255 hc ha e255
          go_wp2_with fail
          go_round
          case rel => exact ⟨j + 1, by omega, by go_num, HA.out⟩
          case measure => simp [intOf]; omega
        · rw [aft_no _ _ h255] at ha
          have HA := Lib.hid ha
          have f1 : (((c.toNat : Nat) : Int) == 255) = false := by rw [beq_eq_false_iff_ne]; intro e; exact h255 (UInt8.toNat_inj.1 (by have : (255 : UInt8).toNat = 255 := rfl; omega))
          have f3 : wrap64 ((j : Int) + 1) = ((j + 1 : Nat) : Int) := by rw [IntWalk.wrap64_in _ (by omega)]; omega
          have MR : Hid (markR l (.inr (c, l.drop (j + 1))) = .tuple #[.int .i64 (wrap64 ((c.toNat : Nat) : Int)), .int .i64 ((j : Int) + 1), .int .i64 0]) := Lib.hid (by
            show Value.tuple #[.int .i64 ((c.toNat : Nat) : Int), .int .i64 ((l.length - (l.drop (j + 1)).length : Nat) : Int), .int .i64 0] = _
            rw [IntWalk.wrap64_in _ (by have := c.toNat_lt; omega), List.length_drop, show l.length - (l.length - (j + 1)) = j + 1 by omega]
            rfl)
          clear h255 hc ha
          go_wp2_with fail
          go_ret3
          rw [← HA.out]
          exact ⟨by rw [MR.out]; rfl, rfl⟩
      · obtain rfl : j = l.length := by omega
        have e1 : decide ((l.length : Int) < (l.length : Int)) = false := by rw [decide_eq_false_iff_not]; omega
        have e3 : decide ((l.length : Int) ≤ (l.length : Int)) = true := by rw [decide_eq_true_eq]; omega
        rw [List.drop_of_length_le (Nat.le_refl _)] at ha
        have HA := Lib.hid ha
        clear ha
        go_wp2_with fail
        go_ret3
        rw [← HA.out]
        exact ⟨rfl, rfl⟩
end Go.Proofs.Ytlljooncoingnaa
