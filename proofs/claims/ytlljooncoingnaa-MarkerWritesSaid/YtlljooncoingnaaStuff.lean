/- The walks of bits.Stuff, Unstuff, of burnishref03.Stuff, Taken. By an AI agent. -/
import Derived.Test.YtlljooncoingnaaSegQ
import Derived.Test.YtlljooncoingnaaOwn
import Derived.BigFrame
import Derived.RegionTactic
import Derived.Handy
namespace Go.Proofs.Ytlljooncoingnaa
open Go.RowKit Go.BigFrame
set_option linter.unusedVariables false
set_option linter.unusedSimpArgs false

/-! ## plain -/
theorem drop_get {l : List UInt8} {k : Nat} (h : k < l.length) : l.drop k = l[k] :: l.drop (k + 1) := List.drop_eq_getElem_cons h
theorem unst_step_plain {l p : List UInt8} {k : Nat} (h : k < l.length) (hc : l[k] ≠ 255) (e : unst l = (p ++ (unst (l.drop k)).1, (unst (l.drop k)).2)) : unst l = ((p ++ [l[k]]) ++ (unst (l.drop (k + 1))).1, (unst (l.drop (k + 1))).2) := by
  rw [e, drop_get h, unst_plain _ _ hc]; simp
theorem unst_step_pair {l p : List UInt8} {k : Nat} (h : k + 1 < l.length) (hc : l[k]'(by omega) = 255) (hd : l[k + 1] = 0) (e : unst l = (p ++ (unst (l.drop k)).1, (unst (l.drop k)).2)) : unst l = ((p ++ [255]) ++ (unst (l.drop (k + 2))).1, (unst (l.drop (k + 2))).2) := by
  rw [e, drop_get (k := k) (by omega), drop_get (k := k + 1) h, hc, hd, unst_pair]; simp
theorem unst_step_last {l p : List UInt8} {k : Nat} (h : k + 1 = l.length) (hc : l[k]'(by omega) = 255) (e : unst l = (p ++ (unst (l.drop k)).1, (unst (l.drop k)).2)) : unst l = (p, l.drop k) := by
  rw [e, drop_get (k := k) (by omega), List.drop_of_length_le (by omega), hc, unst_last]; simp
theorem unst_step_stop {l p : List UInt8} {k : Nat} (h : k + 1 < l.length) (hc : l[k]'(by omega) = 255) (hd : l[k + 1] ≠ 0) (e : unst l = (p ++ (unst (l.drop k)).1, (unst (l.drop k)).2)) : unst l = (p, l.drop k) := by
  rw [e, drop_get (k := k) (by omega), drop_get (k := k + 1) h, hc, unst_stop _ _ hd]; simp
theorem unst_step_end {l p : List UInt8} {k : Nat} (h : l.length ≤ k) (e : unst l = (p ++ (unst (l.drop k)).1, (unst (l.drop k)).2)) : unst l = (p, l.drop k) := by
  rw [e, List.drop_of_length_le h]; simp [unst]
theorem u8_eq {c d : UInt8} : ((c.toNat : Int) = (d.toNat : Int)) ↔ c = d := ⟨fun h => UInt8.toNat_inj.1 (by omega), fun h => by rw [h]⟩
theorem snoc_vBs (p : List UInt8) (c : UInt8) : vBs p ++ [Value.int .u8 (c.toNat : Int)] = vBs (p ++ [c]) := by simp [vBs, vB]
/-- a byte is appended to an own row -/
theorem wpList_appB {w : World} {ops : Array Oper} {rest : List Oper} {o : Oper} {a : Act} {Q : Exit → Act → World → Prop} (hgd : o.guard = none) (s x : Operand)
    (ho : o.op = .call { callee := .builtin .append, args := #[s, x], argTypes := #[22, 22] }) (base : Nat)
    (v : Value) (p : List UInt8) (hs : a.eval s = v) (hown : w.ownsRow base 5 1 v p.length (vBs p)) (B : Nat) (c : UInt8) (hx : a.eval x = .slice (some ⟨B, 0, none⟩) 1 1)
    (hsrc : w.heap[B]? = some (.cells #[.int .u8 (c.toNat : Int)] 5 (0, 0)))
    (hbytes : p.length + 1 ≤ 140737488355328) (hbase : base ≤ w.heap.size)
    (h : ∀ v' w', w'.ownsRow base 5 1 v' (p ++ [c]).length (vBs (p ++ [c])) → w.grownBy w' v.ownBlock → (v' = .slice none 0 0 → False) → wpList Try.prog ops Q rest (a.put o.dst v') w') : wpList Try.prog ops Q (o :: rest) a w :=
  wpList_app tyB hgd s x ho base v p.length (vBs p) hs hown _ 1 [.int .u8 (c.toNat : Int)] hx (sl_heap hsrc rfl (Nat.le_refl _)) (by intro u hu; simp at hu; subst hu; rfl) (by omega) hbytes hbase
    (fun v' w' h1 h2 h3 => h v' w' (by rw [List.length_append, ← snoc_vBs]; exact h1) h2 (fun e => by have := (h3 e).2; omega))

/-! ## walks -/
set_option maxHeartbeats 1600000 in
theorem stuff_any (v : Value) (l : List UInt8) (w : World) (hb : Bs w v l) (hl : l.length ≤ 70368744173568) :
    Calls Try.prog 39 #[v] w fun e w' => ∃ v', e = .returned v' ∧ w'.ownsRow w.heap.size 5 1 v' (stuffL l).length (vBs (stuffL l)) ∧ Below w.heap.size w w' := by
  obtain ⟨a, cap, rfl⟩ := hb.len
  have HB := Lib.hid hb
  have HL := Lib.hid hl
  clear hb hl
  go_enter Try.func39, Try.ntmps39
  go_wp2_with fail
  go_loopw [3, 8] (fun v i W => ∃ k : Nat, k ≤ l.length ∧ i = .int .i64 k ∧ W.ownsRow w.heap.size 5 1 v (stuffL (l.take k)).length (vBs (stuffL (l.take k))) ∧ Below w.heap.size w W) (fun _ i _ => l.length - (intOf i).toNat)
  case atStart => exact ⟨0, Nat.zero_le _, rfl, World.ownsRow_nil _ _ _ _, Below.refl _ _⟩
  case round =>
    obtain ⟨k, hk, rfl, hown, hbel⟩ := hrel
    have HO := Lib.hid hown
    have BE := Lib.hid hbel
    clear hown hbel
    by_cases hkl : k < l.length
    · have hk1 : k < 140737488351232 := by have := HL.out; omega
      have e1 : decide ((k : Int) < (l.length : Int)) = true := by rw [decide_eq_true_eq]; omega
      have e2 : decide (k < l.length) = true := by rw [decide_eq_true_eq]; omega
      obtain ⟨b, off, rfl, hcell⟩ : ∃ b off, a = some ⟨b, off, none⟩ ∧ w.cell? ⟨b, off + k, none⟩ = some (.int .u8 ((l[k].toNat : Nat) : Int)) := by
        rcases HB.out.shape with ⟨a', c', hv, h0⟩ | ⟨b, off, c', hv, hcc, hp, hx⟩
        · subst h0; simp at hkl
        · simp only [Value.slice.injEq] at hv; exact ⟨b, off, hv.1, hx k hkl⟩
      have d1 := cell_old BE.out hcell
      have ST : Hid (stuffL (l.take (k + 1)) = stuffL (l.take k) ++ stuff1 l[k]) := Lib.hid (by
        rw [List.take_succ_eq_append_getElem hkl]; unfold stuffL; rw [List.map_append, List.flatten_append]; simp)
      have LN : Hid ((stuffL (l.take k)).length ≤ 2 * k) := Lib.hid (by have := (stuffL_len (l.take k)).2; rw [List.length_take] at this; omega)
      obtain ⟨c, hc⟩ : ∃ c, l[k] = c := ⟨_, rfl⟩
      rw [hc] at d1 ST
      clear hc hcell
      obtain ⟨p, hp⟩ : ∃ p, stuffL (l.take k) = p := ⟨_, rfl⟩
      rw [hp] at HO ST LN
      clear hp
      have SW : Hid (w.heap.size ≤ wr.heap.size) := Lib.hid BE.out.size
      by_cases h255 : c = 255
      · have f1 : (((c.toNat : Nat) : Int) == 255) = true := by rw [beq_iff_eq, h255]; rfl
        rw [h255] at ST d1
        have S1 : Hid (stuff1 255 = [255, 0]) := Lib.hid rfl
        have e255 : (((255 : UInt8).toNat : Nat) : Int) = 255 := rfl
        rw [e255] at d1
        clear f1 h255 e255
        go_wp2_with (at_builtin; refine stop ?_)
        refine unstop (wpList_appB rfl _ _ rfl w.heap.size _ p rfl (HO.out.alloc _) wr.heap.size 255 rfl (heap_alloc_new _ _) (by have := LN.out; have := HL.out; omega) (by have := SW.out; simp; omega) ?_)
        intro v1 w1 o1 g1 n1
        obtain ⟨p1, hp1⟩ : ∃ p1, p ++ [(255 : UInt8)] = p1 := ⟨_, rfl⟩
        rw [hp1] at o1
        have LP : Hid (p1.length = p.length + 1) := Lib.hid (by rw [← hp1]; simp)
        have ST1 : Hid (stuffL (l.take (k + 1)) = p1 ++ [0]) := Lib.hid (by rw [ST.out, S1.out, ← hp1]; simp)
        obtain ⟨a1, c1, rfl⟩ := owns_len o1
        have O1 := Lib.hid o1
        have B1 : Hid (Below w.heap.size w w1) := Lib.hid (run_app_below (HO.out.alloc _) g1 (BE.out.alloc SW.out _) (Nat.le_refl _))
        clear hp1
        have SW1 : Hid (w.heap.size ≤ w1.heap.size) := Lib.hid B1.out.size
        clear o1 g1 n1
        go_wp2_with (at_builtin; refine stop ?_)
        refine unstop (wpList_appB rfl _ _ rfl w.heap.size _ p1 rfl (O1.out.alloc _) w1.heap.size 0 rfl (heap_alloc_new _ _) (by have := LN.out; have := HL.out; have := LP.out; omega) (by have := SW1.out; simp; omega) ?_)
        intro v2 w2 o2 g2 n2
        rw [← ST1.out] at o2
        obtain ⟨a2, c2, rfl⟩ := owns_len o2
        have O2 := Lib.hid o2
        have B2 : Hid (Below w.heap.size w w2) := Lib.hid (run_app_below (O1.out.alloc _) g2 (B1.out.alloc SW1.out _) (Nat.le_refl _))
        clear o2 g2 n2
        go_wp2_with fail
        go_roundw
        case rel => exact ⟨k + 1, by omega, by go_num, O2.out, B2.out⟩
        case measure => simp [intOf]; omega
      · have f1 : (((c.toNat : Nat) : Int) == 255) = false := by rw [beq_eq_false_iff_ne]; intro e; exact h255 (UInt8.toNat_inj.1 (by have : (255 : UInt8).toNat = 255 := rfl; omega))
        have S1 : Hid (stuff1 c = [c]) := Lib.hid (by unfold stuff1; rw [if_neg h255])
        clear h255
        go_wp2_with (at_builtin; refine stop ?_)
        refine unstop (wpList_appB rfl _ _ rfl w.heap.size _ p rfl (HO.out.alloc _) wr.heap.size c rfl (heap_alloc_new _ _) (by have := LN.out; have := HL.out; omega) (by have := SW.out; simp; omega) ?_)
        intro v1 w1 o1 g1 n1
        rw [show p ++ [c] = stuffL (l.take (k + 1)) by rw [ST.out, S1.out]] at o1
        obtain ⟨a1, c1, rfl⟩ := owns_len o1
        have O1 := Lib.hid o1
        have B1 : Hid (Below w.heap.size w w1) := Lib.hid (run_app_below (HO.out.alloc _) g1 (BE.out.alloc SW.out _) (Nat.le_refl _))
        clear o1 g1 n1
        go_wp2_with fail
        go_roundw
        case rel => exact ⟨k + 1, by omega, by go_num, O1.out, B1.out⟩
        case measure => simp [intOf]; omega
    · obtain rfl : k = l.length := by omega
      have e1 : decide ((l.length : Int) < (l.length : Int)) = false := by rw [decide_eq_false_iff_not]; omega
      rw [List.take_length] at HO
      go_wp2_with fail
      go_ret
      exact ⟨_, rfl, HO.out, BE.out⟩
theorem len_back {l p r : List UInt8} {k : Nat} (h : unst l = (p, l.drop k)) (hk : k ≤ l.length) : l.length - (unst l).2.length = k ∧ (unst l).1 = p := by
  rw [h]; simp; omega
set_option maxHeartbeats 4000000 in
theorem unstuff_any (v : Value) (l : List UInt8) (w : World) (hb : Bs w v l) (hl : l.length ≤ 70368744173568) :
    Calls Try.prog 46 #[v] w fun e w' => ∃ v', e = .returned (.tuple #[v', .int .i64 ((l.length - (unst l).2.length : Nat) : Int)]) ∧ w'.ownsRow w.heap.size 5 1 v' (unst l).1.length (vBs (unst l).1) ∧ Below w.heap.size w w' := by
  obtain ⟨a, cap, rfl⟩ := hb.len
  have HB := Lib.hid hb
  have HL := Lib.hid hl
  clear hb hl
  go_enter Try.func46, Try.ntmps46
  go_wp2_with fail
  go_loopw [4, 5] (fun v i W => ∃ (k : Nat) (p : List UInt8), k ≤ l.length ∧ p.length ≤ k ∧ i = .int .i64 k ∧ W.ownsRow w.heap.size 5 1 v p.length (vBs p) ∧ unst l = (p ++ (unst (l.drop k)).1, (unst (l.drop k)).2) ∧ Below w.heap.size w W) (fun _ i _ => l.length - (intOf i).toNat)
  case atStart => exact ⟨0, [], Nat.zero_le _, Nat.le_refl _, rfl, World.ownsRow_nil _ _ _ _, by simp, Below.refl _ _⟩
  case round =>
    obtain ⟨k, p, hk, hpk, rfl, hown, hun, hbel⟩ := hrel
    have BE := Lib.hid hbel
    have UN := Lib.hid hun
    have LN := Lib.hid hpk
    have SW : Hid (w.heap.size ≤ wr.heap.size) := Lib.hid hbel.size
    obtain ⟨a0, c0, rfl⟩ := owns_len hown
    have HO := Lib.hid hown
    clear hown hbel hun hpk
    by_cases hkl : k < l.length
    · have hk1 : k < 70368744173568 := by have := HL.out; omega
      have e1 : decide ((k : Int) < (l.length : Int)) = true := by rw [decide_eq_true_eq]; omega
      have e2 : decide (k < l.length) = true := by rw [decide_eq_true_eq]; omega
      obtain ⟨b, off, rfl, hcell⟩ : ∃ b off, a = some ⟨b, off, none⟩ ∧ ∀ i (h : i < l.length), w.cell? ⟨b, off + i, none⟩ = some (.int .u8 ((l[i].toNat : Nat) : Int)) := by
        rcases HB.out.shape with ⟨a', c', hv, h0⟩ | ⟨b, off, c', hv, hcc, hp, hx⟩
        · subst h0; simp at hkl
        · simp only [Value.slice.injEq] at hv; exact ⟨b, off, hv.1, hx⟩
      have d1 := cell_old BE.out (hcell k hkl)
      by_cases h255 : l[k] = 255
      · rw [h255] at d1
        have e255 : (((255 : UInt8).toNat : Nat) : Int) = 255 := rfl
        rw [e255] at d1
        by_cases hlast : k + 1 = l.length
        · have ST := Lib.hid (len_back (r := []) (unst_step_last hlast h255 UN.out) hk)
          have f1 : ((k : Int) == (l.length : Int) - 1) = true := by rw [beq_iff_eq]; omega
          have f2 : wrap64 ((l.length : Int) - 1) = (l.length : Int) - 1 := IntWalk.wrap64_in _ (by have := HL.out; omega)
          clear h255 e255 hcell hlast
          go_wp2_with fail
          go_ret2
          exact ⟨_, by rw [ST.out.1]; rfl, by rw [ST.out.2]; exact HO.out, BE.out⟩
        · have hk2 : k + 1 < l.length := by omega
          have d2 := cell_old BE.out (hcell (k + 1) hk2)
          have f1 : ((k : Int) == (l.length : Int) - 1) = false := by rw [beq_eq_false_iff_ne]; omega
          have f2 : wrap64 ((l.length : Int) - 1) = (l.length : Int) - 1 := IntWalk.wrap64_in _ (by have := HL.out; omega)
          have f3 : wrap64 ((k : Int) + 1) = ((k + 1 : Nat) : Int) := by rw [IntWalk.wrap64_in _ (by omega)]; omega
          have f4 : decide (k + 1 < l.length) = true := by rw [decide_eq_true_eq]; exact hk2
          by_cases h0 : l[k + 1] = 0
          · have ST := Lib.hid (unst_step_pair hk2 h255 h0 UN.out)
            rw [h0] at d2
            have e0 : (((0 : UInt8).toNat : Nat) : Int) = 0 := rfl
            rw [e0] at d2
            clear h255 e255 hcell hlast h0 e0
            go_wp2_with (at_builtin; refine stop ?_)
            refine unstop (wpList_appB rfl _ _ rfl w.heap.size _ p rfl (HO.out.alloc _) wr.heap.size 255 rfl (heap_alloc_new _ _) (by have := LN.out; have := HL.out; omega) (by have := SW.out; simp; omega) ?_)
            intro v1 w1 o1 g1 n1
            obtain ⟨p1, hp1⟩ : ∃ p1, p ++ [255] = p1 := ⟨_, rfl⟩
            rw [hp1] at o1
            have LP : Hid (p1.length = p.length + 1) := Lib.hid (by rw [← hp1]; simp)
            have ST1 : Hid (unst l = (p1 ++ (unst (l.drop (k + 2))).1, (unst (l.drop (k + 2))).2)) := Lib.hid (by rw [← hp1]; exact ST.out)
            obtain ⟨a1, c1, rfl⟩ := owns_len o1
            have O1 := Lib.hid o1
            have B1 : Hid (Below w.heap.size w w1) := Lib.hid (run_app_below (HO.out.alloc _) g1 (BE.out.alloc SW.out _) (Nat.le_refl _))
            clear o1 g1 n1 hp1
            go_wp2_with fail
            go_roundw
            case rel => exact ⟨k + 2, p1, by omega, by have := LN.out; have := LP.out; omega, by go_num, O1.out, ST1.out, B1.out⟩
            case measure => simp [intOf]; omega

          · have ST := Lib.hid (len_back (r := []) (unst_step_stop hk2 h255 h0 UN.out) hk)
            obtain ⟨c, hc⟩ : ∃ c, l[k + 1] = c := ⟨_, rfl⟩
            rw [hc] at d2 h0
            have f5 : (((c.toNat : Nat) : Int) == 0) = false := by rw [beq_eq_false_iff_ne]; intro e; exact h0 (UInt8.toNat_inj.1 (by have : (0 : UInt8).toNat = 0 := rfl; omega))
            have f6 : c.toNat ≠ 0 := by intro e; rw [e] at f5; simp at f5
            obtain ⟨cn, hcn⟩ : ∃ n, c.toNat = n := ⟨_, rfl⟩
            rw [hcn] at d2 f5 f6
            clear h255 e255 hcell hlast h0 hc hcn
            go_wp2_with fail
            go_ret2
            exact ⟨_, by rw [ST.out.1]; rfl, by rw [ST.out.2]; exact HO.out, BE.out⟩
      · have ST := Lib.hid (unst_step_plain hkl h255 UN.out)
        obtain ⟨c, hc⟩ : ∃ c, l[k] = c := ⟨_, rfl⟩
        rw [hc] at d1 h255 ST
        have f1 : (((c.toNat : Nat) : Int) == 255) = false := by rw [beq_eq_false_iff_ne]; intro e; exact h255 (UInt8.toNat_inj.1 (by have : (255 : UInt8).toNat = 255 := rfl; omega))
        clear h255 hcell hc
        go_wp2_with (at_builtin; refine stop ?_)
        refine unstop (wpList_appB rfl _ _ rfl w.heap.size _ p rfl (HO.out.alloc _) wr.heap.size c rfl (heap_alloc_new _ _) (by have := LN.out; have := HL.out; omega) (by have := SW.out; simp; omega) ?_)
        intro v1 w1 o1 g1 n1
        obtain ⟨p1, hp1⟩ : ∃ p1, p ++ [c] = p1 := ⟨_, rfl⟩
        rw [hp1] at o1
        have LP : Hid (p1.length = p.length + 1) := Lib.hid (by rw [← hp1]; simp)
        have ST1 : Hid (unst l = (p1 ++ (unst (l.drop (k + 1))).1, (unst (l.drop (k + 1))).2)) := Lib.hid (by rw [← hp1]; exact ST.out)
        obtain ⟨a1, c1, rfl⟩ := owns_len o1
        have O1 := Lib.hid o1
        have B1 : Hid (Below w.heap.size w w1) := Lib.hid (run_app_below (HO.out.alloc _) g1 (BE.out.alloc SW.out _) (Nat.le_refl _))
        clear o1 g1 n1 hp1
        go_wp2_with fail
        go_roundw
        case rel => exact ⟨k + 1, p1, by omega, by have := LN.out; have := LP.out; omega, by go_num, O1.out, ST1.out, B1.out⟩
        case measure => simp [intOf]; omega
    · obtain rfl : k = l.length := by omega
      have e1 : decide ((l.length : Int) < (l.length : Int)) = false := by rw [decide_eq_false_iff_not]; omega
      have ST := Lib.hid (len_back (r := []) (unst_step_end (Nat.le_refl _) UN.out) hk)
      go_wp2_with fail
      go_ret2
      exact ⟨_, by rw [ST.out.1]; rfl, by rw [ST.out.2]; exact HO.out, BE.out⟩
end Go.Proofs.Ytlljooncoingnaa
