/- parse.Prices.sound walked: slices.Grow, Concat, IndexFunc, ContainsFunc at the instance of int. By an AI agent. -/
import Derived.Test.YtheomjoadgfkeaaPriceP
import Derived.Lib.AppendZeros
namespace Go.Proofs.Ytheomjoadgfkeaa
open Go.RowKit
set_option linter.unusedVariables false
set_option linter.unusedSimpArgs false

set_option maxHeartbeats 1600000 in
theorem grow545 (w : World) : Calls Try.prog 59 #[.slice none 0 0, .int .i64 545] w fun e w' => ∃ cap, e = .returned (.slice (some ⟨w.heap.size, 0, none⟩) 0 cap) ∧ 545 ≤ cap ∧ w'.ownsRow w.heap.size 3 1 (.slice (some ⟨w.heap.size, 0, none⟩) 0 cap) 0 [] ∧ Below w.heap.size w w' ∧ w.heap.size < w'.heap.size := by
  obtain ⟨i, hi, hz, hsz, hby⟩ := tyIC.hi
  have hr := Lib.run_append_nil_zeros (P := Try.prog) w 23 3 23 3 i (.int .i64 0) .i64 .i64 tyIC.ht Try.underlying3 hi hz 545 (by omega) (by omega) (by omega) (by omega)
  have hge := grownCap_ge w 545 0 3
  have hle := grownCap_le_maxLen w 545 0 3 (by unfold maxLen; omega)
  generalize hK : grownCap w 545 0 3 = K at *
  have HO : Hid (∀ cells : Array Value, cells.size = K → (w.drew.alloc (.cells cells 3)).ownsRow w.heap.size 3 1 (.slice (some ⟨w.heap.size, 0, none⟩) 0 K) 0 []) := Lib.hid (fun cells hc => by
    exact World.ownsRow_made (w := w.drew) cells K (by show w.heap.size ≤ w.heap.size; exact Nat.le_refl _) hle (by rw [hc]; omega))
  have hcells : Hid ((Builtin.zeroCells (Value.int .i64 0).cells 545 ++ Builtin.zeroCells (Value.int .i64 0).cells (K - 545)).size = K) := Lib.hid (by
    simp [Builtin.zeroCells, Value.cells]; omega)
  have HGE := Lib.hid hge
  have HLE := Lib.hid hle
  have d1 : decide (545 ≤ K) = true := by rw [decide_eq_true_eq]; exact hge
  have d2 : decide (0 ≤ K) = true := by rw [decide_eq_true_eq]; omega
  clear hi hz hsz hby hge hle hK
  go_enter Try.func59, Try.ntmps59
  go_wp2_with (at_builtin; refine stop ?_)
  refine unstop (Lib.wpList_append_run _ rfl _ _ _ _ rfl _ _ rfl rfl _ _ hr ?_)
  go_wp2
  go_ret
  exact ⟨K, rfl, HGE.out, HO.out _ hcells.out, ((Below.refl _ _).drew).alloc (Nat.le_refl _) _, by simp⟩
def pk {α : Type} (x y z u : α) (k : Nat) : α := match k with | 0 => x | 1 => y | 2 => z | _ => u
theorem vIs_nil : vIs [] = [] := rfl

set_option maxHeartbeats 3200000 in
theorem concat3 (s1 s2 s3 : Value) (a b c : List Int) (g cap : Nat) (t : TypeId) (fr : Nat × Nat) (w : World) (hg : w.heap[g]? = some (.cells #[s1, s2, s3] t fr)) (h1 : Ns w s1 a) (h2 : Ns w s2 b) (h3 : Ns w s3 c) (ha : a.length = 256) (hb : b.length = 259) (hc : c.length = 30) :
    Calls Try.prog 53 #[.slice (some ⟨g, 0, none⟩) 3 cap] w fun e w' => ∃ v', e = .returned v' ∧ Ns w' v' (a ++ b ++ c) ∧ Below w.heap.size w w' := by
  have c0 : w.cell? ⟨g, 0, none⟩ = some s1 := by rw [cell_of_row w g 0 _ _ _ hg]; rfl
  have c1 : w.cell? ⟨g, 1, none⟩ = some s2 := by rw [cell_of_row w g 1 _ _ _ hg]; rfl
  have c2 : w.cell? ⟨g, 2, none⟩ = some s3 := by rw [cell_of_row w g 2 _ _ _ hg]; rfl
  obtain ⟨a1, k1, rfl⟩ := h1.len
  obtain ⟨a2, k2, rfl⟩ := h2.len
  obtain ⟨a3, k3, rfl⟩ := h3.len
  rw [ha] at c0
  rw [hb] at c1
  rw [hc] at c2
  have H1 := Lib.hid h1
  have H2 := Lib.hid h2
  have H3 := Lib.hid h3
  have HA := Lib.hid ha
  have HB := Lib.hid hb
  have HC := Lib.hid hc
  clear hg h1 h2 h3 ha hb hc
  go_enter Try.func53, Try.ntmps53
  go_wp2_with fail
  go_loopw [3, 5, 11] (fun s _ i w' => ∃ k : Nat, k ≤ 3 ∧ i = .int .i64 k ∧ s = .int .i64 (pk 0 256 515 545 k) ∧ w = w') (fun _ _ i _ => 3 - (intOf i).toNat)
  case atStart => exact ⟨0, by omega, rfl, rfl, rfl⟩
  case round =>
    obtain ⟨k, hk, rfl, rfl, rfl⟩ := hrel
    rcases (by omega : k = 0 ∨ k = 1 ∨ k = 2 ∨ k = 3) with rfl | rfl | rfl | rfl
    · simp only [pk]
      go_wp2_with fail
      go_roundw
      case rel => exact ⟨1, by omega, rfl, rfl, by first | rfl | trivial⟩
      case measure => simp [intOf]
    · simp only [pk]
      go_wp2_with fail
      go_roundw
      case rel => exact ⟨2, by omega, rfl, rfl, by first | rfl | trivial⟩
      case measure => simp [intOf]
    · simp only [pk]
      go_wp2_with fail
      go_roundw
      case rel => exact ⟨3, by omega, rfl, rfl, by first | rfl | trivial⟩
      case measure => simp [intOf]
    · simp only [pk]
      go_wp2_with fail
      refine (grow545 w).mono ?_
      rintro e w1 ⟨cp, rfl, hge, hown, hbel, hsz⟩
      have BEL := Lib.hid hbel
      have OWN := Lib.hid hown
      have HS := Lib.hid hsz
      have HGE := Lib.hid hge
      have C0 := Lib.hid c0
      have C1 := Lib.hid c1
      have C2 := Lib.hid c2
      clear hbel hown hsz hge c0 c1 c2
      go_wp2_with fail
      go_loopw [6, 8, 27] (fun o _ i w' => ∃ k : Nat, k ≤ 3 ∧ i = .int .i64 k ∧ o = .slice (some ⟨w.heap.size, 0, none⟩) (pk 0 256 515 545 k) cp ∧ w'.ownsRow w.heap.size 3 1 (.slice (some ⟨w.heap.size, 0, none⟩) (pk 0 256 515 545 k) cp) (pk 0 256 515 545 k) (vIs (pk [] a (a ++ b) (a ++ b ++ c) k)) ∧ Below w.heap.size w w') (fun _ _ i _ => 3 - (intOf i).toNat)
      case atStart => exact ⟨0, by omega, rfl, rfl, OWN.out, BEL.out⟩
      case round =>
        obtain ⟨k, hk, rfl, rfl, hown, hbel⟩ := hrel
        have OW := Lib.hid hown
        have BE := Lib.hid hbel
        rename_i W
        have e0 := cell_old hbel C0.out
        have e1 := cell_old hbel C1.out
        have e2 := cell_old hbel C2.out
        clear hown hbel
        rcases (by omega : k = 0 ∨ k = 1 ∨ k = 2 ∨ k = 3) with rfl | rfl | rfl | rfl
        · simp only [pk] at OW ⊢
          go_wp2_with (at_builtin; refine stop ?_)
          refine unstop (wpList_fit tyIC rfl _ _ rfl w.heap.size w.heap.size 0 cp [] rfl OW.out _ 256 (vIs a) rfl (by have := SlN.old H1.out BE.out; rw [HA.out] at this; exact this) (vIs_one a) (by have := HGE.out; omega) ?_)
          intro w2 hown2 hg2
          have HB2 := Lib.hid (run_app_below (w0 := w) OW.out hg2 BE.out (Nat.le_refl _))
          have HO2 := Lib.hid hown2
          clear hown2 hg2
          go_wp2_with fail
          go_roundw
          case rel => exact ⟨1, by omega, rfl, rfl, HO2.out, HB2.out⟩
          case measure => simp [intOf]
        · simp only [pk] at OW ⊢
          go_wp2_with (at_builtin; refine stop ?_)
          refine unstop (wpList_fit tyIC rfl _ _ rfl w.heap.size w.heap.size 256 cp (vIs a) rfl OW.out _ 259 (vIs b) rfl (by have := SlN.old H2.out BE.out; rw [HB.out] at this; exact this) (vIs_one b) (by have := HGE.out; omega) ?_)
          intro w2 hown2 hg2
          have HB2 := Lib.hid (run_app_below (w0 := w) OW.out hg2 BE.out (Nat.le_refl _))
          have HO2 := Lib.hid hown2
          clear hown2 hg2
          go_wp2_with fail
          go_roundw
          case rel => exact ⟨2, by omega, rfl, rfl, by have h := HO2.out; rw [← vIs_append] at h; exact h, HB2.out⟩
          case measure => simp [intOf]
        · simp only [pk] at OW ⊢
          go_wp2_with (at_builtin; refine stop ?_)
          refine unstop (wpList_fit tyIC rfl _ _ rfl w.heap.size w.heap.size 515 cp (vIs (a ++ b)) rfl OW.out _ 30 (vIs c) rfl (by have := SlN.old H3.out BE.out; rw [HC.out] at this; exact this) (vIs_one c) (by have := HGE.out; omega) ?_)
          intro w2 hown2 hg2
          have HB2 := Lib.hid (run_app_below (w0 := w) OW.out hg2 BE.out (Nat.le_refl _))
          have HO2 := Lib.hid hown2
          clear hown2 hg2
          go_wp2_with fail
          go_roundw
          case rel => exact ⟨3, by omega, rfl, rfl, by have h := HO2.out; rw [← vIs_append] at h; exact h, HB2.out⟩
          case measure => simp [intOf]
        · simp only [pk] at OW ⊢
          go_wp2_with fail
          go_ret
          refine ⟨_, rfl, ?_, BE.out⟩
          have h := sl_of_owns OW.out
          have hl : (a ++ b ++ c).length = 545 := by rw [List.length_append, List.length_append, HA.out, HB.out, HC.out]
          unfold Ns
          rw [hl]; exact h
theorem bad_any (x : Int) (w : World) : Calls Try.prog 51 #[.int .i64 x] w fun e w' => e = .returned (.bool (!okP x)) ∧ w = w' := by
  have c : (decide (x < 0) = true ∧ okP x = false) ∨ (decide (x < 0) = false ∧ decide (1048576 < x) = true ∧ okP x = false) ∨ (decide (x < 0) = false ∧ decide (1048576 < x) = false ∧ okP x = true) := by
    unfold okP
    simp only [decide_eq_true_eq, decide_eq_false_iff_not]
    omega
  rcases c with ⟨g1, g⟩ | ⟨g1, g2, g⟩ | ⟨g1, g2, g⟩
  all_goals
    rw [g]
    clear g
    go_enter Try.func51, Try.ntmps51
    go_wp2_with fail
    go_ret
    exact ⟨rfl, rfl⟩

set_option maxHeartbeats 1600000 in
theorem indexBad (v : Value) (l : List Int) (w : World) (hb : Ns w v l) (hl : l.length ≤ 140737488355328) :
    Calls Try.prog 58 #[v, .func (.func 51) #[] #[]] w fun e w' => (∃ r : Int, e = .returned (.int .i64 r) ∧ decide (0 ≤ r) = !withinL l) ∧ w = w' := by
  obtain ⟨av, cap, rfl, hcell⟩ := hb.read
  have HC := Lib.hid hcell
  have HL := Lib.hid hl
  clear hb hcell hl
  go_enter Try.func58, Try.ntmps58
  go_wp2_with fail
  go_loopw [5, 8] (fun _ i w' => ∃ k : Nat, k ≤ l.length ∧ i = .int .i64 k ∧ withinL (l.take k) = true ∧ w = w') (fun _ i _ => l.length - (intOf i).toNat)
  case atStart => exact ⟨0, Nat.zero_le _, rfl, by simp [withinL], rfl⟩
  case round =>
    obtain ⟨k, hk, rfl, heq, rfl⟩ := hrel
    have HEQ := Lib.hid heq
    clear heq
    by_cases hkl : k < l.length
    · have hkb : k < 140737488355328 := by have := HL.out; omega
      obtain ⟨b, off, rfl, hc⟩ := HC.out k hkl
      have hs : Hid (withinL (l.take (k + 1)) = (withinL (l.take k) && okP l[k])) := Lib.hid (by
        unfold withinL; rw [List.take_succ_eq_append_getElem hkl, List.all_append]; simp only [List.all_cons, List.all_nil, Bool.and_true])
      have hne : Hid (okP l[k] = false → withinL l = false) := Lib.hid (fun h => by
        rw [withinL, List.all_eq_false]
        exact ⟨l[k], List.getElem_mem hkl, by simp [h]⟩)
      generalize l[k] = x at *
      have hbad := bad_any x w
      have f1 : decide ((k : Int) < (l.length : Int)) = true := by rw [decide_eq_true_eq]; omega
      have f1' : decide (k < l.length) = true := by rw [decide_eq_true_eq]; omega
      cases hx : okP x
      · rw [hx] at hbad
        have HD : Hid (withinL l = false) := Lib.hid (hne.out hx)
        clear hne hx
        go_wp2_with fail
        refine hbad.mono ?_
        rintro e w1 ⟨rfl, rfl⟩
        go_wp2_with fail
        go_ret
        exact ⟨⟨_, rfl, by rw [HD.out]; simp⟩, rfl⟩
      · rw [hx] at hbad
        have G := Lib.hid hx
        clear hne hx
        go_wp2_with fail
        refine hbad.mono ?_
        rintro e w1 ⟨rfl, rfl⟩
        go_wp2_with fail
        go_roundw
        case rel => exact ⟨k + 1, by omega, by go_num, by rw [hs.out, HEQ.out, G.out]; rfl, by first | rfl | trivial⟩
        case measure => simp [intOf]; omega
    · obtain rfl : k = l.length := by omega
      have HD : Hid (withinL l = true) := Lib.hid (by
        have h := HEQ.out
        rw [List.take_length] at h
        exact h)
      have f1 : decide ((l.length : Int) < (l.length : Int)) = false := by rw [decide_eq_false_iff_not]; omega
      go_wp2_with fail
      go_ret
      exact ⟨⟨_, rfl, by rw [HD.out]; rfl⟩, by first | rfl | trivial⟩

set_option maxHeartbeats 1600000 in
theorem containsBad (v : Value) (l : List Int) (w : World) (hb : Ns w v l) (hl : l.length ≤ 140737488355328) :
    Calls Try.prog 52 #[v, .func (.func 51) #[] #[]] w fun e w' => e = .returned (.bool (!withinL l)) ∧ w = w' := by
  have hi := indexBad v l w hb hl
  clear hb hl
  generalize withinL l = x at *
  go_enter Try.func52, Try.ntmps52
  go_wp2_with fail
  refine hi.mono ?_
  rintro e w1 ⟨⟨r, rfl, hr⟩, rfl⟩
  cases x
  all_goals
    simp only [Bool.not_true, Bool.not_false] at hr
    go_wp2_with fail
    go_ret
    exact ⟨rfl, rfl⟩

set_option maxHeartbeats 3200000 in
theorem sound_any (u v x : Value) (a b c : List Int) (w : World) (hu : Ns w u a) (hv : Ns w v b) (hx : Ns w x c) (ha : a.length ≤ 1000) (hb : b.length ≤ 1000) (hc : c.length ≤ 1000) :
    Calls Try.prog 35 #[.agg #[u, v, x]] w fun e w' => e = .returned (.bool (goodP a b c)) ∧ Below w.heap.size w w' := by
  have hw : Below w.heap.size w (w.alloc (.cells #[u, v, x] 38)) := (Below.refl _ _).alloc (Nat.le_refl _) _
  have HU := Lib.hid (hu.old hw)
  have HV := Lib.hid (hv.old hw)
  have HX := Lib.hid (hx.old hw)
  obtain ⟨a1, k1, rfl⟩ := hu.len
  obtain ⟨a2, k2, rfl⟩ := hv.len
  obtain ⟨a3, k3, rfl⟩ := hx.len
  have HW := Lib.hid hw
  have cs : (((a.length : Int) == 256) = false ∧ (a.length == 256) = false ∧ goodP a b c = false) ∨
      (((a.length : Int) == 256) = true ∧ (a.length == 256) = true ∧ ((b.length : Int) == 259) = false ∧ (b.length == 259) = false ∧ goodP a b c = false) ∨
      (((a.length : Int) == 256) = true ∧ (a.length == 256) = true ∧ ((b.length : Int) == 259) = true ∧ (b.length == 259) = true ∧ ((c.length : Int) == 30) = false ∧ (c.length == 30) = false ∧ goodP a b c = false) ∨
      (a.length = 256 ∧ b.length = 259 ∧ c.length = 30 ∧ goodP a b c = withinL (a ++ b ++ c)) := by
    have e1 : ((a.length : Int) == 256) = (a.length == 256) := by rw [Bool.eq_iff_iff, beq_iff_eq, beq_iff_eq]; omega
    have e2 : ((b.length : Int) == 259) = (b.length == 259) := by rw [Bool.eq_iff_iff, beq_iff_eq, beq_iff_eq]; omega
    have e3 : ((c.length : Int) == 30) = (c.length == 30) := by rw [Bool.eq_iff_iff, beq_iff_eq, beq_iff_eq]; omega
    rw [e1, e2, e3]
    by_cases h1 : a.length = 256
    · by_cases h2 : b.length = 259
      · by_cases h3 : c.length = 30
        · simp [goodP, h1, h2, h3, withinL, Bool.and_assoc]
        · simp [goodP, h1, h2, h3]
      · simp [goodP, h1, h2]
    · simp [goodP, h1]
  clear hw hu hv hx ha hb hc
  rcases cs with ⟨d1, d1', h⟩ | ⟨d1, d1', d2, d2', h⟩ | ⟨d1, d1', d2, d2', d3, d3', h⟩ | ⟨d1, d2, d3, h⟩
  · rw [h]
    clear h
    go_enter Try.func35, Try.ntmps35
    go_wp2_with fail
    go_ret
    exact ⟨rfl, HW.out⟩
  · rw [h]
    clear h
    go_enter Try.func35, Try.ntmps35
    go_wp2_with fail
    go_ret
    exact ⟨rfl, HW.out⟩
  · rw [h]
    clear h
    go_enter Try.func35, Try.ntmps35
    go_wp2_with fail
    go_ret
    exact ⟨rfl, HW.out⟩
  · rw [h]
    have HL : Hid ((a ++ b ++ c).length ≤ 1000) := Lib.hid (by rw [List.length_append, List.length_append, d1, d2, d3]; omega)
    have D1 := Lib.hid d1
    have D2 := Lib.hid d2
    have D3 := Lib.hid d3
    rw [d1, d2, d3] at HU HV HX HW
    rw [d1, d2, d3]
    clear h d1 d2 d3
    obtain ⟨x, hxx⟩ : ∃ x, x = withinL (a ++ b ++ c) := ⟨_, rfl⟩
    rw [← hxx]
    have HXX := Lib.hid hxx
    clear hxx
    go_enter Try.func35, Try.ntmps35
    go_wp2_with fail
    refine (concat3 _ _ _ a b c _ _ _ _ _ (heap_new1 _ _ _) (HU.out.old ((Below.refl _ _).alloc (Nat.le_refl _) _)) (HV.out.old ((Below.refl _ _).alloc (Nat.le_refl _) _)) (HX.out.old ((Below.refl _ _).alloc (Nat.le_refl _) _)) D1.out D2.out D3.out).mono ?_
    rintro e w1 ⟨v', rfl, hv', hb1⟩
    have B1 : Hid (Below w.heap.size w w1) := Lib.hid ((HW.out.alloc (by simp) _).trans (hb1.mono (by simp; omega)))
    have HC := containsBad v' _ w1 hv' (by have := HL.out; omega)
    obtain ⟨a4, k4, rfl⟩ := hv'.len
    clear hv' hb1
    rw [← HXX.out] at HC
    clear HXX
    generalize a ++ b ++ c = L at *
    go_wp2_with fail
    refine HC.mono ?_
    rintro e w2 ⟨rfl, rfl⟩
    go_wp2_with fail
    go_ret
    exact ⟨rfl, B1.out⟩
end Go.Proofs.Ytheomjoadgfkeaa
