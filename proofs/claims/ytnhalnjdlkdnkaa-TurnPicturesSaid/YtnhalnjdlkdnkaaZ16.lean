/- The walks of turn.known, way.turn and turn.Behind. By an AI agent. -/
import Derived.Test.YtnhalnjdlkdnkaaZ05
import Derived.Laws.Tables
import Derived.Deep.QuietTactic
import Derived.BigQuiet
import Derived.Deep.RegionHeld3
namespace Go.Proofs.Ytnhalnjdlkdnkaa
open Go.RowKit
set_option linter.unusedVariables false
set_option linter.unusedSimpArgs false

theorem known_yes (t : Int) (w : World) (h : 0 ≤ t ∧ t ≤ 7) : Calls Try.prog 45 #[.int .i64 t] w fun e w' => e = .returned (.bool true) ∧ w = w' := by
  have c1 : decide (0 ≤ t) = true := by rw [decide_eq_true_eq]; exact h.1
  have c2 : decide (t ≤ 7) = true := by rw [decide_eq_true_eq]; exact h.2
  clear h
  go_enter Try.func45, Try.ntmps45
  go_wp2
  go_ret
  exact ⟨rfl, rfl⟩
theorem known_no (t : Int) (w : World) (h : ¬ (0 ≤ t ∧ t ≤ 7)) : Calls Try.prog 45 #[.int .i64 t] w fun e w' => e = .returned (.bool false) ∧ w = w' := by
  have c : decide (0 ≤ t) = false ∨ (decide (0 ≤ t) = true ∧ decide (t ≤ 7) = false) := by simp only [decide_eq_true_eq, decide_eq_false_iff_not]; omega
  clear h
  rcases c with c1 | ⟨c1, c2⟩
  all_goals
    go_enter Try.func45, Try.ntmps45
    go_wp2
    go_ret
    exact ⟨rfl, rfl⟩
/-- the turn that does so -/
def turnN (c f o : Bool) : Nat := (if c then 4 else 0) + (if o then 2 else 0) + (if f then 1 else 0)
theorem turnN_of : ∀ c f o : Bool, crossB (turnN c f o) = c ∧ flipB (turnN c f o) = f ∧ flopB (turnN c f o) = o := by decide
theorem turnN_one : ∀ c f o : Bool, ∀ k, k < turnN c f o → (crossB k == c && flipB k == f && flopB k == o) = false := by decide
theorem keepW {w W W' : World} {a b d : Addr} {x y z : Value} (h : W.cell? a = some x ∧ W.cell? b = some y ∧ W.cell? d = some z ∧ Below w.heap.size w W) (hb : Below W.heap.size W W') : W'.cell? a = some x ∧ W'.cell? b = some y ∧ W'.cell? d = some z ∧ Below w.heap.size w W' :=
  ⟨cell_old hb h.1, cell_old hb h.2.1, cell_old hb h.2.2.1, h.2.2.2.trans (hb.mono h.2.2.2.size)⟩
set_option maxHeartbeats 3200000 in
theorem wayTurn_any (c f o : Bool) (w : World) : Calls Try.prog 49 #[wayV c f o] w fun e w' => e = .returned (.int .i64 (turnN c f o : Nat)) ∧ Below w.heap.size w w' := by
  obtain ⟨n, hn⟩ : ∃ n, turnN c f o = n := ⟨_, rfl⟩
  have hn7 : n ≤ 7 := by rw [← hn]; cases c <;> cases f <;> cases o <;> decide
  have T1 := turnN_of c f o
  have T2 := turnN_one c f o
  rw [hn] at T1 T2
  rw [hn]
  have HT1 := Lib.hid T1
  have HT2 := Lib.hid T2
  clear T1 T2 hn
  unfold wayV
  go_enter Try.func49, Try.ntmps49
  have hx := heap_alloc_new w (.cells #[.bool c, .bool f, .bool o] 64)
  go_wp2_with fail
  have hcell : (w.alloc (.cells #[.bool c, .bool f, .bool o] 64)).cell? ⟨w.heap.size, 0, none⟩ = some (.bool c) ∧ (w.alloc (.cells #[.bool c, .bool f, .bool o] 64)).cell? ⟨w.heap.size, 1, none⟩ = some (.bool f) ∧ (w.alloc (.cells #[.bool c, .bool f, .bool o] 64)).cell? ⟨w.heap.size, 2, none⟩ = some (.bool o) ∧ Below w.heap.size w (w.alloc (.cells #[.bool c, .bool f, .bool o] 64)) :=
    ⟨by rw [cell_of_row _ _ 0 _ _ (0, 0) hx]; rfl, by rw [cell_of_row _ _ 1 _ _ (0, 0) hx]; rfl, by rw [cell_of_row _ _ 2 _ _ (0, 0) hx]; rfl, (Below.refl _ _).alloc (Nat.le_refl _) _⟩
  have HC := Lib.hid hcell
  clear hx hcell
  go_loopw [3] (fun i w' => ∃ k : Nat, k ≤ n ∧ i = .int .i64 k ∧ w'.cell? ⟨w.heap.size, 0, none⟩ = some (.bool c) ∧ w'.cell? ⟨w.heap.size, 1, none⟩ = some (.bool f) ∧ w'.cell? ⟨w.heap.size, 2, none⟩ = some (.bool o) ∧ Below w.heap.size w w') (fun i _ => 8 - (intOf i).toNat)
  case atStart => exact ⟨0, Nat.zero_le _, rfl, HC.out⟩
  case round =>
    obtain ⟨k, hk, rfl, hst⟩ := hrel
    have hk7 : decide ((k : Int) ≤ 7) = true := by rw [decide_eq_true_eq]; omega
    have HS := Lib.hid hst
    clear hst HC
    by_cases hkn : k = n
    · obtain ⟨h1, h2, h3⟩ := HT1.out
      have OF := Lib.hid (fun W => by have h := of_any (k : Int) W; rw [hkn, h1, h2, h3] at h; unfold wayV at h; exact h)
      have HK := Lib.hid hkn
      rw [hkn]
      rw [hkn] at hk7
      have e1 : (c == c) = true := by simp
      have e2 : (f == f) = true := by simp
      have e3 : (o == o) = true := by simp
      clear h1 h2 h3 hkn
      go_wp2_with fail
      go_region_held3 (fun W => W.cell? ⟨w.heap.size, 0, none⟩ = some (.bool c) ∧ W.cell? ⟨w.heap.size, 1, none⟩ = some (.bool f) ∧ W.cell? ⟨w.heap.size, 2, none⟩ = some (.bool o) ∧ Below w.heap.size w W) (first | exact keepW HS.out (Below.refl _ _).drew | assumption | exact keepW (by assumption) hbx) (first | (go_at_call 27; refine (OF.out _).mono ?_; rintro e w' ⟨rfl, hbx⟩))
      all_goals
        have HF := (show _ ∧ _ ∧ _ ∧ Below w.heap.size w _ by assumption).2.2.2
        go_wp2_with fail
        go_ret
        exact ⟨rfl, HF⟩
    · have hlt : k < n := by omega
      have OF := Lib.hid (of_any (k : Int))
      have NE := HT2.out k hlt
      obtain ⟨a, ha⟩ : ∃ a, crossB (k : Int) = a := ⟨_, rfl⟩
      obtain ⟨b, hb⟩ : ∃ b, flipB (k : Int) = b := ⟨_, rfl⟩
      obtain ⟨d, hd⟩ : ∃ d, flopB (k : Int) = d := ⟨_, rfl⟩
      rw [ha, hb, hd] at OF NE
      have OFW : Hid (∀ W, Calls Try.prog 27 #[.int .i64 (k : Int)] W fun e w' => e = .returned (.agg #[.bool a, .bool b, .bool d]) ∧ Below W.heap.size W w') := Lib.hid (fun W => OF.out W)
      have cs : (a == c) = false ∨ ((a == c) = true ∧ (b == f) = false) ∨ ((a == c) = true ∧ (b == f) = true ∧ (d == o) = false) := by
        revert NE
        cases a <;> cases c <;> cases b <;> cases f <;> cases d <;> cases o <;> decide
      clear OF NE ha hb hd hkn
      rcases cs with e1 | ⟨e1, e2⟩ | ⟨e1, e2, e3⟩
      all_goals
        go_wp2_with fail
        go_region_held3 (fun W => W.cell? ⟨w.heap.size, 0, none⟩ = some (.bool c) ∧ W.cell? ⟨w.heap.size, 1, none⟩ = some (.bool f) ∧ W.cell? ⟨w.heap.size, 2, none⟩ = some (.bool o) ∧ Below w.heap.size w W) (first | exact keepW HS.out (Below.refl _ _).drew | assumption | exact keepW (by assumption) hbx) (first | (go_at_call 27; refine (OFW.out _).mono ?_; rintro e w' ⟨rfl, hbx⟩))
        all_goals
          have HF := Lib.hid (show _ ∧ _ ∧ _ ∧ Below w.heap.size w _ by assumption)
          go_wp2_with fail
          go_roundw
          case rel => exact ⟨k + 1, by omega, by go_num, HF.out⟩
          case measure => simp [intOf]; omega
/-- the turn that does as much as two -/
def behindN (g h : Int) : Nat := if (0 ≤ g ∧ g ≤ 7) ∧ (0 ≤ h ∧ h ≤ 7) then turnN (crossB g != crossB h) ((if crossB h = true then flopB g else flipB g) != flipB h) ((if crossB h = true then flipB g else flopB g) != flopB h) else 0
set_option maxHeartbeats 3200000 in
theorem behind_any (g h : Int) (w : World) : Calls Try.prog 25 #[.int .i64 g, .int .i64 h] w fun e w' => e = .returned (.int .i64 (behindN g h : Nat)) ∧ Below w.heap.size w w' := by
  by_cases hg : 0 ≤ g ∧ g ≤ 7
  case neg =>
    have F : Hid (behindN g h = 0) := Lib.hid (by unfold behindN; rw [if_neg (fun x => hg x.1)])
    have K := Lib.hid (fun W => known_no g W hg)
    clear hg
    go_enter Try.func25, Try.ntmps25
    go_wp2_with fail
    refine (K.out _).mono ?_; rintro e w' ⟨rfl, rfl⟩
    go_wp2_with fail
    go_ret
    exact ⟨by rw [F.out]; rfl, Below.refl _ _⟩
  by_cases hh : 0 ≤ h ∧ h ≤ 7
  case neg =>
    have F : Hid (behindN g h = 0) := Lib.hid (by unfold behindN; rw [if_neg (fun x => hh x.2)])
    have K := Lib.hid (fun W => known_yes g W hg)
    have K2 := Lib.hid (fun W => known_no h W hh)
    clear hg hh
    go_enter Try.func25, Try.ntmps25
    go_wp2_with fail
    refine (K.out _).mono ?_; rintro e w' ⟨rfl, rfl⟩
    go_wp2_with fail
    refine (K2.out _).mono ?_; rintro e w' ⟨rfl, rfl⟩
    go_wp2_with fail
    go_ret
    exact ⟨by rw [F.out]; rfl, Below.refl _ _⟩
  have K := Lib.hid (fun W => known_yes g W hg)
  have K2 := Lib.hid (fun W => known_yes h W hh)
  have O1 := Lib.hid (of_any g)
  have O2 := Lib.hid (of_any h)
  have F : Hid (behindN g h = turnN (crossB g != crossB h) ((if crossB h = true then flopB g else flipB g) != flipB h) ((if crossB h = true then flipB g else flopB g) != flopB h)) := Lib.hid (by unfold behindN; rw [if_pos ⟨hg, hh⟩])
  obtain ⟨a1, h1⟩ : ∃ a, crossB g = a := ⟨_, rfl⟩
  obtain ⟨b1, h2⟩ : ∃ a, flipB g = a := ⟨_, rfl⟩
  obtain ⟨d1, h3⟩ : ∃ a, flopB g = a := ⟨_, rfl⟩
  obtain ⟨a2, h4⟩ : ∃ a, crossB h = a := ⟨_, rfl⟩
  obtain ⟨b2, h5⟩ : ∃ a, flipB h = a := ⟨_, rfl⟩
  obtain ⟨d2, h6⟩ : ∃ a, flopB h = a := ⟨_, rfl⟩
  rw [h1, h2, h3] at O1
  rw [h4, h5, h6] at O2
  rw [h1, h2, h3, h4, h5, h6] at F
  clear h1 h2 h3 h4 h5 h6 hg hh
  unfold wayV at O1 O2
  cases a2
  all_goals
    go_enter Try.func25, Try.ntmps25
    go_wp2_with fail
    refine (K.out _).mono ?_; rintro e w' ⟨rfl, rfl⟩
    go_wp2_with fail
    refine (K2.out _).mono ?_; rintro e w' ⟨rfl, rfl⟩
    go_wp2_with fail
    refine (O1.out _).mono ?_; rintro e w1 ⟨rfl, hb1⟩
    have B1 := Lib.hid hb1
    clear hb1
    go_wp2_with fail
    refine (O2.out _).mono ?_; rintro e w2 ⟨rfl, hb2⟩
    have B2 := Lib.hid (B1.out.trans (hb2.mono B1.out.size))
    clear hb2
    go_wp2_with fail
    refine (wayTurn_any _ _ _ _).mono ?_; rintro e w3 ⟨rfl, hb3⟩
    have B3 := Lib.hid (((B2.out.alloc B2.out.size _).alloc (Nat.le_trans B2.out.size (by simp)) _).trans (hb3.mono (Nat.le_trans B2.out.size (by simp; omega))))
    clear hb3
    go_wp2_with fail
    go_ret
    refine ⟨?_, B3.out⟩
    rw [F.out]
    clear F
    cases a1 <;> cases b1 <;> cases d1 <;> cases b2 <;> cases d2 <;> rfl
end Go.Proofs.Ytnhalnjdlkdnkaa
