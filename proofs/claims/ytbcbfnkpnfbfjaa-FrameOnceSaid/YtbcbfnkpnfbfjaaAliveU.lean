/- alive of chapter 23. By an AI agent. -/
import Derived.Test.YtbcbfnkpnfbfjaaWide
import Derived.Shelf.Abstract
import Derived.Shelf.RegionOpen
namespace Go.Proofs.Ytbcbfnkpnfbfjaa
open Go.RowKit Go.Shelf Go.BigFrame
set_option linter.unusedVariables false
set_option linter.unusedSimpArgs false
attribute [local go_sem] Oper.semAt_some

theorem keepsFrom_keepU {T : Nat} {bs : List Nat} {U : Nat} {A B : World} (h : KeepU bs U A B) (hU : U ≤ T) : KeepsFrom T A B := ⟨h.1, fun k o hk ho _ => (h.2 k (.inr (by omega)) (Array.getElem?_eq_some_iff.1 ho).1).trans ho⟩
theorem keepU_set (bs : List Nat) (U : Nat) (A : World) (b : Nat) (v : Value) (hb : b < U) (hn : b ∉ bs) : KeepU bs U A (A.setCell ⟨b, 0, none⟩ v) :=
  ⟨by simp, fun k hk _ => Go.Deep.blk_setCell_other _ _ _ _ (by simp only; rintro rfl; rcases hk with hk | hk; exact hn hk; omega)⟩
theorem boxed_put {W V : World} {l b : Nat} {t : TypeId} {v : Value} (h : Boxed W b t v) (hs : SameBut l W V) (hb : b ≠ l) : Boxed V b t v := (hs.block b hb).trans h
theorem unitV_len {W : World} {x : Value} {u : List (Int × Int)} (h : UnitV W x u) : ∃ a c, x = .slice a u.length c := by
  rcases h.2 with ⟨a, c, h, _⟩ | ⟨b, o, c, h, _⟩
  · exact ⟨a, c, h⟩
  · exact ⟨_, c, h⟩
/-- the example's data -/
def WD (bp bi : Nat) (W : World) : Prop := W.heap[bp]? = some (.cells wideC 48 (0, 0)) ∧ W.heap[bi]? = some (.cells #[.int .i64 0, .int .i64 1] 3 (0, 0))
theorem wd_data (bp bi : Nat) (bs : List Nat) (h1 : bp ∈ bs) (h2 : bi ∈ bs) (U : Nat) : DataU (WD bp bi) wideP (.slice (some ⟨bp, 0, none⟩) 2 2) (.slice (some ⟨bi, 0, none⟩) 2 2) [0, 1] bs U :=
  ⟨fun W h => wide_pts h.1, fun W h => ns_heap [0, 1] h.2 rfl rfl (Nat.le_refl _), fun W W' h hb => ⟨(hb.block _ (Array.getElem?_eq_some_iff.1 h.1).1).trans h.1, (hb.block _ (Array.getElem?_eq_some_iff.1 h.2).1).trans h.2⟩,
    fun W W' h hk => ⟨(hk.2 _ (.inl h1) (Array.getElem?_eq_some_iff.1 h.1).1).trans h.1, (hk.2 _ (.inl h2) (Array.getElem?_eq_some_iff.1 h.2).1).trans h.2⟩⟩
set_option maxRecDepth 100000 in
set_option maxHeartbeats 8000000 in
theorem alive_any (w : World) : Calls Try.prog 7 #[] w fun e w' => e = .returned (.bool true) ∧ Below w.heap.size w w' := by
  have HPL : Hid (wideP.parts.length ≤ 140737488351232) := Lib.hid (by decide)
  refine (callsIn_wide (n := 6)).1 ?_
  refine callsIn_of_wp_marks Try.func7 rfl trivial ?_ rfl
  simp only [Try.ntmps7, List.size_toArray, List.length_cons, List.length_nil, Nat.reduceAdd, Nat.reduceSub, Array.replicate_succ, Array.replicate_zero, List.push_toArray, List.append_toArray, List.nil_append, List.cons_append]
  refine wpIn_wide.2 ?_
  go_wp2_with fail
  refine (wide_any w).mono ?_
  rintro e w1 ⟨b1, rfl, hb1, hl1, hw1⟩
  have B1 := Lib.hid hw1
  have H1 := Lib.hid hb1
  clear hb1 hl1 hw1
  rw [wideA_eq]
  go_wp2_with fail
  refine (size_any wideP _ _ _ _ _ _ 0 w1 (wide_pts H1.out) HPL.out).mono ?_
  rintro e w2 ⟨rfl, hw2⟩
  have B2 := Lib.hid (B1.out.trans (hw2.mono B1.out.size))
  clear hw2
  rw [wide_size]
  go_wp2_with fail
  refine (wide_any w2).mono ?_
  rintro e w3 ⟨b3, rfl, hb3, hl3, hw3⟩
  have B3 := Lib.hid (B2.out.trans (hw3.mono B2.out.size))
  have H3 := Lib.hid hb3
  clear hb3 hl3 hw3
  rw [wideA_eq]
  go_wp2_with fail
  refine (own_any wideP _ _ _ _ _ _ 0 w3 (wide_pts H3.out) HPL.out).mono ?_
  rintro e w4 ⟨rfl, hw4⟩
  have B4 := Lib.hid (B3.out.trans (hw4.mono B3.out.size))
  clear hw4
  rw [wide_own]
  go_wp2_with fail
  obtain ⟨S, hS⟩ : ∃ S, w4.heap.size = S := ⟨_, rfl⟩
  obtain ⟨W5, hW5⟩ : ∃ W, w4.alloc (.cells #[.int .i64 0] 3) = W := ⟨_, rfl⟩
  have N5 : Hid (Boxed W5 S 3 (.int .i64 0)) := Lib.hid (by rw [← hW5, ← hS]; exact Boxed.new _ _ _)
  have Z5 : Hid (W5.heap.size = S + 1) := Lib.hid (by rw [← hW5, ← hS]; simp)
  have B5 : Hid (Below w.heap.size w W5 ∧ w.heap.size ≤ S) := Lib.hid ⟨by rw [← hW5]; exact B4.out.alloc B4.out.size _, by rw [← hS]; exact B4.out.size⟩
  rw [hW5, hS]
  clear hW5 hS
  refine (wide_any W5).mono ?_
  rintro e w6 ⟨b6, rfl, hb6, hl6, hw6⟩
  have N6 := Lib.hid (boxed_low N5.out hw6 (by have := Z5.out; omega))
  have Z6 : Hid (S + 1 ≤ b6 ∧ S + 1 ≤ w6.heap.size) := Lib.hid (by have := Z5.out; have := hw6.size; omega)
  have B6 := Lib.hid (B5.out.1.trans (hw6.mono B5.out.1.size))
  have H6 := Lib.hid hb6
  clear hb6 hl6 hw6
  rw [wideA_eq]
  go_wp2_with fail
  refine (units_any wideP _ _ _ _ _ _ _ _ _ _).mono ?_
  rintro e w8 ⟨rfl, hw8⟩
  go_wp2_with fail
  rw [← hw8]
  obtain ⟨T6, hT6⟩ : ∃ T, w6.heap.size = T := ⟨_, rfl⟩
  have wz : (w6.alloc (.cells #[.int .i64 0, .int .i64 1] 3)).heap.size = T6 + 1 := by rw [← hT6]; simp
  have bb : Below w6.heap.size w6 w8 := by rw [hw8]; exact (((Below.refl _ _).alloc (Nat.le_refl _) _).alloc (by simp) _).alloc (by simp; omega) _
  have sz8 : w8.heap.size = T6 + 3 := by rw [hw8, ← hT6]; simp
  have x1 : PBox w8 (T6 + 1) wideP (.slice none 0 0) (.slice none 0 0) (.slice none 0 0) (.slice none 0 0) (.slice (some ⟨b6, 0, none⟩) 2 2) (.slice none 0 0) := by
    rw [hw8, ← wz]; exact heap_low (heap_alloc_new _ _) ((Below.refl _ _).alloc (Nat.le_refl _) _)
  have x2 : Boxed w8 (T6 + 1 + 1) 22 (.slice (some ⟨T6, 0, none⟩) 2 2) := by
    rw [hw8, ← hT6]
    have h := Boxed.new ((w6.alloc (.cells #[.int .i64 0, .int .i64 1] 3)).alloc (.cells (vPic wideP (.slice none 0 0) (.slice none 0 0) (.slice none 0 0) (.slice none 0 0) (.slice (some ⟨b6, 0, none⟩) 2 2) (.slice none 0 0)) 27)) 22 (.slice (some ⟨w6.heap.size, 0, none⟩) 2 2)
    simp only [World.size_alloc] at h
    exact h
  have x3 : w8.heap[T6]? = some (.cells #[.int .i64 0, .int .i64 1] 3 (0, 0)) := by
    rw [hw8, ← hT6]; exact heap_low (heap_low (heap_alloc_new _ _) ((Below.refl _ _).alloc (Nat.le_refl _) _)) ((Below.refl _ _).alloc (Nat.le_refl _) _)
  have b6lt : b6 < T6 := by rw [← hT6]; exact (Array.getElem?_eq_some_iff.1 H6.out).1
  have x4 : w8.heap[b6]? = some (.cells wideC 48 (0, 0)) := (bb.block b6 (by omega)).trans H6.out
  have N8 := Lib.hid (boxed_low N6.out bb (by have := Z6.out; omega))
  have B8 := Lib.hid (B6.out.trans (bb.mono B6.out.size))
  have hST : S < T6 ∧ S < b6 := by have := Z6.out; omega
  have HST := Lib.hid hST
  have WB := Lib.hid B5.out.2
  have hbs8 : ∀ b ∈ [b6, T6], b < w8.heap.size := by intro b hb; simp at hb; omega
  rw [hT6]
  clear hw8 bb wz hT6
  refine wpIn_wide.1 (rangeU (n := 6) (by omega) (gf := 24) (lb := #[.pointer (some ⟨T6 + 1 + 1, 0, none⟩), .pointer (some ⟨T6 + 1, 0, none⟩)]) rfl (enters_of Try.func24 (by kernel_rfl) rfl)
    (units_seq (6 - 1) (T6 + 1 + 1) (T6 + 1) [b6, T6] wideP _ _ _ _ _ _ _ [0, 1] (WD b6 T6) w8 (fun U => wd_data b6 T6 [b6, T6] (by simp) (by simp) U) ⟨x4, x3⟩ HPL.out (by decide) x2.cell x1) (Below.refl _ _) (fun _ => rfl) hbs8
    (fun pre V => Boxed V S 3 (.int .i64 ((3 * pre.length : Nat) : Int)) ∧ Below w.heap.size w V) (fun c pre V => False)
    (fun s X Y h hb => ⟨boxed_low h.1 hb (by omega), h.2.trans (hb.mono (by have := WB.out; omega))⟩) (fun c s X Y h hb => h) ⟨N8.out, B8.out⟩ ?round ?done ?stop)
  case round =>
    rintro ll pre x X hl hlX ⟨rec, hrec⟩ ⟨hN, hB⟩ ⟨hlt, hU⟩
    rw [sz8] at hl
    obtain ⟨xa, xc, rfl⟩ := unitV_len hU
    rw [wide_len]
    have hp2 : pre.length < 2 := by rw [wide_n] at hlt; exact hlt
    have HN := Lib.hid hN
    have HB := Lib.hid hB
    obtain ⟨k, hk⟩ : ∃ k, pre.length = k := ⟨_, rfl⟩
    have HK := Lib.hid hk
    rw [hk] at HN hp2
    clear hU hlt hN hB hk x1 x2 x3 x4
    gi_wp2
    refine ⟨KeepsFrom.refl _ _, fun V hV => ?_⟩
    have NV := boxed_put HN.out hV (by omega)
    have n1 := NV.cell
    have n2 := NV.frozen
    have HNV := Lib.hid NV
    have HV := Lib.hid hV
    clear NV hV
    gi_wp2_with fail
    have hx : (3 * (k : Int) + 3) = ((3 * (k + 1) : Nat) : Int) := by omega
    rw [hx]
    refine ⟨keepsFrom_set _ _ _, ?_, ?_, ?_⟩
    · refine KeepU.trans ⟨by have := HV.out.size; omega, fun q hq hlt => HV.out.block q ?_⟩ (keepU_set _ _ V S _ (by omega) (by simp; omega))
      rcases hq with hq | hq
      · have := hbs8 q hq; omega
      · omega
    · rw [List.length_append, HK.out]
      exact Boxed.set _ HNV.out
    · have bv : Below w.heap.size X V := HV.out.below (by have := WB.out; omega)
      exact (HB.out.trans bv).setCell (by have := WB.out; simp only; omega) _
  case done =>
    rintro D pre X hD hDX hfin ⟨hN, hB⟩ hK
    have hp : pre.length = 2 := hfin.trans wide_n
    rw [hp] at hN
    have n1 := hN.cell
    have HX := Lib.hid hK
    have HBX := Lib.hid hB
    clear hK hB x1 x2 x3 x4 hfin
    go_wp2_with fail
    refine ⟨by simp, .inl ⟨_, _, rfl, run_takeDeferred HX.out, ?_⟩⟩
    refine ⟨.bool true, by simp [results, Try.f7, go_sem], rfl, ?_⟩
    exact HBX.out.trans ((sameBut_put _ _ _).below (by have := WB.out; omega))
  case stop =>
    rintro D c pre X hD hDX h hK
    exact h.elim
end Go.Proofs.Ytbcbfnkpnfbfjaa
