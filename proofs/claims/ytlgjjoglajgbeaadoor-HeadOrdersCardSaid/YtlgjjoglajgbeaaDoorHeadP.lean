/- The walk of burnishref13.Put at the chapter's head. By an AI agent. -/
import Derived.Test.YtlgjjoglajgbeaaDoorPut
import Derived.Test.YtlgjjoglajgbeaaDoorHead
import Derived.Deep.RegionHeld3
import Derived.Test.YtlgjjoglajgbeaaDoorStep
namespace Go.Proofs.YtlgjjoglajgbeaaDoor
open Go.RowKit
set_option linter.unusedVariables false
set_option linter.unusedSimpArgs false

def threeL : List UInt8 := [0, 0, 0, 3, 0, 0, 0, 1, 2, 0, 0, 0, 0]
theorem number_lit (n : Nat) (N : Int) (hN : N = (n : Int)) (w : World) (hn : n < 256 ^ 4) :
    Calls Tryd.prog 22 #[.int .i64 4, .int .i64 N] w fun e w' => ∃ v, e = .returned (.tuple #[v, .int .i64 0]) ∧ Bs w' v (putL 4 n) ∧ w'.ownsRow w.heap.size 5 1 v 4 (vBs (putL 4 n)) ∧ Below w.heap.size w w' := by
  subst hN; exact number_good 4 n w (by decide) hn
theorem keepA {w V : World} {a2 a3 a4 : Addr} {x y z : Value} (h : V.cell? a2 = some x ∧ V.cell? a3 = some y ∧ V.cell? a4 = some z ∧ Below w.heap.size w V) (o : Obj) :
    (V.alloc o).cell? a2 = some x ∧ (V.alloc o).cell? a3 = some y ∧ (V.alloc o).cell? a4 = some z ∧ Below w.heap.size w (V.alloc o) :=
  have hb : Below V.heap.size V (V.alloc o) := (Below.refl _ _).alloc (Nat.le_refl _) _
  ⟨cell_old hb h.1, cell_old hb h.2.1, cell_old hb h.2.2.1, h.2.2.2.alloc h.2.2.2.size _⟩
theorem lit_ne {w : World} {base : Nat} {e : TypeId} {size : Nat} {v : Value} {n m : Nat} {xs : List Value} (h : w.ownsRow base e size v n xs) : (Value.slice (some ⟨w.heap.size, 0, none⟩) m m).ownBlock ≠ v.ownBlock := by
  intro he
  have := (h.lt w.heap.size (by rw [← he]; rfl)).2
  omega
theorem lit_grown {w w' : World} {cs : List Value} {t : TypeId} {base : Nat} {e : TypeId} {size : Nat} {v : Value} {n m : Nat} {xs : List Value} (hg : (w.alloc (.cells cs.toArray t)).drew.grownBy w' v.ownBlock) (hown : w.ownsRow base e size v n xs) (hn : cs.length = m) (hm : m ≤ 281474976710656) : SlN 1 w' (.slice (some ⟨w.heap.size, 0, none⟩) m m) m cs :=
  ((sl_lit w cs t m hn hm).old (Below.refl _ _).drew).grown hg (.inr (lit_ne hown))
theorem threeV : vBs (putL 4 3) ++ vBs (putL 4 1) ++ [.int .u8 2, .int .u8 0, .int .u8 0, .int .u8 0, .int .u8 0] = vBs threeL := by kernel_rfl
theorem bs_three {w : World} {v : Value} {base : Nat} {e : TypeId} (h : w.ownsRow base e 1 v (8 + 5) (vBs (putL 4 3) ++ vBs (putL 4 1) ++ [.int .u8 2, .int .u8 0, .int .u8 0, .int .u8 0, .int .u8 0])) : Bs w v threeL := by
  have h1 := sl_of_owns h
  rw [threeV] at h1
  exact h1
set_option maxHeartbeats 1600000 in
theorem putThree (w : World) : Calls Tryd.prog 10 #[.agg #[.int .i64 3, .int .i64 1, .int .i64 2, .int .i64 0, .int .i64 0]] w fun e w' => ∃ v, e = .returned v ∧ Bs w' v threeL ∧ Below w.heap.size w w' := by
  go_enter Tryd.func10, Tryd.ntmps10
  go_wp2_with fail
  refine (number_lit 3 3 rfl _ (by decide)).mono ?_; rintro e w1 ⟨v1, rfl, hv1, ho1, hb1⟩
  have hbox : Box w.heap.size 3 1 2 0 0 w1 := (box_of (heap_alloc_new _ _)).old hb1
  have HA1 := Lib.hid hb1
  have hbel : Below w.heap.size w w1 := ((Below.refl _ _).alloc (Nat.le_refl _) _).trans (hb1.mono (by simp))
  have HBOX := Lib.hid hbox
  have HV1 := Lib.hid hv1
  have HE1 := Lib.hid hbel
  obtain ⟨k0, k1, k2, k3, k4⟩ := hbox
  have HS1 : Hid (w.heap.size + 1 ≤ w1.heap.size) := Lib.hid (by have := hb1.size; simpa using this)
  clear hv1 hb1 hbel
  go_wp2_with fail
  refine (number_lit 1 1 rfl _ (by decide)).mono ?_; rintro e w2 ⟨v2, rfl, hv2, _, hb2⟩
  have hbox : Box w.heap.size 3 1 2 0 0 w2 := HBOX.out.old hb2
  have HV12 := Lib.hid (HV1.out.old hb2)
  have HO : Hid (w2.ownsRow (w.heap.size + 1) 5 1 v1 4 (vBs (putL 4 3))) := Lib.hid (by have := owns_old ho1 hb2; simpa using this)
  have hsz : w.heap.size + 1 ≤ w2.heap.size := by have h1 := HS1.out; have := hb2.size; omega
  have HE2 := Lib.hid (HE1.out.trans (hb2.mono HE1.out.size))
  have HA2 := Lib.hid (HA1.out.trans (hb2.mono HA1.out.size))
  have HV2 := Lib.hid hv2
  clear k0 k1 k2 k3 k4 HV1 HE1 hv2 hb2 HBOX ho1
  have hbox2 := Lib.hid hbox
  obtain ⟨k0, k1, k2, k3, k4⟩ := hbox
  go_wp2_with fail
  have h1v := vBs_one (putL 4 1)
  have H1V := Lib.hid h1v
  have HOD : Hid (w2.drew.ownsRow (w.heap.size + 1) 5 1 v1 4 (vBs (putL 4 3))) := Lib.hid (owns_old HO.out (Below.refl _ _).drew)
  have HVD : Hid (Bs w2.drew v2 (putL 4 1)) := Lib.hid (HV2.out.old (Below.refl _ _).drew)
  have HED : Hid (Below w.heap.size w w2.drew) := Lib.hid HE2.out.drew
  have HAD : Hid (Below (w.alloc (.cells #[.int .i64 3, .int .i64 1, .int .i64 2, .int .i64 0, .int .i64 0] 29)).heap.size (w.alloc (.cells #[.int .i64 3, .int .i64 1, .int .i64 2, .int .i64 0, .int .i64 0] 29)) w2.drew) := Lib.hid HA2.out.drew
  have HB0 : Hid (Box w.heap.size 3 1 2 0 0 (w.alloc (.cells #[.int .i64 3, .int .i64 1, .int .i64 2, .int .i64 0, .int .i64 0] 29))) := Lib.hid (box_of (heap_alloc_new _ _))
  have hsa : (w.alloc (.cells #[.int .i64 3, .int .i64 1, .int .i64 2, .int .i64 0, .int .i64 0] 29)).heap.size = w.heap.size + 1 := by simp
  have HSA := Lib.hid hsa
  clear hsa
  have b0 : Box w.heap.size 3 1 2 0 0 w2.drew := hbox2.out.old (Below.refl _ _).drew
  have HSZ : Hid (w.heap.size + 1 ≤ w2.drew.heap.size) := Lib.hid hsz
  clear h1v
  go_region_held3 (fun W => W.cell? ⟨w.heap.size, 2, none⟩ = some (.int .i64 2) ∧ W.cell? ⟨w.heap.size, 3, none⟩ = some (.int .i64 0) ∧ W.cell? ⟨w.heap.size, 4, none⟩ = some (.int .i64 0) ∧ Below w.heap.size w W) (first | exact ⟨b0.2.2.1, b0.2.2.2.1, b0.2.2.2.2, HED.out⟩ | assumption | exact ⟨q2, q3, q4, hbx⟩ | exact keepA (by assumption) _ | go_keep) (first | (refine step_app tyB rfl (.tmp 19) (.tmp 20) rfl (w.heap.size + 1) _ 4 _ rfl HOD.out _ 4 (vBs (putL 4 1)) rfl HVD.out H1V.out (by omega) (by omega) HSZ.out ?_; intro v' w' hown' hg'; have HXA := Lib.hid hown'; have hby := run_app_below HOD.out hg' HAD.out (Nat.le_of_eq HSA.out); have hbx := run_app_below HOD.out hg' HED.out (Nat.le_succ _); obtain ⟨_, _, q2, q3, q4⟩ := HB0.out.old hby; have HYA := Lib.hid hby; have HEA := Lib.hid hbx; have HZA : Hid (w.heap.size + 1 ≤ w'.heap.size) := Lib.hid (by have h1 := hby.size; have h2 := HSA.out; omega); clear hown' hg') | (refine step_app tyB rfl (.tmp 21) (.tmp 31) rfl (w.heap.size + 1) _ 8 _ rfl (owns_old HXA.out ((Below.refl _ _).alloc (Nat.le_refl _) _)) _ 5 _ rfl (sl_lit _ _ _ 5 rfl (by omega)) (by intro u hu; simp at hu; rcases hu with rfl | rfl | rfl | rfl | rfl <;> rfl) (by omega) (by omega) (Nat.le_trans HZA.out (by simp)) ?_; intro v9 w9 hown9 hg9; have HX9 := Lib.hid hown9; have hby9 := run_app_below (owns_old HXA.out ((Below.refl _ _).alloc (Nat.le_refl _) _)) hg9 (HYA.out.alloc HYA.out.size _) (Nat.le_of_eq HSA.out); have hbx := run_app_below (owns_old HXA.out ((Below.refl _ _).alloc (Nat.le_refl _) _)) hg9 (HEA.out.alloc HEA.out.size _) (Nat.le_succ _); obtain ⟨_, _, q2, q3, q4⟩ := HB0.out.old hby9; clear hown9 hg9) | (refine step_app tyB rfl (.tmp 19) (.tmp 20) rfl (w.heap.size + 1) v1 4 (vBs (putL 4 3)) rfl (owns_old HO.out ((Below.refl _ _).alloc (Nat.le_refl _) _).drew) v2 4 (vBs (putL 4 1)) rfl (HV2.out.old ((Below.refl _ _).alloc (Nat.le_refl _) _).drew) H1V.out (by omega) (by omega) (Nat.le_trans hsz (by simp)) ?_; intro v' w' hown' hg'; have HXB := Lib.hid hown'; have HLIT : Hid (SlN 1 w' (.slice (some ⟨w2.heap.size, 0, none⟩) 5 5) 5 [.int .u8 2, .int .u8 0, .int .u8 0, .int .u8 0, .int .u8 0]) := Lib.hid (lit_grown hg' HO.out rfl (by omega)); have hby := run_app_below (owns_old HO.out ((Below.refl _ _).alloc (Nat.le_refl _) _).drew) hg' (HA2.out.alloc HA2.out.size _).drew (Nat.le_of_eq HSA.out); have hbx := run_app_below (owns_old HO.out ((Below.refl _ _).alloc (Nat.le_refl _) _).drew) hg' (HE2.out.alloc HE2.out.size _).drew (Nat.le_succ _); obtain ⟨_, _, q2, q3, q4⟩ := HB0.out.old hby; have HYA := Lib.hid hby; have HEA := Lib.hid hbx; have HZA : Hid (w.heap.size + 1 ≤ w'.heap.size) := Lib.hid (by have h1 := hby.size; have h2 := HSA.out; omega); clear hown' hg') | (refine step_app tyB rfl (.tmp 21) (.tmp 31) rfl (w.heap.size + 1) v' 8 (vBs (putL 4 3) ++ vBs (putL 4 1)) rfl HXB.out (.slice (some ⟨w2.heap.size, 0, none⟩) 5 5) 5 [.int .u8 2, .int .u8 0, .int .u8 0, .int .u8 0, .int .u8 0] rfl HLIT.out (by intro u hu; simp at hu; rcases hu with rfl | rfl | rfl | rfl | rfl <;> rfl) (by omega) (by omega) HZA.out ?_; intro v9 w9 hown9 hg9; have HX9 := Lib.hid hown9; have hby9 := run_app_below HXB.out hg9 HYA.out (Nat.le_of_eq HSA.out); have hbx := run_app_below HXB.out hg9 HEA.out (Nat.le_succ _); obtain ⟨_, _, q2, q3, q4⟩ := HB0.out.old hby9; clear hown9 hg9) | fail)
  all_goals
    have HF := (show _ ∧ _ ∧ _ ∧ Below w.heap.size w _ by assumption).2.2.2
    have HB9 := bs_three HX9.out
    go_wp2_with fail
    go_ret
    exact ⟨_, rfl, HB9, HF⟩
end Go.Proofs.YtlgjjoglajgbeaaDoor
