/- The walk of turn.Undo; a turn behind a turn, of blocks, in plain Lean. By an AI agent. -/
import Derived.Test.YtnhalnjdlkdnkaaTurnW
import Derived.Test.YtnhalnjdlkdnkaaTurnR
namespace Go.Proofs.Ytnhalnjdlkdnkaa
open Go.RowKit
set_option linter.unusedVariables false
set_option linter.unusedSimpArgs false

/-- the turn that undoes a turn -/
def undoN (t : Int) : Nat := if t = 5 then 6 else if t = 6 then 5 else if 0 ≤ t ∧ t ≤ 7 then t.toNat else 0
theorem undo_facts (t : Int) (h : 0 ≤ t ∧ t ≤ 7) : undoN t ≤ 7 ∧ behindN t (undoN t) = 0 ∧ ∀ k : Nat, k < undoN t → behindN t k ≠ 0 := by
  rcases (by omega : t = 0 ∨ t = 1 ∨ t = 2 ∨ t = 3 ∨ t = 4 ∨ t = 5 ∨ t = 6 ∨ t = 7) with rfl | rfl | rfl | rfl | rfl | rfl | rfl | rfl
  all_goals decide
set_option maxHeartbeats 1600000 in
theorem undo_any (t : Int) (w : World) : Calls Try.prog 26 #[.int .i64 t] w fun e w' => e = .returned (.int .i64 (undoN t : Nat)) ∧ Below w.heap.size w w' := by
  by_cases ht : 0 ≤ t ∧ t ≤ 7
  case neg =>
    have F : Hid (undoN t = 0) := Lib.hid (by unfold undoN; rw [if_neg (by omega), if_neg (by omega), if_neg ht])
    have K := Lib.hid (fun W => known_no t W ht)
    clear ht
    go_enter Try.func26, Try.ntmps26
    go_wp2_with fail
    go_loopw [3] (fun i w' => ∃ k : Nat, k ≤ 8 ∧ i = .int .i64 k ∧ w = w') (fun i _ => 8 - (intOf i).toNat)
    case atStart => exact ⟨0, Nat.zero_le _, rfl, rfl⟩
    case round =>
      obtain ⟨k, hk, rfl, rfl⟩ := hrel
      by_cases hk8 : k < 8
      · have f1 : decide ((k : Int) ≤ 7) = true := by rw [decide_eq_true_eq]; omega
        go_wp2_with fail
        refine (K.out _).mono ?_; rintro e w' ⟨rfl, rfl⟩
        go_wp2_with fail
        go_roundw
        case rel => exact ⟨k + 1, by omega, by go_num, by first | rfl | trivial⟩
        case measure => simp [intOf]; omega
      · obtain rfl : k = 8 := by omega
        go_wp2_with fail
        go_ret
        exact ⟨by rw [F.out]; rfl, Below.refl _ _⟩
  obtain ⟨h1, h2, h3⟩ := undo_facts t ht
  have K := Lib.hid (fun W => known_yes t W ht)
  have BH := Lib.hid (behind_any t)
  obtain ⟨n, hn⟩ : ∃ n, undoN t = n := ⟨_, rfl⟩
  rw [hn] at h1 h2 h3
  rw [hn]
  have H2 := Lib.hid h2
  have H3 := Lib.hid h3
  clear ht hn h2 h3
  go_enter Try.func26, Try.ntmps26
  go_wp2_with fail
  go_loopw [3] (fun i w' => ∃ k : Nat, k ≤ n ∧ i = .int .i64 k ∧ Below w.heap.size w w') (fun i _ => 8 - (intOf i).toNat)
  case atStart => exact ⟨0, Nat.zero_le _, rfl, Below.refl _ _⟩
  case round =>
    obtain ⟨k, hk, rfl, hbl⟩ := hrel
    have HB := Lib.hid hbl
    have f1 : decide ((k : Int) ≤ 7) = true := by rw [decide_eq_true_eq]; omega
    clear hbl
    by_cases hkn : k = n
    · have hz : behindN t (k : Int) = 0 := by rw [hkn]; exact H2.out
      have HZ := Lib.hid hz
      have HKN := Lib.hid hkn
      clear hz hkn
      go_wp2_with fail
      refine (K.out _).mono ?_; rintro e w' ⟨rfl, rfl⟩
      go_wp2_with fail
      refine (BH.out _ _).mono ?_; rintro e w' ⟨rfl, hb⟩
      rw [HZ.out]
      have HB2 := Lib.hid (HB.out.trans (hb.mono HB.out.size))
      clear hb
      go_wp2_with fail
      go_ret
      exact ⟨by rw [HKN.out]; rfl, HB2.out⟩
    · have hz := H3.out k (by omega)
      obtain ⟨z, hz'⟩ : ∃ z, behindN t (k : Int) = z := ⟨_, rfl⟩
      have HZ := Lib.hid hz'
      rw [hz'] at hz
      have e1 : ((z : Int) == 0) = false := by rw [beq_eq_false_iff_ne]; omega
      have e2 : (z == 0) = false := by rw [beq_eq_false_iff_ne]; exact hz
      clear hz hz'
      go_wp2_with fail
      refine (K.out _).mono ?_; rintro e w' ⟨rfl, rfl⟩
      go_wp2_with fail
      refine (BH.out _ _).mono ?_; rintro e w' ⟨rfl, hb⟩
      rw [HZ.out]
      have HB2 := Lib.hid (HB.out.trans (hb.mono HB.out.size))
      clear hb
      go_wp2_with fail
      go_roundw
      case rel => exact ⟨k + 1, by omega, by go_num, HB2.out⟩
      case measure => simp [intOf]; omega
theorem neg_neg64 (x : Int) (h : -9223372036854775808 ≤ x ∧ x ≤ 9223372036854775807) : wrap64 (-wrap64 (-x)) = x := by
  unfold wrap64
  omega
theorem sg2_two (fg og fh oh : Bool) (a b : Nat) (x : Int) (ha : a = 0 ∨ a = 1) (hb : b = 0 ∨ b = 1) (h : -9223372036854775808 ≤ x ∧ x ≤ 9223372036854775807) :
    sg2 fh oh a b (sg2 fg og a b x) = sg2 (fg != fh) (og != oh) a b x := by
  have hn := neg_neg64 x h
  rcases ha with rfl | rfl <;> rcases hb with rfl | rfl <;> cases fg <;> cases og <;> cases fh <;> cases oh <;> simp [sg2, hn]
theorem sg2_swap (f o : Bool) (a b : Nat) (x : Int) (ha : a = 0 ∨ a = 1) (hb : b = 0 ∨ b = 1) : sg2 f o a b x = sg2 o f b a x := by
  rcases ha with rfl | rfl <;> rcases hb with rfl | rfl <;> cases f <;> cases o <;> simp [sg2]
theorem blockL_len (t : Int) (l : List Int) : (blockL t l).length = 64 := by unfold blockL; exact signL_len _ _ _
theorem list64 {l m : List Int} (hl : l.length = 64) (hm : m.length = 64) (h : ∀ x y, x < 8 → y < 8 → l.getD (8 * y + x) 0 = m.getD (8 * y + x) 0) : l = m := by
  apply List.ext_getElem
  · rw [hl, hm]
  · intro i h1 h2
    have h3 := h (i % 8) (i / 8) (by omega) (by omega)
    rw [show 8 * (i / 8) + i % 8 = i by omega] at h3
    simpa [List.getElem?_eq_getElem h1, List.getElem?_eq_getElem h2] using h3
theorem behind_ways (g h : Int) (hg : 0 ≤ g ∧ g ≤ 7) (hh : 0 ≤ h ∧ h ≤ 7) : crossB (behindN g h) = (crossB g != crossB h) ∧ flipB (behindN g h) = ((if crossB h = true then flopB g else flipB g) != flipB h) ∧ flopB (behindN g h) = ((if crossB h = true then flipB g else flopB g) != flopB h) := by
  unfold behindN
  rw [if_pos ⟨hg, hh⟩]
  exact turnN_of _ _ _
/-- a turn behind a turn is the turn that Behind says -/
theorem block_two (g h : Int) (hg : 0 ≤ g ∧ g ≤ 7) (hh : 0 ≤ h ∧ h ≤ 7) (l : List Int) (hin : In64 l) : blockL h (blockL g l) = blockL (behindN g h) l := by
  have hb : ∀ k, -9223372036854775808 ≤ l.getD k 0 ∧ l.getD k 0 ≤ 9223372036854775807 := by
    intro k
    rw [List.getD_eq_getElem?_getD]
    cases hk : l[k]? with
    | none => simp
    | some v => exact hin v (List.mem_of_getElem? hk)
  obtain ⟨w1, w2, w3⟩ := behind_ways g h hg hh
  refine list64 (blockL_len _ _) (blockL_len _ _) (fun x y hx hy => ?_)
  rw [blockL_at h _ x y hx hy, blockL_at (behindN g h) l x y hx hy, w1, w2, w3, blockL_at g l x y hx hy, blockL_at g l y x hy hx]
  have ha : x % 2 = 0 ∨ x % 2 = 1 := by omega
  have hb' : y % 2 = 0 ∨ y % 2 = 1 := by omega
  have b1 := hb (8 * x + y)
  have b2 := hb (8 * y + x)
  generalize l.getD (8 * x + y) 0 = u at *
  generalize l.getD (8 * y + x) 0 = v at *
  generalize x % 2 = a at *
  generalize y % 2 = b at *
  clear w1 w2 w3
  generalize crossB g = cg
  generalize flipB g = fg
  generalize flopB g = og
  generalize crossB h = ch
  generalize flipB h = fh
  generalize flopB h = oh
  cases ch
  · cases cg
    · simpa using sg2_two fg og fh oh a b v ha hb' b2
    · simpa using sg2_two fg og fh oh a b u ha hb' b1
  · cases cg
    · have := sg2_two og fg fh oh a b u ha hb' b1
      rw [sg2_swap og fg a b u ha hb'] at this
      simpa using this
    · have := sg2_two og fg fh oh a b v ha hb' b2
      rw [sg2_swap og fg a b v ha hb'] at this
      simpa using this
end Go.Proofs.Ytnhalnjdlkdnkaa
