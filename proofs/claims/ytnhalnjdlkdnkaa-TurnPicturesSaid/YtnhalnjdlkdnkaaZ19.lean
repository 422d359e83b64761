/- The walk of turn.Undo; a turn behind a turn, of blocks, in plain Lean. By an AI agent. Pictures turned: plain. By an AI agent. turn.Turn: plain. By an AI agent. A region that draws its order and whose last operation is a store that spoils the condition C: all others are held under C, the last one is not. By an AI agent; over the kit's theory of orders. turn.cross walked. By an AI agent. -/
import Derived.Test.YtnhalnjdlkdnkaaZ16
import Derived.Test.YtnhalnjdlkdnkaaZ18
import Derived.Test.YtnhalnjdlkdnkaaZ12
import Derived.Test.YtnhalnjdlkdnkaaZ15
import Derived.Test.YtnhalnjdlkdnkaaZ05
namespace Go.Proofs.Ytnhalnjdlkdnkaa
open Go.RowKit
set_option linter.unusedVariables false
set_option linter.unusedSimpArgs false

/-- the turn that undoes a turn -/
def undoN (t : Int) : Nat := if t = 5 then 6 else if t = 6 then 5 else if 0 ≤ t ∧ t ≤ 7 then t.toNat else 0
theorem undo_facts (t : Int) (h : 0 ≤ t ∧ t ≤ 7) : undoN t ≤ 7 ∧ behindN t (undoN t) = 0 ∧ ∀ k : Nat, k < undoN t → behindN t k ≠ 0 := by
  rcases (by omega : t = 0 ∨ t = 1 ∨ t = 2 ∨ t = 3 ∨ t = 4 ∨ t = 5 ∨ t = 6 ∨ t = 7) with rfl | rfl | rfl | rfl | rfl | rfl | rfl | rfl
  all_goals decide
set_option maxHeartbeats 1600000 in
theorem undo_any (t : Int) (w : World) : Calls Try.prog 26 #[.int .i64 t] w fun e w' => e = .returned (.int .i64 (undoN t : Nat)) ∧ Below w.heap.size w w' := by
  by_cases ht : 0 ≤ t ∧ t ≤ 7
  case neg =>
    have F : Hid (undoN t = 0) := Lib.hid (by unfold undoN; rw [if_neg (by omega), if_neg (by omega), if_neg ht])
    have K := Lib.hid (fun W => known_no t W ht)
    clear ht
    go_enter Try.func26, Try.ntmps26
    go_wp2_with fail
    go_loopw [3] (fun i w' => ∃ k : Nat, k ≤ 8 ∧ i = .int .i64 k ∧ w = w') (fun i _ => 8 - (intOf i).toNat)
    case atStart => exact ⟨0, Nat.zero_le _, rfl, rfl⟩
    case round =>
      obtain ⟨k, hk, rfl, rfl⟩ := hrel
      by_cases hk8 : k < 8
      · have f1 : decide ((k : Int) ≤ 7) = true := by rw [decide_eq_true_eq]; omega
        go_wp2_with fail
        refine (K.out _).mono ?_; rintro e w' ⟨rfl, rfl⟩
        go_wp2_with fail
        go_roundw
        case rel => exact ⟨k + 1, by omega, by go_num, by first | rfl | trivial⟩
        case measure => simp [intOf]; omega
      · obtain rfl : k = 8 := by omega
        go_wp2_with fail
        go_ret
        exact ⟨by rw [F.out]; rfl, Below.refl _ _⟩
  obtain ⟨h1, h2, h3⟩ := undo_facts t ht
  have K := Lib.hid (fun W => known_yes t W ht)
  have BH := Lib.hid (behind_any t)
  obtain ⟨n, hn⟩ : ∃ n, undoN t = n := ⟨_, rfl⟩
  rw [hn] at h1 h2 h3
  rw [hn]
  have H2 := Lib.hid h2
  have H3 := Lib.hid h3
  clear ht hn h2 h3
  go_enter Try.func26, Try.ntmps26
  go_wp2_with fail
  go_loopw [3] (fun i w' => ∃ k : Nat, k ≤ n ∧ i = .int .i64 k ∧ Below w.heap.size w w') (fun i _ => 8 - (intOf i).toNat)
  case atStart => exact ⟨0, Nat.zero_le _, rfl, Below.refl _ _⟩
  case round =>
    obtain ⟨k, hk, rfl, hbl⟩ := hrel
    have HB := Lib.hid hbl
    have f1 : decide ((k : Int) ≤ 7) = true := by rw [decide_eq_true_eq]; omega
    clear hbl
    by_cases hkn : k = n
    · have hz : behindN t (k : Int) = 0 := by rw [hkn]; exact H2.out
      have HZ := Lib.hid hz
      have HKN := Lib.hid hkn
      clear hz hkn
      go_wp2_with fail
      refine (K.out _).mono ?_; rintro e w' ⟨rfl, rfl⟩
      go_wp2_with fail
      refine (BH.out _ _).mono ?_; rintro e w' ⟨rfl, hb⟩
      rw [HZ.out]
      have HB2 := Lib.hid (HB.out.trans (hb.mono HB.out.size))
      clear hb
      go_wp2_with fail
      go_ret
      exact ⟨by rw [HKN.out]; rfl, HB2.out⟩
    · have hz := H3.out k (by omega)
      obtain ⟨z, hz'⟩ : ∃ z, behindN t (k : Int) = z := ⟨_, rfl⟩
      have HZ := Lib.hid hz'
      rw [hz'] at hz
      have e1 : ((z : Int) == 0) = false := by rw [beq_eq_false_iff_ne]; omega
      have e2 : (z == 0) = false := by rw [beq_eq_false_iff_ne]; exact hz
      clear hz hz'
      go_wp2_with fail
      refine (K.out _).mono ?_; rintro e w' ⟨rfl, rfl⟩
      go_wp2_with fail
      refine (BH.out _ _).mono ?_; rintro e w' ⟨rfl, hb⟩
      rw [HZ.out]
      have HB2 := Lib.hid (HB.out.trans (hb.mono HB.out.size))
      clear hb
      go_wp2_with fail
      go_roundw
      case rel => exact ⟨k + 1, by omega, by go_num, HB2.out⟩
      case measure => simp [intOf]; omega
theorem neg_neg64 (x : Int) (h : -9223372036854775808 ≤ x ∧ x ≤ 9223372036854775807) : wrap64 (-wrap64 (-x)) = x := by
  unfold wrap64
  omega
theorem sg2_two (fg og fh oh : Bool) (a b : Nat) (x : Int) (ha : a = 0 ∨ a = 1) (hb : b = 0 ∨ b = 1) (h : -9223372036854775808 ≤ x ∧ x ≤ 9223372036854775807) :
    sg2 fh oh a b (sg2 fg og a b x) = sg2 (fg != fh) (og != oh) a b x := by
  have hn := neg_neg64 x h
  rcases ha with rfl | rfl <;> rcases hb with rfl | rfl <;> cases fg <;> cases og <;> cases fh <;> cases oh <;> simp [sg2, hn]
theorem sg2_swap (f o : Bool) (a b : Nat) (x : Int) (ha : a = 0 ∨ a = 1) (hb : b = 0 ∨ b = 1) : sg2 f o a b x = sg2 o f b a x := by
  rcases ha with rfl | rfl <;> rcases hb with rfl | rfl <;> cases f <;> cases o <;> simp [sg2]
theorem blockL_len (t : Int) (l : List Int) : (blockL t l).length = 64 := by unfold blockL; exact signL_len _ _ _
theorem list64 {l m : List Int} (hl : l.length = 64) (hm : m.length = 64) (h : ∀ x y, x < 8 → y < 8 → l.getD (8 * y + x) 0 = m.getD (8 * y + x) 0) : l = m := by
  apply List.ext_getElem
  · rw [hl, hm]
  · intro i h1 h2
    have h3 := h (i % 8) (i / 8) (by omega) (by omega)
    rw [show 8 * (i / 8) + i % 8 = i by omega] at h3
    simpa [List.getElem?_eq_getElem h1, List.getElem?_eq_getElem h2] using h3
theorem behind_ways (g h : Int) (hg : 0 ≤ g ∧ g ≤ 7) (hh : 0 ≤ h ∧ h ≤ 7) : crossB (behindN g h) = (crossB g != crossB h) ∧ flipB (behindN g h) = ((if crossB h = true then flopB g else flipB g) != flipB h) ∧ flopB (behindN g h) = ((if crossB h = true then flipB g else flopB g) != flopB h) := by
  unfold behindN
  rw [if_pos ⟨hg, hh⟩]
  exact turnN_of _ _ _
/-- a turn behind a turn is the turn that Behind says -/
theorem block_two (g h : Int) (hg : 0 ≤ g ∧ g ≤ 7) (hh : 0 ≤ h ∧ h ≤ 7) (l : List Int) (hin : In64 l) : blockL h (blockL g l) = blockL (behindN g h) l := by
  have hb : ∀ k, -9223372036854775808 ≤ l.getD k 0 ∧ l.getD k 0 ≤ 9223372036854775807 := by
    intro k
    rw [List.getD_eq_getElem?_getD]
    cases hk : l[k]? with
    | none => simp
    | some v => exact hin v (List.mem_of_getElem? hk)
  obtain ⟨w1, w2, w3⟩ := behind_ways g h hg hh
  refine list64 (blockL_len _ _) (blockL_len _ _) (fun x y hx hy => ?_)
  rw [blockL_at h _ x y hx hy, blockL_at (behindN g h) l x y hx hy, w1, w2, w3, blockL_at g l x y hx hy, blockL_at g l y x hy hx]
  have ha : x % 2 = 0 ∨ x % 2 = 1 := by omega
  have hb' : y % 2 = 0 ∨ y % 2 = 1 := by omega
  have b1 := hb (8 * x + y)
  have b2 := hb (8 * y + x)
  generalize l.getD (8 * x + y) 0 = u at *
  generalize l.getD (8 * y + x) 0 = v at *
  generalize x % 2 = a at *
  generalize y % 2 = b at *
  clear w1 w2 w3
  generalize crossB g = cg
  generalize flipB g = fg
  generalize flopB g = og
  generalize crossB h = ch
  generalize flipB h = fh
  generalize flopB h = oh
  cases ch
  · cases cg
    · simpa using sg2_two fg og fh oh a b v ha hb' b2
    · simpa using sg2_two fg og fh oh a b u ha hb' b1
  · cases cg
    · have := sg2_two og fg fh oh a b u ha hb' b1
      rw [sg2_swap og fg a b u ha hb'] at this
      simpa using this
    · have := sg2_two og fg fh oh a b v ha hb' b2
      rw [sg2_swap og fg a b v ha hb'] at this
      simpa using this
end Go.Proofs.Ytnhalnjdlkdnkaa

namespace Go.Proofs.Ytnhalnjdlkdnkaa
set_option linter.unusedVariables false
set_option linter.unusedSimpArgs false
set_option maxRecDepth 20000

/-- rows and columns of blocks change places; each block is crossed -/
def crB (wd hi : Nat) (bs : List (List Int)) : List (List Int) := (List.range bs.length).map fun j => blockL 4 (bs.getD (j % hi * wd + j / hi) [])
def crTo (wd hi : Nat) (bs : List (List Int)) (i : Nat) : List (List Int) := (List.range bs.length).map fun j => if j % hi * wd + j / hi < i then blockL 4 (bs.getD (j % hi * wd + j / hi) []) else zero64
theorem crTo_len (wd hi : Nat) (bs : List (List Int)) (i : Nat) : (crTo wd hi bs i).length = bs.length := by simp [crTo]
theorem crB_len (wd hi : Nat) (bs : List (List Int)) : (crB wd hi bs).length = bs.length := by simp [crB]
theorem crTo_zero (wd hi : Nat) (bs : List (List Int)) : crTo wd hi bs 0 = List.replicate bs.length zero64 := by
  unfold crTo
  simp only [Nat.not_lt_zero, if_false]
  rw [List.map_const', List.length_range]
theorem src_lt {wd hi j : Nat} (h : j < wd * hi) : j % hi * wd + j / hi < wd * hi := by
  have hh : 0 < hi := by
    rcases Nat.eq_zero_or_pos hi with h0 | h0
    · subst h0; simp at h
    · exact h0
  have h1 := Nat.mod_lt j hh
  have h2 : j / hi < wd := Nat.div_lt_of_lt_mul (by rw [Nat.mul_comm]; exact h)
  rw [Nat.mul_comm wd]
  exact mul_add_lt h1 h2
theorem crTo_full (wd hi : Nat) (bs : List (List Int)) (h : bs.length = wd * hi) : crTo wd hi bs bs.length = crB wd hi bs := by
  unfold crTo crB
  refine List.map_congr_left fun j hj => ?_
  rw [List.mem_range, h] at hj
  rw [if_pos (by rw [h]; exact src_lt hj)]
theorem mod_at {a b c : Nat} (h : c < b) : (a * b + c) % b = c ∧ (a * b + c) / b = a := by
  constructor
  · rw [Nat.mul_comm, Nat.mul_add_mod, Nat.mod_eq_of_lt h]
  · rw [Nat.mul_comm, Nat.mul_add_div (by omega), Nat.div_eq_of_lt h, Nat.add_zero]
theorem src_iff {wd hi i j : Nat} (hj : j < wd * hi) (hi2 : i < wd * hi) : j % hi * wd + j / hi = i ↔ j = i % wd * hi + i / wd := by
  have hh : 0 < hi := by
    rcases Nat.eq_zero_or_pos hi with h0 | h0
    · subst h0; simp at hj
    · exact h0
  have hw : 0 < wd := by
    rcases Nat.eq_zero_or_pos wd with h0 | h0
    · subst h0; simp at hj
    · exact h0
  have q1 : j / hi < wd := Nat.div_lt_of_lt_mul (by rw [Nat.mul_comm]; exact hj)
  have q2 : i / wd < hi := Nat.div_lt_of_lt_mul hi2
  constructor
  · intro e
    obtain ⟨m1, m2⟩ := mod_at (a := j % hi) q1
    rw [e] at m1 m2
    rw [m1, m2, Nat.mul_comm]
    exact (Nat.div_add_mod j hi).symm
  · intro e
    obtain ⟨m1, m2⟩ := mod_at (a := i % wd) q2
    rw [e, m1, m2, Nat.mul_comm]
    exact Nat.div_add_mod i wd
theorem crTo_succ (wd hi : Nat) (bs : List (List Int)) (h : bs.length = wd * hi) (i : Nat) (hi2 : i < bs.length) : crTo wd hi bs (i + 1) = (crTo wd hi bs i).set (i % wd * hi + i / wd) (blockL 4 bs[i]) := by
  apply List.ext_getElem (by simp [crTo])
  intro j h1 h2
  have hj : j < bs.length := by rw [crTo_len] at h1; exact h1
  rw [List.getElem_set]
  by_cases e : i % wd * hi + i / wd = j
  · rw [if_pos e]
    have e2 := (src_iff (by rw [← h]; exact hj) (by rw [← h]; exact hi2)).2 e.symm
    simp only [crTo, List.getElem_map, List.getElem_range, e2]
    rw [if_pos (Nat.lt_succ_self i), List.getD_eq_getElem?_getD, List.getElem?_eq_getElem hi2]
    rfl
  · rw [if_neg e]
    have e2 : j % hi * wd + j / hi ≠ i := fun h' => e ((src_iff (by rw [← h]; exact hj) (by rw [← h]; exact hi2)).1 h').symm
    simp only [crTo, List.getElem_map, List.getElem_range]
    by_cases h3 : j % hi * wd + j / hi < i
    · rw [if_pos h3, if_pos (by omega)]
    · rw [if_neg h3, if_neg (by omega)]
def crossPt (x : PartL) : PartL := { x with h := x.v, v := x.h, wide := x.high, high := x.wide, bs := crB x.wide.toNat x.high.toNat x.bs }
def crossQ (l : List Int) : List Int := if l.length = 64 then crossL l else []
def crossP (P : PicL) : PicL := { P with w := P.h, h := P.w, q0 := crossQ P.q0, q1 := crossQ P.q1, q2 := crossQ P.q2, q3 := crossQ P.q3, parts := P.parts.map crossPt }
/-- left and right change places -/
def flSrc (wd j : Nat) : Nat := j / wd * wd + (wd - 1 - j % wd)
def flR (wd : Nat) (bs : List (List Int)) : List (List Int) := (List.range bs.length).map fun j => bs.getD (flSrc wd j) []
def flB (wd : Nat) (bs : List (List Int)) : List (List Int) := (flR wd bs).map (blockL 1)
def flipPt (x : PartL) : PartL := { x with bs := flB x.wide.toNat x.bs }
def flipP (P : PicL) : PicL := { P with parts := P.parts.map flipPt }
/-- top and bottom change places -/
def opSrc (wd hi j : Nat) : Nat := (hi - 1 - j / wd) * wd + j % wd
def opR (wd hi : Nat) (bs : List (List Int)) : List (List Int) := (List.range bs.length).map fun j => bs.getD (opSrc wd hi j) []
def opB (wd hi : Nat) (bs : List (List Int)) : List (List Int) := (opR wd hi bs).map (blockL 2)
def flopPt (x : PartL) : PartL := { x with bs := opB x.wide.toNat x.high.toNat x.bs }
def flopP (P : PicL) : PicL := { P with parts := P.parts.map flopPt }
/-- blocks turned one after the other -/
def mapTo (f : List Int → List Int) (bs : List (List Int)) (i : Nat) : List (List Int) := (bs.take i).map f ++ bs.drop i
theorem mapTo_len (f : List Int → List Int) (bs : List (List Int)) (i : Nat) : (mapTo f bs i).length = bs.length := by
  unfold mapTo
  rw [List.length_append, List.length_map, List.length_take, List.length_drop]
  omega
theorem mapTo_zero (f : List Int → List Int) (bs : List (List Int)) : mapTo f bs 0 = bs := by simp [mapTo]
theorem mapTo_full (f : List Int → List Int) (bs : List (List Int)) : mapTo f bs bs.length = bs.map f := by simp [mapTo]
theorem mapTo_at (f : List Int → List Int) (bs : List (List Int)) (i : Nat) (h : i < bs.length) : ∃ hb, (mapTo f bs i)[i]'hb = bs[i] := by
  refine ⟨by rw [mapTo_len]; exact h, ?_⟩
  unfold mapTo
  rw [List.getElem_append_right (by rw [List.length_map, List.length_take]; omega)]
  simp only [List.length_map, List.length_take, List.getElem_drop]
  congr 1
  omega
theorem mapTo_succ (f : List Int → List Int) (bs : List (List Int)) (i : Nat) (h : i < bs.length) : mapTo f bs (i + 1) = (mapTo f bs i).set i (f bs[i]) := by
  unfold mapTo
  rw [List.take_succ_eq_append_getElem h, List.map_append, List.set_append_right _ _ (by rw [List.length_map, List.length_take]; omega)]
  rw [List.length_map, List.length_take, Nat.min_eq_left (by omega), Nat.sub_self, List.drop_eq_getElem_cons h, List.append_assoc]
  rfl
end Go.Proofs.Ytnhalnjdlkdnkaa

namespace Go.Proofs.Ytnhalnjdlkdnkaa
set_option linter.unusedVariables false
set_option linter.unusedSimpArgs false
set_option maxRecDepth 20000

theorem cross_max (ps : List PartL) : maxH (ps.map crossPt) = maxV ps ∧ maxV (ps.map crossPt) = maxH ps := by
  unfold maxH maxV
  rw [List.foldl_map, List.foldl_map]
  exact ⟨rfl, rfl⟩
theorem cross_fac (ps : List PartL) : (ps.map crossPt).all facOk = ps.all facOk := by
  rw [List.all_map]
  congr 1
  funext p
  show facOk (crossPt p) = facOk p
  unfold facOk crossPt
  exact Bool.and_comm _ _
theorem cross_size {P : PicL} (F : Fit P) (k : Nat) (hk : k < P.parts.length) : sizeL (crossP P) (k : Int) = ((sizeL P (k : Int)).2, (sizeL P (k : Int)).1) := by
  have hl : k < (crossP P).parts.length := by unfold crossP; simpa using hk
  rw [size_of (P := crossP P) F.h F.w (by show (P.parts.map crossPt).all facOk = true; rw [cross_fac]; exact F.fac) k hl, size_of F.w F.h F.fac k hk]
  obtain ⟨e1, e2⟩ := cross_max P.parts
  show ((((P.parts.map crossPt)[k]'hl).h) * upI P.h (8 * maxH (P.parts.map crossPt)), _ * upI P.w (8 * maxV (P.parts.map crossPt))) = _
  rw [e1, e2]
  have e3 : (P.parts.map crossPt)[k]'hl = crossPt P.parts[k] := List.getElem_map ..
  show (((P.parts.map crossPt)[k]'hl).h * _, ((P.parts.map crossPt)[k]'hl).v * _) = _
  rw [e3]
  rfl
theorem fit_cross {P : PicL} (F : Fit P) : Fit (crossP P) := by
  have hl : (crossP P).parts.length = P.parts.length := by unfold crossP; simp
  refine ⟨by rw [hl]; exact F.n, F.h, F.w, by show (P.parts.map crossPt).all facOk = true; rw [cross_fac]; exact F.fac, fun k hk => ?_⟩
  have hkP : k < P.parts.length := by rw [hl] at hk; exact hk
  obtain ⟨h1, h2, h3, h4⟩ := F.pt k hkP
  have e3 : (crossP P).parts[k] = crossPt P.parts[k] := List.getElem_map ..
  rw [cross_size F k hkP, e3]
  refine ⟨h2, h1, ?_, by simp only; rw [Int.mul_comm]; exact h4⟩
  show ((crB _ _ P.parts[k].bs).length : Int) = _
  rw [crB_len, h3, Int.mul_comm]
theorem flip_kin (P : PicL) : (flipP P).parts.map kin = P.parts.map kin := by
  unfold flipP
  rw [List.map_map]
  rfl
theorem flop_kin (P : PicL) : (flopP P).parts.map kin = P.parts.map kin := by
  unfold flopP
  rw [List.map_map]
  rfl
theorem flB_len (wd : Nat) (bs : List (List Int)) : (flB wd bs).length = bs.length := by simp [flB, flR]
theorem opB_len (wd hi : Nat) (bs : List (List Int)) : (opB wd hi bs).length = bs.length := by simp [opB, opR]
theorem fit_flip {P : PicL} (F : Fit P) : Fit (flipP P) := by
  have hl : (flipP P).parts.length = P.parts.length := by unfold flipP; simp
  refine ⟨by rw [hl]; exact F.n, F.w, F.h, by rw [kin_fac (flip_kin P)]; exact F.fac, fun k hk => ?_⟩
  have hkP : k < P.parts.length := by rw [hl] at hk; exact hk
  have e3 : (flipP P).parts[k] = flipPt P.parts[k] := List.getElem_map ..
  rw [kin_size (flip_kin P) rfl rfl, e3]
  obtain ⟨h1, h2, h3, h4⟩ := F.pt k hkP
  refine ⟨h1, h2, ?_, h4⟩
  show ((flB _ P.parts[k].bs).length : Int) = _
  rw [flB_len]
  exact h3
theorem fit_flop {P : PicL} (F : Fit P) : Fit (flopP P) := by
  have hl : (flopP P).parts.length = P.parts.length := by unfold flopP; simp
  refine ⟨by rw [hl]; exact F.n, F.w, F.h, by rw [kin_fac (flop_kin P)]; exact F.fac, fun k hk => ?_⟩
  have hkP : k < P.parts.length := by rw [hl] at hk; exact hk
  have e3 : (flopP P).parts[k] = flopPt P.parts[k] := List.getElem_map ..
  rw [kin_size (flop_kin P) rfl rfl, e3]
  obtain ⟨h1, h2, h3, h4⟩ := F.pt k hkP
  refine ⟨h1, h2, ?_, h4⟩
  show ((opB _ _ P.parts[k].bs).length : Int) = _
  rw [opB_len]
  exact h3
theorem good_tables {P : PicL} (G : GoodS P) : ∀ j, j < 4 → (qL P j).length = 64 ∨ (qL P j).length = 0 := fun j hj => by
  have h := List.all_eq_true.1 G.qs j (List.mem_range.2 hj)
  unfold quantB at h
  split at h
  · unfold tableB at h
    simp only [Bool.and_eq_true, decide_eq_true_eq] at h
    exact .inl h.1
  · simp only [decide_eq_true_eq] at h
    exact .inr h
theorem crossQ_len (l : List Int) : (crossQ l).length ≤ 64 := by
  unfold crossQ
  split
  · rw [crossL_len]; exact Nat.le_refl _
  · simp
theorem mod_cross {P : PicL} (M : Mod P) : Mod (crossP P) := by
  refine ⟨fun j => ?_, by unfold crossP; simpa using M.n, M.k, fun p hp => ?_, M.d⟩
  · have h : ∀ l, (crossQ l).length ≤ 1000 := fun l => Nat.le_trans (crossQ_len l) (by decide)
    unfold qL
    split
    · exact h _
    · exact h _
    · exact h _
    · exact h _
  · unfold crossP at hp
    simp only [List.mem_map] at hp
    obtain ⟨q, hq, rfl⟩ := hp
    show (crB _ _ q.bs).length ≤ _
    rw [crB_len]
    exact M.b q hq
def tC (c : Bool) (P : PicL) : PicL := if c then crossP P else P
def tF (f : Bool) (P : PicL) : PicL := if f then flipP P else P
def tO (o : Bool) (P : PicL) : PicL := if o then flopP P else P
def tW (f : Bool) (x a : Int) : Int := if f then x - x % a else x
def turnWd (P : PicL) (t : Int) : Int := tW (flipB t) (tC (crossB t) P).w (8 * maxH (tC (crossB t) P).parts)
def turnHi (P : PicL) (t : Int) : Int := tW (flopB t) (tC (crossB t) P).h (8 * maxV (tC (crossB t) P).parts)
def badT (X : PicL) (wd hi : Int) (pf : Bool) : Bool := decide (wd = 0) || decide (hi = 0) || (pf && (decide (wd < X.w) || decide (hi < X.h)))
def turnE (P : PicL) (t : Int) (pf : Bool) : Int := if (goodB P && decide (0 ≤ t ∧ t ≤ 7)) = false then 6 else if badT (tC (crossB t) P) (turnWd P t) (turnHi P t) pf = true then 5 else 0
def turnIn (P : PicL) (t : Int) : PicL := tO (flopB t) (tF (flipB t) (cutL (tC (crossB t) P) 0 0 (turnWd P t) (turnHi P t)))
def turnL (P : PicL) (t : Int) (pf : Bool) : PicL := if turnE P t pf = 0 then turnIn P t else zeroP
theorem turn_zero {P : PicL} {t : Int} {pf : Bool} (he : turnE P t pf ≠ 0) : turnL P t pf = zeroP := by unfold turnL; rw [if_neg he]
theorem tW_in (f : Bool) {x a : Int} (hx : 1 ≤ x) (ha : 1 ≤ a) : 0 ≤ tW f x a ∧ tW f x a ≤ x := by
  unfold tW
  have h1 := Int.emod_nonneg x (show a ≠ 0 by omega)
  have h2 := Int.mul_ediv_add_emod x a
  have h3 : 0 ≤ a * (x / a) := Int.mul_nonneg (by omega) (Int.ediv_nonneg (by omega) (by omega))
  split <;> omega
theorem turn_in {X : PicL} (F : Fit X) {f o pf : Bool} (hb : badT X (tW f X.w (8 * maxH X.parts)) (tW o X.h (8 * maxV X.parts)) pf = false) : In X 0 0 (tW f X.w (8 * maxH X.parts)) (tW o X.h (8 * maxV X.parts)) := by
  obtain ⟨u1, u2⟩ := max_of F.fac F.n.1
  have h1 := tW_in f F.w.1 (show 1 ≤ 8 * maxH X.parts by omega)
  have h2 := tW_in o F.h.1 (show 1 ≤ 8 * maxV X.parts by omega)
  unfold badT at hb
  simp only [Bool.or_eq_false_iff, decide_eq_false_iff_not] at hb
  exact ⟨by omega, by omega, by omega, by omega, by omega, by omega⟩
theorem tC_fit {P : PicL} (F : Fit P) (c : Bool) : Fit (tC c P) := by
  unfold tC
  split
  · exact fit_cross F
  · exact F
theorem tC_mod {P : PicL} (M : Mod P) (c : Bool) : Mod (tC c P) := by
  unfold tC
  split
  · exact mod_cross M
  · exact M
theorem fit_cut {P : PicL} {c r w h : Int} (F : Fit P) (I : In P c r w h) : Fit (cutL P c r w h) := by
  obtain ⟨hw, hh, _, _⟩ := I.sides F
  have hl : (cutL P c r w h).parts.length = P.parts.length := by unfold cutL; simp
  have hW := F.w
  have hH := F.h
  refine ⟨by rw [hl]; exact F.n, ⟨hw.1, by show w ≤ 65535; omega⟩, ⟨hh.1, by show h ≤ 65535; omega⟩, by rw [kin_fac (kin_cut P c r w h)]; exact F.fac, fun k hk => ?_⟩
  have hkP : k < P.parts.length := by rw [hl] at hk; exact hk
  obtain ⟨e1, e2⟩ := cutL_size P c r w h (k : Int)
  have ep := (cut_part P c r w h k hkP).2 hk
  obtain ⟨⟨s1, s2⟩, s3, s4⟩ := cut_sizes F I k hkP
  have gl := gath_len F I k hkP (sizeL (sidesL P w h) (k : Int)).2.toNat (by omega)
  have cp := cut_prod F I k hkP
  have h4 := (F.pt k hkP).2.2.2
  rw [e1, ep]
  refine ⟨rfl, rfl, ?_, by omega⟩
  show ((cutB P.parts[k] c r _ _).length : Int) = _
  rw [cutB_len, gl, Int.natCast_mul, Int.mul_comm, Int.toNat_of_nonneg (by omega), Int.toNat_of_nonneg (by omega)]
theorem tF_fit {P : PicL} (F : Fit P) (f : Bool) : Fit (tF f P) := by
  unfold tF
  split
  · exact fit_flip F
  · exact F
end Go.Proofs.Ytnhalnjdlkdnkaa

namespace Go.Proofs.Ytnhalnjdlkdnkaa
open Go.RowKit
set_option linter.unusedVariables false
set_option linter.unusedSimpArgs false

section
variable {P : Program} {ops : Array Oper} {md : Region.Mode} {C : World → Prop} {Q : Exit → Act → World → Prop}

/-- what has come up had all before it that binds it -/
def ShutL (md : Region.Mode) (ops : Array Oper) (listed : Array Bool) : Prop := ∀ (j : Nat) (o : Oper), ops[j]? = some o → listed.getD j false = true → ∀ e ∈ o.after, Region.binds md e = true → listed.getD e.on false = true
theorem shutL_none (n : Nat) : ShutL md ops (Array.replicate n false) := fun j o _ h => by
  by_cases hj : j < n
  · simp [hj] at h
  · simp [hj] at h
theorem ShutL.put {listed : Array Bool} {j : Nat} (h : ShutL md ops listed) (hj : j ∈ Region.ready md ops listed) : ShutL md ops (listed.setIfInBounds j true) := fun k o ho hk e he hb => by
  by_cases hkj : j = k
  · subst hkj
    obtain ⟨_, o', ho', hall⟩ := mem_ready.1 hj
    rw [ho] at ho'
    obtain rfl := Option.some.inj ho'
    exact getD_set_true (hall e he hb)
  · rw [getD_set_ne false hkj] at hk
    exact getD_set_true (h k o ho hk e he hb)
/-- i must come before j -/
def befB (md : Region.Mode) (ops : Array Oper) (i : Nat) : Nat → Nat → Bool
  | 0, _ => false
  | n + 1, j => match ops[j]? with
    | none => false
    | some o => o.after.any fun e => Region.binds md e && (e.on == i || befB md ops i n e.on)
theorem befB_listed {listed : Array Bool} {i : Nat} (h : ShutL md ops listed) : ∀ (n j : Nat), befB md ops i n j = true → (∀ o, ops[j]? = some o → ∀ e ∈ o.after, Region.binds md e = true → listed.getD e.on false = true) → listed.getD i false = true
  | 0, _, hb, _ => by simp [befB] at hb
  | n + 1, j, hb, hl => by
    unfold befB at hb
    cases ho : ops[j]? with
    | none => rw [ho] at hb; simp at hb
    | some o =>
      rw [ho] at hb
      obtain ⟨e, he, hbe⟩ := Array.any_eq_true'.1 hb
      simp only [Bool.and_eq_true, Bool.or_eq_true, beq_iff_eq] at hbe
      have hon := hl o ho e he hbe.1
      rcases hbe.2 with h1 | h1
      · rw [← h1]; exact hon
      · exact befB_listed h n e.on h1 (fun o' ho' e' he' hb' => h e.on o' ho' hon e' he' hb')
theorem befB_not {listed : Array Bool} {i l n : Nat} (h : ShutL md ops listed) (hb : befB md ops i n l = true) (hi : i ∈ Region.ready md ops listed) : l ∉ Region.ready md ops listed := fun hl => by
  obtain ⟨_, o, ho, hall⟩ := mem_ready.1 hl
  have h1 := befB_listed h n l hb (fun o' ho' e he hbe => by rw [ho] at ho'; obtain rfl := Option.some.inj ho'; exact hall e he hbe)
  have h2 := (mem_ready.1 hi).1
  rcases Nat.lt_or_ge i listed.size with h' | h'
  · simp [h'] at h1 h2; rw [h1] at h2; cases h2
  · simp [Array.getElem?_eq_none h'] at h1
/-- whatever order is picked; C holds behind each operation but the last -/
def wpAnyL (P : Program) (md : Region.Mode) (ops : Array Oper) (Q : Exit → Act → World → Prop) (C : World → Prop) (l : Nat) : Nat → Array Bool → Act → World → Prop
  | 0, listed, a, w => Region.ready md ops listed = [] ∧ Q .normal a w
  | fuel + 1, listed, a, w => (Region.ready md ops listed = [] → Q .normal a w) ∧
    ∀ i ∈ Region.ready md ops listed, wpOp P ops Q i (fun a' w' => (i ≠ l → C w') ∧ wpAnyL P md ops Q C l fuel (listed.setIfInBounds i true) a' w') a w
theorem wpAny_of_L {l : Nat} : ∀ (fuel : Nat) (listed : Array Bool) (a : Act) (w : World), wpAnyL P md ops Q C l fuel listed a w → wpAny P md ops Q fuel listed a w
  | 0, _, _, _, h => h
  | fuel + 1, _, _, _, h => ⟨h.1, fun i hi => wpOp_mono (fun a' w' h' => wpAny_of_L fuel _ a' w' h'.2) (h.2 i hi)⟩
theorem wpAnyL_first {i l nb : Nat} {oi : Oper} {v : Value} (hi : ops[i]? = some oi) (hsel : ∀ (j : Nat) (o : Oper) cs b, ops[j]? = some o → o.op ≠ .select cs b)
    (hQ : ∀ c a w, Q (.panic c) (a.put oi.dst v) w → Q (.panic c) a w) (hb : befB md ops i nb l = true) :
    ∀ (fuel : Nat) (listed : Array Bool) (a : Act) (w : World), ShutL md ops listed →
      (∀ j oj, ops[j]? = some oj → j ≠ i → listed.getD j true = false → (∀ e ∈ oj.after, Region.binds md e = true → e.on ≠ i) → oi.apart ops oj = true) →
      i ∈ Region.ready md ops listed → YieldsIf P ops C oi v a → C w →
      wpAnyL P md ops Q C l fuel (listed.setIfInBounds i true) (a.put oi.dst v) w → wpAnyL P md ops Q C l (fuel + 1) listed a w := by
  intro fuel
  induction fuel with
  | zero =>
    intro listed a w _ _ hr hy hC H
    refine ⟨fun h => (by rw [h] at hr; cases hr), fun j hj => ?_⟩
    by_cases hji : j = i
    · subst hji; exact hy.wpOp hi hC ⟨fun _ => hC, H⟩
    · have := ready_mono hj hji
      rw [H.1] at this
      cases this
  | succ fuel ih =>
    intro listed a w hsh hfree hr hy hC H
    refine ⟨fun h => (by rw [h] at hr; cases hr), fun j hj => ?_⟩
    by_cases hji : j = i
    · subst hji; exact hy.wpOp hi hC ⟨fun _ => hC, H⟩
    · have h1 := H.2 j (ready_mono hj hji)
      have hjl : j ≠ l := fun e => befB_not hsh hb hr (e ▸ hj)
      obtain ⟨hjun, oj, hoj, hall⟩ := mem_ready.1 hj
      have hnot : ∀ e ∈ oj.after, Region.binds md e = true → e.on ≠ i := fun e he hbe heq => by
        have h1 := hall e he hbe
        have h0 := (mem_ready.1 hr).1
        rw [heq] at h1
        rcases Nat.lt_or_ge i listed.size with h' | h'
        · simp [h'] at h0 h1; rw [h0] at h1; cases h1
        · simp [Array.getElem?_eq_none h'] at h1
      have h2 := wpOp_putIf hoj (hfree j oj hoj hji hjun hnot) (fun cs b => hsel i oi cs b hi) (fun cs b => hsel j oj cs b hoj) hQ hy h1
      refine wpOp_mono (fun a' w' h3 => ⟨h3.2.1, ih (listed.setIfInBounds j true) a' w' (hsh.put hj) (fun k ok hk hki hun hno => ?_) (ready_mono hr (Ne.symm hji)) h3.1 (h3.2.1 hjl) ?_⟩) h2
      · refine hfree k ok hk hki ?_ hno
        by_cases hjk : j = k
        · subst hjk; exact hjun
        · rw [getD_set_ne true hjk] at hun; exact hun
      · rw [Array.setIfInBounds_comm _ _ hji]
        exact h3.2.2
def lastB (md : Region.Mode) (ops : Array Oper) (l nb : Nat) : List (Nat × Bool) → Array Bool → Bool
  | [], listed => (Region.ready md ops listed == [l]) && (Region.ready md ops (listed.setIfInBounds l true)).isEmpty
  | (k, true) :: ms, listed => (Region.ready md ops listed).contains k && Region.free md ops listed k && befB md ops k nb l && lastB md ops l nb ms (listed.setIfInBounds k true)
  | (k, false) :: ms, listed => (Region.ready md ops listed == [k]) && lastB md ops l nb ms (listed.setIfInBounds k true)
def wpLast (P : Program) (ops : Array Oper) (C : World → Prop) (Q : Exit → Act → World → Prop) (l : Nat) : List (Nat × Bool) → Act → World → Prop
  | [], a, w => ∃ o, ops[l]? = some o ∧ ∀ K : Act → World → Prop, Shut (∀ a' w', Q .normal a' w' → K a' w') →
      if Region.wanted o (yielded ops a.tmps) = true then Oper.wp P o a w K (strictQ Q) else K (a.put o.dst undef) w
  | (k, true) :: ms, a, w => ∃ o, ops[k]? = some o ∧ ∃ v, YieldsIf P ops C o v a ∧ wpLast P ops C Q l ms (a.put o.dst v) w
  | (k, false) :: ms, a, w => ∃ o, ops[k]? = some o ∧ ∀ K : Act → World → Prop, Shut (∀ a' w', C w' → (C w' → wpLast P ops C Q l ms a' w') → K a' w') →
      if Region.wanted o (yielded ops a.tmps) = true then Oper.wp P o a w K (strictQ Q) else K (a.put o.dst undef) w
theorem last_take {l : List Oper} {e k : Nat} {o : Oper} {ms : List (Nat × Bool)} {a : Act} {w : World} (ho : l[k]? = some o) (h : ∃ v, YieldsIf P l.toArray C o v a ∧ wpLast P l.toArray C Q e ms (a.put o.dst v) w) : wpLast P l.toArray C Q e ((k, true) :: ms) a w := ⟨o, by simpa using ho, h⟩
theorem last_step {l : List Oper} {e k : Nat} {o : Oper} {ms : List (Nat × Bool)} {a : Act} {w : World} (ho : l[k]? = some o) (h : ∀ K : Act → World → Prop, Shut (∀ a' w', C w' → (C w' → wpLast P l.toArray C Q e ms a' w') → K a' w') →
    if Region.wanted o (yielded l.toArray a.tmps) = true then Oper.wp P o a w K (strictQ Q) else K (a.put o.dst undef) w) : wpLast P l.toArray C Q e ((k, false) :: ms) a w := ⟨o, by simpa using ho, h⟩
theorem last_done {l : List Oper} {e : Nat} {o : Oper} {a : Act} {w : World} (ho : l[e]? = some o) (h : ∀ K : Act → World → Prop, Shut (∀ a' w', Q .normal a' w' → K a' w') →
    if Region.wanted o (yielded l.toArray a.tmps) = true then Oper.wp P o a w K (strictQ Q) else K (a.put o.dst undef) w) : wpLast P l.toArray C Q e [] a w := ⟨o, by simpa using ho, h⟩
theorem wpAnyL_last (hsel : Region.noSelect ops = true) {l nb : Nat} : ∀ (ms : List (Nat × Bool)) (listed : Array Bool) (a : Act) (w : World), ShutL md ops listed → lastB md ops l nb ms listed = true → C w → wpLast P ops C Q l ms a w → wpAnyL P md ops (strictQ Q) C l (ms.length + 1) listed a w := by
  intro ms
  induction ms with
  | nil =>
    intro listed a w hsh hB hC h
    simp only [lastB, Bool.and_eq_true, beq_iff_eq, List.isEmpty_iff] at hB
    obtain ⟨o, h0, hh⟩ := h
    refine ⟨fun h => by rw [hB.1] at h; simp at h, fun i hi => ?_⟩
    rw [hB.1, List.mem_singleton] at hi
    subst hi
    exact wpOp_step h0 (fun K hK => hh K (fun a' w' hQ => hK a' w' ⟨fun h => absurd rfl h, hB.2, hQ⟩))
  | cons m ms ih =>
    intro listed a w hsh hB hC h
    obtain ⟨k, b⟩ := m
    cases b with
    | true =>
      simp only [lastB, Bool.and_eq_true] at hB
      obtain ⟨o, h0, v, hy, hr⟩ := h
      have hrd : k ∈ Region.ready md ops listed := by simpa using hB.1.1.1
      exact wpAnyL_first h0 (Region.noSelect_spec hsel) (fun _ _ _ h => h) hB.1.2 _ listed a w hsh (Region.free_spec h0 hB.1.1.2) hrd hy hC (ih _ _ _ (hsh.put hrd) hB.2 hC hr)
    | false =>
      simp only [lastB, Bool.and_eq_true, beq_iff_eq] at hB
      obtain ⟨o, h0, hh⟩ := h
      refine ⟨fun h => by rw [hB.1] at h; simp at h, fun i hi => ?_⟩
      have hrd := hi
      rw [hB.1, List.mem_singleton] at hi
      subst hi
      exact wpOp_step h0 (fun K hK => hh K (fun a' w' hC' hW => hK a' w' ⟨fun _ => hC', ih _ _ _ (hsh.put hrd) hB.2 hC' (hW hC')⟩))
/-- ms: the order of one's own for all but the last, e; nb: how far back 'before' is looked for -/
theorem wp_region_last {id : Nat} {a : Act} {w : World} {l : List Oper} (C : World → Prop) (e nb : Nat) (ms : List (Nat × Bool)) (hm : P.follows .mixedOrders = true)
    (hB : (Region.noSelect l.toArray && decide (l.length = ms.length + 1) && lastB .any l.toArray e nb ms (Array.replicate l.toArray.size false)) = true) (hC : C w.drew)
    (h : C w.drew → wpLast P l.toArray C Q e ms a w.drew) : (Code.region id l.toArray true).wp P Q a w := by
  simp only [Bool.and_eq_true, decide_eq_true_eq] at hB
  have H := wpAnyL_last (md := .any) hB.1.1 ms _ a w.drew (shutL_none _) hB.2 hC (h hC)
  rw [← hB.1.2] at H
  exact wp_region_any hm (wpAny_strict _ _ _ _ (wpAny_of_L _ _ _ _ (by simpa using H)))
end
end Go.Proofs.Ytnhalnjdlkdnkaa

namespace Go.Proofs.Ytnhalnjdlkdnkaa
open Go.RowKit Go.BigFrame
set_option linter.unusedVariables false
set_option linter.unusedSimpArgs false
set_option maxRecDepth 20000

theorem zero_at (i : Nat) (h : i < 64) : (arr zero64).cells[i]! = .int .i64 0 := by
  have e : (arr zero64).cells = Array.replicate 64 (.int .i64 0) := by kernel_rfl
  rw [e, getElem!_pos _ _ (by simpa using h)]
  simp
theorem fB_zeros (n : Nat) : fB (List.replicate n zero64) = List.replicate (n * 64) (.int .i64 0) := by
  induction n with
  | zero => rfl
  | succ n ih =>
    rw [List.replicate_succ, fB_cons, ih, Nat.succ_mul, Nat.add_comm (n * 64), ← List.replicate_append_replicate]
    congr 1
/-- n blocks of noughts -/
theorem mkBlkN (n : Nat) (h : n ≤ 100000000) : ∃ O : Obj, (∀ w, (Instr.makeSlice 68 (.int .i64 (n : Int)) (.int .i64 (n : Int))).run Try.prog w = .ok (.slice (some ⟨w.heap.size, 0, none⟩) n n) (w.alloc O)) ∧ ∀ w : World, BkO w.heap.size (w.alloc O) (.slice (some ⟨w.heap.size, 0, none⟩) n n) (List.replicate n zero64) := by
  obtain ⟨i, hi, hz, hsz, hby⟩ := tyB.hi
  refine ⟨.cells (madeCells (arr zero64).cells (n * 64)) 23, fun w => ?_, fun w => ⟨?_, fun b hb => by rw [List.mem_replicate] at hb; rw [hb.2]; exact blk_zero⟩⟩
  · have hr := run_make (P := Try.prog) w 68 23 i _ tyB.ht hi hz .i64 .i64 (n : Int) (n : Int) (by omega) (by omega) (by rw [hby]; omega) (by omega)
    simp only [Int.toNat_natCast, hsz] at hr
    exact hr
  · rw [List.length_replicate]
    refine ⟨by rw [fB_zeros, List.length_replicate], .inr ⟨w.heap.size, n, _, rfl, Nat.le_refl _, heap_alloc_new w _, Nat.le_refl _, by unfold maxLen; omega, size_madeCells _ _, ?_⟩⟩
    rw [fB_zeros]
    have e : (madeCells (arr zero64).cells (n * 64)).toList = List.replicate (n * 64) (.int .i64 0) := by
      apply List.ext_getElem (by simp [size_madeCells])
      intro j h1 h2
      have hs : (arr zero64).cells.size = 64 := by kernel_rfl
      have hj : j < n * 64 := by simpa using h2
      have := zero_at (j % 64) (Nat.mod_lt _ (by decide))
      simp [madeCells, hj, hs, this]
    rw [e]
    simp
/-- crossed, of a table that is there or isn't -/
theorem crossedQ_any (v : Value) (l : List Int) (w : World) (hb : Ns w v l) (hl : l.length = 64 ∨ l.length = 0) :
    Calls Try.prog 28 #[v] w fun e w' => ∃ v', e = .returned v' ∧ NO w.heap.size w' v' (crossQ l) ∧ Below w.heap.size w w' := by
  rcases hl with hl | hl
  · refine (crossed_any v l w hb hl).mono ?_
    rintro e w' ⟨g, rfl, hg, ⟨c, hc, hcs, hci⟩, hbel⟩
    refine ⟨_, rfl, ?_, hbel⟩
    unfold crossQ
    rw [if_pos hl]
    have hlen := crossL_len l
    unfold NO
    rw [hlen]
    refine ⟨by rw [vIs_length, hlen], .inr ⟨g, 64, c, rfl, hg, hc, Nat.le_refl _, by decide, hcs, ?_⟩⟩
    apply List.ext_getElem (by simp [hcs, vIs_length, hlen])
    intro j h1 h2
    have hj : j < 64 := by rw [vIs_length, hlen] at h2; exact h2
    have h3 := hci j hj
    rw [Array.getElem?_eq_getElem (by omega)] at h3
    have h4 : j < (crossL l).length := by omega
    simp only [List.getElem_take, Array.getElem_toList]
    rw [Option.some.inj h3]
    simp [vIs, vI, List.getD_eq_getElem?_getD, List.getElem?_eq_getElem h4]
  · obtain rfl := List.eq_nil_of_length_eq_zero hl
    obtain ⟨a, cap, rfl⟩ := hb.len
    obtain ⟨ti, hti, htz, hts, htb⟩ := tyN4.hi
    simp only [List.length_nil]
    clear hb
    go_enter Try.func28, Try.ntmps28
    go_wp2_with (at_make; refine stop ?_)
    refine unstop (wpList_make_row _ rfl _ _ _ rfl 3 ti (.int .i64 0) Try.underlying31 hti htz hts rfl .i64 .i64 0 rfl rfl (by rw [htb]; decide) (by decide) ?_)
    have OW : Hid ((w.alloc (.cells (madeCells #[.int .i64 0] 0) 3)).ownsRow w.heap.size 3 1 (.slice (some ⟨w.heap.size, 0, none⟩) 0 0) 0 []) := Lib.hid (World.ownsRow_made w _ 0 (Nat.le_refl _) (by decide) (by rw [size_madeCells]))
    have BW : Hid (Below w.heap.size w (w.alloc (.cells (madeCells #[.int .i64 0] 0) 3))) := Lib.hid ((Below.refl _ _).alloc (Nat.le_refl _) _)
    obtain ⟨w1, hw1⟩ : ∃ w1, w.alloc (.cells (madeCells #[.int .i64 0] 0) 3) = w1 := ⟨_, rfl⟩
    rw [hw1] at OW BW ⊢
    clear hw1 hti htz hts htb
    go_wp2_with fail
    go_loopw [11] (fun i w' => i = .int .i64 0 ∧ w1 = w') (fun i _ => 0)
    case atStart => exact ⟨rfl, rfl⟩
    case round =>
      obtain ⟨rfl, rfl⟩ := hrel
      go_wp2_with fail
      go_ret
      exact ⟨_, rfl, OW.out, BW.out⟩
/-! ## a row of parts, one of them changed -/
theorem PtO.apart {base : Nat} {w : World} {v : Value} {rs : List (PartL × Value)} (h : PtO base w v rs) (i j : Nat) (hi : i < rs.length) (hj : j < rs.length) (hne : i ≠ j) : rs[i].2.ownBlock = none ∨ rs[i].2.ownBlock ≠ rs[j].2.ownBlock := by
  rcases Nat.lt_or_ge i j with h1 | h1
  · exact List.pairwise_iff_getElem.1 h.sep i j hi hj h1
  · rcases List.pairwise_iff_getElem.1 h.sep j i hj hi (by omega) with h2 | h2
    · cases hb : rs[i].2.ownBlock with
      | none => exact .inl rfl
      | some b => right; rw [h2]; simp
    · exact .inr h2.symm
theorem PtO.upd {base : Nat} {w' : World} {v : Value} {rs : List (PartL × Value)} (k : Nat) (q : PartL × Value) (hk : k < rs.length) (hok0 : ∀ p ∈ rs, PartB p.1) (hs : ∀ i j (hi : i < rs.length) (hj : j < rs.length), i ≠ j → rs[i].2.ownBlock = none ∨ rs[i].2.ownBlock ≠ rs[j].2.ownBlock)
    (hrow : w'.ownsRow base 70 7 v rs.length (cellsW vPart (rs.set k q))) (hok : PartB q.1) (hbk : BkO base w' q.2 q.1.bs) (hoth : ∀ i (hi : i < rs.length), i ≠ k → BkO base w' rs[i].2 rs[i].1.bs)
    (hsep : ∀ i (hi : i < rs.length), i ≠ k → (rs[i].2.ownBlock = none ∨ rs[i].2.ownBlock ≠ q.2.ownBlock) ∧ (q.2.ownBlock = none ∨ q.2.ownBlock ≠ rs[i].2.ownBlock)) : PtO base w' v (rs.set k q) := by
  refine ⟨by rw [List.length_set]; exact hrow, fun p hp => ?_, fun p hp => ?_, ?_⟩
  · rcases List.mem_or_eq_of_mem_set hp with h1 | rfl
    · exact hok0 p h1
    · exact hok
  · obtain ⟨i, hi, rfl⟩ := List.getElem_of_mem hp
    rw [List.length_set] at hi
    rw [List.getElem_set]
    split
    · exact hbk
    · rename_i hne
      exact hoth i hi (fun e => hne e.symm)
  · rw [List.pairwise_iff_getElem]
    intro i j hi hj hij
    rw [List.length_set] at hi hj
    rw [List.getElem_set, List.getElem_set]
    split
    · rename_i e
      subst e
      rw [if_neg (by omega)]
      exact (hsep j hj (by omega)).2
    · split
      · rename_i e
        subst e
        exact (hsep i hi (by omega)).1
      · exact hs i j hi hj (by omega)
theorem PtO.cellAt {base : Nat} {w : World} {g n c : Nat} {rs : List (PartL × Value)} (h : PtO base w (.slice (some ⟨g, 0, none⟩) n c) rs) (hn : rs.length = n) (k : Nat) (hk : k < rs.length) :
    w.cell? ⟨g, k * 7, none⟩ = some (.int .i64 rs[k].1.id) ∧ w.cell? ⟨g, k * 7 + 1, none⟩ = some (.int .i64 rs[k].1.h) ∧ w.cell? ⟨g, k * 7 + 2, none⟩ = some (.int .i64 rs[k].1.v) ∧ w.cell? ⟨g, k * 7 + 3, none⟩ = some (.int .i64 rs[k].1.tq) ∧ w.cell? ⟨g, k * 7 + 4, none⟩ = some (.int .i64 rs[k].1.wide) ∧ w.cell? ⟨g, k * 7 + 5, none⟩ = some (.int .i64 rs[k].1.high) ∧ w.cell? ⟨g, k * 7 + 6, none⟩ = some rs[k].2 := by
  have hr := h.row
  rw [hn] at hr
  have key : ∀ j, j < 7 → w.cell? ⟨g, k * 7 + j, none⟩ = (vPart rs[k].1 rs[k].2)[j]? := fun j hj => by
    rw [hr.cellAt _ (mul_add_lt (by omega) hj), cellsW_at vPart_len _ _ _ hk hj]
  exact ⟨key 0 (by decide), key 1 (by decide), key 2 (by decide), key 3 (by decide), key 4 (by decide), key 5 (by decide), key 6 (by decide)⟩
theorem PtO.heap {base : Nat} {w : World} {g n c : Nat} {rs : List (PartL × Value)} (h : PtO base w (.slice (some ⟨g, 0, none⟩) n c) rs) : base ≤ g ∧ g < w.heap.size ∧ ∃ C, w.heap[g]? = some (.cells C 70 (0, 0)) := by
  rcases h.row.2 with ⟨h1, _⟩ | ⟨g', cap, cur, h1, hg, hc, _⟩
  · simp at h1
  · simp only [Value.slice.injEq, Option.some.injEq, Addr.mk.injEq, and_true, true_and] at h1
    obtain ⟨rfl, _, rfl⟩ := h1
    exact ⟨hg, (Array.getElem?_eq_some_iff.1 hc).1, cur, hc⟩
theorem PtO.frozen {base : Nat} {w : World} {g n c : Nat} {rs : List (PartL × Value)} (h : PtO base w (.slice (some ⟨g, 0, none⟩) n c) rs) (j : Nat) : w.frozen? ⟨g, j, none⟩ = false := by
  obtain ⟨_, _, C, hC⟩ := h.heap
  exact frozen_of_row w g j _ _ hC
/-- a number of one part is changed -/
theorem PtO.setN {base : Nat} {w : World} {g n c : Nat} {rs : List (PartL × Value)} (h : PtO base w (.slice (some ⟨g, 0, none⟩) n c) rs) (hn : rs.length = n) (k j : Nat) (hk : k < rs.length) (hj : j < 7) (u : Value) (p' : PartL) (hc : vPart p' rs[k].2 = (vPart rs[k].1 rs[k].2).set j u) (hb : p'.bs = rs[k].1.bs) (hok : PartB p') :
    PtO base (w.setCell ⟨g, k * 7 + j, none⟩ u) (.slice (some ⟨g, 0, none⟩) n c) (rs.set k (p', rs[k].2)) := by
  obtain ⟨_, _, C, hC⟩ := h.heap
  have hr := h.row
  rw [hn] at hr
  have hs := (World.ownsRow.stored hr (k * 7 + j) u).1
  rw [cellsW_set vPart_len rs k j hk hj u (p', rs[k].2) hc] at hs
  refine PtO.upd k (p', rs[k].2) hk h.ok (fun i j hi hj hne => h.apart i j hi hj hne) (by rw [hn]; exact hs) hok ?_ (fun i hi _ => ?_) (fun i hi hne => ⟨h.apart i k hi hk hne, h.apart k i hk hi (Ne.symm hne)⟩)
  · show BkO base _ rs[k].2 p'.bs
    rw [hb]
    exact (h.bk _ (List.getElem_mem hk)).other hC (by decide)
  · exact (h.bk _ (List.getElem_mem hi)).other hC (by decide)
/-- one part gets another slice, none of the others' -/
theorem PtO.setB {base : Nat} {w : World} {g n c : Nat} {rs : List (PartL × Value)} (h : PtO base w (.slice (some ⟨g, 0, none⟩) n c) rs) (hn : rs.length = n) (k : Nat) (hk : k < rs.length) (x : Value) (bs : List (List Int)) (hok : bs.length ≤ 140737488351232) (hx : BkO base w x bs) (hne : ∀ p ∈ rs, (p.2.ownBlock = none ∨ p.2.ownBlock ≠ x.ownBlock) ∧ (x.ownBlock = none ∨ x.ownBlock ≠ p.2.ownBlock)) :
    PtO base (w.setCell ⟨g, k * 7 + 6, none⟩ x) (.slice (some ⟨g, 0, none⟩) n c) (rs.set k ({ rs[k].1 with bs := bs }, x)) := by
  obtain ⟨_, _, C, hC⟩ := h.heap
  have hr := h.row
  rw [hn] at hr
  have hs := (World.ownsRow.stored hr (k * 7 + 6) x).1
  rw [cellsW_set vPart_len rs k 6 hk (by decide) x ({ rs[k].1 with bs := bs }, x) rfl] at hs
  have ok := h.ok _ (List.getElem_mem hk)
  refine PtO.upd k _ hk h.ok (fun i j hi hj hne => h.apart i j hi hj hne) (by rw [hn]; exact hs) ⟨ok.id, ok.h, ok.v, ok.tq, ok.wide, ok.high, hok⟩ ?_ (fun i hi _ => ?_) (fun i hi _ => hne _ (List.getElem_mem hi))
  · exact hx.other hC (by decide)
  · exact (h.bk _ (List.getElem_mem hi)).other hC (by decide)
/-- one part's blocks are changed where they lie -/
theorem PtO.inPlace {base : Nat} {w w' : World} {v : Value} {rs : List (PartL × Value)} (h : PtO base w v rs) (k : Nat) (hk : k < rs.length) (bs : List (List Int)) (hok : bs.length ≤ 140737488351232) (hx : BkO base w' rs[k].2 bs) (hg : w.grownBy w' rs[k].2.ownBlock) :
    PtO base w' v (rs.set k ({ rs[k].1 with bs := bs }, rs[k].2)) := by
  have ok := h.ok _ (List.getElem_mem hk)
  have hb := h.bk _ (List.getElem_mem hk)
  have e : cellsW vPart (rs.set k ({ rs[k].1 with bs := bs }, rs[k].2)) = cellsW vPart rs := by
    have e1 : cellsW vPart (rs.set k ({ rs[k].1 with bs := bs }, rs[k].2)) = cellsW vPart (rs.set k rs[k]) := by
      unfold cellsW
      rw [List.set_eq_take_append_cons_drop, List.set_eq_take_append_cons_drop, if_pos hk, if_pos hk, List.flatMap_append, List.flatMap_append, List.flatMap_cons, List.flatMap_cons]
      rfl
    rw [e1, List.set_getElem_self hk]
  refine PtO.upd k _ hk h.ok (fun i j hi hj hne => h.apart i j hi hj hne) (by rw [e]; exact h.row.kept hg (own_ne h.row hb.row (by decide))) ⟨ok.id, ok.h, ok.v, ok.tq, ok.wide, ok.high, hok⟩ hx (fun i hi hne => ?_) (fun i hi hne => ⟨h.apart i k hi hk hne, h.apart k i hk hi (Ne.symm hne)⟩)
  exact ⟨(h.bk _ (List.getElem_mem hi)).row.kept hg (h.apart i k hi hk hne), (h.bk _ (List.getElem_mem hi)).all⟩
end Go.Proofs.Ytnhalnjdlkdnkaa
