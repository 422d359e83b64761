/- The iterator match.Finder.Nearest. By an AI agent. -/
import Derived.Test.YtheomjoadgfkeaaPairs
import Derived.Test.YtheomjoadgfkeaaLong
namespace Go.Proofs.Ytheomjoadgfkeaa
open Go.RowKit Go.Shelf
set_option linter.unusedVariables false
set_option linter.unusedSimpArgs false
attribute [local go_sem] Oper.semAt_some

abbrev encN (x : Nat × Nat) : Array Value := #[.int .i64 (x.1 : Int), .int .i64 (x.2 : Int)]
theorem roundIn_any {n m l l' : Nat} {P : Program} {f : FuncId} {tmps : Array Value} {assign body : Code} {w : World} {R : Ending → World → Prop} (h : RoundIn Fence.wide n P l f tmps assign body w R) : RoundIn (Fence.wide.inRound l') m P l f tmps assign body w R :=
  ⟨h.1, fun c cs _ => h.2 c cs (room_wide _)⟩
theorem boxed_put {W V : World} {l b : Nat} {t : TypeId} {v : Value} (h : Boxed W b t v) (hs : SameBut l W V) (hb : b ≠ l) : Boxed V b t v := (hs.block b hb).trans h

/-- where the outer walk stands -/
structure NearS (B : Nat) (ll : Nat) (J : List (Nat × Nat) → World → Prop) (b : Nat) (out : List (Nat × Nat)) (V : World) : Prop where
  yb : Boxed V B 101 (.func (.yield ll) #[] #[])
  nb : Boxed V (B + 1) 3 (.int .i64 ((b + 1 : Nat) : Int))
  j : J out V
  size : B + 4 ≤ V.heap.size
theorem NearS.low {B ll : Nat} {J : List (Nat × Nat) → World → Prop} {b : Nat} {out : List (Nat × Nat)} {V W : World} (h : NearS B ll J b out V) (hJ : SinceB B J) {m : Nat} (hm : B + 2 ≤ m) (hb : Below m V W) : NearS B ll J b out W :=
  ⟨(hb.block _ (by omega)).trans h.yb, (hb.block _ (by omega)).trans h.nb, hJ _ _ _ h.j (hb.mono (by omega)), Nat.le_trans h.size hb.size⟩
def boxN (V : World) (b : Nat) : Nat := match V.cell? ⟨b, 0, none⟩ with | some (.int _ z) => z.toNat | _ => 0
theorem boxN_of {V : World} {b n : Nat} {t : TypeId} (h : Boxed V b t (.int .i64 (n : Int))) : boxN V b = n := by unfold boxN; rw [h.cell]; simp
theorem keepsFrom_keepU {T : Nat} {bs : List Nat} {U : Nat} {A B : World} (h : KeepU bs U A B) (hU : U ≤ T) : KeepsFrom T A B := ⟨h.1, fun k o hk ho _ => (h.2 k (.inr (by omega)) (Array.getElem?_eq_some_iff.1 ho).1).trans ho⟩
theorem keepU_set (bs : List Nat) (U : Nat) (A : World) (b : Nat) (v : Value) (hb : b < U) (hn : b ∉ bs) : KeepU bs U A (A.setCell ⟨b, 0, none⟩ v) :=
  ⟨by simp, fun k hk _ => Go.Deep.blk_setCell_other _ _ _ _ (by simp only; rintro rfl; rcases hk with hk | hk; exact hn hk; omega)⟩

set_option maxRecDepth 100000 in
set_option maxHeartbeats 8000000 in
theorem near_seq (n : Nat) (hn : 4 ≤ n) (b1 b2 : Nat) (bs : List Nat) (p : Int) (fa : Option Addr) (lo : Option (List UInt8)) (w : World) (hp : -9223372036854775808 ≤ p ∧ p ≤ 9223372036854775807) (hl : lenO lo ≤ 1048576)
    (c1 : w.cell? ⟨b1, 0, none⟩ = some (.pointer fa)) (c2 : w.cell? ⟨b2, 0, none⟩ = some (.int .i64 p)) (hf : FV bs w (.pointer fa) lo) (hbs : ∀ b ∈ bs, b < w.heap.size) :
    SeqB n Try.prog 57 #[.pointer (some ⟨b1, 0, none⟩), .pointer (some ⟨b2, 0, none⟩)] encN bs (pairsL lo p) w := fun ll J Jx V hV hJ hJx hY h0 => by
  have hkV : KeepB bs w V := KeepB.below hV hV.size hbs
  have d1 := cell_old hV c1
  have d2 := cell_old hV c2
  have FV0 := Lib.hid (hf.keep hkV)
  have BS0 : Hid (∀ b ∈ bs, b < V.heap.size) := Lib.hid (fun b hb => Nat.lt_of_lt_of_le (hbs b hb) hV.size)
  have YY := Lib.hid hY
  have HJ := Lib.hid hJ
  have HJx := Lib.hid hJx
  have H0 := Lib.hid h0
  clear c1 c2 hf hbs hkV hV hY hJ hJx h0
  refine callsIn_of_wp_marks Try.func57 rfl trivial ?_ rfl
  simp only [Try.ntmps57, List.size_toArray, List.length_cons, List.length_nil, Nat.reduceAdd, Nat.reduceSub, Array.replicate_succ, Array.replicate_zero, List.push_toArray, List.append_toArray, List.nil_append, List.cons_append]
  refine wpIn_wide.2 ?_
  have bA : Below V.heap.size V ((V.alloc (.cells #[.func (.yield ll) #[] #[]] 101)).alloc (.cells #[.int .i64 3] 3)) := ((Below.refl _ _).alloc (Nat.le_refl _) _).alloc (by simp) _
  have d1' := cell_old bA d1
  have d2' := cell_old bA d2
  clear bA d1 d2
  go_wp2_with fail
  refine (better_any p fa _).mono ?_; rintro e w1 ⟨rfl, hw1⟩
  go_wp2_with fail
  rw [← hw1]
  obtain ⟨B, hB⟩ : ∃ B, V.heap.size = B := ⟨_, rfl⟩
  have sz1 : w1.heap.size = B + 4 := by rw [hw1]; simp [hB]
  have bb : Below V.heap.size V w1 := by rw [hw1]; exact ((((Below.refl _ _).alloc (Nat.le_refl _) _).alloc (by simp) _).alloc (by simp; omega) _).alloc (by simp; omega) _
  have q0 : Boxed w1 B 101 (.func (.yield ll) #[] #[]) := by rw [hw1, ← hB]; exact (((Boxed.new V _ _).alloc _).alloc _).alloc _
  have q1 : Boxed w1 (B + 1) 3 (.int .i64 3) := by
    rw [hw1, ← hB]
    have h := Boxed.new (V.alloc (.cells #[.func (.yield ll) #[] #[]] 101)) 3 (.int .i64 3)
    rw [World.size_alloc] at h
    exact (h.alloc _).alloc _
  have q2 : Boxed w1 (B + 1 + 1) 71 (.pointer fa) := by
    rw [hw1, ← hB]
    have h := Boxed.new ((V.alloc (.cells #[.func (.yield ll) #[] #[]] 101)).alloc (.cells #[.int .i64 3] 3)) 71 (.pointer fa)
    simp only [World.size_alloc] at h
    exact h.alloc _
  have q3 : Boxed w1 (B + 1 + 1 + 1) 3 (.int .i64 p) := by
    rw [hw1, ← hB]
    have h := Boxed.new (((V.alloc (.cells #[.func (.yield ll) #[] #[]] 101)).alloc (.cells #[.int .i64 3] 3)).alloc (.cells #[.pointer fa] 71)) 3 (.int .i64 p)
    simp only [World.size_alloc] at h
    exact h
  have hbs1 : ∀ b ∈ (B + 1 + 1) :: (B + 1 + 1 + 1) :: bs, b < w1.heap.size := by
    intro b hb
    rw [List.mem_cons, List.mem_cons] at hb
    rcases hb with rfl | rfl | hb
    · omega
    · omega
    · have := BS0.out b hb; omega
  have hf1 : FV ((B + 1 + 1) :: (B + 1 + 1 + 1) :: bs) w1 (.pointer fa) lo := (FV0.out.keep (KeepB.below bb bb.size BS0.out)).more (fun b hb => List.mem_cons_of_mem _ (List.mem_cons_of_mem _ hb))
  have S1 : NearS B ll J 2 [] w1 := ⟨q0, q1, HJ.out _ _ _ H0.out bb, by omega⟩
  have HJB : Hid (SinceB B J) := Lib.hid (by rw [← hB]; exact HJ.out)
  have HJxB : Hid (SinceB B Jx) := Lib.hid (by rw [← hB]; exact HJx.out)
  have BSB : Hid (∀ b ∈ bs, b < B) := Lib.hid (by rw [← hB]; exact BS0.out)
  rw [hB] at YY ⊢
  clear hw1 q0 q1 H0 HJ HJx d1' d2' BS0
  refine wpIn_wide.1 (rangeB (n := n) (by omega) (gf := 60) (lb := #[.pointer (some ⟨B + 1 + 1 + 1, 0, none⟩), .pointer (some ⟨B + 1 + 1, 0, none⟩)]) rfl (enters_of Try.func60 (by kernel_rfl) rfl)
    (better_seq (n - 1) (by omega) (B + 1 + 1 + 1) (B + 1 + 1) ((B + 1 + 1) :: (B + 1 + 1 + 1) :: bs) p (.pointer fa) lo w1 hp hl q3.cell q2.cell (by simp) (by simp) hf1 hbs1) (Below.refl _ _) (fun _ => rfl) hbs1
    (fun pre X => NearS B ll J (bestOf pre) (pairs 2 pre) X) (fun c pre X => c = .ret ∧ ∃ pre', pre' <+: pairsL lo p ∧ Jx pre' X)
    (fun s X Y h hb => h.low HJB.out (by omega) hb) (fun c s X Y h hb => ⟨h.1, h.2.elim fun q hq => ⟨q, hq.1, HJxB.out _ _ _ hq.2 (hb.mono (by omega))⟩⟩) S1 ?round ?done ?stop)
  case round =>
    rintro l pre x W hl hlW hI hx
    rw [sz1] at hl
    have HI := Lib.hid hI
    clear hI
    gi_wp2
    refine ⟨(KeepsOthers.alloc _ _).from _, fun Z hZ => ?_⟩
    replace hZ : SameBut l (W.alloc (.cells (tokC x) 27)) Z := hZ
    obtain ⟨Bx, hBx⟩ : ∃ Bx, W.heap.size = Bx := ⟨_, rfl⟩
    rw [hBx] at hlW ⊢
    have ba : Below Bx W (W.alloc (.cells (tokC x) 27)) := by rw [← hBx]; exact (Below.refl _ _).alloc (Nat.le_refl _) _
    have tk0 : (W.alloc (.cells (tokC x) 27)).heap[Bx]? = some (.cells (tokC x) 27 (0, 0)) := by rw [← hBx]; exact heap_alloc_new _ _
    have tk : Z.heap[Bx]? = some (.cells (tokC x) 27 (0, 0)) := (hZ.block _ (by omega)).trans tk0
    have SZ : NearS B ll J (bestOf pre) (pairs 2 pre) Z := (HI.out.low HJB.out (by omega) ba).low HJB.out (m := l) (by omega) (hZ.below (Nat.le_refl _))
    have KZ : KeepU ((B + 1 + 1) :: (B + 1 + 1 + 1) :: bs) (B + 4 + 2) W Z := ⟨by have := hZ.size; have := ba.size; omega, fun b hb hlt => by
      rw [hZ.block b (by rcases hb with hb | hb; · have := hbs1 b hb; omega
                         · omega), ba.block b (by omega)]⟩
    obtain ⟨nx1, nx2, nx3, nx4, nx5, nx6⟩ := rec_next hx
    obtain ⟨xa, xb⟩ := x
    simp only at nx1 nx2 nx3 nx4 nx5
    obtain ⟨b0, hb0⟩ : ∃ b0, bestOf pre = b0 := ⟨_, rfl⟩
    rw [hb0] at nx1 nx6 SZ
    have PS : Hid (pairs 2 (pre ++ [(xa, xb)]) = pairs 2 pre ++ run b0 xb (xa - b0)) := Lib.hid (by rw [pairs_snoc, lastB_best, hb0])
    have PP : Hid (pairs 2 pre ++ run b0 xb (xa - b0) <+: pairsL lo p) := Lib.hid (by rw [← PS.out]; exact pairs_pre 2 _ _ hx)
    have BSN : Hid (bestOf (pre ++ [(xa, xb)]) = xa) := Lib.hid (bestOf_snoc _ _)
    obtain ⟨out, hout⟩ : ∃ out, pairs 2 pre = out := ⟨_, rfl⟩
    rw [hout] at SZ PS PP
    have HSZ := Lib.hid SZ
    have HKZ := Lib.hid KZ
    have HTK := Lib.hid tk
    have HBX := Lib.hid hBx
    have hl5 : B + 5 ≤ l := by omega
    have hlB : l < Bx := hlW
    clear SZ KZ tk tk0 ba hZ hout hb0 hBx hlW hl hx
    gi_wp2_with fail
    gi_loopw [] (fun Y => ∃ k : Nat, k ≤ xa - b0 ∧ NearS B ll J (b0 + k) (out ++ run b0 xb k) Y ∧ Y.heap[Bx]? = some (.cells (tokC (xa, xb)) 27 (0, 0)) ∧ KeepsFrom (B + 4) Z Y ∧ KeepU ((B + 1 + 1) :: (B + 1 + 1 + 1) :: bs) (B + 4 + 2) W Y) (fun Y => 300 - boxN Y (B + 1))
    case atStart => exact ⟨0, Nat.zero_le _, by simpa [run] using HSZ.out, HTK.out, KeepsFrom.refl _ _, HKZ.out⟩
    case round =>
      obtain ⟨k, hk, hS, hT, hKF, hKU⟩ := hrel
      have y0 := hS.yb.cell
      have y1 := hS.nb.cell
      have y2 := hS.nb.frozen
      have t0 : wr.cell? ⟨Bx, 0, none⟩ = some (.int .i64 (xa : Int)) := by rw [cell_of_row _ _ 0 _ _ _ hT]; rfl
      have t1 : wr.cell? ⟨Bx, 1, none⟩ = some (.int .i64 (xb : Int)) := by rw [cell_of_row _ _ 1 _ _ _ hT]; rfl
      have NB := Lib.hid (boxN_of hS.nb)
      have HS := Lib.hid hS
      have HT := Lib.hid hT
      have HKF := Lib.hid hKF
      have HKU := Lib.hid hKU
      clear hS hT hKF hKU
      by_cases hkx : k < xa - b0
      · have f1 : decide (((b0 + k + 1 : Nat) : Int) ≤ (xa : Int)) = true := by rw [decide_eq_true_eq]; omega
        have f2 : decide (b0 + k + 1 ≤ xa) = true := by rw [decide_eq_true_eq]; omega
        obtain ⟨m, hm⟩ : ∃ m, b0 + k + 1 = m := ⟨_, rfl⟩
        have PX : out ++ run b0 xb k ++ [(m, xb)] <+: pairsL lo p := by
          refine List.IsPrefix.trans ?_ PP.out
          rw [List.append_assoc, ← hm, show b0 + k + 1 = b0 + 1 + k by omega, ← run_succ, List.prefix_append_right_inj]
          exact run_pre _ _ _ _ (by omega)
        rw [hm] at f1 f2 y1 NB
        obtain ⟨fr, tr, ar, br, hyr, hRr⟩ := YY.out (out ++ run b0 xb k) (m, xb) wr (by have := HS.out.size; omega) HS.out.j PX
        dsimp only [encN] at hyr
        have RR := Lib.hid hRr
        have HM := Lib.hid hm
        have hm2 : m ≤ 290 := by omega
        clear hRr PX hm
        have BXl : Hid (Bx < wr.heap.size) := Lib.hid (Array.getElem?_eq_some_iff.1 HT.out).1
        gi_wp2_with fail
        refine ⟨fun _ => by omega, (roundIn_any RR.out).mono ?_⟩
        rintro e W1 (⟨rfl, hJ1, hk1⟩ | ⟨rfl, hx1, hk1⟩)
        · have hsz := HS.out.size
          have n0 : Boxed W1 B 101 (.func (.yield ll) #[] #[]) := (hk1.2 B (.inr (Nat.le_refl _)) (by omega)).trans HS.out.yb
          have n1 : Boxed W1 (B + 1) 3 (.int .i64 (m : Int)) := (hk1.2 (B + 1) (.inr (by omega)) (by omega)).trans (by have h := HS.out.nb; rw [HM.out] at h; exact h)
          have n2 : W1.heap[Bx]? = some (.cells (tokC (xa, xb)) 27 (0, 0)) := (hk1.2 Bx (.inr (by omega)) BXl.out).trans HT.out
          have z1 := n1.cell
          have z2 := n1.frozen
          have N0 := Lib.hid n0
          have N1 := Lib.hid n1
          have N2 := Lib.hid n2
          have J1 := Lib.hid hJ1
          have K1 := Lib.hid hk1
          clear n0 n1 n2 hJ1 hk1 hyr y0 y1 y2 t0 t1
          gi_wp2_with fail
          go_roundw
          case rel =>
            have hs := K1.out.1
            refine ⟨k + 1, by omega, ⟨Boxed.other N0.out (by omega) _, ?_, ?_, by simp; omega⟩, ?_, (HKF.out.trans (keepsFrom_keepU K1.out (by omega))).trans (keepsFrom_set _ _ _), (HKU.out.trans ⟨hs, fun b hb hlt => K1.out.2 b ?_ hlt⟩).trans (keepU_set _ _ _ _ _ (by omega) ?_)⟩
            · have h := Boxed.set (.int .i64 ((m : Int) + 1)) N1.out
              have e : ((b0 + (k + 1) + 1 : Nat) : Int) = (m : Int) + 1 := by have := HM.out; omega
              rw [e]
              exact h
            · refine HJB.out _ _ _ ?_ ((Below.refl _ _).setCell (p := ⟨B + 1, 0, none⟩) (by simp only; omega) _)
              rw [run_succ, ← List.append_assoc, show b0 + 1 + k = m by have := HM.out; omega]
              exact J1.out
            · rw [Go.Deep.blk_setCell_other _ _ _ _ (by simp only; omega)]; exact N2.out
            · rw [List.mem_cons, List.mem_cons] at hb
              rcases hb with (rfl | rfl | hb) | hb
              · exact .inr (by omega)
              · exact .inr (by omega)
              · exact .inl hb
              · exact .inr (by omega)
            · intro hb
              rw [List.mem_cons, List.mem_cons] at hb
              rcases hb with hb | hb | hb
              · omega
              · omega
              · have := BSB.out _ hb; omega
          case measure =>
            have e : boxN (W1.setCell ⟨B + 1, 0, none⟩ (.int .i64 ((m : Int) + 1))) (B + 1) = m + 1 := boxN_of (t := 3) (by
              have h := Boxed.set (.int .i64 ((m : Int) + 1)) N1.out
              have e : ((m + 1 : Nat) : Int) = (m : Int) + 1 := by omega
              rw [e]
              exact h)
            rw [e, NB.out]
            omega
        · have J1 := Lib.hid hx1
          have K1 := Lib.hid hk1
          have PX2 : Hid (out ++ run b0 xb k ++ [(m, xb)] <+: pairsL lo p) := Lib.hid (by
            refine List.IsPrefix.trans ?_ PP.out
            rw [List.append_assoc, ← HM.out, show b0 + k + 1 = b0 + 1 + k by omega, ← run_succ, List.prefix_append_right_inj]
            exact run_pre _ _ _ _ (by omega))
          clear hx1 hk1 hyr y0 y1 y2 t0 t1
          gi_wp2_with fail
          have hs := K1.out.1
          show KeepsFrom w1.heap.size Z W1 ∧ KeepU _ (w1.heap.size + 2) W W1 ∧ _
          rw [sz1]
          refine ⟨HKF.out.trans (keepsFrom_keepU K1.out (by omega)), HKU.out.trans ⟨hs, fun b hb hlt => K1.out.2 b ?_ hlt⟩, rfl, _, PX2.out, J1.out⟩
          rw [List.mem_cons, List.mem_cons] at hb
          rcases hb with (rfl | rfl | hb) | hb
          · exact .inr (by omega)
          · exact .inr (by omega)
          · exact .inl hb
          · exact .inr (by omega)
      · obtain rfl : k = xa - b0 := by omega
        have e : b0 + (xa - b0) = xa := by omega
        rw [e] at HS y1
        have f1 : decide (((xa + 1 : Nat) : Int) ≤ (xa : Int)) = false := by rw [decide_eq_false_iff_not]; omega
        have f2 : decide (xa + 1 ≤ xa) = false := by rw [decide_eq_false_iff_not]; omega
        clear e y0 NB
        gi_wp2_with fail
        show KeepsFrom w1.heap.size Z wr ∧ KeepU _ (w1.heap.size + 2) W wr ∧ _
        rw [sz1]
        refine ⟨HKF.out, HKU.out, ?_⟩
        show NearS B ll J (bestOf (pre ++ [(xa, xb)])) (pairs 2 (pre ++ [(xa, xb)])) wr
        rw [BSN.out, PS.out]
        exact HS.out
  case done =>
    rintro D X hD hDX hI hK
    have JJ := Lib.hid hI.j
    gi_wp2
    refine ⟨by simp, .inl ⟨_, _, rfl, run_takeDeferred hK, ?_⟩⟩
    exact ⟨_, results_none rfl _ _ _, ⟨_, rfl⟩, .inl (HJB.out _ _ _ JJ.out ((sameBut_put _ _ _).below (by omega)))⟩
  case stop =>
    rintro D c pre X hD hDX hpre ⟨rfl, pre', hp', hx⟩ hK
    have JJ := Lib.hid hx
    clear hx
    gi_wp2
    refine ⟨by simp, .inl ⟨_, _, rfl, run_takeDeferred hK, ?_⟩⟩
    exact ⟨_, results_none rfl _ _ _, ⟨_, rfl⟩, .inr ⟨pre', hp', HJxB.out _ _ _ JJ.out ((sameBut_put _ _ _).below (by omega))⟩⟩

theorem nearest_any (p : Int) (fa : Option Addr) (w : World) : Calls Try.prog 45 #[.pointer fa, .int .i64 p] w fun e w' =>
    e = .returned (.func (.func 57) #[] #[.pointer (some ⟨w.heap.size, 0, none⟩), .pointer (some ⟨w.heap.size + 1, 0, none⟩)]) ∧
    w' = (w.alloc (.cells #[.pointer fa] 71)).alloc (.cells #[.int .i64 p] 3) := by
  go_enter Try.func45, Try.ntmps45
  go_wp2
  go_ret
  exact ⟨rfl, rfl⟩
end Go.Proofs.Ytheomjoadgfkeaa
