/- burnishref12.Parse. By an AI agent. -/
import Derived.Test.YtmdbnnnaiidheaaRefC2
import Derived.Test.YtmdbnnnaiidheaaChunkT
import Derived.Deep.RegionHeld3
import Derived.Deep.DeepCutAuto
namespace Go.Proofs.Ytmdbnnnaiidheaa
open Go.RowKit Go.BigFrame
set_option linter.unusedVariables false
set_option linter.unusedSimpArgs false

/-- a chunk's bytes stand if its sum does -/
theorem chunk_stands {l : List UInt8} {n : Nat} (h : 12 + n ≤ l.length) (hn : numL (l.take 4) = n) :
    (chunkL ((l.drop 4).take 4, (l.drop 8).take n) = l.take (12 + n)) ↔ numL ((l.drop (8 + n)).take 4) = crcN ((l.drop 4).take 4 ++ (l.drop 8).take n) := by
  have e4 : putL 4 n = l.take 4 := by rw [← hn]; exact put4_num _ (by rw [List.length_take]; omega)
  have l2 : ((l.drop 8).take n).length = n := by rw [List.length_take, List.length_drop]; omega
  have d2 : l.drop 4 = (l.drop 4).take 4 ++ l.drop 8 := by
    have := (List.take_append_drop 4 (l.drop 4)).symm; rwa [List.drop_drop] at this
  have d3 : l.drop 8 = (l.drop 8).take n ++ l.drop (8 + n) := by
    have := (List.take_append_drop n (l.drop 8)).symm; rwa [List.drop_drop] at this
  have hl : l = l.take 4 ++ ((l.drop 4).take 4 ++ (l.drop 8).take n) ++ l.drop (8 + n) := by
    conv => lhs; rw [← List.take_append_drop 4 l, d2, d3]
    simp only [List.append_assoc]
  have ht : l.take (12 + n) = l.take 4 ++ ((l.drop 4).take 4 ++ (l.drop 8).take n) ++ (l.drop (8 + n)).take 4 := by
    have hlen : (l.take 4 ++ ((l.drop 4).take 4 ++ (l.drop 8).take n)).length = 8 + n := by
      simp only [List.length_append, l2, List.length_take, List.length_drop]; omega
    conv => lhs; rw [hl]
    rw [show 12 + n = (l.take 4 ++ ((l.drop 4).take 4 ++ (l.drop 8).take n)).length + 4 by rw [hlen]; omega, List.take_length_add_append]
  simp only [chunkL, l2, e4]
  rw [ht, List.append_right_inj]
  generalize (l.drop 4).take 4 ++ (l.drop 8).take n = bd
  have h4 : ((l.drop (8 + n)).take 4).length = 4 := by rw [List.length_take, List.length_drop]; omega
  constructor
  · intro e; rw [← e, numL_put4 _ (crcN_lt bd)]
  · intro e; rw [← e, put4_num _ h4]
theorem below_al {w W w' : World} {o : Obj} (h : Below w.heap.size w W) (e : w' = W.alloc o) : Below w.heap.size w w' := by subst e; exact h.alloc h.size o
theorem bs_sign {W w' : World} (e : w' = W.alloc (.cells (vBs signL).toArray 5)) : Bs w' (.slice (some ⟨W.heap.size, 0, none⟩) 8 8) signL := by
  subst e; exact bs_heap (n := 8) (cap := 8) _ (heap_alloc_new _ _) rfl rfl (by decide)
theorem below_tr {w W w' : World} (h : Below w.heap.size w W) (k : Below W.heap.size W w') : Below w.heap.size w w' := h.trans (k.mono h.size)
theorem refSign_bs (w : World) : Calls Try.prog 26 #[] w fun e w' => ∃ v, e = .returned v ∧ Bs w' v signL ∧ Below w.heap.size w w' :=
  (refSign_any w).mono fun e w' ⟨h1, h2⟩ => ⟨_, h1, bs_sign h2, by rw [h2]; exact (Below.refl _ _).alloc (Nat.le_refl _) _⟩
theorem refTake_short4 (v : Value) (l : List UInt8) (w : World) (hb : Bs w v l) (h : l.length < 4) :
    Calls Try.prog 27 #[v, .int .i64 4] w fun e w' => e = .returned (.tuple #[.int .i64 0, .int .i64 8]) ∧ w = w' := refTake_short v l 4 w hb (by decide) h
theorem refTake_good4 (v : Value) (l : List UInt8) (n : Nat) (w : World) (hb : Bs w v l) (h : 4 ≤ l.length) (hn : numL (l.take 4) = n) :
    Calls Try.prog 27 #[v, .int .i64 4] w fun e w' => e = .returned (.tuple #[.int .i64 (n : Int), .int .i64 0]) ∧ w = w' := by
  subst hn; exact refTake_good v l 4 w hb (by decide) h
abbrev HeldC (X : World) (B b o n c : Nat) (nm : List UInt8) (x : Value) (z : List UInt8) (W : World) : Prop :=
  W.cell? ⟨B, 0, none⟩ = some (.string (strOf nm)) ∧ W.cell? ⟨B, 1, none⟩ = some x ∧ (convert 22 9 (.slice (some ⟨b, o, none⟩) n c)).run Try.prog W = .ok (.string (strOf z)) W ∧ Below X.heap.size X W
theorem heldC_old {X W : World} {B b o n c : Nat} {nm : List UInt8} {x : Value} {z : List UInt8} (h : X.heap[B]? = some (.cells #[.string (strOf nm), x] 39 (0, 0))) (hb : Bs X (.slice (some ⟨b, o, none⟩) n c) z) (hW : Below X.heap.size X W) : HeldC X B b o n c nm x z W :=
  let r := resB_of (heap_low h hW)
  ⟨r.1, r.2.1, conv_str (hb.old hW), hW⟩
def measL (L : Nat) (v : Value) : Nat := L - (intOf v).toNat
def RPar (w : World) (l : List UInt8) (o i : Value) (W : World) : Prop :=
  ∃ (f at' : Nat) (ps : List ChP), i = .int .i64 (at' : Nat) ∧ at' ≤ l.length ∧ ps.length ≤ at' ∧ ChV w.heap.size W o ps ∧ parseF f (l.drop at') (ps.map (·.1)) = parseL l ∧ l.length - at' < f ∧ Below w.heap.size w W
def RParsePost (w : World) (r : List Chk × Nat) (e : Ending) (w' : World) : Prop :=
  ∃ v ps, e = .returned (.tuple #[v, .int .i64 (r.2 : Nat)]) ∧ ChV w.heap.size w' v ps ∧ ps.map (·.1) = r.1 ∧ Below w.heap.size w w'
theorem rparse_end {w w' : World} {r : List Chk × Nat} {n : Nat} {N : Int} (h : r = ([], n)) (hN : N = (n : Int)) (hb : Below w.heap.size w w') : RParsePost w r (.returned (.tuple #[.slice none 0 0, .int .i64 N])) w' := by
  subst h hN; exact ⟨_, [], rfl, ChV.nil _ _, rfl, hb⟩
theorem rparse_ok {w w' : World} {r : List Chk × Nat} {v : Value} {ps : List ChP} (h : r = (ps.map (·.1), 0)) (hv : ChV w.heap.size w' v ps) (hb : Below w.heap.size w w') : RParsePost w r (.returned (.tuple #[v, .int .i64 0])) w' := by
  subst h; exact ⟨v, ps, rfl, hv, rfl, hb⟩
set_option maxRecDepth 20000 in
set_option maxHeartbeats 8000000 in
theorem refParse_any (v : Value) (l : List UInt8) (w : World) (hb : Bs w v l) (hl : l.length ≤ 140737488351232) :
    Calls Try.prog 12 #[v] w (RParsePost w (parseL l)) := by
  obtain ⟨a0, c0, rfl⟩ := hb.len
  have HB := Lib.hid hb
  have BR := Lib.hid (Below.refl w.heap.size w)
  by_cases c1 : 1048576 < l.length
  · have PA := Lib.hid (show parseL l = ([], 4) by unfold parseL; rw [if_pos c1])
    have d1 : decide ((1048576 : Int) < (l.length : Int)) = true := by rw [decide_eq_true_eq]; omega
    clear hb hl c1
    go_enter Try.func12, Try.ntmps12
    go_wp2_with fail
    go_ret2
    exact rparse_end PA.out rfl BR.out
  have d1 : decide ((1048576 : Int) < (l.length : Int)) = false := by rw [decide_eq_false_iff_not]; omega
  have C1 := Lib.hid c1
  have HL : Hid (l.length ≤ 1048576) := Lib.hid (by omega)
  by_cases c2 : l.length < 8
  · have PA := Lib.hid (show parseL l = ([], 2) by
      unfold parseL; rw [if_neg C1.out, if_pos]
      intro e; have := congrArg List.length e; rw [List.length_take] at this; simp [signL] at this; omega)
    have d2 : decide ((l.length : Int) < (8 : Int)) = true := by rw [decide_eq_true_eq]; omega
    clear hb hl c1 c2
    go_enter Try.func12, Try.ntmps12
    go_wp2_with fail
    go_quiet (fail)
    go_wp2_with fail
    go_ret2
    exact rparse_end PA.out rfl (below_drewN BR.out _)
  have d2 : decide ((l.length : Int) < (8 : Int)) = false := by rw [decide_eq_false_iff_not]; omega
  have L8 : Hid (8 ≤ l.length) := Lib.hid (by omega)
  obtain ⟨b, off, rfl, hcap⟩ : ∃ b off, a0 = some ⟨b, off, none⟩ ∧ l.length ≤ c0 := by
    rcases HB.out.shape with ⟨a', c', hv, h0⟩ | ⟨b, off, c', hv, hcc, _⟩
    · have := L8.out; rw [h0] at this; simp at this
    · simp only [Value.slice.injEq] at hv; exact ⟨b, off, hv.1, by omega⟩
  have B8 : Hid (Bs w (.slice (some ⟨b, off, none⟩) 8 c0) (l.take 8)) := Lib.hid (HB.out.take 8 L8.out)
  have j2 : 8 ≤ l.length := L8.out
  have j3 : (8 : Int) ≤ (c0 : Int) := by omega
  clear hb hl c1 c2
  by_cases c3 : l.take 8 = signL
  rotate_left
  · have s1 : ((strOf (l.take 8)).toList == (strOf signL).toList) = false := by rw [strOf_toList, strOf_toList, beq_eq_false_iff_ne]; exact c3
    have PA := Lib.hid (show parseL l = ([], 2) by unfold parseL; rw [if_neg C1.out, if_pos c3])
    clear c3
    go_enter Try.func12, Try.ntmps12
    go_wp2_with fail
    have cvd := conv_str (B8.out.old (Below.refl w.heap.size w).drew)
    first | go_region_with ((go_at_call 26; refine (refSign_bs _).mono ?_; rintro e w' ⟨v0, rfl, hbs, hb0⟩; have hbx : Below w.heap.size w w' := below_tr (Below.refl _ _).drew hb0; have cvs := conv_str hbs; have cve := conv_str (B8.out.old hbx); clear hbs hb0)) | fail "x"
    all_goals
      have HF : Below w.heap.size w _ := (by assumption)
      go_wp2_with fail
      go_ret2
      exact rparse_end PA.out rfl HF
  have s1 : ((strOf (l.take 8)).toList == (strOf signL).toList) = true := by rw [strOf_toList, strOf_toList, beq_iff_eq]; exact c3
  have PA := Lib.hid (show parseL l = parseF l.length (l.drop 8) [] by unfold parseL; rw [if_neg C1.out, if_neg (by rw [c3]; simp)])
  clear c3
  go_enter Try.func12, Try.ntmps12
  go_wp2_with fail
  go_cut [23] from 13 to 23 (fun t wx => t = .bool false ∧ Below w.heap.size w wx)
  case first =>
    have cvd := conv_str (B8.out.old (Below.refl w.heap.size w).drew)
    first | go_region_with ((go_at_call 26; refine (refSign_bs _).mono ?_; rintro e w' ⟨v0, rfl, hbs, hb0⟩; have hbx : Below w.heap.size w w' := below_tr (Below.refl _ _).drew hb0; have cvs := conv_str hbs; have cve := conv_str (B8.out.old hbx); clear hbs hb0)) | fail "x"
    all_goals
      have HF : Below w.heap.size w _ := (by assumption)
      go_wp2_with fail
      go_meet
      exact ⟨rfl, HF⟩
  case rest =>
    obtain ⟨rfl, hb1⟩ := hcut
    have WC1 := Lib.hid hb1
    clear hb1
    go_wp2_with fail
    go_loopw [4, 5] (fun o i W => RPar w l o i W) (fun _ i _ => measL l.length i)
    case atStart => exact ⟨l.length, 8, [], rfl, L8.out, by simp, ChV.nil _ _, PA.out.symm, by have := L8.out; omega, WC1.out⟩
    case round =>
      obtain ⟨f, p, ps, rfl, hpl, hps, hv, hpf, hf, hbel⟩ := hrel
      obtain ⟨f, rfl⟩ : ∃ g, f = g + 1 := ⟨f - 1, by omega⟩
      have HV := Lib.hid hv
      have PF := Lib.hid hpf
      have BE := Lib.hid hbel
      have HPS := Lib.hid hps
      have HPL := Lib.hid hpl
      have HF := Lib.hid hf
      have hp20 : p ≤ 1048576 := by have := HL.out; omega
      clear hv hpf hbel hps hf
      by_cases hz : l.length - p < 4
      · have ST : Hid (stepC (l.drop p) = .inl 8) := Lib.hid (by unfold stepC; rw [if_pos (by rw [List.length_drop]; exact hz)])
        have PE : Hid (parseL l = ([], 8)) := Lib.hid (by rw [← PF.out]; unfold parseF; rw [ST.out])
        have BD : Hid (∀ v', (v' = .slice (some ⟨b, off, none⟩) (l.length - p) 0 ∧ c0 = p ∨ v' = .slice (some ⟨b, off + p, none⟩) (l.length - p) (c0 - p)) → Bs wr v' (l.drop p)) := Lib.hid (by
          rintro v' (⟨rfl, h0⟩ | rfl)
          · have : l.length = p := by omega
            rw [List.drop_of_length_le (by omega), show l.length - p = 0 by omega]; exact Bs.nil _ _ _
          · exact (HB.out.old BE.out).drop p HPL.out)
        have HZ := Lib.hid hz
        clear hz
        have RT := Lib.hid (fun v' (h : (v' = .slice (some ⟨b, off, none⟩) (l.length - p) 0 ∧ c0 = p ∨ v' = .slice (some ⟨b, off + p, none⟩) (l.length - p) (c0 - p))) => refTake_short4 v' (l.drop p) wr (BD.out v' h) (by rw [List.length_drop]; exact HZ.out))
        go_wp2_with fail
        · refine (RT.out _ ?_).mono ?_
          · first
            | exact .inl ⟨by congr 1 <;> omega, by assumption⟩
          rintro e w2 ⟨rfl, rfl⟩
          go_wp2_with fail
          go_ret2
          exact rparse_end PE.out rfl BE.out
        · refine (RT.out _ (.inr rfl)).mono ?_; rintro e w2 ⟨rfl, rfl⟩
          go_wp2_with fail
          go_ret2
          exact rparse_end PE.out rfl BE.out
      have hne : ¬ c0 = p := by omega
      have hll : l.length ≤ 1048576 := HL.out
      obtain ⟨n, hn⟩ : ∃ n, numL ((l.drop p).take 4) = n := ⟨_, rfl⟩
      have n32 : n < 4294967296 := by rw [← hn]; exact numL_lt (l.drop p) 4
      have NN := Lib.hid hn
      have D4 : Hid (¬ (l.drop p).length < 4) := Lib.hid (by rw [List.length_drop]; exact hz)
      have BP : Hid (Bs wr (.slice (some ⟨b, off + p, none⟩) (l.length - p) (c0 - p)) (l.drop p)) := Lib.hid ((HB.out.old BE.out).drop p HPL.out)
      have HZ := Lib.hid hz
      clear hz hn
      go_wp2_with fail
      refine (refTake_good4 _ (l.drop p) n _ BP.out (by have := D4.out; omega) NN.out).mono ?_; rintro e w2 ⟨rfl, rfl⟩
      by_cases c2 : 2147483647 < n
      · have ST : Hid (stepC (l.drop p) = .inl 2) := Lib.hid (by unfold stepC; rw [if_neg D4.out, NN.out, if_pos c2])
        have PE : Hid (parseL l = ([], 2)) := Lib.hid (by rw [← PF.out]; unfold parseF; rw [ST.out])
        have d3 : decide ((2147483647 : Int) < (n : Int)) = true := by rw [decide_eq_true_eq]; omega
        clear c2
        go_wp2_with fail
        go_ret2
        exact rparse_end PE.out rfl BE.out
      have d3 : decide ((2147483647 : Int) < (n : Int)) = false := by rw [decide_eq_false_iff_not]; omega
      have C2 := Lib.hid c2
      clear c2
      by_cases c3 : l.length - p < 8
      · have ST : Hid (stepC (l.drop p) = .inl 8) := Lib.hid (by unfold stepC; rw [if_neg D4.out, NN.out, if_neg C2.out, if_pos (by rw [List.length_drop]; exact c3)])
        have PE : Hid (parseL l = ([], 8)) := Lib.hid (by rw [← PF.out]; unfold parseF; rw [ST.out])
        have d4 : decide ((l.length : Int) - (p : Int) < 8) = true := by rw [decide_eq_true_eq]; omega
        clear c3
        go_wp2_with fail
        go_ret2
        exact rparse_end PE.out rfl BE.out
      have d4 : decide ((l.length : Int) - (p : Int) < 8) = false := by rw [decide_eq_false_iff_not]; omega
      have C3 : Hid (¬ (l.drop p).length < 8) := Lib.hid (by rw [List.length_drop]; exact c3)
      obtain ⟨nm, hnm⟩ : ∃ nm, ((l.drop p).drop 4).take 4 = nm := ⟨_, rfl⟩
      have NM := Lib.hid hnm
      have LN : Hid (nm.length = 4) := Lib.hid (by rw [← hnm]; simp only [List.length_take, List.length_drop]; omega)
      have BN : Hid (Bs wr (.slice (some ⟨b, off + (p + 4), none⟩) 4 (c0 - (p + 4))) nm) := Lib.hid (by
        have h := ((HB.out.old BE.out).drop (p + 4) (by omega)).take 4 (by rw [List.length_drop]; omega)
        rw [← hnm, List.drop_drop]; exact h)
      have cv := conv_str BN.out
      have g1 : ((p : Int) + 4).toNat = p + 4 := by omega
      have g2 : ((p : Int) + 8).toNat = p + 8 := by omega
      have g3 : ¬ c0 = p + 4 := by omega
      have g4 : (p : Int) + 8 ≤ (c0 : Int) := by omega
      have g5 : (0 : Int) ≤ (p : Int) + 8 := by omega
      have g6 : (0 : Int) ≤ (p : Int) + 4 := by omega
      have g7 : (p : Int) + 4 ≤ (p : Int) + 8 := by omega
      have g8 : p + 4 ≤ p + 8 := by omega
      clear hnm c3
      go_wp2_with fail
      refine (refNamed_any nm _ (by have := LN.out; omega)).mono ?_; rintro e w2 ⟨rfl, rfl⟩
      rcases hN : namedB nm with _ | _
      · have ST : Hid (stepC (l.drop p) = .inl 2) := Lib.hid (by unfold stepC; rw [if_neg D4.out, NN.out, if_neg C2.out, if_neg C3.out, NM.out, hN]; rfl)
        have PE : Hid (parseL l = ([], 2)) := Lib.hid (by rw [← PF.out]; unfold parseF; rw [ST.out])
        clear hN cv
        go_wp2_with fail
        go_ret2
        exact rparse_end PE.out rfl BE.out
      have C4 : Hid (¬ (!namedB nm) = true) := Lib.hid (by rw [hN]; simp)
      clear hN cv
      by_cases c5 : l.length - p < 12 + n
      · have ST : Hid (stepC (l.drop p) = .inl 8) := Lib.hid (by
          unfold stepC; rw [if_neg D4.out, NN.out, if_neg C2.out, if_neg C3.out, NM.out, if_neg C4.out]
          by_cases h : (l.drop p).length < 8 + n
          · rw [if_pos h]
          · rw [if_neg h, if_pos (by rw [List.length_drop]; exact c5)])
        have PE : Hid (parseL l = ([], 8)) := Lib.hid (by rw [← PF.out]; unfold parseF; rw [ST.out])
        have d5 : decide ((l.length : Int) - (p : Int) < 12 + (n : Int)) = true := by rw [decide_eq_true_eq]; omega
        clear c5
        go_wp2_with fail
        go_ret2
        exact rparse_end PE.out rfl BE.out
      have d5 : decide ((l.length : Int) - (p : Int) < 12 + (n : Int)) = false := by rw [decide_eq_false_iff_not]; omega
      have n20 : n ≤ 1048576 := by omega
      have C5 : Hid (12 + n ≤ (l.drop p).length) := Lib.hid (by rw [List.length_drop]; omega)
      have C6 : Hid (p + (12 + n) ≤ l.length) := Lib.hid (by omega)
      obtain ⟨dt, hdt⟩ : ∃ dt, ((l.drop p).drop 8).take n = dt := ⟨_, rfl⟩
      have DT := Lib.hid hdt
      have LD : Hid (dt.length = n) := Lib.hid (by rw [← hdt]; simp only [List.length_take, List.length_drop]; omega)
      have BD : Hid (Bs wr (.slice (some ⟨b, off + (p + 8), none⟩) n (c0 - (p + 8))) dt) := Lib.hid (by
        have h := ((HB.out.old BE.out).drop (p + 8) (by omega)).take n (by rw [List.length_drop]; omega)
        rw [← hdt, List.drop_drop]; exact h)
      have g9 : ((p : Int) + 8 + (n : Int)).toNat = p + 8 + n := by omega
      have k1 : ¬ c0 = p + 8 := by omega
      have k2 : (p : Int) + 8 + (n : Int) ≤ (c0 : Int) := by omega
      have k3 : (0 : Int) ≤ (p : Int) + 8 + (n : Int) := by omega
      have k4 : (p : Int) + 8 ≤ (p : Int) + 8 + (n : Int) := by omega
      have k5 : p + 8 ≤ p + 8 + n := by omega
      have k6 : p + 8 + n - (p + 8) = n := by omega
      clear hdt c5 g1 g3 g4 g6 g7 g8
      go_wp2_with (at_builtin; refine stop ?_)
      have hb0 : Below wr.heap.size wr (wr.alloc (.cells #[] 5)) := (Below.refl _ _).alloc (Nat.le_refl _) _
      refine unstop (wpList_app tyB rfl _ _ rfl wr.heap.size _ 0 [] rfl (own0 wr _) (.slice (some ⟨b, off + (p + 8), none⟩) n (c0 - (p + 8))) n (vBs dt) rfl (by have := SlN.old BD.out hb0; rwa [LD.out] at this) (vBs_one dt) (by omega) (by omega) (by simp) ?_)
      intro v3 w3 hown3 hg3 _
      have B3 : Hid (Below wr.heap.size wr w3) := Lib.hid (run_app_below (own0 wr _) hg3 hb0 (Nat.le_refl _))
      have O3 : Hid (w3.ownsRow wr.heap.size 5 1 v3 n (vBs dt)) := Lib.hid (by have := hown3; rw [List.nil_append, Nat.zero_add] at this; exact this)
      obtain ⟨a3, k3', hv3⟩ := owns_len hown3
      rw [Nat.zero_add] at hv3
      subst hv3
      clear hown3 hg3 hb0
      obtain ⟨X, hX⟩ : ∃ X, w3.alloc (.cells #[.string (strOf nm), .slice a3 n k3'] 39) = X := ⟨_, rfl⟩
      obtain ⟨B, hB⟩ : ∃ B, w3.heap.size = B := ⟨_, rfl⟩
      have hx : X.heap[B]? = some (.cells #[.string (strOf nm), .slice a3 n k3'] 39 (0, 0)) := by rw [← hX, ← hB]; exact heap_alloc_new _ _
      have hb3x : Below w3.heap.size w3 X := by rw [← hX]; exact (Below.refl _ _).alloc (Nat.le_refl _) _
      have BX : Hid (Below wr.heap.size wr X) := Lib.hid (B3.out.trans (hb3x.mono B3.out.size))
      have OX : Hid (X.ownsRow wr.heap.size 5 1 (.slice a3 n k3') n (vBs dt)) := Lib.hid (owns_below O3.out hb3x)
      have DX : Hid (Bs X (.slice a3 n k3') dt) := Lib.hid (by have := sl_of_owns OX.out; unfold Bs; rw [LD.out]; exact this)
      have HXX := Lib.hid hx
      have BP : Hid (Bs X (.slice (some ⟨b, off + p, none⟩) (12 + n) (c0 - p)) ((l.drop p).take (12 + n))) := Lib.hid ((((HB.out.old BE.out).drop p HPL.out).take (12 + n) C5.out).old BX.out)
      have HBB := Lib.hid hB
      have HXA := Lib.hid hX
      have CC : Hid (chunkL (nm, dt) = (l.drop p).take (12 + n) ↔ numL (((l.drop p).drop (8 + n)).take 4) = crcN (nm ++ dt)) := Lib.hid (by
        have := chunk_stands C5.out NN.out
        rw [NM.out, DT.out] at this
        exact this)
      have g1 : ((p : Int) + 12 + (n : Int)).toNat = p + 12 + n := by omega
      have g3 : (p : Int) ≤ (p : Int) + 12 + (n : Int) := by omega
      have g4 : (0 : Int) ≤ (p : Int) + 12 + (n : Int) := by omega
      have g6 : (p : Int) + 12 + (n : Int) ≤ (c0 : Int) := by have := C6.out; omega
      have g7 : p + 12 + n - p = 12 + n := by omega
      clear hx hb3x
      clear g2 g4 g5 g9 k1 k2 k3 k4 k5 k6
      obtain ⟨z, hz⟩ : ∃ z, (l.drop p).take (12 + n) = z := ⟨_, rfl⟩
      obtain ⟨ck, hck⟩ : ∃ ck, chunkL (nm, dt) = ck := ⟨_, rfl⟩
      rw [hz] at BP CC
      rw [hck] at CC
      obtain ⟨q, hq⟩ : ∃ q, decide (ck = z) = q := ⟨_, rfl⟩
      have s1 : ((strOf ck).toList == (strOf z).toList) = q := by rw [strOf_toList, strOf_toList, beq_dec]; exact hq
      have CHK : Hid (∀ W, Below X.heap.size X W → Calls Try.prog 29 #[.agg #[.string (strOf nm), .slice a3 n k3']] W fun e w' => ∃ v', e = .returned v' ∧ Bs w' v' ck ∧ Below X.heap.size X w') := Lib.hid (fun W hW => by
        refine (refChunk_any nm dt _ W (DX.out.old hW) LN.out (by have := LD.out; omega)).mono ?_
        rintro e w' ⟨v', rfl, ho, hbw⟩
        have h := sl_of_owns ho
        rw [hck] at h
        exact ⟨v', rfl, h, hW.trans (hbw.mono hW.size)⟩)
      have HS0 : Hid (HeldC X B b (off + p) (12 + n) (c0 - p) nm (.slice a3 n k3') z X.drew) := Lib.hid (heldC_old HXX.out BP.out (Below.refl _ _).drew)
      have KEEP : Hid (∀ W, Below X.heap.size X W → HeldC X B b (off + p) (12 + n) (c0 - p) nm (.slice a3 n k3') z W) := Lib.hid (fun W hW => heldC_old HXX.out BP.out hW)
      have HQ := Lib.hid hq
      have HCK := Lib.hid hck
      have HZZ := Lib.hid hz
      clear hz hck hq
      go_wp2_with fail
      go_cut [80] from 69 to 80 (fun t wx => t = .bool (!q) ∧ Below X.heap.size X wx)
      case first =>
        have m0 : (0 : Int) ≤ (p : Int) := by omega
        have m3 : p ≤ p + 12 + n := by omega
        have m1 : IntKind.i64.wrap ((p : Int) + 12) = (p : Int) + 12 := IntWalk.i64_in _ (by omega)
        have m2 : IntKind.i64.wrap ((p : Int) + 12 + (n : Int)) = (p : Int) + 12 + (n : Int) := IntWalk.i64_in _ (by omega)
        obtain ⟨u0, u1, u2, u3⟩ := HS0.out
        first | go_region_with ((go_at_call 29; refine (CHK.out _ (Below.refl _ _).drew).mono ?_; rintro e w' ⟨v', rfl, hbs, hbx⟩; have cvs := conv_str hbs; obtain ⟨y0, y1, y2, y3⟩ := KEEP.out _ hbx; clear hbs)) | fail "x"
        all_goals
          have HFF : Below X.heap.size X _ := (by assumption)
          go_wp2_with fail
          go_meet
          exact ⟨rfl, HFF⟩
      case rest =>
        obtain ⟨rfl, hbc⟩ := hcut
        have BC := Lib.hid hbc
        have WC : Hid (Below w.heap.size w wc) := Lib.hid ((BE.out.trans (BX.out.mono BE.out.size)).trans (hbc.mono (Nat.le_trans BE.out.size BX.out.size)))
        obtain ⟨r0, r1, _, _⟩ := resB_of (heap_low HXX.out hbc)
        have SUM : Hid (ck = z ↔ numL (((l.drop p).drop (8 + n)).take 4) = crcN (nm ++ dt)) := CC
        have D8 : Hid (¬ (l.drop p).length < 8 + n) := Lib.hid (by have := C5.out; omega)
        have D12 : Hid (¬ (l.drop p).length < 12 + n) := Lib.hid (by have := C5.out; omega)
        clear hbc g1 g3 g6 g7 s1
        cases q with
        | false =>
          have ST : Hid (stepC (l.drop p) = .inl 2) := Lib.hid (by
            unfold stepC; rw [if_neg D4.out, NN.out, if_neg C2.out, if_neg C3.out, NM.out, if_neg C4.out, if_neg D8.out, if_neg D12.out, DT.out, if_pos]
            intro e
            have := SUM.out.2 e
            have h2 := HQ.out
            rw [decide_eq_false_iff_not] at h2
            exact h2 this)
          have PE : Hid (parseL l = ([], 2)) := Lib.hid (by rw [← PF.out]; unfold parseF; rw [ST.out])
          go_wp2_with fail
          go_ret2
          exact rparse_end PE.out rfl WC.out
        | true =>
          have ST : Hid (stepC (l.drop p) = .inr ((nm, dt), l.drop (p + (12 + n)))) := Lib.hid (by
            unfold stepC; rw [if_neg D4.out, NN.out, if_neg C2.out, if_neg C3.out, NM.out, if_neg C4.out, if_neg D8.out, if_neg D12.out, DT.out, if_neg, List.drop_drop]
            intro e
            exact e (SUM.out.1 (by have h2 := HQ.out; rwa [decide_eq_true_eq] at h2)))
          have PFE := Lib.hid (show parseF (f + 1) (l.drop p) (ps.map (·.1)) = (if nm = iend then (if dt ≠ [] ∨ l.drop (p + (12 + n)) ≠ [] then ([], 2) else (ps.map (·.1) ++ [(nm, dt)], 0)) else parseF f (l.drop (p + (12 + n))) (ps.map (·.1) ++ [(nm, dt)])) by
            show (match stepC (l.drop p) with | .inl n => _ | .inr (c, r) => _) = _
            rw [ST.out])
          have hm1 : (p : Int) + 12 + (n : Int) = ((p + (12 + n) : Nat) : Int) := by omega
          have HM1 := Lib.hid hm1
          clear hm1
          go_wp2_with (at_builtin; refine stop ?_)
          have hv3 : ChV w.heap.size (wc.alloc (.cells #[.string (strOf nm), .slice a3 n k3'] 39)) u4 ps := ((HV.out.old BX.out).old BC.out).old ((Below.refl _ _).alloc (Nat.le_refl _) _)
          have hd3 : (wc.alloc (.cells #[.string (strOf nm), .slice a3 n k3'] 39)).ownsRow w.heap.size 5 1 (.slice a3 n k3') dt.length (vBs dt) := by
            rw [LD.out]; exact World.ownsRow.mono ((owns_below OX.out BC.out).alloc _) BE.out.size
          have lit := sl_lit2 wc [.string (strOf nm), .slice a3 n k3'] 39 1 rfl (by omega)
          refine unstop (wpList_app tyC rfl _ _ rfl w.heap.size u4 ps.length (cellsP ps) rfl hv3.row (.slice (some ⟨wc.heap.size, 0, none⟩) 1 1) 1 [.string (strOf nm), .slice a3 n k3'] rfl lit (by intro u hu; simp at hu; rcases hu with rfl | rfl <;> rfl) (by have := HPS.out; omega) (by have := HPS.out; omega) (by have := WC.out.size; simp; omega) ?_)
          intro v4 w4 hown4 hg4 _
          have HV4 := Lib.hid (ChV.snoc (p := ((nm, dt), .slice a3 n k3')) hv3 hd3 hg4 hown4)
          have W4 : Hid (Below w.heap.size w w4) := Lib.hid (run_app_below hv3.row hg4 (WC.out.alloc WC.out.size _) (Nat.le_refl _))
          clear hv3 hd3 lit hown4 hg4
          by_cases hi : nm = iend
          · have s2 : ((strOf nm).toList == [73, 69, 78, 68]) = true := by rw [strOf_toList, hi]; decide
            have HI := Lib.hid hi
            clear hi
            by_cases hz : n = 0 ∧ p + 12 + n = l.length
            · obtain ⟨rfl, hz2⟩ := hz
              have PE : Hid (parseL l = (ps.map (·.1) ++ [(nm, dt)], 0)) := Lib.hid (by
                rw [← PF.out, PFE.out, if_pos HI.out, if_neg]
                rw [List.eq_nil_of_length_eq_zero LD.out, List.drop_of_length_le (by omega)]; simp)
              have e1 : decide ((p : Int) + 12 + ((0 : Nat) : Int) < (l.length : Int)) = false := by rw [decide_eq_false_iff_not]; omega
              have e2 : decide ((p : Int) + 12 < (l.length : Int)) = false := by rw [decide_eq_false_iff_not]; omega
              clear hz2
              go_wp2_with fail
              go_ret2
              exact rparse_ok (PE.out.trans (by simp)) HV4.out W4.out
            · have PE : Hid (parseL l = ([], 2)) := Lib.hid (by
                rw [← PF.out, PFE.out, if_pos HI.out, if_pos]
                by_cases e : n = 0
                · right
                  intro e2
                  have := congrArg List.length e2
                  rw [List.length_drop, List.length_nil] at this
                  exact hz ⟨e, by have := C6.out; omega⟩
                · left; intro e2; rw [e2] at LD; exact e LD.out.symm)
              have e1 : (decide (0 < n) = true) ∨ (decide (0 < n) = false ∧ decide ((p : Int) + 12 + (n : Int) < (l.length : Int)) = true) := by
                by_cases e : n = 0
                · right; exact ⟨by rw [decide_eq_false_iff_not]; omega, by rw [decide_eq_true_eq]; have := C6.out; omega⟩
                · left; rw [decide_eq_true_eq]; omega
              clear hz
              rcases e1 with e1 | ⟨e1, e2⟩
              · go_wp2_with fail
                all_goals
                  go_ret2
                  exact rparse_end PE.out rfl W4.out
              · go_wp2_with fail
                all_goals
                  go_ret2
                  exact rparse_end PE.out rfl W4.out
          · have s2 : ((strOf nm).toList == [73, 69, 78, 68]) = false := by rw [strOf_toList, beq_eq_false_iff_ne]; exact hi
            have PE : Hid (parseF f (l.drop (p + (12 + n))) (ps.map (·.1) ++ [(nm, dt)]) = parseL l) := Lib.hid (by rw [← PF.out, PFE.out, if_neg hi])
            clear hi
            go_upto_region 24 with (fail)
            have C6' := C6.out
            have HPS' := HPS.out
            have HF' := HF.out
            obtain ⟨P, hP⟩ : ∃ P, p + (12 + n) = P := ⟨_, rfl⟩
            rw [HM1.out, hP]
            rw [hP] at PE
            have REL : Hid (RPar w l v4 (.int .i64 (P : Int)) w4) := Lib.hid ⟨f, P, ps ++ [((nm, dt), .slice a3 n k3')], rfl, by omega, by rw [List.length_append, List.length_singleton]; omega, HV4.out, by rw [← PE.out]; simp, by omega, W4.out⟩
            have ME : Hid (measL l.length (.int .i64 (P : Int)) < measL l.length (.int .i64 (p : Int))) := Lib.hid (by simp [measL, intOf]; omega)
            clear hP C6' HPS' HF' HM1 d3 d4 d5 n32 n20 hll hne hp20 hpl
            go_wp2_with fail
            go_roundw
            case rel => exact REL.out
            case measure => exact ME.out
end Go.Proofs.Ytmdbnnnaiidheaa
