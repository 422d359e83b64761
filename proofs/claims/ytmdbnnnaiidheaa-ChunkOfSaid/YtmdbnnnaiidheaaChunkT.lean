/- The walk of chunk.Signed, chunk.Parse. By an AI agent. -/
import Derived.Test.YtmdbnnnaiidheaaChunkV
namespace Go.Proofs.Ytmdbnnnaiidheaa
open Go.RowKit Go.BigFrame
set_option linter.unusedVariables false
set_option linter.unusedSimpArgs false

def signedC (l : List UInt8) : Bool := decide (l.take 8 = signL)
theorem csigned_any (v : Value) (l : List UInt8) (w : World) (hb : Bs w v l) (hl : l.length ≤ 140737488355328) :
    Calls Try.prog 24 #[v] w fun e w' => e = .returned (.bool (signedC l)) ∧ Below w.heap.size w w' := by
  obtain ⟨a0, c0, rfl⟩ := hb.len
  have HB := Lib.hid hb
  have HL := Lib.hid hl
  have kc := fun (w : World) (C : Array Value) (n c : Nat) => Lib.run_convert_bytes_const (P := Try.prog) w 22 5 C n c Try.underlying22 Try.underlying5
  clear hb hl
  go_enter Try.func24, Try.ntmps24
  go_wp2_with fail
  refine (hasPrefix_any a0 _ c0 8 l signL _ ?h1 ?h2 HL.out (by decide)).mono ?_
  case h1 => exact HB.out.old ((Below.refl _ _).alloc (Nat.le_refl _) _)
  case h2 => exact bs_heap (n := 8) (cap := 8) _ (heap_alloc_new _ _) rfl rfl (by decide)
  rintro e w1 ⟨rfl, hw1⟩
  have hb1 : Below w.heap.size w w1 := by rw [← hw1]; exact (Below.refl _ _).alloc (Nat.le_refl _) _
  clear hw1
  have HB1 := Lib.hid hb1
  clear hb1 kc
  go_wp2_with fail
  go_ret
  exact ⟨rfl, HB1.out⟩

/-- what Parse leaves -/
def ParsePost (w : World) (r : List Chk × Nat) (e : Ending) (w' : World) : Prop :=
  ∃ v ps, e = .returned (.tuple #[v, errV r.2]) ∧ ChV w.heap.size w' v ps ∧ ps.map (·.1) = r.1 ∧ Below w.heap.size w w'
theorem parse_end {w w' : World} {r : List Chk × Nat} {n : Nat} (h : r = ([], n)) (hb : Below w.heap.size w w') : ParsePost w r (.returned (.tuple #[.slice none 0 0, errV n])) w' := by
  subst h; exact ⟨_, [], rfl, ChV.nil _ _, rfl, hb⟩
theorem parse_ok {w w' : World} {r : List Chk × Nat} {v : Value} {ps : List ChP} (h : r = (ps.map (·.1), 0)) (hv : ChV w.heap.size w' v ps) (hb : Below w.heap.size w w') : ParsePost w r (.returned (.tuple #[v, .nilIface])) w' := by
  subst h; exact ⟨v, ps, rfl, hv, rfl, hb⟩
def restLen (R : Nat) (W : World) : Nat := match W.cell? ⟨R, 0, none⟩ with | some (.slice _ n _) => n | _ => 0
theorem restLen_of {w0 w : World} {R : Nat} {l : List UInt8} (h : Rd w0 w R l) : restLen R w = l.length := by
  obtain ⟨a, cap, hc, _⟩ := h.ex
  unfold restLen
  rw [hc]
theorem Rd.grown {w0 w w' : World} {R : Nat} {l : List UInt8} {row : Option Nat} (h : Rd w0 w R l) (hg : w.grownBy w' row) (hr : ∀ k, row = some k → R + 1 ≤ k) : Rd w0 w' R l := by
  obtain ⟨v, hh, hv⟩ := h.cell
  have ho := h.own
  refine ⟨h.below.grown hg h.below.size fun k hk => by have := hr k hk; omega, ho, v, ?_, hv⟩
  rw [hg.block R (Array.getElem?_eq_some_iff.1 hh).1 (fun e => by have := hr R e.symm; omega)]
  exact hh
theorem sl_lit2 (w : World) (cs : List Value) (e : TypeId) (n : Nat) (hn : cs.length = n * 2) (hm : n ≤ 281474976710656) : SlN 2 (w.alloc (.cells cs.toArray e)) (.slice (some ⟨w.heap.size, 0, none⟩) n n) n cs := by
  have h := World.ownsRow_lit (base := 0) (e := e) (size := 2) w cs.toArray n (Nat.zero_le _) (by unfold maxLen; omega) (by simp [hn])
  exact sl_of_owns h
theorem ChV.mono {base base' : Nat} {w : World} {v : Value} {ps : List ChP} (h : ChV base w v ps) (hb : base' ≤ base) : ChV base' w v ps :=
  ⟨World.ownsRow.mono h.row hb, fun p hp => World.ownsRow.mono (h.data p hp) hb⟩
theorem own_lt_old {w w' : World} {base : Nat} {e : TypeId} {size : Nat} {v : Value} {n : Nat} {xs : List Value} {R : Nat} (h : w.ownsRow base e size v n xs) (hg : w.grownBy w' (some R)) : ∀ k, v.ownBlock = some k → k < w'.heap.size := fun k hk => Nat.lt_of_lt_of_le (h.lt k hk).2 hg.size
set_option maxHeartbeats 4000000 in
theorem parse_any (v : Value) (l : List UInt8) (w : World) (hb : Bs w v l) (hl : l.length ≤ 140737488351232) :
    Calls Try.prog 11 #[v] w (ParsePost w (parseL l)) := by
  obtain ⟨a0, c0, rfl⟩ := hb.len
  have HB := Lib.hid hb
  have HL := Lib.hid hl
  by_cases c1 : 1048576 < l.length
  · have PA := Lib.hid (show parseL l = ([], 4) by unfold parseL; rw [if_pos c1])
    have d1 : decide ((1048576 : Int) < (l.length : Int)) = true := by rw [decide_eq_true_eq]; omega
    have BR := Lib.hid (Below.refl w.heap.size w)
    clear hb hl c1
    go_enter Try.func11, Try.ntmps11
    go_wp2_with fail
    go_ret2
    exact parse_end PA.out BR.out
  have d1 : decide ((1048576 : Int) < (l.length : Int)) = false := by rw [decide_eq_false_iff_not]; omega
  have C1 := Lib.hid c1
  clear hb hl c1
  go_enter Try.func11, Try.ntmps11
  go_wp2_with fail
  refine (csigned_any _ l _ HB.out (by have := HL.out; omega)).mono ?_; rintro e w1 ⟨rfl, hb1⟩
  have B1 := Lib.hid hb1
  clear hb1
  by_cases c2 : l.take 8 = signL
  rotate_left
  · have SG : Hid (signedC l = false) := Lib.hid (by unfold signedC; rw [decide_eq_false_iff_not]; exact c2)
    have PA := Lib.hid (show parseL l = ([], 2) by unfold parseL; rw [if_neg C1.out, if_pos c2])
    rw [SG.out]
    clear c2
    go_wp2_with fail
    go_ret2
    exact parse_end PA.out B1.out
  have SG : Hid (signedC l = true) := Lib.hid (by unfold signedC; rw [decide_eq_true_eq]; exact c2)
  have PA := Lib.hid (show parseL l = parseF l.length (l.drop 8) [] by unfold parseL; rw [if_neg C1.out, if_neg (by rw [c2]; simp)])
  have L8 : Hid (8 ≤ l.length) := Lib.hid (by have := congrArg List.length c2; rw [List.length_take] at this; simp [signL] at this; omega)
  rw [SG.out]
  clear c2
  obtain ⟨b, off, rfl, hcap⟩ : ∃ b off, a0 = some ⟨b, off, none⟩ ∧ l.length ≤ c0 := by
    rcases HB.out.shape with ⟨a', c', hv, h0⟩ | ⟨b, off, c', hv, hcc, _⟩
    · have := L8.out; rw [h0] at this; simp at this
    · simp only [Value.slice.injEq] at hv; exact ⟨b, off, hv.1, by omega⟩
  have j1 : (8 : Int) ≤ (l.length : Int) := by have := L8.out; omega
  have j2 : 8 ≤ l.length := L8.out
  have j3 : (8 : Int) ≤ (c0 : Int) := by omega
  have BW1 := Lib.hid (HB.out.old B1.out)
  have rd_new : ∀ v r, Bs w1 v r → Rd w1 (w1.alloc (.cells #[v] 55)) w1.heap.size r := fun v r h => ⟨(Below.refl _ _).alloc (Nat.le_refl _) _, Nat.le_refl _, v, heap_alloc_new _ _, h⟩
  have RN := Lib.hid rd_new
  have SW : Hid (w.heap.size ≤ w1.heap.size) := Lib.hid B1.out.size
  have E0 : ((0 : Nat) : Int) = 0 := rfl
  clear rd_new
  by_cases e8 : c0 = 8
  case' pos =>
    subst e8
    have bs8 : Bs w1 (.slice (some ⟨b, off, none⟩) 0 0) (l.drop 8) := by
      have : l.length = 8 := by omega
      rw [List.drop_of_length_le (by omega)]; exact Bs.nil _ _ _
    have B8 := Lib.hid bs8
    clear bs8
    go_wp2_with fail
    obtain ⟨v8, hv8⟩ : ∃ v8, Value.slice (some ⟨b, off, none⟩) 0 0 = v8 := ⟨_, rfl⟩
    rw [hv8] at B8 ⊢
    have HV8 := Lib.hid hv8
    clear hv8
  case' neg =>
    have B8 := Lib.hid (BW1.out.drop 8 L8.out)
    go_wp2_with fail
    obtain ⟨v8, hv8⟩ : ∃ v8, Value.slice (some ⟨b, off + 8, none⟩) (l.length - 8) (c0 - 8) = v8 := ⟨_, rfl⟩
    rw [hv8] at B8 ⊢
    have HV8 := Lib.hid hv8
    clear hv8
  all_goals
    have RD0 := Lib.hid (RN.out _ _ B8.out)
    obtain ⟨X, hX⟩ : ∃ X, w1.alloc (.cells #[v8] 55) = X := ⟨_, rfl⟩
    rw [hX] at RD0 ⊢
    clear hX
    have BX : Hid (Below w.heap.size w X) := Lib.hid (B1.out.trans (RD0.out.below.mono SW.out))
    obtain ⟨R, hR⟩ : ∃ R, w1.heap.size = R := ⟨_, rfl⟩
    rw [hR] at RD0 ⊢
    have HR := Lib.hid hR
    clear hR
    go_loopw [5] (fun v W => ∃ (f : Nat) (r : List UInt8) (ps : List ChP), Rd w1 W R r ∧ ChV (R + 1) W v ps ∧ ps.length + r.length ≤ l.length ∧ parseF f r (ps.map (·.1)) = parseL l ∧ r.length < f) (fun _ W => restLen R W)
    case atStart => exact ⟨l.length, l.drop 8, [], RD0.out, ChV.nil _ _, by rw [List.length_drop, List.length_nil]; omega, PA.out.symm, by have := L8.out; rw [List.length_drop]; omega⟩
    case round =>
      obtain ⟨f, r, ps, rd, hv, hpl, hp, hf⟩ := hrel
      obtain ⟨f, rfl⟩ : ∃ g, f = g + 1 := ⟨f - 1, by omega⟩
      have hRw : R < wr.heap.size := rd.ex.elim fun _ h => h.elim fun _ h => h.2.2.2
      have RL := Lib.hid (restLen_of rd)
      have HV := Lib.hid hv
      have HP := Lib.hid hp
      have RB := Lib.hid rd
      have WB : Hid (Below w.heap.size w wr) := Lib.hid (B1.out.trans (rd.below.mono SW.out))
      have LR : Hid (r.length ≤ 140737488351232) := Lib.hid (by have := HL.out; omega)
      have PL := Lib.hid hpl
      have HF := Lib.hid hf
      have STEP := Lib.hid (chunk_any w1 wr R r rd LR.out)
      clear hv hp rd hpl hf
      rcases hs : stepC r with n | ⟨⟨nm, dt⟩, r'⟩
      · have PE : Hid (parseL l = ([], n)) := Lib.hid (by rw [← HP.out]; unfold parseF; rw [hs])
        have N0 := Lib.hid (step_err hs)
        rw [hs] at STEP
        clear hs
        go_wp2_with fail
        refine STEP.out.mono ?_
        rintro e w2 ⟨rfl, hb2⟩
        rw [errV_some (show (n : Int) ≠ 0 by have := N0.out; omega)]
        have B2 := Lib.hid (B1.out.trans (hb2.mono SW.out))
        clear hb2
        go_wp2_with fail
        go_ret2
        have := parse_end PE.out (B2.out.alloc B2.out.size (.cells #[.string ⟨#[]⟩, .slice none 0 0] 39))
        rw [errV_some (show (n : Int) ≠ 0 by have := N0.out; omega)] at this
        exact this
      · rw [hs] at STEP
        have HS := Lib.hid hs
        clear hs
        go_wp2_with fail
        refine STEP.out.mono ?_
        rintro e w2 ⟨⟨v, rfl, ho⟩, rd2, g2⟩
        obtain ⟨ad, cd, rfl⟩ := owns_len ho
        have O2 := Lib.hid ho
        have RD2 := Lib.hid rd2
        have G2 := Lib.hid g2
        clear ho rd2 g2
        go_wp2_with (at_builtin; refine stop ?_)
        have hv3 : ChV (R + 1) ((w2.alloc (.cells #[.string (strOf nm), .slice ad dt.length cd] 39)).alloc (.cells #[.string (strOf nm), .slice ad dt.length cd] 39)) u5 ps :=
          ((HV.out.low G2.out (Nat.lt_succ_self R)).old ((Below.refl _ _).alloc (Nat.le_refl _) _)).old ((Below.refl _ _).alloc (Nat.le_refl _) _)
        have hd3 : ((w2.alloc (.cells #[.string (strOf nm), .slice ad dt.length cd] 39)).alloc (.cells #[.string (strOf nm), .slice ad dt.length cd] 39)).ownsRow (R + 1) 5 1 (.slice ad dt.length cd) dt.length (vBs dt) :=
          World.ownsRow.mono ((O2.out.alloc _).alloc _) hRw
        have SHORT := Lib.hid (step_short HS.out)
        have hm : (ps.length + 1) * 40 ≤ 140737488355328 := by have := PL.out; have := C1.out; have := SHORT.out; omega
        have lit := sl_lit2 (w2.alloc (.cells #[.string (strOf nm), .slice ad dt.length cd] 39)) [.string (strOf nm), .slice ad dt.length cd] 39 1 rfl (by omega)
        rw [World.size_alloc] at lit
        refine unstop (wpList_app tyC rfl _ _ rfl (R + 1) u5 ps.length (cellsP ps) rfl hv3.row (.slice (some ⟨w2.heap.size + 1, 0, none⟩) 1 1) 1 [.string (strOf nm), .slice ad dt.length cd] rfl lit (by intro u hu; simp at hu; rcases hu with rfl | rfl <;> rfl) hm (by omega) (by have := G2.out.size; simp; omega) ?_)
        intro v4 w4 hown4 hg4 _
        have HV4 := Lib.hid (ChV.snoc (p := ((nm, dt), .slice ad dt.length cd)) hv3 hd3 hg4 hown4)
        have own4 : ∀ k, u5.ownBlock = some k → R + 1 ≤ k := fun k hk => (hv3.row.lt k hk).1
        have RD3 : Rd w1 ((w2.alloc (.cells #[.string (strOf nm), .slice ad dt.length cd] 39)).alloc (.cells #[.string (strOf nm), .slice ad dt.length cd] 39)) R r' := (RD2.out.old ((Below.refl _ _).alloc (Nat.le_refl _) _)).old ((Below.refl _ _).alloc (Nat.le_refl _) _)
        have RD4 := Lib.hid (RD3.grown hg4 own4)
        have n4 : w4.heap[w2.heap.size]? = some (.cells #[.string (strOf nm), .slice ad dt.length cd] 39 (0, 0)) := by
          rw [hg4.block _ (by simp; omega) ?_]
          · rw [((Below.refl _ _).alloc (Nat.le_refl _) _ : Below (w2.alloc _).heap.size (w2.alloc _) _).block _ (by simp)]
            exact heap_alloc_new _ _
          · intro e
            have h5 := own_lt_old HV.out.row G2.out
            have := h5 _ e.symm
            omega
        obtain ⟨q0, q1, _, _⟩ := resB_of n4
        have Q := Lib.hid (And.intro q0 q1)
        clear lit hv3 hd3 hm hown4 hg4 own4 RD3 n4
        have W4 : Hid (Below w.heap.size w w4) := Lib.hid (B1.out.trans (RD4.out.below.mono SW.out))
        have PF := Lib.hid (show parseF (f + 1) r (ps.map (·.1)) = (if nm = iend then (if dt ≠ [] ∨ r' ≠ [] then ([], 2) else (ps.map (·.1) ++ [(nm, dt)], 0)) else parseF f r' (ps.map (·.1) ++ [(nm, dt)])) by
          show (match stepC r with | .inl n => _ | .inr (c, r) => _) = _
          rw [HS.out])
        have TL := Lib.hid (strOf_toList nm)
        by_cases hi : nm = iend
        · have s1 : ((strOf nm).toList == [73, 69, 78, 68]) = true := by rw [strOf_toList, hi]; decide
          obtain ⟨ar, cr, hcr, _⟩ := RD4.out.ex
          obtain ⟨n, hn⟩ : ∃ n, dt.length = n := ⟨_, rfl⟩
          obtain ⟨m, hm⟩ : ∃ m, r'.length = m := ⟨_, rfl⟩
          rw [hn] at q1
          rw [hm] at hcr
          have HN := Lib.hid hn
          have HM := Lib.hid hm
          have HI := Lib.hid hi
          rw [hn]
          clear hn hm hi
          by_cases hz : n = 0 ∧ m = 0
          · obtain ⟨rfl, rfl⟩ := hz
            have PE : Hid (parseL l = (ps.map (·.1) ++ [(nm, dt)], 0)) := Lib.hid (by
              rw [← HP.out, PF.out, if_pos HI.out, if_neg]
              rw [List.eq_nil_of_length_eq_zero HN.out, List.eq_nil_of_length_eq_zero HM.out]; simp)
            go_wp2_with fail
            go_ret2
            exact parse_ok (PE.out.trans (by simp)) (HV4.out.mono (by have := HR.out; have := SW.out; omega)) W4.out
          · have PE : Hid (parseL l = ([], 2)) := Lib.hid (by
              rw [← HP.out, PF.out, if_pos HI.out, if_pos]
              by_cases e : n = 0
              · right; intro e2; rw [e2] at HM; exact hz ⟨e, HM.out.symm⟩
              · left; intro e2; rw [e2] at HN; exact e HN.out.symm)
            have e1 : (0 < n) ∨ (decide (0 < n) = false ∧ n = 0 ∧ 0 < m) := by
              by_cases e : n = 0
              · right; exact ⟨by rw [decide_eq_false_iff_not]; omega, e, by omega⟩
              · left; omega
            clear hz
            rcases e1 with e1 | ⟨_, rfl, e2⟩
            · have e3 : decide (0 < n) = true := by rw [decide_eq_true_eq]; exact e1
              go_wp2_with fail
              go_ret2
              exact parse_end PE.out W4.out
            · have e3 : decide (0 < m) = true := by rw [decide_eq_true_eq]; exact e2
              go_wp2_with fail
              go_ret2
              exact parse_end PE.out W4.out
        · have s1 : ((strOf nm).toList == [73, 69, 78, 68]) = false := by rw [strOf_toList, beq_eq_false_iff_ne]; exact hi
          have PE : Hid (parseF f r' (ps.map (·.1) ++ [(nm, dt)]) = parseL l) := Lib.hid (by rw [← HP.out, PF.out, if_neg hi])
          clear hi
          go_wp2_with fail
          go_roundw
          case rel => exact ⟨f, r', ps ++ [((nm, dt), .slice ad dt.length cd)], RD4.out, HV4.out, by have := PL.out; have := SHORT.out; rw [List.length_append, List.length_singleton]; omega, by rw [← PE.out]; simp, by have := SHORT.out; have := HF.out; omega⟩
          case measure =>
            rw [restLen_of RD4.out, RL.out]
            have := SHORT.out
            omega
end Go.Proofs.Ytmdbnnnaiidheaa
