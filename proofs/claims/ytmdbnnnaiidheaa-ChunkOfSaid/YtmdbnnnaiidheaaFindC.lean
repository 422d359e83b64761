/- chunk.Find: the chunks of a name, as an iterator that hands over clones. By an AI agent. -/
import Derived.Test.YtmdbnnnaiidheaaRangeR
import Derived.Test.YtmdbnnnaiidheaaChunkV
import Derived.Test.YtmdbnnnaiidheaaSPut
import Derived.Test.YtmdbnnnaiidheaaChunkP
import Derived.Stop.RegionWithIn
import Derived.Deep.DeepCutAuto
namespace Go.Proofs.Ytmdbnnnaiidheaa
open Go.RowKit Go.Shelf Go.BigFrame
set_option linter.unusedVariables false
set_option linter.unusedSimpArgs false
attribute [local go_sem] Oper.semAt_some

/-! ## the blocks below N -/
def Low (N : Nat) (A B : World) : Prop := ∀ b, b < N → B.heap[b]? = A.heap[b]?
theorem Low.below {N n : Nat} {A B : World} (h : Below n A B) (hn : N ≤ n) : Low N A B := fun b hb => h.block b (by omega)
theorem Low.trans {N : Nat} {A B C : World} (h : Low N A B) (k : Low N B C) : Low N A C := fun b hb => (k b hb).trans (h b hb)
theorem Low.cell {A B : World} (h : Low A.heap.size A B) {p : Addr} {v : Value} (hc : A.cell? p = some v) : B.cell? p = some v := by
  rw [World.cell?_of_block (h p.block (World.block_lt_of_cell? _ _ hc))]; exact hc
theorem Low.bs {A B : World} (h : Low A.heap.size A B) {v : Value} {l : List UInt8} (hb : Bs A v l) : Bs B v l := by
  refine ⟨hb.1, ?_⟩
  rcases hb.2 with hb | ⟨b, off, cap, hv, hc, hn, hx⟩
  · exact .inl hb
  · exact .inr ⟨b, off, cap, hv, hc, hn, fun i u hu => h.cell (hx i u hu)⟩
theorem Low.cks {A B : World} (h : Low A.heap.size A B) {v : Value} {cs : List Chk} (hb : Cks A v cs) : Cks B v cs := by
  obtain ⟨a, cap, hv, hx⟩ := hb
  exact ⟨a, cap, hv, fun i hi => let ⟨b, off, x, ha, h1, h2, h3⟩ := hx i hi; ⟨b, off, x, ha, h.cell h1, h.cell h2, h.bs h3⟩⟩
theorem Low.keepO {N : Nat} {bs : List Nat} {A B : World} (h : KeepO bs A B) (hN : N ≤ A.heap.size) (hs : ∀ b, b < N → b ∈ bs) : Low N A B := fun b hb => h.2 b (hs b hb) (by omega)
theorem owns_base {w : World} {base base' : Nat} {e : TypeId} {size : Nat} {v : Value} {n : Nat} {xs : List Value} (h : w.ownsRow base' e size v n xs) (hb : base ≤ base') : w.ownsRow base e size v n xs := by
  refine ⟨h.1, ?_⟩
  rcases h.2 with h | ⟨g, cap, cur, hv, hg, hr⟩
  · exact .inl h
  · exact .inr ⟨g, cap, cur, hv, by omega, hr⟩

/-! ## how many have the name -/
def cnt (ls : List Chk) (nm : List UInt8) (k : Nat) : Nat := ((ls.take k).filter fun c => decide (c.1 = nm)).length
theorem cnt_succ (ls : List Chk) (nm : List UInt8) (k : Nat) (h : k < ls.length) : cnt ls nm (k + 1) = cnt ls nm k + (if ls[k].1 = nm then 1 else 0) := by
  unfold cnt
  rw [List.take_succ_eq_append_getElem h, List.filter_append, List.length_append]
  congr 1
  simp only [List.filter_cons, List.filter_nil]
  split <;> rename_i h1 <;> simp at h1 <;> simp [h1]
theorem cnt_le (ls : List Chk) (nm : List UInt8) {i k : Nat} (h : i ≤ k) : cnt ls nm i ≤ cnt ls nm k := by
  unfold cnt
  have e : ls.take k = ls.take i ++ (ls.take k).drop i := by
    have := (List.take_append_drop i (ls.take k)).symm
    rwa [List.take_take, Nat.min_eq_left h] at this
  rw [e, List.filter_append, List.length_append]; omega
theorem cnt_len (ls : List Chk) (nm : List UInt8) (k : Nat) : cnt ls nm k ≤ ls.length := by
  unfold cnt
  exact Nat.le_trans (List.length_filter_le _ _) (by rw [List.length_take]; omega)

theorem below_tr' {X w : World} (h : Below X.drew.heap.size X.drew w) : Below X.heap.size X w := (Below.refl _ _).drew.trans (h.mono (Nat.le_refl _))
/-! ## the iterator -/
abbrev encF (nm : List UInt8) (x : Nat × Value) : Array Value := #[.int .i64 (x.1 : Int), .agg #[.string (strOf nm), x.2]]
def OkF (ls : List Chk) (nm : List UInt8) (base : Nat) (pre : List (Nat × Value)) (x : Nat × Value) (W : World) : Prop :=
  ∃ h : x.1 < ls.length, ls[x.1].1 = nm ∧ pre.length = cnt ls nm x.1 ∧ W.ownsRow base 5 1 x.2 ls[x.1].2.length (vBs ls[x.1].2)
def FinF (ls : List Chk) (nm : List UInt8) (pre : List (Nat × Value)) : Prop := pre.length = cnt ls nm ls.length
theorem find_any (a : Option Addr) (n c : Nat) (nm : List UInt8) (w : World) : Calls Try.prog 34 #[.slice a n c, .string (strOf nm)] w fun e w' =>
    e = .returned (.func (.func 46) #[] #[.pointer (some ⟨w.heap.size, 0, none⟩), .pointer (some ⟨w.heap.size + 1, 0, none⟩)]) ∧
    w' = (w.alloc (.cells #[.slice a n c] 25)).alloc (.cells #[.string (strOf nm)] 9) := by
  go_enter Try.func34, Try.ntmps34
  go_wp2
  go_ret
  exact ⟨rfl, rfl⟩
set_option maxRecDepth 100000 in
set_option maxHeartbeats 8000000 in
theorem find_seq (n : Nat) (hn : 4 ≤ n) (b1 b2 : Nat) (bs : List Nat) (v : Value) (ls : List Chk) (nm : List UInt8) (w0 w : World) (hc : Cks w0 v ls) (hls : ls.length ≤ 1000000) (hd : ∀ c ∈ ls, c.2.length ≤ 140737488351232) (h0w : Below w0.heap.size w0 w)
    (c1 : w.cell? ⟨b1, 0, none⟩ = some v) (c2 : w.cell? ⟨b2, 0, none⟩ = some (.string (strOf nm))) (m1 : b1 ∈ bs) (m2 : b2 ∈ bs) (hbs : ∀ b ∈ bs, b < w.heap.size) (hb0 : ∀ b, b < w0.heap.size → b ∈ bs) :
    SeqR n Try.prog 46 #[.pointer (some ⟨b1, 0, none⟩), .pointer (some ⟨b2, 0, none⟩)] (encF nm) bs (OkF ls nm w.heap.size) (FinF ls nm) w := fun ll J Jx V hV hJ hJx hY h0 => by
  obtain ⟨av, cv, rfl, hx⟩ := hc
  have d1 := cell_old hV c1
  have d2 := cell_old hV c2
  have D2 := Lib.hid d2
  have YY := Lib.hid hY
  have HJ := Lib.hid hJ
  have HJx := Lib.hid hJx
  have H0 := Lib.hid h0
  have HX := Lib.hid hx
  have HV := Lib.hid hV
  have HSZ : Hid (w0.heap.size ≤ w.heap.size ∧ w.heap.size ≤ V.heap.size) := Lib.hid ⟨h0w.size, hV.size⟩
  have L0 : Hid (Low w0.heap.size w0 V) := Lib.hid ((Low.below h0w (Nat.le_refl _)).trans (Low.below hV h0w.size))
  have HD := Lib.hid hd
  have BS := Lib.hid hbs
  have HB0 := Lib.hid hb0
  clear c1 c2 hbs hV hY hJ hJx h0 hx hd h0w hb0
  refine callsIn_wide.2 ?_
  go_enter Try.func46, Try.ntmps46
  go_wp2_with fail
  clear d1 d2
  go_loopw [8] (fun i W => ∃ (k : Nat) (pre : List (Nat × Value)), i = .int .i64 (k : Nat) ∧ k ≤ ls.length ∧ pre.length = cnt ls nm k ∧ J pre W ∧ KeepO bs V W) (fun i _ => ls.length - (intOf i).toNat)
  case atStart => exact ⟨0, [], rfl, Nat.zero_le _, rfl, H0.out, KeepO.refl _ _⟩
  case round =>
    obtain ⟨k, pre, rfl, hk, hpre, hjj, hko⟩ := hrel
    have JJ := Lib.hid hjj
    have KO := Lib.hid hko
    have PRE := Lib.hid hpre
    have hz := HSZ.out
    have k2 := (World.cell?_of_block (a := ⟨b2, 0, none⟩) (hko.2 b2 m2 (by have := BS.out b2 m2; omega))).trans D2.out
    have LW : Hid (Low w0.heap.size w0 wr) := Lib.hid (L0.out.trans (Low.keepO hko (by omega) HB0.out))
    have SW : Hid (V.heap.size ≤ wr.heap.size) := Lib.hid hko.1
    clear hjj hko hpre hz
    by_cases hkl : k < ls.length
    · obtain ⟨b, off, x, rfl, hc0, hc1, hbx⟩ := HX.out k hkl
      have p0 := LW.out.cell hc0
      have p1 := LW.out.cell hc1
      have DL := Lib.hid (HD.out _ (List.getElem_mem hkl))
      have CS := Lib.hid (cnt_succ ls nm k hkl)
      have OKI : Hid (∀ (q : Value) (W : World), ls[k].1 = nm → W.ownsRow w.heap.size 5 1 q ls[k].2.length (vBs ls[k].2) → OkF ls nm w.heap.size pre (k, q) W) := Lib.hid (fun q W h1 h2 => ⟨hkl, h1, PRE.out, h2⟩)
      obtain ⟨⟨m, dt⟩, hcc⟩ : ∃ c, ls[k] = c := ⟨_, rfl⟩
      rw [hcc] at p0 hbx DL CS OKI
      simp only at p0 hbx DL CS OKI
      have e1 : decide ((k : Int) < (ls.length : Int)) = true := by rw [decide_eq_true_eq]; omega
      have BX : Hid (Bs wr x dt) := Lib.hid (LW.out.bs hbx)
      obtain ⟨a', c', rfl⟩ := hbx.len
      obtain ⟨X, hX⟩ : ∃ X, wr.alloc (.cells #[.string (strOf m), .slice a' dt.length c'] 39) = X := ⟨_, rfl⟩
      obtain ⟨B, hB⟩ : ∃ B, wr.heap.size = B := ⟨_, rfl⟩
      have HXX : Hid (X.heap[B]? = some (.cells #[.string (strOf m), .slice a' dt.length c'] 39 (0, 0))) := Lib.hid (by rw [← hX, ← hB]; exact heap_alloc_new _ _)
      have bx : Below wr.heap.size wr X := by rw [← hX]; exact (Below.refl _ _).alloc (Nat.le_refl _) _
      have k2' := cell_old bx k2
      have bd := bx.drew
      have k2'' := cell_old bd k2
      have r := resB_of (heap_low HXX.out (Below.refl X.heap.size X).drew)
      obtain ⟨r0, r1, _, _⟩ := r
      have BX' := Lib.hid bx
      clear hc0 hc1 hbx hcc bx bd k2
      by_cases hm : m = nm
      · subst hm
        have s1 : ((strOf m).toList == (strOf m).toList) = true := by rw [beq_iff_eq]
        have BXX : Hid (Bs X.drew (.slice a' dt.length c') dt) := Lib.hid (BX.out.old BX'.out.drew)
        have KEEP : Hid (∀ W, Below X.heap.size X W → W.cell? ⟨B, 0, none⟩ = some (.string (strOf m)) ∧ W.cell? ⟨B, 1, none⟩ = some (.slice a' dt.length c')) := Lib.hid (fun W hW => let r := resB_of (heap_low HXX.out hW); ⟨r.1, r.2.1⟩)
        have YLD : Hid (∀ (q : Value) (W : World), W.ownsRow X.drew.heap.size 5 1 q dt.length (vBs dt) → Below X.heap.size X W → YieldAt Fence.wide (n - 1) Try.prog ll (encF m (k, q)) W fun e W' => ∃ bo : Bool, e = .returned (.bool bo) ∧ KeepO bs wr W' ∧ (if bo then J (pre ++ [(k, q)]) W' else Jx (pre ++ [(k, q)]) W')) := Lib.hid (fun q W ho hW => by
          have hwW : Below wr.heap.size wr W := BX'.out.trans (hW.mono BX'.out.size)
          have hz := HSZ.out
          have hs := SW.out
          have hs2 := hwW.size
          refine (YY.out pre (k, q) W (by omega) (HJ.out _ _ _ JJ.out (hwW.mono (by omega))) (OKI.out q W rfl (owns_base ho (by have := BX'.out.size; simp; omega)))).mono ?_
          rintro e W' (⟨rfl, h1, h2⟩ | ⟨rfl, h1, h2⟩)
          · exact ⟨true, rfl, (KeepO.below hwW).trans h2, h1⟩
          · exact ⟨false, rfl, (KeepO.below hwW).trans h2, h1⟩)
        go_upto_region 3 with (fail)
        refine (wpIn_wide (n := n)).1 ?_
        gi_region_with (first | (refine ⟨trivial, fun _ => by omega, (callsIn_wide.2 (clone_own _ dt _ BXX.out DL.out)).mono ?_⟩; rintro e w4 ⟨v4, rfl, ho4, hb4⟩; obtain ⟨a4, k4, rfl⟩ := owns_len ho4; have hb4' : Below X.heap.size X w4 := below_tr' hb4; obtain ⟨z0, z1⟩ := KEEP.out _ hb4'; obtain ⟨f1, t1, as1, y1, hy1, hR1⟩ := YLD.out _ w4 ho4 hb4'; dsimp only [encF] at hy1; have RR := Lib.hid hR1; clear hR1) | (refine ⟨fun _ => by omega, RR.out.mono ?_⟩; rintro e W5 ⟨bo, rfl, hko5, hj5⟩))
        all_goals
          have HK5 : Hid (KeepO bs V W5) := Lib.hid (KO.out.trans hko5)
          have HJ5 := Lib.hid hj5
          have CC := CS.out
          clear hko5 hj5 hy1 r0 r1 z0 z1
          cases bo
          · gi_wp2_with fail
            go_wp2_with fail
            refine bodyPost_ret (results_none rfl _ _ _) rfl ?_
            exact ⟨⟨_, rfl⟩, .inr ⟨_, HJ5.out⟩⟩
          · gi_wp2_with fail
            go_wp2_with fail
            go_roundw
            case rel => exact ⟨k + 1, pre ++ [(k, .slice a4 dt.length k4)], by go_num, by omega, by rw [List.length_append, PRE.out, CC]; simp, (show J _ W5 from by have := HJ5.out; simpa using this), HK5.out⟩
            case measure => simp [intOf]; omega
      · have s1 : ((strOf m).toList == (strOf nm).toList) = false := by rw [strOf_toList, strOf_toList, beq_eq_false_iff_ne]; exact hm
        have CC : cnt ls nm (k + 1) = cnt ls nm k := by have := CS.out; rw [if_neg hm] at this; omega
        have HCC := Lib.hid CC
        have HJX : Hid (∀ q, J pre (X.drewN q)) := Lib.hid (fun q => HJ.out _ _ _ JJ.out ((below_drewN BX'.out q).mono SW.out))
        have HKX : Hid (∀ q, KeepO bs V (X.drewN q)) := Lib.hid (fun q => KO.out.trans (KeepO.below (below_drewN BX'.out q)))
        obtain ⟨t0, t1, _, _⟩ := resB_of HXX.out
        clear hm CC r0 r1 k2''
        go_upto_region 3 with (fail)
        go_quiet (fail)
        go_wp2_with fail
        go_roundw
        case rel => exact ⟨k + 1, pre, by go_num, by omega, by rw [PRE.out, HCC.out], HJX.out _, HKX.out _⟩
        case measure => simp [intOf]; omega
    · obtain rfl : k = ls.length := by omega
      have e1 : decide ((ls.length : Int) < (ls.length : Int)) = false := by rw [decide_eq_false_iff_not]; omega
      go_wp2_with fail
      go_end0
      exact ⟨⟨_, rfl⟩, .inl ⟨pre, PRE.out, JJ.out⟩⟩
end Go.Proofs.Ytmdbnnnaiidheaa
