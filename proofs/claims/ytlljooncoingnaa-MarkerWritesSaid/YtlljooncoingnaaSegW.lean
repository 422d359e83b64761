/- marker.Write. By an AI agent. -/
import Derived.Test.YtlljooncoingnaaSegC
namespace Go.Proofs.Ytlljooncoingnaa
open Go.RowKit Go.BigFrame
set_option linter.unusedVariables false
set_option linter.unusedSimpArgs false

/-! ## plain -/
theorem ivsL_append : ∀ (a b : List (List UInt8)) (k : Nat), ivsL k (a ++ b) = ivsL k a ++ ivsL (k + a.length) b
  | [], b, k => by simp [ivsL]
  | p :: a, b, k => by
    simp only [List.cons_append, ivsL, ivsL_append a b (k + 1), List.append_assoc, List.length_cons]
    rw [show k + 1 + a.length = k + (a.length + 1) by omega]
theorem ivsL_take (ivs : List (List UInt8)) (j : Nat) (h : j < ivs.length) : ivsL 0 (ivs.take (j + 1)) = ivsL 0 (ivs.take j) ++ ((if 0 < j then [255, UInt8.ofNat (208 + (j - 1) % 8)] else []) ++ stuffL ivs[j]) := by
  rw [List.take_succ_eq_append_getElem h, ivsL_append, List.length_take, Nat.min_eq_left (Nat.le_of_lt h), Nat.zero_add]
  simp [ivsL]
theorem ivsL_take_le (ivs : List (List UInt8)) (j : Nat) : (ivsL 0 (ivs.take j)).length ≤ (ivsL 0 ivs).length := by
  conv => rhs; rw [← List.take_append_drop j ivs, ivsL_append]
  simp
def outK (its : List Itm) (k : Nat) : List UInt8 := [255, 216] ++ ((its.take k).map itemL).flatten
theorem outK_succ (its : List Itm) (k : Nat) (h : k < its.length) : outK its (k + 1) = outK its k ++ itemL its[k] := by
  unfold outK
  rw [List.take_succ_eq_append_getElem h, List.map_append, List.flatten_append]; simp
theorem outK_le (its : List Itm) (k : Nat) : (outK its k).length + 2 ≤ (writeS its).length := by
  have : ((its.take k).map itemL).flatten.length ≤ (its.map itemL).flatten.length := by
    conv => rhs; rw [← List.take_append_drop k its, List.map_append, List.flatten_append, List.length_append]
    exact Nat.le_add_right _ _
  simp only [outK, writeS, List.length_append, List.length_cons, List.length_nil]
  omega
theorem outK_all (its : List Itm) : outK its its.length ++ [255, 217] = writeS its := by
  unfold outK writeS; rw [List.take_length]; simp
theorem put_lit2 (n : Nat) (w : World) (hn : n < 65536) :
    Calls Try.prog 38 #[.slice none 0 0, .int .i64 2, .int .i64 (n : Int)] w fun e w' => ∃ v', e = .returned (.tuple #[v', .nilIface]) ∧ w'.ownsRow w.heap.size 5 1 v' 2 (vBs (putL 2 n)) ∧ Below w.heap.size w w' :=
  put_good (.slice none 0 0) [] 2 n w (Bs.nil _ _ _) (by simp) (by decide) hn
theorem row_ne {w : World} {base B : Nat} {v : Value} {n : Nat} {xs : List Value} {C : Array Value} {ty : TypeId} {fr : Nat × Nat} (h : w.ownsRow base 5 1 v n xs) (hb : w.heap[B]? = some (.cells C ty fr)) (ht : ty ≠ 5) : v.ownBlock ≠ some B := by
  intro hj
  rcases h.2 with ⟨h1, _⟩ | ⟨g, cap, cur, h1, _, h2, _⟩
  · rw [h1] at hj; simp [Value.ownBlock] at hj
  · rw [h1] at hj
    simp only [Value.ownBlock, Option.some.injEq] at hj
    subst hj
    rw [hb] at h2
    simp only [Option.some.injEq, Obj.cells.injEq] at h2
    exact ht h2.2.1
/-- an append to an own row of bytes leaves the box, and what there was -/
theorem app_keeps {w W W' : World} {B : Nat} {v : Value} {n : Nat} {xs : List Value} {C : Array Value} {ty : TypeId} {fr : Nat × Nat} (h : W.ownsRow w.heap.size 5 1 v n xs) (hg : W.grownBy W' v.ownBlock) (hb : W.heap[B]? = some (.cells C ty fr)) (ht : ty ≠ 5) (hw : Below w.heap.size w W) : W'.heap[B]? = some (.cells C ty fr) ∧ Below w.heap.size w W' :=
  ⟨by rw [hg.block B (Array.getElem?_eq_some_iff.1 hb).1 (fun e => row_ne h hb ht e.symm)]; exact hb, run_app_below h hg hw (Nat.le_refl _)⟩
theorem rbyte (j : Nat) (h : 0 < j) : (208 + ((j : Int) - 1) % 8) = (((UInt8.ofNat (208 + (j - 1) % 8)).toNat : Nat) : Int) := by
  rw [UInt8.toNat_ofNat']; omega
def WPost (w : World) (its : List Itm) (e : Ending) (w' : World) : Prop :=
  Below w.heap.size w w' ∧ if its.all goodI then (∃ v', e = .returned (.tuple #[v', .nilIface]) ∧ w'.ownsRow w.heap.size 5 1 v' (writeS its).length (vBs (writeS its))) else e = .returned (.tuple #[.slice none 0 0, .iface 50 (.int .i64 6)])
theorem good_take (its : List Itm) (k : Nat) (h : k < its.length) : (its.take (k + 1)).all goodI = ((its.take k).all goodI && goodI its[k]) := by
  rw [List.take_succ_eq_append_getElem h, List.all_append]; simp
theorem bad_any {its : List Itm} {k : Nat} (h : k < its.length) (hb : goodI its[k] = false) : its.all goodI = false := by
  rw [List.all_eq_false]; exact ⟨_, List.getElem_mem h, by simp [hb]⟩
set_option maxRecDepth 20000 in
set_option maxHeartbeats 8000000 in
theorem mwrite_any (v : Value) (its : List Itm) (w : World) (hb : Its w v its) (hl : its.length ≤ 1000000) (hd : ∀ it ∈ its, it.2.1.length ≤ 140737488351232) (hv : ∀ it ∈ its, it.2.2.length ≤ 140737488351232) (hs : its.all goodI = true → (writeS its).length ≤ 1048576) :
    Calls Try.prog 24 #[v] w (WPost w its) := by
  obtain ⟨a0, c0, rfl, hc0, hx⟩ := its_at hb
  have HX := Lib.hid hx
  have HD := Lib.hid hd
  have HV := Lib.hid hv
  have HL := Lib.hid hl
  have HS := Lib.hid hs
  clear hx hb hd hv hs hl
  go_enter Try.func24, Try.ntmps24
  go_wp2_with fail
  go_loopw [16] (fun i W => ∃ k : Nat, k ≤ its.length ∧ i = .int .i64 k ∧ (its.take k).all goodI = true ∧ Below w.heap.size w W) (fun i _ => its.length - (intOf i).toNat)
  case atStart => exact ⟨0, Nat.zero_le _, rfl, rfl, Below.refl _ _⟩
  case round =>
    obtain ⟨k, hk, rfl, hall, hbel⟩ := hrel
    have BE := Lib.hid hbel
    have AL := Lib.hid hall
    by_cases hkl : k < its.length
    · have k1 : k < 1000000 := by have := HL.out; omega
      obtain ⟨b, off, dv, iv, rfl, p1, p2, p3, p4, p5⟩ := HX.out k hkl
      obtain ⟨da, dc, rfl⟩ := p1.len
      obtain ⟨va, vc, rfl, _⟩ := p2.read
      have q3 := cell_old hbel p3
      have q4 := cell_old hbel p4
      have q5 := cell_old hbel p5
      have DL := Lib.hid (HD.out _ (List.getElem_mem hkl))
      have VL := Lib.hid (HV.out _ (List.getElem_mem hkl))
      have GT := Lib.hid (good_take its k hkl)
      have BA := Lib.hid (@bad_any its k hkl)
      obtain ⟨⟨m, d, ivs⟩, hc⟩ : ∃ c, its[k] = c := ⟨_, rfl⟩
      rw [hc] at q3 q4 q5 DL VL GT BA
      simp only at q3 q4 q5 DL VL
      have e1 : decide ((k : Int) < (its.length : Int)) = true := by rw [decide_eq_true_eq]; omega
      have e2 : decide (k < its.length) = true := by rw [decide_eq_true_eq]; omega
      have SW : Hid (w.heap.size ≤ wr.heap.size) := Lib.hid hbel.size
      clear p1 p2 p3 p4 p5 hc hall hbel
      go_wp2_with fail
      refine (check_any m d ivs da va dc vc _ DL.out VL.out).mono ?_; rintro e w2 ⟨rfl, hb2⟩
      have B2 := Lib.hid ((BE.out.alloc BE.out.size _).trans (hb2.mono (by have := SW.out; simp; omega)))
      clear hb2
      rcases hG : goodI (m, d, ivs) with _ | _
      · have WA : Hid (its.all goodI = false) := Lib.hid (BA.out hG)
        clear hG
        rw [show checkV false = .iface 50 (.int .i64 6) from rfl]
        go_wp2_with fail
        go_ret2
        exact ⟨B2.out, by rw [if_neg (by rw [WA.out]; simp)]; rfl⟩
      · rw [hG, AL.out] at GT
        clear hG
        rw [show checkV true = .nilIface from rfl]
        go_wp2_with fail
        go_roundw
        case rel => exact ⟨k + 1, by omega, by go_num, GT.out, B2.out⟩
        case measure => simp [intOf]; omega
    · obtain rfl : k = its.length := by omega
      have e1 : decide ((its.length : Int) < (its.length : Int)) = false := by rw [decide_eq_false_iff_not]; omega
      rw [List.take_length] at hall
      have GA := Lib.hid hall
      have HW := Lib.hid (HS.out hall)
      have SW : Hid (w.heap.size ≤ wr.heap.size) := Lib.hid hbel.size
      clear hbel hall e1
      go_wp2_with fail
      go_loopw [7, 29] (fun u i W => ∃ k : Nat, k ≤ its.length ∧ i = .int .i64 k ∧ W.ownsRow w.heap.size 5 1 u (outK its k).length (vBs (outK its k)) ∧ Below w.heap.size w W) (fun _ i _ => its.length - (intOf i).toNat)
      case atStart =>
        have h0 : outK its 0 = [255, 216] := by simp [outK]
        exact ⟨0, Nat.zero_le _, rfl, by rw [h0]; exact World.ownsRow_lit (size := 1) wr #[.int .u8 255, .int .u8 216] 2 SW.out (by unfold maxLen; omega) rfl, BE.out.alloc BE.out.size _⟩
      case round =>
        obtain ⟨k, hk, rfl, hown, hbel⟩ := hrel
        have BK := Lib.hid hbel
        have OK := Lib.hid hown
        obtain ⟨ua, uc, rfl⟩ := owns_len hown
        have OL := Lib.hid (outK_le its k)
        by_cases hkl : k < its.length
        · have k1 : k < 1000000 := by have := HL.out; omega
          obtain ⟨b, off, dv, iv, rfl, p1, p2, p3, p4, p5⟩ := HX.out k hkl
          obtain ⟨da, dc, rfl⟩ := p1.len
          obtain ⟨va, vc, rfl, hiv⟩ := p2.read
          have HIV := Lib.hid hiv
          have q3 := cell_old hbel p3
          have q4 := cell_old hbel p4
          have q5 := cell_old hbel p5
          have GG := Lib.hid (good_parts (List.all_eq_true.1 GA.out _ (List.getElem_mem hkl)))
          have OS := Lib.hid (outK_succ its k hkl)
          have OL2 := Lib.hid (outK_le its (k + 1))
          have DB := Lib.hid p1
          obtain ⟨⟨m, d, ivs⟩, hc⟩ : ∃ c, its[k] = c := ⟨_, rfl⟩
          rw [hc] at q3 q4 q5 GG OS DB HIV
          simp only at q3 q4 q5 GG DB HIV
          have e1 : decide ((k : Int) < (its.length : Int)) = true := by rw [decide_eq_true_eq]; omega
          have e2 : decide (k < its.length) = true := by rw [decide_eq_true_eq]; omega
          have SW2 : Hid (w.heap.size ≤ wr.heap.size) := Lib.hid hbel.size
          obtain ⟨dn, hdn⟩ : ∃ n, d.length = n := ⟨_, rfl⟩
          have HDN := Lib.hid hdn
          rw [hdn] at q4 DB
          have dn5 : dn ≤ 65533 := by have := GG.out.2.2.2.2.1; omega
          obtain ⟨t, ht⟩ : ∃ t, 2 + dn = t := ⟨_, rfl⟩
          have HT := Lib.hid ht
          have f1 : wrap64 (2 + (dn : Int)) = (t : Int) := by rw [IntWalk.wrap64_in _ (by omega)]; omega
          have T6 : Hid (t < 65536) := Lib.hid (by omega)
          obtain ⟨X, hX⟩ : ∃ X, wr.alloc (.cells #[.int .i64 m, .slice da dn dc, .slice va ivs.length vc] 58) = X := ⟨_, rfl⟩
          obtain ⟨B, hB⟩ : ∃ B, wr.heap.size = B := ⟨_, rfl⟩
          have NB : Hid (X.heap[B]? = some (.cells #[.int .i64 m, .slice da dn dc, .slice va ivs.length vc] 58 (0, 0))) := Lib.hid (by rw [← hX, ← hB]; exact heap_alloc_new _ _)
          have BX : Hid (Below w.heap.size w X) := Lib.hid (by rw [← hX]; exact BK.out.alloc SW2.out _)
          have OX : Hid (X.ownsRow w.heap.size 5 1 (.slice ua (outK its k).length uc) (outK its k).length (vBs (outK its k))) := Lib.hid (by rw [← hX]; exact OK.out.alloc _)
          obtain ⟨z0, z1, z2, _⟩ := box3_of NB.out
          clear p1 p2 p3 p4 p5 hc hown hbel hdn ht hiv dn5
          go_wp2_with fail
          refine (put_lit2 t X T6.out).mono ?_; rintro e w3 ⟨v3, rfl, o3, hb3⟩
          obtain ⟨a3, c3, rfl⟩ := owns_len o3
          have O3 := Lib.hid o3
          have B3 := Lib.hid (BX.out.trans (hb3.mono BX.out.size))
          have R3 := Lib.hid (owns_below OX.out hb3)
          have N3 := Lib.hid (heap_low NB.out hb3)
          have ULT : Hid (∀ j, (Value.slice ua (outK its k).length uc).ownBlock = some j → w.heap.size ≤ j ∧ j < X.heap.size) := Lib.hid (fun j hj => OX.out.lt j hj)
          have XB : Hid (B < X.heap.size ∧ w.heap.size ≤ B ∧ X.heap.size ≤ w3.heap.size) := Lib.hid ⟨(Array.getElem?_eq_some_iff.1 NB.out).1, by rw [← hB]; exact SW2.out, hb3.size⟩
          obtain ⟨z0, z1, z2, _⟩ := box3_of N3.out
          have M8 : Hid (1 < m ∧ m < 255) := Lib.hid ⟨GG.out.1, GG.out.2.1⟩
          clear o3 hb3 hX hB f1
          go_wp2_with fail
          obtain ⟨o, ho⟩ : ∃ o, outK its k = o := ⟨_, rfl⟩
          obtain ⟨ch, hch⟩ : ∃ c, UInt8.ofNat m.toNat = c := ⟨_, rfl⟩
          have hcm : ((ch.toNat : Nat) : Int) = m := by rw [← hch]; exact byte_back m (by have := M8.out; omega) (by have := M8.out; omega)
          have g8 : IntKind.u8.wrap m = m := by
            have := M8.out
            unfold IntKind.wrap
            simp [IntKind.bits, IntKind.signed]
            omega
          have HO := Lib.hid ho
          have HCH := Lib.hid hch
          have HCM := Lib.hid hcm
          rw [ho] at R3 ULT OS OL ⊢
          have OS2 : Hid (outK its (k + 1) = o ++ [255, ch] ++ putL 2 t ++ d ++ ivsL 0 ivs) := Lib.hid (by rw [OS.out]; unfold itemL; simp only; rw [hch, HDN.out, HT.out]; simp)
          have LEN : Hid (o.length + 4 + dn + (ivsL 0 ivs).length ≤ 1048576) := Lib.hid (by
            have h1 := OL2.out; have h2 := HW.out
            rw [OS2.out] at h1
            simp only [List.length_append, List.length_cons, List.length_nil, putL_length, HDN.out] at h1
            omega)
          have n1 : (o.length + 2) * 1 ≤ 140737488355328 := by have := LEN.out; omega
          have n2 : (o.length + 2 + 2) * 1 ≤ 140737488355328 := by have := LEN.out; omega
          have n3 : (o.length + 2 + 2 + dn) * 1 ≤ 140737488355328 := by have := LEN.out; omega
          clear ho hch hcm
          go_cut [7] from 45 to 57 (fun u wx => wx.ownsRow w.heap.size 5 1 u (o.length + 2 + 2 + dn) (vBs (o ++ [255, ch] ++ putL 2 t ++ d)) ∧ Below w.heap.size w wx ∧ wx.heap[B]? = some (.cells #[.int .i64 m, .slice da dn dc, .slice va ivs.length vc] 58 (0, 0)))
          case first =>
            have A1 : Hid (∀ O, ((w3.alloc O).drew).ownsRow w.heap.size 5 1 (.slice ua o.length uc) o.length (vBs o)) := Lib.hid (fun O => owns_below R3.out ((Below.refl _ _).alloc (Nat.le_refl _) _).drew)
            have A2 : Hid (∀ O v5 w5 n5 xs5, w5.ownsRow w.heap.size 5 1 v5 n5 xs5 → ((w3.alloc O).drew).grownBy w5 (Value.slice ua o.length uc).ownBlock → w5.heap[B]? = some (.cells #[.int .i64 m, .slice da dn dc, .slice va ivs.length vc] 58 (0, 0)) ∧ Below w.heap.size w w5 ∧ SlN 1 w5 (.slice a3 2 c3) 2 (vBs (putL 2 t))) := Lib.hid (fun O v5 w5 n5 xs5 ho hg => by
              have hbb : Below w3.heap.size w3 (w3.alloc O).drew := ((Below.refl _ _).alloc (Nat.le_refl _) _).drew
              have hk := app_keeps (A1.out O) hg (heap_low N3.out hbb) (by decide) (B3.out.trans (hbb.mono B3.out.size))
              refine ⟨hk.1, hk.2, sl_of_owns ((owns_below O3.out hbb).kept hg ?_)⟩
              cases hv : (Value.slice a3 2 c3).ownBlock with
              | none => exact .inl rfl
              | some z =>
                right
                intro e
                have h1 := (O3.out.lt z hv).1
                have h2 := (ULT.out z e.symm).2
                omega)
            have DB2 : Hid (∀ W, Below w.heap.size w W → SlN 1 W (.slice da dn dc) dn (vBs d)) := Lib.hid (fun W hW => by have := DB.out.old hW; unfold Bs at this; rw [HDN.out] at this; exact this)
            have z5 : ∀ O, (w3.alloc O).cell? ⟨B, 1, none⟩ = some (.slice da dn dc) := fun O => (box3_of (heap_low N3.out ((Below.refl w3.heap.size w3).alloc (Nat.le_refl _) O))).2.1
            go_region_law ((first | (refine step_app tyB rfl _ _ rfl w.heap.size _ o.length (vBs o) rfl (A1.out _) _ 2 [.int .u8 255, .int .u8 m] rfl (sl_heap (heap_alloc_new w3 _) rfl (Nat.le_refl _)) (by intro u hu; simp at hu; rcases hu with rfl | rfl <;> rfl) n1 (by omega) (by have := B3.out.size; simp; omega) ?_; intro v5 w5 hown5 hg5; obtain ⟨hb5, hw5, hn5⟩ := A2.out _ _ _ _ _ hown5 hg5; obtain ⟨y0, y1, y2, _⟩ := box3_of hb5; obtain ⟨a5, c5, hv5⟩ := owns_len hown5; subst hv5; have H5 := Lib.hid hown5; have BB5 := Lib.hid hb5; have W5 := Lib.hid hw5; have N5 := Lib.hid hn5; clear hown5 hg5 hb5 hw5 hn5) | (refine step_app tyB rfl _ _ rfl w.heap.size _ (o.length + 2) _ rfl H5.out _ 2 (vBs (putL 2 t)) rfl N5.out (vBs_one _) n2 (by omega) W5.out.size ?_; intro v6 w6 hown6 hg6; obtain ⟨hb6, hw6⟩ := app_keeps H5.out hg6 BB5.out (by decide) W5.out; obtain ⟨y0, y1, y2, _⟩ := box3_of hb6; obtain ⟨a6, c6, hv6⟩ := owns_len hown6; subst hv6; have H6 := Lib.hid hown6; have BB6 := Lib.hid hb6; have W6 := Lib.hid hw6; clear hown6 hg6 hb6 hw6) | (refine step_app tyB rfl _ _ rfl w.heap.size _ (o.length + 2 + 2) _ rfl H6.out _ dn (vBs d) rfl (DB2.out _ W6.out) (vBs_one _) n3 (by omega) W6.out.size ?_; intro v7 w7 hown7 hg7; obtain ⟨hb7, hw7⟩ := app_keeps H6.out hg7 BB6.out (by decide) W6.out; obtain ⟨a7, c7, hv7⟩ := owns_len hown7; subst hv7; have H7 := Lib.hid hown7; have BB7 := Lib.hid hb7; have W7 := Lib.hid hw7; clear hown7 hg7 hb7 hw7)))
            all_goals
              go_wp2_with fail
              go_meet
              refine ⟨?_, W7.out, BB7.out⟩
              have := H7.out
              rw [← HCM.out] at this
              simpa [vBs, vB] using this
          case rest =>
            obtain ⟨ou, hbe, hbx⟩ := hcut
            obtain ⟨a7, c7, hv7⟩ := owns_len ou
            subst hv7
            obtain ⟨q, hq⟩ : ∃ q, o ++ [255, ch] ++ putL 2 t ++ d = q := ⟨_, rfl⟩
            have ql : q.length = o.length + 2 + 2 + dn := by rw [← hq]; simp [putL_length, HDN.out]; omega
            rw [hq, ← ql] at ou
            rw [← ql]
            rw [hq] at OS2
            have QL := Lib.hid ql
            have OU := Lib.hid ou
            have BQ := Lib.hid hbe
            have NQ := Lib.hid hbx
            obtain ⟨z0', z1', z2', _⟩ := box3_of hbx
            obtain ⟨vn, hvn⟩ : ∃ n, ivs.length = n := ⟨_, rfl⟩
            have HVN := Lib.hid hvn
            have VNL : Hid (vn ≤ 1048577) := Lib.hid (by have := (ivsL_len ivs 0).1; have := LEN.out; omega)
            rw [hvn] at z2'
            clear ou hbe hbx hq ql hvn n1 n2 n3 z0 z1 z2 g8
            go_wp2_with fail
            go_loopw [7, 61] (fun u i W => ∃ j : Nat, j ≤ vn ∧ i = .int .i64 j ∧ W.ownsRow w.heap.size 5 1 u (q ++ ivsL 0 (ivs.take j)).length (vBs (q ++ ivsL 0 (ivs.take j))) ∧ Below w.heap.size w W) (fun _ i _ => vn - (intOf i).toNat)
            case atStart => exact ⟨0, Nat.zero_le _, rfl, by simpa [ivsL] using OU.out, BQ.out⟩
            case round =>
              obtain ⟨j, hj, rfl, hown, hbel⟩ := hrel
              have RJ := Lib.hid hown
              have BJ := Lib.hid hbel
              have SJ : Hid (w.heap.size ≤ wr.heap.size) := Lib.hid hbel.size
              by_cases hjl : j < vn
              · have jl : j < ivs.length := by have := HVN.out; omega
                have jm : j < 1048577 := by have := VNL.out; omega
                obtain ⟨pb, po, x, rfl, r1, r2⟩ := HIV.out j jl
                have TK := Lib.hid (ivsL_take ivs j jl)
                have TL := Lib.hid (ivsL_take_le ivs (j + 1))
                obtain ⟨pl, hpl⟩ : ∃ pl, ivs[j]'jl = pl := ⟨_, rfl⟩
                rw [hpl] at TK r2
                obtain ⟨pa, pc, rfl⟩ := r2.len
                have PB := Lib.hid r2
                have s1 := cell_old hbel r1
                have SL := Lib.hid (stuffL_len pl)
                obtain ⟨e, he⟩ : ∃ e, q ++ ivsL 0 (ivs.take j) = e := ⟨_, rfl⟩
                rw [he] at RJ
                have TK2 : Hid (q ++ ivsL 0 (ivs.take (j + 1)) = e ++ ((if 0 < j then [255, UInt8.ofNat (208 + (j - 1) % 8)] else []) ++ stuffL pl)) := Lib.hid (by rw [TK.out, ← he]; simp)
                have LN2 : Hid ((q ++ ivsL 0 (ivs.take (j + 1))).length ≤ 1048576) := Lib.hid (by have h1 := TL.out; have h2 := LEN.out; have h3 := QL.out; rw [List.length_append]; omega)
                obtain ⟨ea, ec, rfl⟩ := owns_len hown
                rw [he]
                have e1 : decide ((j : Int) < (vn : Int)) = true := by rw [decide_eq_true_eq]; omega
                have e2 : decide (j < vn) = true := by rw [decide_eq_true_eq]; omega
                obtain ⟨pn, hpn⟩ : ∃ n, pl.length = n := ⟨_, rfl⟩
                have HPN := Lib.hid hpn
                rw [hpn] at s1
                rw [he] at RJ
                clear hown hbel hpl r1 r2 he hpn
                by_cases hj0 : 0 < j
                case' pos =>
                  have e3 : decide ((0 : Int) < (j : Int)) = true := by rw [decide_eq_true_eq]; omega
                  have e4 : decide (0 < j) = true := by rw [decide_eq_true_eq]; omega
                  have RB := Lib.hid (rbyte j hj0)
                  rw [if_pos hj0] at TK2
                  go_wp2_with (at_builtin; refine stop ?_)
                  refine unstop (wpList_app tyB rfl _ _ rfl w.heap.size (.slice ea e.length ec) e.length (vBs e) rfl (RJ.out.alloc _) (.slice (some ⟨wr.heap.size, 0, none⟩) 2 2) 2 _ rfl (sl_heap (heap_alloc_new _ _) rfl (Nat.le_refl _)) (by intro u hu; simp at hu; rcases hu with rfl | rfl <;> rfl) (by have := LN2.out; rw [TK2.out] at this; simp at this; omega) (by have := LN2.out; rw [TK2.out] at this; simp at this; omega) (by have := SJ.out; simp; omega) ?_)
                  intro v8 w8 o8 g8 _
                  have B8 := Lib.hid (run_app_below (RJ.out.alloc _) g8 (BJ.out.alloc SJ.out _) (Nat.le_refl _))
                  have o8' : w8.ownsRow w.heap.size 5 1 v8 (e ++ [255, UInt8.ofNat (208 + (j - 1) % 8)]).length (vBs (e ++ [255, UInt8.ofNat (208 + (j - 1) % 8)])) := by
                    have := o8
                    rw [RB.out] at this
                    simpa [vBs, vB] using this
                  clear o8 g8
                  obtain ⟨e2', he2⟩ : ∃ e2, e ++ [255, UInt8.ofNat (208 + (j - 1) % 8)] = e2 := ⟨_, rfl⟩
                  rw [he2] at o8'
                  have TK3 : Hid (q ++ ivsL 0 (ivs.take (j + 1)) = e2' ++ stuffL pl) := Lib.hid (by rw [TK2.out, ← he2]; simp)
                  obtain ⟨ea8, ec8, rfl⟩ := owns_len o8'
                  have R8 := Lib.hid o8'
                  clear o8' he2
                case' neg =>
                  have e3 : decide ((0 : Int) < (j : Int)) = false := by rw [decide_eq_false_iff_not]; omega
                  have e4 : decide (0 < j) = false := by rw [decide_eq_false_iff_not]; omega
                  rw [if_neg hj0] at TK2
                  have TK3 : Hid (q ++ ivsL 0 (ivs.take (j + 1)) = e ++ stuffL pl) := Lib.hid (by rw [TK2.out]; simp)
                  have R8 := Lib.hid RJ.out
                  have B8 := Lib.hid BJ.out
                all_goals
                  have PL2 : Hid (pn ≤ 1048576) := Lib.hid (by
                    have h1 := LN2.out; rw [TK3.out, List.length_append] at h1
                    have h2 := SL.out.1; rw [HPN.out] at h2; omega)
                  have d1 : decide ((1048576 : Int) < (pn : Int)) = false := by rw [decide_eq_false_iff_not]; have := PL2.out; omega
                  clear hj0
                  go_wp2_with fail
                  have BS8 := PB.out.old B8.out
                  rw [HPN.out] at BS8
                  refine (stuff_any _ pl _ BS8 (by rw [HPN.out]; have := PL2.out; omega)).mono ?_
                  rintro e9 w9 ⟨v9, rfl, o9, b9⟩
                  have B9 := Lib.hid (B8.out.trans (b9.mono B8.out.size))
                  have R9 := Lib.hid (owns_below R8.out b9)
                  have S9 := Lib.hid (sl_of_owns o9)
                  obtain ⟨a9, c9, rfl⟩ := owns_len o9
                  clear BS8 o9 b9
                  go_wp2_with (at_builtin; refine stop ?_)
                  refine unstop (wpList_app tyB rfl _ _ rfl w.heap.size _ _ _ rfl R9.out _ (stuffL pl).length (vBs (stuffL pl)) rfl S9.out (vBs_one _) (by have := LN2.out; rw [TK3.out] at this; simp at this; omega) (by have := LN2.out; rw [TK3.out] at this; simp at this; omega) B9.out.size ?_)
                  intro v10 w10 o10 g10 _
                  have B10 := Lib.hid (run_app_below R9.out g10 B9.out (Nat.le_refl _))
                  rw [← vBs_append, ← List.length_append, ← TK3.out] at o10
                  have R10 := Lib.hid o10
                  obtain ⟨a10, c10, rfl⟩ := owns_len o10
                  have d2 : decide ((1048576 : Int) < (((q ++ ivsL 0 (ivs.take (j + 1))).length : Nat) : Int)) = false := by rw [decide_eq_false_iff_not]; have := LN2.out; omega
                  obtain ⟨e5, he5⟩ : ∃ e5, q ++ ivsL 0 (ivs.take (j + 1)) = e5 := ⟨_, rfl⟩
                  rw [he5] at d2 ⊢
                  have HE5 := Lib.hid he5
                  clear o10 g10 he5
                  go_wp2_with fail
                  go_roundw
                  case rel => exact ⟨j + 1, by omega, by go_num, by rw [HE5.out]; have := R10.out; rw [HE5.out] at this; exact this, B10.out⟩
                  case measure => simp [intOf]; omega
              · obtain rfl : j = vn := by omega
                have e1 : decide ((j : Int) < (j : Int)) = false := by rw [decide_eq_false_iff_not]; omega
                have OS3 : Hid (outK its (k + 1) = q ++ ivsL 0 (ivs.take j)) := Lib.hid (by rw [OS2.out, show ivs.take j = ivs by rw [← HVN.out]; exact List.take_length])
                obtain ⟨ea, ec, rfl⟩ := owns_len hown
                have d2 : decide ((1048576 : Int) < (((q ++ ivsL 0 (ivs.take j)).length : Nat) : Int)) = false := by rw [decide_eq_false_iff_not, ← OS3.out]; have := OL2.out; have := HW.out; omega
                obtain ⟨e5, he5⟩ : ∃ e5, q ++ ivsL 0 (ivs.take j) = e5 := ⟨_, rfl⟩
                rw [he5] at d2 RJ OS3 ⊢
                clear hown hbel he5
                go_wp2_with fail
                go_roundw
                case rel => exact ⟨k + 1, by omega, by go_num, by rw [OS3.out]; exact RJ.out, BJ.out⟩
                case measure => simp [intOf]; omega
        · obtain rfl : k = its.length := by omega
          have e1 : decide ((its.length : Int) < (its.length : Int)) = false := by rw [decide_eq_false_iff_not]; omega
          have WA := Lib.hid (outK_all its)
          have SW2 : Hid (w.heap.size ≤ wr.heap.size) := Lib.hid hbel.size
          obtain ⟨o, ho⟩ : ∃ o, outK its its.length = o := ⟨_, rfl⟩
          rw [ho] at OK WA OL ⊢
          clear hown hbel ho
          go_wp2_with (at_builtin; refine stop ?_)
          refine unstop (wpList_app tyB rfl _ _ rfl w.heap.size (.slice ua o.length uc) o.length (vBs o) rfl (OK.out.alloc _) (.slice (some ⟨wr.heap.size, 0, none⟩) 2 2) 2 [.int .u8 255, .int .u8 217] rfl (sl_heap (heap_alloc_new _ _) rfl (Nat.le_refl _)) (by intro u hu; simp at hu; rcases hu with rfl | rfl <;> rfl) (by have := HW.out; have := OL.out; omega) (by have := HW.out; have := OL.out; omega) (by have := SW2.out; simp; omega) ?_)
          intro v8 w8 o8 g8 _
          have B8 := Lib.hid (run_app_below (OK.out.alloc _) g8 (BK.out.alloc SW2.out _) (Nat.le_refl _))
          have o8' : w8.ownsRow w.heap.size 5 1 v8 (writeS its).length (vBs (writeS its)) := by
            rw [← WA.out]
            simpa [vBs, vB] using o8
          obtain ⟨a8, c8, rfl⟩ := owns_len o8'
          have R8 := Lib.hid o8'
          have d2 : decide ((1048576 : Int) < (((writeS its).length : Nat) : Int)) = false := by rw [decide_eq_false_iff_not]; have := HW.out; omega
          obtain ⟨e5, he5⟩ : ∃ e5, writeS its = e5 := ⟨_, rfl⟩
          have HE5 := Lib.hid he5
          rw [he5] at d2 R8 ⊢
          clear o8 o8' g8 he5
          go_wp2_with fail
          go_ret2
          exact ⟨B8.out, by rw [if_pos GA.out, HE5.out]; exact ⟨_, rfl, R8.out⟩⟩
end Go.Proofs.Ytlljooncoingnaa
