/- The document's small functions of names: in, before, entries, power. By an AI agent. -/
import Derived.Test.YtlgjjoglajgbeaaDoorOrdP
import Derived.Test.YtlgjjoglajgbeaaDoorChVD
namespace Go.Proofs.YtlgjjoglajgbeaaDoor
open Go.RowKit Go.BigFrame
set_option linter.unusedVariables false
set_option linter.unusedSimpArgs false

def fourL (S : List (List UInt8)) : Prop := ∀ s ∈ S, s.length = 4
theorem flat_len {S : List (List UInt8)} (h : fourL S) : S.flatten.length = 4 * S.length := by
  induction S with
  | nil => rfl
  | cons s S ih =>
    have h1 := h s (by simp)
    have h2 := ih (fun x hx => h x (by simp [hx]))
    simp only [List.flatten_cons, List.length_append, List.length_cons, h1, h2]
    omega
theorem flat_part {S : List (List UInt8)} (h : fourL S) (k : Nat) (hk : k < S.length) : (S.flatten.drop (4 * k)).take 4 = S[k] := by
  induction S generalizing k with
  | nil => simp at hk
  | cons s S ih =>
    have h1 := h s (by simp)
    cases k with
    | zero => simp only [Nat.mul_zero, List.drop_zero, List.flatten_cons, List.getElem_cons_zero]; rw [← h1, List.take_left]
    | succ k =>
      have := ih (fun x hx => h x (by simp [hx])) k (by simpa using hk)
      rw [List.flatten_cons, List.drop_append, h1, List.drop_of_length_le (by omega), List.nil_append, show 4 * (k + 1) - 4 = 4 * k by omega]
      simpa using this
theorem ext_str (l : List UInt8) (i n : Nat) : (strOf l).extract i (i + n) = strOf ((l.drop i).take n) := by
  apply ByteArray.ext
  simp [strOf, ByteArray.data_extract]
set_option maxHeartbeats 1600000 in
theorem in_any (nm : List UInt8) (S : List (List UInt8)) (w : World) (hS : fourL S) (hl : S.length ≤ 1000) (hn : nm.length ≤ 140737488351232) :
    Calls Tryd.prog 19 #[.string (strOf nm), .string (strOf S.flatten)] w fun e w' => e = .returned (.bool (S.contains nm)) ∧ w = w' := by
  have hsz : (strOf S.flatten).size = 4 * S.length := by rw [strOf_size, flat_len hS]
  obtain ⟨n, hnn⟩ : ∃ n, S.length = n := ⟨_, rfl⟩
  obtain ⟨N4, hN4⟩ : ∃ q, 4 * n = q := ⟨_, rfl⟩
  rw [hnn, hN4] at hsz
  rw [hnn] at hl
  have HN := Lib.hid hnn
  have HS := Lib.hid hS
  have H4 := Lib.hid (show 4 * n = N4 ∧ n ≤ 1000 from ⟨hN4, hl⟩)
  clear hnn hS hN4 hl
  go_enter Tryd.func19, Tryd.ntmps19
  go_wp2_with fail
  go_loop [5] (fun i => ∃ k : Nat, k ≤ n ∧ i = .int .i64 ((4 * k : Nat) : Int) ∧ (S.take k).contains nm = false) (fun i => 4 * n + 4 - (intOf i).toNat)
  case atStart => exact ⟨0, Nat.zero_le _, rfl, by simp⟩
  case round =>
    obtain ⟨k, hk, rfl, hno⟩ := hrel
    have NO := Lib.hid hno
    clear hno
    obtain ⟨i, hi⟩ : ∃ i, 4 * k = i := ⟨_, rfl⟩
    have HI := Lib.hid hi
    rw [hi]
    clear hi
    have h44 := H4.out
    have g4 : IntKind.i64.wrap ((i : Int) + 4) = (i : Int) + 4 := IntWalk.i64_in _ (by have := HI.out; omega)
    by_cases hkn : k < n
    · have HKN := Lib.hid hkn
      have hii : i + 4 ≤ N4 := by have := HI.out; omega
      have d1 : decide ((i : Int) + 4 ≤ (N4 : Int)) = true := by rw [decide_eq_true_eq]; omega
      have d2 : decide (i + 4 ≤ N4) = true := by rw [decide_eq_true_eq]; omega
      have i1 : (i : Int) + 4 ≤ (N4 : Int) := by omega
      have hks : k < S.length := by rw [HN.out]; exact hkn
      have TK := Lib.hid (List.take_succ_eq_append_getElem hks)
      have e1 : ((strOf S.flatten).extract i (i + 4)).toList = S[k] := by
        rw [ext_str, strOf_toList, ← HI.out, flat_part HS.out k hks]
      have IN : Hid (S[k] ∈ S) := Lib.hid (List.getElem_mem hks)
      have e2 : (((strOf S.flatten).extract i (i + 4)).toList == (strOf nm).toList) = decide (S[k] = nm) := by rw [e1, strOf_toList, beq_dec]
      clear e1
      generalize S[k] = y at *
      by_cases hy : y = nm
      · rw [decide_eq_true hy] at e2
        have RE : Hid (S.contains nm = true) := Lib.hid (by rw [← hy]; simpa using IN.out)
        clear hy hkn hii
        go_wp2_with fail
        go_ret
        exact ⟨rb (by have h := RE.out; simp at h; simp [h]), rfl⟩
      · rw [decide_eq_false hy] at e2
        have NX : Hid ((S.take (k + 1)).contains nm = false) := Lib.hid (by
          rw [TK.out]
          have h := NO.out
          rw [Bool.eq_false_iff] at h ⊢
          intro h2
          apply h
          simp only [List.contains_iff_mem, List.mem_append, List.mem_singleton] at h2 ⊢
          rcases h2 with h2 | h2
          · exact h2
          · exact absurd h2.symm hy)
        clear hy hkn hii
        go_wp2_with fail
        go_round
        case rel => exact ⟨k + 1, HKN.out, by have := HI.out; rw [show ((4 * (k + 1) : Nat) : Int) = (i : Int) + 4 by omega], NX.out⟩
        case measure => simp [intOf]; have := HI.out; have := HKN.out; omega
    · obtain rfl : k = n := by omega
      have d1 : decide ((i : Int) + 4 ≤ (N4 : Int)) = false := by rw [decide_eq_false_iff_not]; have := HI.out; omega
      have d2 : decide (i + 4 ≤ N4) = false := by rw [decide_eq_false_iff_not]; have := HI.out; omega
      have RE : Hid (S.contains nm = false) := Lib.hid (by
        have h := NO.out
        rw [List.take_of_length_le (by rw [HN.out]; exact Nat.le_refl _)] at h
        exact h)
      clear h44
      go_wp2_with fail
      go_ret
      exact ⟨rb (by have h := RE.out; simp at h; simp [h]), rfl⟩
set_option maxHeartbeats 1600000 in
theorem before_any (a : Option Addr) (cp : Nat) (cs : List Chk) (n : Nat) (S : List (List UInt8)) (w : World) (hb : Cks w (.slice a cs.length cp) cs) (hn : n ≤ cs.length) (hl : cs.length ≤ 1000) (hS : fourL S) (hSl : S.length ≤ 1000) (hnm : ∀ c ∈ cs, c.1.length ≤ 100) :
    Calls Tryd.prog 21 #[.slice a cs.length cp, .int .i64 (n : Nat), .string (strOf S.flatten)] w fun e w' => e = .returned (.int .i64 ((cntL S (cs.take n) : Nat) : Int)) ∧ w = w' := by
  obtain ⟨a0, c0, hv, hx⟩ := hb
  cases hv
  have HX := Lib.hid hx
  have HN := Lib.hid hn
  have HL := Lib.hid hl
  have HNM := Lib.hid hnm
  have IA := Lib.hid (fun nm (h : nm.length ≤ 100) => in_any nm S w hS hSl (by omega))
  clear hx hn hl hnm hS hSl
  go_enter Tryd.func21, Tryd.ntmps21
  go_wp2_with fail
  go_loop [7, 8] (fun s i => ∃ k : Nat, k ≤ n ∧ i = .int .i64 (k : Nat) ∧ s = .int .i64 ((cntL S (cs.take k) : Nat) : Int)) (fun _ i => n - (intOf i).toNat)
  case atStart => exact ⟨0, Nat.zero_le _, rfl, by simp [cntL]⟩
  case round =>
    obtain ⟨k, hk, rfl, rfl⟩ := hrel
    by_cases hkn : k < n
    · have hi : k < cs.length := by have := HN.out; omega
      have hk1 : k < 1000 := by have := HL.out; omega
      obtain ⟨b, o, x, rfl, c0, c1, -⟩ := HX.out k hi
      have e1 : decide ((k : Int) < (n : Int)) = true := by rw [decide_eq_true_eq]; omega
      have e2 : decide (k < n) = true := by rw [decide_eq_true_eq]; omega
      have hil : (k : Int) < (cs.length : Int) := by omega
      have SN := Lib.hid (cntL_snoc S (cs.take k) cs[k])
      rw [← List.take_succ_eq_append_getElem hi] at SN
      have NL := HNM.out _ (List.getElem_mem hi)
      have CB : Hid (cntL S (cs.take k) ≤ k) := Lib.hid (by
        unfold cntL
        refine Nat.le_trans (List.length_filter_le _ _) ?_
        rw [List.length_take]; omega)
      have KB := Lib.hid hk1
      obtain ⟨⟨nm, dt⟩, hc⟩ : ∃ c, cs[k] = c := ⟨_, rfl⟩
      rw [hc] at c0 SN NL
      simp only at c0 SN NL
      have I1 := Lib.hid (IA.out nm NL)
      obtain ⟨m, hm⟩ : ∃ m, cntL S (cs.take k) = m := ⟨_, rfl⟩
      rw [hm] at SN CB ⊢
      have gm : IntKind.i64.wrap ((m : Int) + 1) = (m : Int) + 1 := IntWalk.i64_in _ (by have := CB.out; omega)
      have gk : IntKind.i64.wrap ((k : Int) + 1) = (k : Int) + 1 := IntWalk.i64_in _ (by omega)
      have HKN := Lib.hid hkn
      clear hc hm c1 NL hk1 hkn
      rcases hz : S.contains nm with _ | _
      · rw [hz] at I1 SN
        clear hz
        go_wp2_with fail
        refine I1.out.mono ?_; rintro e w' ⟨rfl, rfl⟩
        go_wp2_with fail
        go_round
        case rel => exact ⟨k + 1, HKN.out, by go_num, by rw [SN.out]; rfl⟩
        case measure => simp [intOf]; have := HKN.out; omega
      · rw [hz] at I1 SN
        clear hz
        go_wp2_with fail
        refine I1.out.mono ?_; rintro e w' ⟨rfl, rfl⟩
        go_wp2_with fail
        go_round
        case rel => exact ⟨k + 1, HKN.out, by go_num, by rw [SN.out]; go_num⟩
        case measure => simp [intOf]; have := HKN.out; omega
    · obtain rfl : k = n := by omega
      have e1 : decide ((k : Int) < (k : Int)) = false := by rw [decide_eq_false_iff_not]; omega
      go_wp2_with fail
      go_ret
      exact ⟨rfl, rfl⟩
theorem power_any (d : Nat) (w : World) (hd : d ≤ 16) : Calls Tryd.prog 36 #[.int .i64 (d : Nat)] w fun e w' => e = .returned (.int .i64 ((2 ^ d : Nat) : Int)) ∧ w = w' := by
  have HD := Lib.hid hd
  clear hd
  go_enter Tryd.func36, Tryd.ntmps36
  go_wp2_with fail
  go_loop [3, 4] (fun s i => ∃ k : Nat, k ≤ d ∧ i = .int .i64 (k : Nat) ∧ s = .int .i64 ((2 ^ k : Nat) : Int)) (fun _ i => d - (intOf i).toNat)
  case atStart => exact ⟨0, Nat.zero_le _, rfl, rfl⟩
  case round =>
    obtain ⟨k, hk, rfl, rfl⟩ := hrel
    by_cases hkd : k < d
    · have e1 : decide ((k : Int) < (d : Int)) = true := by rw [decide_eq_true_eq]; omega
      have e2 : decide (k < d) = true := by rw [decide_eq_true_eq]; omega
      have P := Lib.hid (show 2 ^ (k + 1) = 2 * 2 ^ k by rw [Nat.pow_succ, Nat.mul_comm])
      have PB : Hid (2 ^ k ≤ 65536) := Lib.hid (by
        have := Nat.pow_le_pow_right (n := 2) (by omega) (show k ≤ 16 by have := HD.out; omega)
        have h : (2 : Nat) ^ 16 = 65536 := by decide
        omega)
      obtain ⟨p, hp⟩ : ∃ p, 2 ^ k = p := ⟨_, rfl⟩
      rw [hp] at P PB ⊢
      have gm : IntKind.i64.wrap (2 * (p : Int)) = 2 * (p : Int) := IntWalk.i64_in _ (by have := PB.out; omega)
      have gk : IntKind.i64.wrap ((k : Int) + 1) = (k : Int) + 1 := IntWalk.i64_in _ (by have := HD.out; omega)
      have HKD := Lib.hid hkd
      clear hp hkd
      go_wp2_with fail
      go_round
      case rel => exact ⟨k + 1, HKD.out, by go_num, by rw [P.out]; go_num⟩
      case measure => simp [intOf]; have := HKD.out; omega
    · obtain rfl : k = d := by omega
      have e1 : decide ((k : Int) < (k : Int)) = false := by rw [decide_eq_false_iff_not]; omega
      go_wp2_with fail
      go_ret
      exact ⟨rfl, rfl⟩
theorem entries_at (cs : List Chk) (n k : Nat) (hk : k < n) (hi : k < cs.length) (hp : cs[k].1 = nPLTE) (hno : ∀ j, j < k → (h : j < cs.length) → cs[j].1 ≠ nPLTE) : entriesN (cs.take n) = cs[k].2.length / 3 := by
  unfold entriesN
  have h : (cs.take n).find? (fun c => c.1 == nPLTE) = some cs[k] := by
    rw [List.find?_eq_some_iff_getElem]
    refine ⟨by simpa using hp, k, by rw [List.length_take]; omega, by simp, fun j hj => ?_⟩
    have := hno j hj (by omega)
    simpa using this
  rw [h]
theorem entries_none (cs : List Chk) (n : Nat) (hno : ∀ j, j < n → (h : j < cs.length) → cs[j].1 ≠ nPLTE) : entriesN (cs.take n) = 0 := by
  unfold entriesN
  have h : (cs.take n).find? (fun c => c.1 == nPLTE) = none := by
    rw [List.find?_eq_none]
    intro x hx
    obtain ⟨j, hj, rfl⟩ := List.getElem_of_mem hx
    rw [List.length_take] at hj
    have := hno j (by omega) (by omega)
    simpa using this
  rw [h]
theorem entries_any (a : Option Addr) (cp : Nat) (cs : List Chk) (n : Nat) (w : World) (hb : Cks w (.slice a cs.length cp) cs) (hn : n ≤ cs.length) (hl : cs.length ≤ 1000) (hd : ∀ c ∈ cs, c.2.length ≤ 2000) :
    Calls Tryd.prog 37 #[.slice a cs.length cp, .int .i64 (n : Nat)] w fun e w' => e = .returned (.int .i64 ((entriesN (cs.take n) : Nat) : Int)) ∧ w = w' := by
  obtain ⟨a0, c0, hv, hx⟩ := hb
  cases hv
  have HX := Lib.hid hx
  have HN := Lib.hid hn
  have HL := Lib.hid hl
  have HD := Lib.hid hd
  clear hx hn hl hd
  go_enter Tryd.func37, Tryd.ntmps37
  go_wp2_with fail
  go_loop [5] (fun i => ∃ k : Nat, k ≤ n ∧ i = .int .i64 (k : Nat) ∧ ∀ j, j < k → (h : j < cs.length) → cs[j].1 ≠ nPLTE) (fun i => n - (intOf i).toNat)
  case atStart => exact ⟨0, Nat.zero_le _, rfl, fun j h => absurd h (Nat.not_lt_zero j)⟩
  case round =>
    obtain ⟨k, hk, rfl, hno⟩ := hrel
    have NO := Lib.hid hno
    clear hno
    by_cases hkn : k < n
    · have hi : k < cs.length := by have := HN.out; omega
      obtain ⟨b, o, x, rfl, c0, c1, hbx⟩ := HX.out k hi
      have e1 : decide ((k : Int) < (n : Int)) = true := by rw [decide_eq_true_eq]; omega
      have e2 : decide (k < n) = true := by rw [decide_eq_true_eq]; omega
      have hil : (k : Int) < (cs.length : Int) := by omega
      have gk : IntKind.i64.wrap ((k : Int) + 1) = (k : Int) + 1 := IntWalk.i64_in _ (by have := HL.out; omega)
      have dl := HD.out _ (List.getElem_mem hi)
      have ea := entries_at cs n k hkn hi
      obtain ⟨a', c', rfl⟩ := hbx.len
      obtain ⟨⟨nm, dt⟩, hc⟩ : ∃ c, cs[k] = c := ⟨_, rfl⟩
      rw [hc] at dl ea c0 c1
      simp only at dl ea c0 c1
      obtain ⟨P, hP⟩ : ∃ P, decide (nm = nPLTE) = P := ⟨_, rfl⟩
      have e3 : ((strOf nm).toList == [80, 76, 84, 69]) = P := by rw [strOf_toList, ← hP, beq_dec]; rfl
      have HP := Lib.hid hP
      have HC : Hid (∀ h : k < cs.length, cs[k]'h = (nm, dt)) := Lib.hid (fun h => hc)
      have HKN := Lib.hid hkn
      have HI := Lib.hid hi
      obtain ⟨m, hm⟩ : ∃ m, dt.length = m := ⟨_, rfl⟩
      rw [hm] at dl ea c1
      have EA := Lib.hid ea
      have DL := Lib.hid dl
      have t1 : (m : Int).tdiv 3 = ((m / 3 : Nat) : Int) := by rw [Int.tdiv_eq_ediv_of_nonneg (by omega)]; omega
      have t2 : wrap64 ((m / 3 : Nat) : Int) = ((m / 3 : Nat) : Int) := IntWalk.wrap64_in _ (by have := DL.out; omega)
      obtain ⟨m3, hm3⟩ : ∃ q, m / 3 = q := ⟨_, rfl⟩
      rw [hm3] at t1 t2
      have EA3 : Hid (nm = nPLTE → (∀ j, j < k → (h : j < cs.length) → cs[j].1 ≠ nPLTE) → entriesN (cs.take n) = m3) := Lib.hid (by rw [← hm3]; exact EA.out)
      clear hP hbx hkn hm hm3 hi ea dl hc
      cases P with
      | true =>
        have RE : Hid (entriesN (cs.take n) = m3) := Lib.hid (EA3.out (of_decide_eq_true HP.out) NO.out)
        go_wp2_with fail
        go_ret
        exact ⟨by rw [RE.out]; rfl, rfl⟩
      | false =>
        go_wp2_with fail
        go_round
        case rel =>
          refine ⟨k + 1, HKN.out, by go_num, fun j hj h => ?_⟩
          by_cases e : j = k
          · subst e; rw [HC.out h]; exact of_decide_eq_false HP.out
          · exact NO.out j (by omega) h
        case measure => simp [intOf]; have := HKN.out; omega
    · obtain rfl : k = n := by omega
      have e1 : decide ((k : Int) < (k : Int)) = false := by rw [decide_eq_false_iff_not]; omega
      have RE := Lib.hid (entries_none cs k NO.out)
      go_wp2_with fail
      go_ret
      exact ⟨by rw [RE.out]; rfl, rfl⟩
end Go.Proofs.YtlgjjoglajgbeaaDoor
