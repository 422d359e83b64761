/- burnishlaw20.large; what is small. By an AI agent. -/
import Derived.Test.YtlljooncoingnaaSegM
namespace Go.Proofs.Ytlljooncoingnaa
open Go.RowKit Go.BigFrame
set_option linter.unusedVariables false
set_option linter.unusedSimpArgs false

def wP (p : List UInt8) : Nat := 2 + p.length
def ivSum (ps : List (List UInt8)) : Nat := (ps.map wP).sum
def wM (it : Itm) : Nat := 10 + it.2.1.length + ivSum it.2.2
def sumM (its : List Itm) : Nat := (its.map wM).sum
theorem ivSum_take (ps : List (List UInt8)) (j : Nat) (h : j < ps.length) : ivSum (ps.take (j + 1)) = ivSum (ps.take j) + (2 + ps[j].length) := by
  unfold ivSum
  rw [List.take_succ_eq_append_getElem h, List.map_append, List.sum_append]; simp [wP]
theorem sumM_take (its : List Itm) (k : Nat) (h : k < its.length) : sumM (its.take (k + 1)) = sumM (its.take k) + (10 + its[k].2.1.length + ivSum its[k].2.2) := by
  unfold sumM
  rw [List.take_succ_eq_append_getElem h, List.map_append, List.sum_append]; simp [wM]
theorem sum_take {α : Type} (f : α → Nat) (l : List α) (k : Nat) : ((l.take k).map f).sum ≤ (l.map f).sum := by
  conv => rhs; rw [← List.take_append_drop k l, List.map_append, List.sum_append]
  exact Nat.le_add_right _ _
theorem sum_mem {α : Type} (f : α → Nat) (l : List α) : ∀ x ∈ l, f x ≤ (l.map f).sum := by
  intro x hx
  induction l with
  | nil => cases hx
  | cons y r ih =>
    simp only [List.map_cons, List.sum_cons]
    rcases List.mem_cons.1 hx with rfl | hx
    · omega
    · have := ih hx; omega
theorem sum_len {α : Type} (f : α → Nat) (n : Nat) (l : List α) (h : ∀ x ∈ l, n ≤ f x) : n * l.length ≤ (l.map f).sum := by
  induction l with
  | nil => simp
  | cons y r ih =>
    simp only [List.map_cons, List.sum_cons, List.length_cons]
    have h1 := h y (by simp)
    have h2 := ih (fun x hx => h x (by simp [hx]))
    rw [Nat.mul_add]; omega
theorem ivsL_sum (ps : List (List UInt8)) : ∀ k, (ivsL k ps).length ≤ 2 * ivSum ps := by
  induction ps with
  | nil => intro k; simp [ivsL]
  | cons p r ih =>
    intro k
    have h1 := ih (k + 1)
    have h2 := (stuffL_len p).2
    simp only [ivsL, List.length_append, ivSum, List.map_cons, List.sum_cons, wP] at h1 ⊢
    split
    · simp only [List.length_cons, List.length_nil]; omega
    · simp only [List.length_nil]; omega
theorem itemL_sum (it : Itm) : (itemL it).length ≤ 2 * wM it := by
  have h := ivsL_sum it.2.2 0
  simp only [itemL, List.length_append, List.length_cons, List.length_nil, putL_length, wM]
  omega
theorem writeS_sum (its : List Itm) : (writeS its).length ≤ 4 + 2 * sumM its := by
  have : ((its.map itemL).flatten).length ≤ 2 * sumM its := by
    induction its with
    | nil => simp
    | cons x r ih =>
      have := itemL_sum x
      simp only [List.map_cons, List.flatten_cons, List.length_append, sumM, List.sum_cons] at ih ⊢
      omega
  simp only [writeS, List.length_append, List.length_cons, List.length_nil]; omega
theorem small_all {its : List Itm} (h : ¬ 10000 < sumM its) : its.length ≤ 1000 ∧ (writeS its).length ≤ 1048576 ∧ ∀ it ∈ its, it.2.1.length ≤ 10000 ∧ it.2.2.length ≤ 5000 ∧ ∀ p ∈ it.2.2, p.length ≤ 10000 := by
  have h1 : 10 * its.length ≤ sumM its := sum_len wM 10 its (fun x _ => by unfold wM; omega)
  have h2 := writeS_sum its
  refine ⟨by omega, by omega, fun it hit => ?_⟩
  have h3 : 10 + it.2.1.length + ivSum it.2.2 ≤ sumM its := sum_mem wM its it hit
  have h4 : 2 * it.2.2.length ≤ ivSum it.2.2 := sum_len wP 2 it.2.2 (fun x _ => by unfold wP; omega)
  refine ⟨by omega, by omega, fun p hp => ?_⟩
  have h5 : 2 + p.length ≤ ivSum it.2.2 := sum_mem wP it.2.2 p hp
  omega
set_option maxRecDepth 20000 in
set_option maxHeartbeats 3200000 in
theorem large_any (v : Value) (its : List Itm) (w : World) (hb : Its w v its) (hl : its.length ≤ 140737488351232) (hd : ∀ it ∈ its, it.2.1.length ≤ 140737488351232) (hv : ∀ it ∈ its, it.2.2.length ≤ 140737488351232) (hp : ∀ it ∈ its, ∀ p ∈ it.2.2, p.length ≤ 140737488351232) :
    Calls Try.prog 22 #[v] w fun e w' => e = .returned (.bool (decide (10000 < sumM its))) ∧ Below w.heap.size w w' := by
  obtain ⟨a0, c0, rfl, hc0, hx⟩ := its_at hb
  have HX := Lib.hid hx
  have HD := Lib.hid hd
  have HV := Lib.hid hv
  have HP := Lib.hid hp
  have HL := Lib.hid hl
  clear hx hb hd hv hp hl
  go_enter Try.func22, Try.ntmps22
  go_wp2_with fail
  go_loopw [3, 10] (fun s i W => ∃ k : Nat, k ≤ its.length ∧ i = .int .i64 k ∧ s = .int .i64 (sumM (its.take k) : Nat) ∧ sumM (its.take k) ≤ 10000 ∧ Below w.heap.size w W) (fun _ i _ => its.length - (intOf i).toNat)
  case atStart => exact ⟨0, Nat.zero_le _, rfl, rfl, by simp [sumM], Below.refl _ _⟩
  case round =>
    obtain ⟨k, hk, rfl, rfl, hs, hbel⟩ := hrel
    have BE := Lib.hid hbel
    by_cases hkl : k < its.length
    · have k1 : k < 140737488351232 := by have := HL.out; omega
      obtain ⟨b, off, dv, iv, rfl, p1, p2, p3, p4, p5⟩ := HX.out k hkl
      obtain ⟨da, dc, rfl⟩ := p1.len
      obtain ⟨va, vc, rfl, hiv⟩ := p2.read
      have HIV := Lib.hid hiv
      have q3 := cell_old hbel p3
      have q4 := cell_old hbel p4
      have q5 := cell_old hbel p5
      have DL := HD.out _ (List.getElem_mem hkl)
      have VL := Lib.hid (HV.out _ (List.getElem_mem hkl))
      have PL := Lib.hid (HP.out _ (List.getElem_mem hkl))
      have ST := Lib.hid (sumM_take its k hkl)
      have SL := Lib.hid (sum_take wM its (k + 1))
      obtain ⟨⟨m, d, ivs⟩, hc⟩ : ∃ c, its[k] = c := ⟨_, rfl⟩
      rw [hc] at q3 q4 q5 DL VL PL ST HIV
      simp only at q3 q4 q5 DL VL PL ST HIV
      have e1 : decide ((k : Int) < (its.length : Int)) = true := by rw [decide_eq_true_eq]; omega
      have e2 : decide (k < its.length) = true := by rw [decide_eq_true_eq]; omega
      obtain ⟨S, hS⟩ : ∃ S, sumM (its.take k) = S := ⟨_, rfl⟩
      rw [hS] at hs ST ⊢
      obtain ⟨n, hn⟩ : ∃ n, d.length = n := ⟨_, rfl⟩
      obtain ⟨vn, hvn⟩ : ∃ n, ivs.length = n := ⟨_, rfl⟩
      have HVN := Lib.hid hvn
      rw [hn] at q4 DL ST
      rw [hvn] at q5 VL
      have B1 : Hid (Below w.heap.size w (wr.alloc (.cells #[.int .i64 m, .slice da n dc, .slice va vn vc] 47))) := Lib.hid (hbel.alloc hbel.size _)
      obtain ⟨S1, hS1⟩ : ∃ S1, S + (10 + n) = S1 := ⟨_, rfl⟩
      have HS1 := Lib.hid hS1
      have SB : Hid (S1 ≤ 140737488371232) := Lib.hid (by omega)
      have F1 : Hid (wrap64 (10 + (n : Int)) = 10 + (n : Int)) := Lib.hid (IntWalk.wrap64_in _ (by omega))
      have F2 : Hid (wrap64 ((S : Int) + (10 + (n : Int))) = (S1 : Int)) := Lib.hid (by rw [IntWalk.wrap64_in _ (by omega)]; omega)
      have LT : Hid (∀ t, S1 + ivSum (ivs.take t) ≤ sumM its) := Lib.hid (fun t => by
        have h1 := ST.out
        have h2 := SL.out
        have h3 := sum_take wP ivs t
        unfold ivSum at h1 ⊢
        unfold sumM at h1 ⊢
        rw [← hS1]
        unfold sumM at hS
        omega)
      have STE : Hid (sumM (its.take (k + 1)) = S1 + ivSum ivs) := Lib.hid (by rw [ST.out, ← hS1]; omega)
      have f1 := F1.out
      have f2 := F2.out
      clear p1 p2 p3 p4 p5 hc hn hvn hS hbel hiv hS1 DL hs k1
      go_wp2_with fail
      go_loopw [3, 23] (fun s i W => ∃ j : Nat, j ≤ vn ∧ i = .int .i64 j ∧ s = .int .i64 ((S1 + ivSum (ivs.take j) : Nat) : Int) ∧ (0 < j → S1 + ivSum (ivs.take j) ≤ 10000) ∧ Below w.heap.size w W) (fun _ i _ => vn - (intOf i).toNat)
      case atStart => exact ⟨0, Nat.zero_le _, rfl, by rw [F2.out]; simp [ivSum], fun h => absurd h (Nat.lt_irrefl 0), B1.out⟩
      case round =>
        clear f1 f2
        obtain ⟨j, hj, rfl, rfl, hs2, hbel⟩ := hrel
        have BJ := Lib.hid hbel
        by_cases hjl : j < vn
        · have jl : j < ivs.length := by have := HVN.out; omega
          have j1 : j < 140737488351232 := by have := VL.out; omega
          obtain ⟨pb, po, x, rfl, r1, r2⟩ := HIV.out j jl
          have TJ := Lib.hid (ivSum_take ivs j jl)
          have PP := Lib.hid (PL.out _ (List.getElem_mem jl))
          obtain ⟨pl, hpl⟩ : ∃ pl, ivs[j]'jl = pl := ⟨_, rfl⟩
          rw [hpl] at TJ r2 PP
          obtain ⟨pa, pc, rfl⟩ := r2.len
          have s1 := cell_old hbel r1
          obtain ⟨pn, hpn⟩ : ∃ n, pl.length = n := ⟨_, rfl⟩
          rw [hpn] at s1 TJ PP
          have e3 : decide ((j : Int) < (vn : Int)) = true := by rw [decide_eq_true_eq]; omega
          have e4 : decide (j < vn) = true := by rw [decide_eq_true_eq]; omega
          obtain ⟨T, hT⟩ : ∃ T, S1 + ivSum (ivs.take j) = T := ⟨_, rfl⟩
          rw [hT] at hs2 ⊢
          have TB : Hid (T ≤ 140737488371232) := Lib.hid (by
            by_cases h : 0 < j
            · have := hs2 h; omega
            · have h0 : j = 0 := by omega
              subst h0
              have := SB.out
              have h1 : ivSum (ivs.take 0) = 0 := by simp [ivSum]
              omega)
          obtain ⟨T2, hT2⟩ : ∃ T2, T + (2 + pn) = T2 := ⟨_, rfl⟩
          have TJ2 : Hid (S1 + ivSum (ivs.take (j + 1)) = T2) := Lib.hid (by rw [TJ.out]; omega)
          have G1 : Hid (wrap64 (2 + (pn : Int)) = 2 + (pn : Int)) := Lib.hid (IntWalk.wrap64_in _ (by have := PP.out; omega))
          have G2 : Hid (wrap64 ((T : Int) + (2 + (pn : Int))) = (T2 : Int)) := Lib.hid (by rw [IntWalk.wrap64_in _ (by have := PP.out; have := TB.out; omega)]; omega)
          have g1 := G1.out
          have g2 := G2.out
          have B2 := BJ.out
          clear hbel hpl r1 r2 hpn hT hs2
          by_cases hbig : 10000 < T2
          · have d1 : decide ((10000 : Int) < (T2 : Int)) = true := by rw [decide_eq_true_eq]; clear g1 g2; omega
            have SM : Hid (decide (10000 < sumM its) = true) := Lib.hid (by rw [decide_eq_true_eq]; have h1 := LT.out (j + 1); rw [TJ2.out] at h1; clear g1 g2; omega)
            clear hbig B2 hT2
            go_wp2_with fail
            go_ret
            exact ⟨rb SM.out.symm, BJ.out⟩
          · have d1 : decide ((10000 : Int) < (T2 : Int)) = false := by rw [decide_eq_false_iff_not]; clear g1 g2; omega
            have NB : Hid (T2 ≤ 10000) := Lib.hid (by clear g1 g2; omega)
            clear hbig B2 hT2
            go_wp2_with fail
            go_roundw
            case rel => exact ⟨j + 1, by clear g1 g2; omega, by clear g1 g2; go_num, by rw [TJ2.out, G2.out], fun _ => by rw [TJ2.out]; exact NB.out, BJ.out⟩
            case measure => clear g1 g2; simp [intOf]; omega
        · obtain rfl : j = vn := by omega
          have e3 : decide ((j : Int) < (j : Int)) = false := by rw [decide_eq_false_iff_not]; omega
          have TE : Hid (S1 + ivSum (ivs.take j) = sumM (its.take (k + 1))) := Lib.hid (by rw [STE.out, ← HVN.out, List.take_length])
          have SL2 : Hid (sumM (its.take (k + 1)) ≤ sumM its) := Lib.hid SL.out
          have k1 : k < 140737488351232 := by have := HL.out; omega
          rw [TE.out]
          obtain ⟨T, hT⟩ : ∃ T, sumM (its.take (k + 1)) = T := ⟨_, rfl⟩
          rw [hT] at SL2 ⊢
          have HT := Lib.hid hT
          clear hbel hT hs2
          by_cases hbig : 10000 < T
          · have d1 : decide ((10000 : Int) < (T : Int)) = true := by rw [decide_eq_true_eq]; omega
            have SM : Hid (decide (10000 < sumM its) = true) := Lib.hid (by rw [decide_eq_true_eq]; have h1 := SL2.out; omega)
            clear hbig
            go_wp2_with fail
            go_ret
            exact ⟨rb SM.out.symm, BJ.out⟩
          · have d1 : decide ((10000 : Int) < (T : Int)) = false := by rw [decide_eq_false_iff_not]; omega
            have NB : Hid (T ≤ 10000) := Lib.hid (by omega)
            clear hbig
            go_wp2_with fail
            go_roundw
            case rel => exact ⟨k + 1, by omega, by go_num, by rw [HT.out], by rw [HT.out]; exact NB.out, BJ.out⟩
            case measure => simp [intOf]; omega
    · obtain rfl : k = its.length := by omega
      have e1 : decide ((its.length : Int) < (its.length : Int)) = false := by rw [decide_eq_false_iff_not]; omega
      rw [List.take_length] at hs
      have SM : Hid (decide (10000 < sumM its) = false) := Lib.hid (by rw [decide_eq_false_iff_not]; omega)
      clear hs hbel
      go_wp2_with fail
      go_ret
      exact ⟨rb SM.out.symm, BE.out⟩
end Go.Proofs.Ytlljooncoingnaa
