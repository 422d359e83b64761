/- ChunkOf: the law's walk. By an AI agent. -/
import Derived.Test.YtmdbnnnaiidheaaLawC4
import Derived.Test.YtmdbnnnaiidheaaFindC
import Derived.Test.YtmdbnnnaiidheaaQA
import Derived.LoopIn
namespace Go.Proofs.Ytmdbnnnaiidheaa
open Go.RowKit Go.BigFrame Go.Shelf
set_option linter.unusedVariables false
set_option linter.unusedSimpArgs false
attribute [local go_sem] Oper.semAt_some

/-- most, between 1 and 9 -/
theorem most9 (k : Int) : ∃ m : Nat, 1 ≤ m ∧ m ≤ 9 ∧ wrap64 (1 + wrap64 ((IntKind.u64.wrap k).tmod 9)) = (m : Int) := by
  have h0 : 0 ≤ IntKind.u64.wrap k := by simp [IntKind.wrap, IntKind.signed, IntKind.bits]; omega
  refine ⟨(1 + IntKind.u64.wrap k % 9).toNat, by omega, by omega, ?_⟩
  rw [Int.tmod_eq_emod_of_nonneg h0, IntWalk.wrap64_in (IntKind.u64.wrap k % 9) (by omega), IntWalk.wrap64_in _ (by omega)]
  omega
def boxC (V : World) (b : Nat) : Nat := match V.cell? ⟨b, 0, none⟩ with | some (.int _ z) => z.toNat | _ => 0
theorem boxC_of {V : World} {b n : Nat} {t : TypeId} (h : Boxed V b t (.int .i64 (n : Int))) : boxC V b = n := by unfold boxC; rw [h.cell]; simp
/-- where the loop stands: N: the boxes of the parameters; S: of what is declared -/
structure FoundS (N S m : Nat) (w : World) (v : Value) (nm : List UInt8) (k A : Nat) (V : World) : Prop where
  lb : Boxed V N 25 v
  nb : Boxed V (N + 1) 9 (.string (strOf nm))
  mb : Boxed V (N + 1 + 1) 3 (.int .i64 (m : Int))
  rb : Boxed V (N + 1 + 1 + 1) 4 (.bool false)
  kb : Boxed V S 3 (.int .i64 (k : Int))
  ab : Boxed V (S + 1) 3 (.int .i64 (A : Int))
  below : Below N w V
  size : S + 4 ≤ V.heap.size
theorem FoundS.low {N S m : Nat} {w : World} {v : Value} {nm : List UInt8} {k A : Nat} {V X : World} (h : FoundS N S m w v nm k A V) (hNS : N + 4 ≤ S) (hb : Below (S + 4) V X) : FoundS N S m w v nm k A X :=
  ⟨boxed_low h.lb hb (by omega), boxed_low h.nb hb (by omega), boxed_low h.mb hb (by omega), boxed_low h.rb hb (by omega), boxed_low h.kb hb (by omega), boxed_low h.ab hb (by omega), h.below.trans (hb.mono (by omega)), Nat.le_trans h.size hb.size⟩
theorem FoundS.setA {N S m : Nat} {w : World} {v : Value} {nm : List UInt8} {k A : Nat} {V : World} (h : FoundS N S m w v nm k A V) (hNS : N + 4 ≤ S) : FoundS N S m w v nm k (A + 1) (V.setCell ⟨S + 1, 0, none⟩ (.int .i64 ((A : Int) + 1))) :=
  ⟨Boxed.other h.lb (by omega) _, Boxed.other h.nb (by omega) _, Boxed.other h.mb (by omega) _, Boxed.other h.rb (by omega) _, Boxed.other h.kb (by omega) _, Boxed.set _ h.ab, h.below.setCell (p := ⟨S + 1, 0, none⟩) (by simp only; omega) _, by simp; exact h.size⟩
theorem FoundS.setK {N S m : Nat} {w : World} {v : Value} {nm : List UInt8} {k A : Nat} {V : World} (h : FoundS N S m w v nm k A V) (hNS : N + 4 ≤ S) : FoundS N S m w v nm (k + 1) A (V.setCell ⟨S, 0, none⟩ (.int .i64 ((k : Int) + 1))) :=
  ⟨Boxed.other h.lb (by omega) _, Boxed.other h.nb (by omega) _, Boxed.other h.mb (by omega) _, Boxed.other h.rb (by omega) _, Boxed.set _ h.kb, Boxed.other h.ab (by omega) _, h.below.setCell (p := ⟨S, 0, none⟩) (by simp only; omega) _, by simp; exact h.size⟩
theorem hN' {w V : World} {N : Nat} (h : w.heap.size = N) (hb : Below N w V) : Below w.heap.size w V := by rw [h]; exact hb
theorem keepO_set (bs : List Nat) (A : World) (b i : Nat) (v : Value) (hn : b ∉ bs) : KeepO bs A (A.setCell ⟨b, i, none⟩ v) :=
  ⟨by simp, fun k hk _ => Go.Deep.blk_setCell_other _ _ _ _ (by simp only; rintro rfl; exact hn hk)⟩
set_option maxRecDepth 100000 in
set_option maxHeartbeats 16000000 in
theorem found_any (v : Value) (ls : List Chk) (nm : List UInt8) (M : Int) (u : Value) (l : List UInt8) (w : World) (hc : Cks w v ls) (hcl : ls.length ≤ 140737488351232) (hcn : ∀ c ∈ ls, c.1.length ≤ 140737488351232) (hcd : ∀ c ∈ ls, c.2.length ≤ 140737488351232) (hM : -9223372036854775808 ≤ M ∧ M ≤ 9223372036854775807) (hb : Bs w u l) (hl : l.length ≤ 140737488351232) :
    Calls Try.prog 23 #[v, .string (strOf nm), .int .i64 M, u] w fun e w' => e = .returned (.bool true) ∧ Below w.heap.size w w' := by
  obtain ⟨ua, uc, rfl⟩ := hb.len
  have HB := Lib.hid hb
  have HL := Lib.hid hl
  have HC := Lib.hid hc
  have LG := Lib.hid (fun W hW => large_any v ls W (hc.old hW) hcl hcn hcd)
  obtain ⟨av, cv, rfl, hx⟩ := hc
  have HX := Lib.hid hx
  clear hcl hcn hcd hx hb hl
  refine (callsIn_wide (n := 8)).1 ?_
  refine callsIn_of_wp_marks Try.func23 rfl trivial ?_ rfl
  simp only [Try.ntmps23, List.size_toArray, List.length_cons, List.length_nil, Nat.reduceAdd, Nat.reduceSub, Array.replicate_succ, Array.replicate_zero, List.push_toArray, List.append_toArray, List.nil_append, List.cons_append]
  refine wpIn_wide.2 ?_
  go_wp2_with fail
  refine (alive_any _).mono ?_; rintro e w1 ⟨rfl, hb1⟩
  obtain ⟨N, hN⟩ : ∃ N, w.heap.size = N := ⟨_, rfl⟩
  rw [hN]
  have q0 : Boxed w1 N 25 (.slice av ls.length cv) := by rw [← hN]; exact boxed_below ((((Boxed.new w _ _).alloc _).alloc _).alloc _) hb1
  have q1 : Boxed w1 (N + 1) 9 (.string (strOf nm)) := by
    rw [← hN]
    have h := Boxed.new (w.alloc (.cells #[.slice av ls.length cv] 25)) 9 (.string (strOf nm))
    simp only [World.size_alloc] at h
    exact boxed_below ((h.alloc _).alloc _) hb1
  have q2 : Boxed w1 (N + 1 + 1) 3 (.int .i64 M) := by
    rw [← hN]
    have h := Boxed.new ((w.alloc (.cells #[.slice av ls.length cv] 25)).alloc (.cells #[.string (strOf nm)] 9)) 3 (.int .i64 M)
    simp only [World.size_alloc] at h
    exact boxed_below (h.alloc _) hb1
  have q3 : Boxed w1 (N + 1 + 1 + 1) 4 (.bool false) := by
    rw [← hN]
    have h := Boxed.new (((w.alloc (.cells #[.slice av ls.length cv] 25)).alloc (.cells #[.string (strOf nm)] 9)).alloc (.cells #[.int .i64 M] 3)) 4 (.bool false)
    simp only [World.size_alloc] at h
    exact boxed_below h hb1
  have bb : Below N w w1 := by rw [← hN]; exact (((((Below.refl _ _).alloc (Nat.le_refl _) _).alloc (by simp) _).alloc (by simp; omega) _).alloc (by simp; omega) _).trans (hb1.mono (by simp; omega))
  have s1 : N + 4 ≤ w1.heap.size := by have := hb1.size; simp at this; omega
  have HN := Lib.hid hN
  have x0 := q0.cell
  have Q0 := Lib.hid q0
  have Q1 := Lib.hid q1
  have Q2 := Lib.hid q2
  have Q3 := Lib.hid q3
  have B1 := Lib.hid bb
  have S1 := Lib.hid s1
  have HM0 := Lib.hid hM
  clear hb1 hN q0 q1 q2 q3 bb s1 hM
  go_wp2_with fail
  refine (LG.out _ (by rw [HN.out]; exact B1.out)).mono ?_; rintro e w2 ⟨rfl, hb2⟩
  have q0 := boxed_below Q0.out hb2
  have q1 := boxed_below Q1.out hb2
  have q2 := boxed_below Q2.out hb2
  have q3 := boxed_below Q3.out hb2
  have B2 := Lib.hid (B1.out.trans (hb2.mono (by have := S1.out; omega)))
  have S2 : Hid (N + 4 ≤ w2.heap.size) := Lib.hid (Nat.le_trans S1.out hb2.size)
  clear hb2 x0 Q0 Q1 Q2 Q3 B1 S1
  have x1 := q3.cell
  have x2 := q3.frozen
  have Q0 := Lib.hid q0
  have Q1 := Lib.hid q1
  have Q2 := Lib.hid q2
  have Q3 := Lib.hid q3
  rcases hlg : largeB ls with _ | _
  rotate_left
  · clear hlg q0 q1 q2 q3
    go_wp2_with fail
    have r := (Boxed.set (.bool true) Q3.out).cell
    refine ⟨.bool true, by simp [results, Try.f23, go_sem, r], rfl, ?_⟩
    rw [HN.out]
    exact B2.out.setCell (p := ⟨N + 1 + 1 + 1, 0, none⟩) (by simp only; omega) _
  have SP := Lib.hid (small_parts hlg)
  have c0 := q2.cell
  have c1 := q2.frozen
  obtain ⟨m, hm1, hm2, hm⟩ := most9 M
  have HM := Lib.hid hm
  clear hlg q0 q1 q2 q3 x1 x2 hm
  go_upto_region 6 with (fail)
  rw [HM.out]
  obtain ⟨w4, hw4⟩ : ∃ w4, w2.setCell ⟨N + 1 + 1, 0, none⟩ (.int .i64 (m : Int)) = w4 := ⟨_, rfl⟩
  have q0 : Boxed w4 N 25 (.slice av ls.length cv) := by rw [← hw4]; exact Boxed.other Q0.out (by omega) _
  have q1 : Boxed w4 (N + 1) 9 (.string (strOf nm)) := by rw [← hw4]; exact Boxed.other Q1.out (by omega) _
  have q2 : Boxed w4 (N + 1 + 1) 3 (.int .i64 (m : Int)) := by rw [← hw4]; exact Boxed.set _ Q2.out
  have q3 : Boxed w4 (N + 1 + 1 + 1) 4 (.bool false) := by rw [← hw4]; exact Boxed.other Q3.out (by omega) _
  have B4 : Hid (Below N w w4) := Lib.hid (by rw [← hw4]; exact B2.out.setCell (p := ⟨N + 1 + 1, 0, none⟩) (by simp only; omega) _)
  have z4 : w4.heap.size = w2.heap.size := by rw [← hw4]; simp
  have S4 : Hid (N + 4 ≤ w4.heap.size) := Lib.hid (by rw [z4]; exact S2.out)
  rw [hw4]
  obtain ⟨S, hS⟩ : ∃ S, w4.heap.size = S := ⟨_, rfl⟩
  have HS := Lib.hid hS
  have Q0 := Lib.hid q0
  have Q1 := Lib.hid q1
  have Q2 := Lib.hid q2
  have Q3 := Lib.hid q3
  have bA : Below w4.heap.size w4 ((w4.alloc (.cells #[.int .i64 0] 3)).alloc (.cells #[.int .i64 0] 3)) := ((Below.refl _ _).alloc (Nat.le_refl _) _).alloc (by simp) _
  have x0 := (boxed_below q0 bA).cell
  have x1 := (boxed_below q1 bA).cell
  have HMM := Lib.hid (And.intro hm1 hm2)
  clear hw4 z4 c0 c1 B2 S2 q0 q1 q2 q3 bA hS
  go_wp2_with fail
  refine (find_any av ls.length cv nm _).mono ?_; rintro e w6 ⟨rfl, hw6⟩
  simp only [World.size_alloc, HS.out] at hw6 ⊢
  go_wp2_with fail
  try rw [← hw6]
  have s6 : w6.heap.size = S + 4 := by rw [hw6]; simp [HS.out]
  have b46 : Below S w4 w6 := by rw [hw6, ← HS.out]; exact ((((Below.refl _ _).alloc (Nat.le_refl _) _).alloc (by simp) _).alloc (by simp; omega) _).alloc (by simp; omega) _
  have t0 : Boxed w6 S 3 (.int .i64 ((0 : Nat) : Int)) := by rw [hw6, ← HS.out]; exact (((Boxed.new w4 _ _).alloc _).alloc _).alloc _
  have t1 : Boxed w6 (S + 1) 3 (.int .i64 ((0 : Nat) : Int)) := by
    rw [hw6, ← HS.out]
    have h := Boxed.new (w4.alloc (.cells #[.int .i64 0] 3)) 3 (.int .i64 0)
    simp only [World.size_alloc] at h
    exact (h.alloc _).alloc _
  have t2 : Boxed w6 (S + 1 + 1) 25 (.slice av ls.length cv) := by
    rw [hw6, ← HS.out]
    have h := Boxed.new ((w4.alloc (.cells #[.int .i64 0] 3)).alloc (.cells #[.int .i64 0] 3)) 25 (.slice av ls.length cv)
    simp only [World.size_alloc] at h
    exact h.alloc _
  have t3 : Boxed w6 (S + 1 + 1 + 1) 9 (.string (strOf nm)) := by
    rw [hw6, ← HS.out]
    have h := Boxed.new (((w4.alloc (.cells #[.int .i64 0] 3)).alloc (.cells #[.int .i64 0] 3)).alloc (.cells #[.slice av ls.length cv] 25)) 9 (.string (strOf nm))
    simp only [World.size_alloc] at h
    exact h
  have hNS : N + 4 ≤ S := by have := S4.out; have := HS.out; omega
  have ST : FoundS N S m w (.slice av ls.length cv) nm 0 0 w6 := ⟨boxed_low Q0.out b46 (by omega), boxed_low Q1.out b46 (by omega), boxed_low Q2.out b46 (by omega), boxed_low Q3.out b46 (by omega), t0, t1, B4.out.trans (b46.mono (by omega)), by omega⟩
  have HNS := Lib.hid hNS
  obtain ⟨bs, hbsd⟩ : ∃ bs, (S + 1 + 1) :: (S + 1 + 1 + 1) :: List.range N = bs := ⟨_, rfl⟩
  have BS : Hid (∀ b, b ∈ bs → b < N ∨ b = S + 1 + 1 ∨ b = S + 1 + 1 + 1) := Lib.hid (by intro b hb; rw [← hbsd] at hb; simp only [List.mem_cons, List.mem_range] at hb; omega)
  have hbs6 : ∀ b ∈ bs, b < w6.heap.size := fun b hb => by have := BS.out b hb; omega
  have hbs0 : ∀ b, b < w.heap.size → b ∈ bs := fun b hb => by rw [← hbsd, List.mem_cons, List.mem_cons, List.mem_range]; right; right; rw [← HN.out]; exact hb
  have bm1 : S + 1 + 1 ∈ bs := by rw [← hbsd]; simp
  have bm2 : S + 1 + 1 + 1 ∈ bs := by rw [← hbsd]; simp
  have h06 : Below w.heap.size w w6 := by rw [HN.out]; exact ST.below
  have BM := Lib.hid (And.intro bm1 bm2)
  have HB6 := Lib.hid hbs6
  clear hbsd hw6 b46 t0 t1
  refine wpIn_wide.1 (rangeR (n := 8) (by omega) (gf := 46) (lb := #[.pointer (some ⟨S + 1 + 1, 0, none⟩), .pointer (some ⟨S + 1 + 1 + 1, 0, none⟩)]) rfl (enters_of Try.func46 (by kernel_rfl) rfl)
    (find_seq (8 - 1) (by omega) (S + 1 + 1) (S + 1 + 1 + 1) bs (.slice av ls.length cv) ls nm w w6 HC.out SP.out.1 SP.out.2.2.1 h06 t2.cell t3.cell bm1 bm2 hbs6 hbs0) (Below.refl _ _) (fun _ => rfl) hbs6
    (fun pre V => (∃ A, A ≤ ls.length ∧ cnt ls nm A = pre.length ∧ FoundS N S m w (.slice av ls.length cv) nm pre.length A V) ∧ pre.length < m) (fun c pre V => c = .exit 0 ∧ (∃ A, A ≤ ls.length ∧ cnt ls nm A = pre.length ∧ FoundS N S m w (.slice av ls.length cv) nm pre.length A V) ∧ pre.length = m)
    (fun s X Y h hb => ⟨h.1.elim fun A hA => ⟨A, hA.1, hA.2.1, hA.2.2.low hNS (by rw [← s6]; exact hb)⟩, h.2⟩) (fun c s X Y h hb => ⟨h.1, h.2.1.elim fun A hA => ⟨A, hA.1, hA.2.1, hA.2.2.low hNS (by rw [← s6]; exact hb)⟩, h.2.2⟩) ⟨⟨0, Nat.zero_le _, rfl, ST⟩, by simp; have := HMM.out; omega⟩ ?round ?done ?stop)
  case round =>
    rintro ll pre x X hl hlX ⟨rec, hrec⟩ ⟨⟨A, hA1, hA2, hI⟩, hlt⟩ ⟨hxl, hxn, hxp, hxo⟩
    obtain ⟨xi, xv⟩ := x
    simp only at hxl hxn hxp hxo
    obtain ⟨xa, xc, rfl⟩ := owns_len hxo
    obtain ⟨dt, hcc⟩ : ∃ dt, ls[xi] = (nm, dt) := ⟨ls[xi].2, by rw [← hxn]⟩
    have DL := Lib.hid (SP.out.2.2.1 _ (List.getElem_mem hxl))
    have HCC := Lib.hid hcc
    rw [hcc] at hxo DL ⊢
    simp only at hxo DL ⊢
    obtain ⟨n, hn⟩ : ∃ n, dt.length = n := ⟨_, rfl⟩
    rw [hn] at hxo DL ⊢
    have HN2 := Lib.hid hn
    have HI := Lib.hid hI
    have CNX : Hid (cnt ls nm (xi + 1) = cnt ls nm xi + 1) := Lib.hid (by rw [cnt_succ ls nm xi hxl, hcc, if_pos rfl])
    have AX : Hid (A ≤ xi) := Lib.hid (by
      rcases Nat.lt_or_ge xi A with h | h
      · have h1 := cnt_le ls nm (show xi + 1 ≤ A from h)
        have h2 := CNX.out
        omega
      · exact h)
    have HXO := Lib.hid hxo
    have HXP := Lib.hid hxp
    clear hI hxo hn hxn hcc hxp
    gi_wp2
    refine ⟨(KeepsOthers.alloc _ _).from _, fun V hV => ?_⟩
    replace hV : SameBut ll (X.alloc (.cells #[.string (strOf nm), .slice xa n xc] 39)) V := hV
    obtain ⟨Bx, hBx⟩ : ∃ Bx, X.heap.size = Bx := ⟨_, rfl⟩
    rw [hBx] at hlX ⊢
    have ba : Below Bx X (X.alloc (.cells #[.string (strOf nm), .slice xa n xc] 39)) := by rw [← hBx]; exact (Below.refl _ _).alloc (Nat.le_refl _) _
    have tk0 : (X.alloc (.cells #[.string (strOf nm), .slice xa n xc] 39)).heap[Bx]? = some (.cells #[.string (strOf nm), .slice xa n xc] 39 (0, 0)) := by rw [← hBx]; exact heap_alloc_new _ _
    have tk : V.heap[Bx]? = some (.cells #[.string (strOf nm), .slice xa n xc] 39 (0, 0)) := (hV.block _ (by omega)).trans tk0
    have FV : FoundS N S m w (.slice av ls.length cv) nm pre.length A V := (HI.out.low hNS (ba.mono (by have := HI.out.size; omega))).low hNS (hV.below (by omega))
    have OV : V.ownsRow (S + 4) 5 1 (.slice xa n xc) n (vBs dt) := by
      have h1 := HXO.out
      rw [s6] at h1
      refine ⟨h1.1, ?_⟩
      rcases h1.2 with h | ⟨g, cap, cur, e1, e2, e3, e4⟩
      · exact .inl h
      · refine .inr ⟨g, cap, cur, e1, e2, ?_, e4⟩
        have gl : g < X.heap.size := (Array.getElem?_eq_some_iff.1 e3).1
        have gne : g ≠ ll := by rintro rfl; rw [hrec] at e3; simp at e3
        rw [hV.block g gne, ba.block g (by omega)]; exact e3
    have KV : KeepO bs X V := ⟨by have := hV.size; have := ba.size; omega, fun b hb hlt => by
      have := HB6.out b hb
      rw [hV.block b (by omega), ba.block b (by omega)]⟩
    have HFV := Lib.hid FV
    have HTK := Lib.hid tk
    have HOV := Lib.hid OV
    have HKV := Lib.hid KV
    have HBX := Lib.hid hBx
    have HXL := Lib.hid hxl
    have HPM := Lib.hid hlt
    have HA2 := Lib.hid hA2
    have HLB : Hid (ll = S + 5 ∧ ll < Bx) := Lib.hid ⟨by omega, hlX⟩
    clear FV tk tk0 OV KV ba hV hBx hlX hl hrec hA1 hA2 hlt h06 t2 t3 bm1 bm2 hbs0
    obtain ⟨k, hk⟩ : ∃ k, pre.length = k := ⟨_, rfl⟩
    rw [hk] at HFV HXP HA2 HPM
    have HK := Lib.hid hk
    clear hk HI
    obtain ⟨b, off, y0, rfl, hb0, hb1, hby⟩ := HX.out xi hxl
    have HBB := Lib.hid (And.intro hb1 hby)
    have HB0 := Lib.hid hb0
    clear hb0 hb1 hby
    gi_wp2_with fail
    gi_loopw [] (fun Y => ∃ A : Nat, A ≤ xi ∧ cnt ls nm A = k ∧ FoundS N S m w (.slice (some ⟨b, off, none⟩) ls.length cv) nm k A Y ∧ Y.heap[Bx]? = some (.cells #[.string (strOf nm), .slice xa n xc] 39 (0, 0)) ∧ Y.ownsRow (S + 4) 5 1 (.slice xa n xc) n (vBs dt) ∧ KeepsFrom (S + 4) V Y ∧ KeepO bs X Y) (fun Y => ls.length - boxC Y (S + 1))
    case atStart => exact ⟨A, AX.out, HA2.out, HFV.out, HTK.out, HOV.out, KeepsFrom.refl _ _, HKV.out⟩
    case round =>
      obtain ⟨a, ha1, ha2, hF, hT, hO, hKF, hKO⟩ := hrel
      have hal : a < ls.length := by have := HXL.out; omega
      have lx : ls.length ≤ 1000000 := SP.out.1
      have g0 : decide ((a : Int) < (ls.length : Int)) = true := by rw [decide_eq_true_eq]; omega
      have g1 : decide (a < ls.length) = true := by rw [decide_eq_true_eq]; exact hal
      have z1 := hF.ab.cell
      have z2 := hF.lb.cell
      have z3 := hF.nb.cell
      have HF := Lib.hid hF
      have HT := Lib.hid hT
      have HO := Lib.hid hO
      have HKF := Lib.hid hKF
      have HKO := Lib.hid hKO
      have HA2 := Lib.hid ha2
      by_cases hax : a < xi
      · obtain ⟨b', off', y, hav, hp0, _, _⟩ := HX.out a hal
        simp only [Option.some.injEq, Addr.mk.injEq, and_true] at hav
        obtain ⟨rfl, rfl⟩ := hav
        have z4 := cell_old (by rw [HN.out]; exact hF.below) hp0
        have CA : Hid (cnt ls nm (a + 1) = cnt ls nm a) := Lib.hid (by
          have h1 := cnt_succ ls nm a hal
          have h2 := cnt_le ls nm (show a + 1 ≤ xi from hax)
          have h3 := HXP.out
          split at h1
          · omega
          · omega)
        have hne : ls[a].1 ≠ nm := by
          have h1 := cnt_succ ls nm a hal
          have h2 := CA.out
          intro e; rw [if_pos e] at h1; omega
        obtain ⟨nm', hnm'⟩ : ∃ q, ls[a].1 = q := ⟨_, rfl⟩
        rw [hnm'] at z4 hne
        have s1 : ((strOf nm').toList == (strOf nm).toList) = false := by rw [strOf_toList, strOf_toList, beq_eq_false_iff_ne]; exact hne
        clear hF hT hO hKF hKO ha2 hnm' hne hp0
        gi_wp2_with fail
        refine wpIn_region_q (fun Z => Z.cell? ⟨S + 1, 0, none⟩ = some (.int .i64 (a : Int)) ∧ Z.cell? ⟨N, 0, none⟩ = some (.slice (some ⟨b, off, none⟩) ls.length cv) ∧ Z.cell? ⟨N + 1, 0, none⟩ = some (.string (strOf nm)) ∧ Z.cell? ⟨b, off + a * 2, none⟩ = some (.string (strOf nm')) ∧ Below wr.heap.size wr Z) (by kernel_rfl) (by kernel_rfl) (by kernel_rfl) (fun _ _ h => h) ⟨z1, z2, z3, z4, (Below.refl _ wr).drew⟩ ?_
        clear z1 z2 z3 z4
        repeat
          first
          | go_big_quiet_skip
          | (go_big_quiet_want
             first
             | (go_big_quiet_op; go_big_quiet_on)
             | (apply Exists.intro
                refine ⟨fun X hX => ?_, ?_⟩
                · obtain ⟨e1, e2, e3, e4, eZ⟩ := hX
                  clear eZ
                  unfold Oper.quietAt
                  go_simp
                  first
                  | exact ⟨rfl, rfl⟩
                  | exact rfl
                go_big_quiet_on
                try simp only [Act.put, List.setIfInBounds_toArray, List.set_cons_zero, List.set_cons_succ]))
        refine wpQuiet_nil ?_
        rintro Z ⟨y1, y2, y3, y4, hbZ⟩
        clear y2 y3 y4
        have FZ := HF.out.low hNS (hbZ.mono HF.out.size)
        have y5 := FZ.ab.frozen
        have y1f : Z.frozen? ⟨S + 1, 0, none⟩ = false := y5
        clear y5
        have FZ' := Lib.hid (FZ.setA hNS)
        have HBZ := Lib.hid hbZ
        clear hbZ FZ
        gi_wp2_with fail
        go_roundw
        case rel =>
          have hb := HLB.out
          have hBw : Bx < wr.heap.size := (Array.getElem?_eq_some_iff.1 HT.out).1
          refine ⟨a + 1, by omega, by rw [CA.out, HA2.out], FZ'.out, ?_, owns_low HO.out (grown_set HBZ.out (S + 1) 0 _) (by omega), (HKF.out.trans (keepsFrom_below HBZ.out)).trans (keepsFrom_set _ _ _), (HKO.out.trans (KeepO.below HBZ.out)).trans (keepO_set _ _ _ _ _ ?_)⟩
          · rw [Go.Deep.blk_setCell_other _ _ _ _ (by simp only; omega), HBZ.out.block Bx hBw]; exact HT.out
          · intro h; have := BS.out _ h; omega
        case measure =>
          have e1 : boxC wr (S + 1) = a := boxC_of HF.out.ab
          have e2 : boxC (Z.setCell ⟨S + 1, 0, none⟩ (.int .i64 ((a : Int) + 1))) (S + 1) = a + 1 := boxC_of FZ'.out.ab
          rw [e1, e2]; omega
      · obtain rfl : xi = a := by omega
        obtain ⟨hb1, hby⟩ := HBB.out
        rw [HCC.out] at hby
        simp only at hby
        obtain ⟨ya, yc, rfl⟩ := hby.len
        rw [HN2.out] at hb1 hby
        have z4 := cell_old (by rw [HN.out]; exact hF.below) HB0.out
        rw [HCC.out] at z4
        simp only at z4
        have s1 : ((strOf nm).toList == (strOf nm).toList) = true := by rw [beq_iff_eq]
        have HB1 := Lib.hid hb1
        have HBY := Lib.hid hby
        clear hF hT hO hKF hKO ha2 hb1 hby
        gi_wp2_with fail
        refine wpIn_region_q (fun Z => Z.cell? ⟨S + 1, 0, none⟩ = some (.int .i64 (xi : Int)) ∧ Z.cell? ⟨N, 0, none⟩ = some (.slice (some ⟨b, off, none⟩) ls.length cv) ∧ Z.cell? ⟨N + 1, 0, none⟩ = some (.string (strOf nm)) ∧ Z.cell? ⟨b, off + xi * 2, none⟩ = some (.string (strOf nm)) ∧ Below wr.heap.size wr Z) (by kernel_rfl) (by kernel_rfl) (by kernel_rfl) (fun _ _ h => h) ⟨z1, z2, z3, z4, (Below.refl _ wr).drew⟩ ?_
        clear z1 z2 z3 z4
        repeat
          first
          | go_big_quiet_skip
          | (go_big_quiet_want
             first
             | (go_big_quiet_op; go_big_quiet_on)
             | (apply Exists.intro
                refine ⟨fun X hX => ?_, ?_⟩
                · obtain ⟨e1, e2, e3, e4, eZ⟩ := hX
                  clear eZ
                  unfold Oper.quietAt
                  go_simp
                  first
                  | exact ⟨rfl, rfl⟩
                  | exact rfl
                go_big_quiet_on
                try simp only [Act.put, List.setIfInBounds_toArray, List.set_cons_zero, List.set_cons_succ]))
        refine wpQuiet_nil ?_
        rintro Z ⟨y1, y2, y3, y4, hbZ⟩
        have HBZ := Lib.hid hbZ
        obtain ⟨y5, y6, _, _⟩ := resB_of (heap_low HT.out hbZ)
        have y7 := cell_old (hN' HN.out (HF.out.below.trans (hbZ.mono (by have := HF.out.size; omega)))) HB1.out
        have BD : Hid (Bs Z (.slice xa n xc) dt) := Lib.hid (by have h := sl_of_owns (owns_below HO.out hbZ); unfold Bs; rw [HN2.out]; exact h)
        have BY : Hid (Bs Z (.slice ya n yc) dt) := Lib.hid (HBY.out.old (hN' HN.out (HF.out.below.trans (hbZ.mono (by have := HF.out.size; omega)))))
        clear hbZ
        gi_wp2_with fail
        refine wpIn_region_q (fun Y => Y.cell? ⟨S + 1, 0, none⟩ = some (.int .i64 (xi : Int)) ∧ Y.cell? ⟨N, 0, none⟩ = some (.slice (some ⟨b, off, none⟩) ls.length cv) ∧ Y.cell? ⟨N + 1, 0, none⟩ = some (.string (strOf nm)) ∧ Y.cell? ⟨Bx, 0, none⟩ = some (.string (strOf nm)) ∧ Y.cell? ⟨Bx, 1, none⟩ = some (.slice xa n xc) ∧ Y.cell? ⟨b, off + xi * 2 + 1, none⟩ = some (.slice ya n yc) ∧ Below Z.heap.size Z Y) (by kernel_rfl) (by kernel_rfl) (by kernel_rfl) (fun _ _ h => h) ⟨y1, y2, y3, y5, y6, y7, (Below.refl _ Z).drew⟩ ?_
        clear y1 y2 y3 y4 y5 y6 y7
        have g2 : decide ((ls.length : Int) ≤ (xi : Int)) = false := by rw [decide_eq_false_iff_not]; omega
        have g3 : decide (ls.length ≤ xi) = false := by rw [decide_eq_false_iff_not]; omega
        have SM : Hid (∀ Y, Below Z.heap.size Z Y → Calls Try.prog 21 #[.slice xa n xc, .slice ya n yc] Y fun e W' => e = .returned (.bool true) ∧ Y = W') := Lib.hid (fun Y hY => same_yes _ _ dt Y (BD.out.old hY) (BY.out.old hY))
        repeat
          first
          | go_big_quiet_skip
          | (go_big_quiet_want
             first
             | (go_big_quiet_op; go_big_quiet_on)
             | (apply Exists.intro
                refine ⟨fun Y hY => ?_, ?_⟩
                · have hYY := Lib.hid hY
                  obtain ⟨e1, e2, e3, e4, e5, e6, eZ⟩ := hY
                  clear eZ
                  unfold Oper.quietAt
                  go_simp
                  first
                  | exact ⟨rfl, rfl⟩
                  | exact rfl
                  | (go_at_call 21; exact (SM.out _ hYY.out.2.2.2.2.2.2).mono (fun e W' ⟨h1, h2⟩ => ⟨h1, h2 ▸ hYY.out⟩))
                go_big_quiet_on
                try simp only [Act.put, List.setIfInBounds_toArray, List.set_cons_zero, List.set_cons_succ]))
        refine wpQuiet_nil ?_
        rintro Y ⟨_, u2, _, _, v5, v6, hbY⟩
        have b2 : Below wr.heap.size wr Y := HBZ.out.trans (hbY.mono HBZ.out.size)
        have FW := HF.out.low hNS (b2.mono HF.out.size)
        have OW := owns_below HO.out b2
        have KFW : Hid (KeepsFrom (S + 4) V Y) := Lib.hid (HKF.out.trans (keepsFrom_below b2))
        have KOW : Hid (KeepO bs X Y) := Lib.hid (HKO.out.trans (KeepO.below b2))
        have BYY : Hid (Bs Y (.slice ya n yc) dt) := Lib.hid (BY.out.old hbY)
        clear hbY b2 g0 g1 g2 g3 s1
        by_cases hn0 : n = 0
        · have d1 : decide ((0 : Int) < (n : Int)) = false := by rw [decide_eq_false_iff_not]; omega
          have d2 : decide (0 < n) = false := by rw [decide_eq_false_iff_not]; omega
          clear OW hn0
          have f1 := FW.ab.cell
          have f2 := FW.ab.frozen
          have f3 := FW.kb.cell
          have f4 := FW.kb.frozen
          have f5 := FW.mb.cell
          have FA := FW.setA hNS
          have f3' := FA.kb.cell
          have f4' := FA.kb.frozen
          have FK := FA.setK hNS
          have f6 := FK.kb.cell
          have f7 := FK.mb.cell
          have KF2 : Hid (KeepsFrom (S + 4) V ((Y.setCell ⟨S + 1, 0, none⟩ (.int .i64 ((xi : Int) + 1))).setCell ⟨S, 0, none⟩ (.int .i64 ((k : Int) + 1)))) := Lib.hid ((KFW.out.trans (keepsFrom_set _ _ _)).trans (keepsFrom_set _ _ _))
          have KO2 : Hid (KeepO bs X ((Y.setCell ⟨S + 1, 0, none⟩ (.int .i64 ((xi : Int) + 1))).setCell ⟨S, 0, none⟩ (.int .i64 ((k : Int) + 1)))) := Lib.hid ((KOW.out.trans (keepO_set _ _ _ _ _ (by intro h; have := BS.out _ h; omega))).trans (keepO_set _ _ _ _ _ (by intro h; have := BS.out _ h; omega)))
          have FK2 := Lib.hid FK
          have kle : k ≤ 9 := by have := HPM.out; have := HMM.out; omega
          clear FW FA FK
          by_cases hkm : k + 1 = m
          · have e1 : ((k : Int) + 1 == (m : Int)) = true := by rw [beq_iff_eq]; omega
            have e2 : (k + 1 == m) = true := by rw [beq_iff_eq]; exact hkm
            have HKM := Lib.hid hkm
            clear hkm
            gi_wp2_with fail
            refine ⟨by rw [s6]; exact KF2.out, KO2.out, rfl, ⟨xi + 1, HXL.out, ?_, ?_⟩, by rw [List.length_append, HK.out]; exact HKM.out⟩
            · rw [List.length_append, HK.out, CNX.out, HA2.out]; rfl
            · rw [List.length_append, HK.out]; exact FK2.out
          · have e1 : ((k : Int) + 1 == (m : Int)) = false := by rw [beq_eq_false_iff_ne]; omega
            have e2 : (k + 1 == m) = false := by rw [beq_eq_false_iff_ne]; exact hkm
            have HKM := Lib.hid hkm
            clear hkm
            gi_wp2_with fail
            refine ⟨by rw [s6]; exact KF2.out, KO2.out, ⟨xi + 1, HXL.out, ?_, ?_⟩, by rw [List.length_append, HK.out]; have := HKM.out; have := HPM.out; simp; omega⟩
            · rw [List.length_append, HK.out, CNX.out, HA2.out]; rfl
            · rw [List.length_append, HK.out]; exact FK2.out
        · have d1 : decide ((0 : Int) < (n : Int)) = true := by rw [decide_eq_true_eq]; omega
          have d2 : decide (0 < n) = true := by rw [decide_eq_true_eq]; omega
          have d3 : 0 < n := by omega
          obtain ⟨g, rfl, hg⟩ : ∃ g, xa = some ⟨g, 0, none⟩ ∧ S + 4 ≤ g := by
            rcases OW.2 with ⟨h', _⟩ | ⟨g', cap', cur, h', hb, _⟩
            · simp only [Value.slice.injEq] at h'; omega
            · simp only [Value.slice.injEq] at h'; exact ⟨g', h'.1, hb⟩
          have hdl : 0 < dt.length := by rw [HN2.out]; exact d3
          obtain ⟨c0, hc0⟩ : ∃ c, dt[0] = c := ⟨_, rfl⟩
          have m0 := OW.cellAt 0 (by omega)
          rw [show (vBs dt)[0]? = some (.int .u8 ((c0.toNat : Nat) : Int)) by simp [vBs, List.getElem?_eq_getElem hdl, vB, hc0]] at m0
          have m1 := OW.frozenAt 0
          obtain ⟨yb, yo, rfl, hyb, hy0⟩ : ∃ yb yo, ya = some ⟨yb, yo, none⟩ ∧ yb < N ∧ Y.cell? ⟨yb, yo, none⟩ = some (.int .u8 ((c0.toNat : Nat) : Int)) := by
            rcases HBY.out.shape with ⟨a', c', hv, h0⟩ | ⟨yb, yo, c', hv, hcc, _, hq⟩
            · rw [h0] at hdl; simp at hdl
            · simp only [Value.slice.injEq] at hv
              have h1 := hq 0 hdl
              rw [hc0] at h1
              have h2 := cell_old (hN' HN.out FW.below) h1
              exact ⟨yb, yo, hv.1, by rw [← HN.out]; exact World.block_lt_of_cell? _ _ h1, by simpa using h2⟩
          have hgN : g ≠ yb := by omega
          have FW0 := FW
          replace FW : FoundS N S m w (.slice (some ⟨b, off, none⟩) ls.length cv) nm k xi (Y.setCell ⟨g, 0, none⟩ (.int .u8 (bits .xor .u8 ((c0.toNat : Nat) : Int) 1))) := FW0.low hNS ((Below.refl _ _).setCell (p := ⟨g, 0, none⟩) (by simp only; exact hg) _)
          replace KFW : Hid (KeepsFrom (S + 4) V (Y.setCell ⟨g, 0, none⟩ (.int .u8 (bits .xor .u8 ((c0.toNat : Nat) : Int) 1)))) := Lib.hid (KFW.out.trans (keepsFrom_set _ _ _))
          replace KOW : Hid (KeepO bs X (Y.setCell ⟨g, 0, none⟩ (.int .u8 (bits .xor .u8 ((c0.toNat : Nat) : Int) 1)))) := Lib.hid (KOW.out.trans (keepO_set _ _ _ _ _ (by intro h; have := BS.out _ h; omega)))
          have n1 : (Y.setCell ⟨g, 0, none⟩ (.int .u8 (bits .xor .u8 ((c0.toNat : Nat) : Int) 1))).cell? ⟨yb, yo, none⟩ = some (.int .u8 ((c0.toNat : Nat) : Int)) := by rw [World.cell?_of_block (Go.Deep.blk_setCell_other _ _ _ _ (by simp only; omega))]; exact hy0
          have v6b : b < N := by have := World.block_lt_of_cell? _ _ HB1.out; rw [← HN.out]; exact this
          have n2 : (Y.setCell ⟨g, 0, none⟩ (.int .u8 (bits .xor .u8 ((c0.toNat : Nat) : Int) 1))).cell? ⟨b, off + xi * 2 + 1, none⟩ = some (.slice (some ⟨yb, yo, none⟩) n yc) := by rw [World.cell?_of_block (Go.Deep.blk_setCell_other _ _ _ _ (by simp only; omega))]; exact v6
          have n3 := FW.lb.cell
          clear OW hn0 FW0 hc0 hdl hy0 hgN v6 u2
          have f1 := FW.ab.cell
          have f2 := FW.ab.frozen
          have f3 := FW.kb.cell
          have f4 := FW.kb.frozen
          have f5 := FW.mb.cell
          have FA := FW.setA hNS
          have f3' := FA.kb.cell
          have f4' := FA.kb.frozen
          have FK := FA.setK hNS
          have f6 := FK.kb.cell
          have f7 := FK.mb.cell
          have KF2 : Hid (KeepsFrom (S + 4) V (((Y.setCell ⟨g, 0, none⟩ (.int .u8 (bits .xor .u8 ((c0.toNat : Nat) : Int) 1))).setCell ⟨S + 1, 0, none⟩ (.int .i64 ((xi : Int) + 1))).setCell ⟨S, 0, none⟩ (.int .i64 ((k : Int) + 1)))) := Lib.hid ((KFW.out.trans (keepsFrom_set _ _ _)).trans (keepsFrom_set _ _ _))
          have KO2 : Hid (KeepO bs X (((Y.setCell ⟨g, 0, none⟩ (.int .u8 (bits .xor .u8 ((c0.toNat : Nat) : Int) 1))).setCell ⟨S + 1, 0, none⟩ (.int .i64 ((xi : Int) + 1))).setCell ⟨S, 0, none⟩ (.int .i64 ((k : Int) + 1)))) := Lib.hid ((KOW.out.trans (keepO_set _ _ _ _ _ (by intro h; have := BS.out _ h; omega))).trans (keepO_set _ _ _ _ _ (by intro h; have := BS.out _ h; omega)))
          have FK2 := Lib.hid FK
          have kle : k ≤ 9 := by have := HPM.out; have := HMM.out; omega
          clear FW FA FK
          by_cases hkm : k + 1 = m
          · have e1 : ((k : Int) + 1 == (m : Int)) = true := by rw [beq_iff_eq]; omega
            have e2 : (k + 1 == m) = true := by rw [beq_iff_eq]; exact hkm
            have HKM := Lib.hid hkm
            clear hkm
            gi_wp2_with fail
            refine ⟨by rw [s6]; exact KF2.out, KO2.out, rfl, ⟨xi + 1, HXL.out, ?_, ?_⟩, by rw [List.length_append, HK.out]; exact HKM.out⟩
            · rw [List.length_append, HK.out, CNX.out, HA2.out]; rfl
            · rw [List.length_append, HK.out]; exact FK2.out
          · have e1 : ((k : Int) + 1 == (m : Int)) = false := by rw [beq_eq_false_iff_ne]; omega
            have e2 : (k + 1 == m) = false := by rw [beq_eq_false_iff_ne]; exact hkm
            have HKM := Lib.hid hkm
            clear hkm
            gi_wp2_with fail
            refine ⟨by rw [s6]; exact KF2.out, KO2.out, ⟨xi + 1, HXL.out, ?_, ?_⟩, by rw [List.length_append, HK.out]; have := HKM.out; have := HPM.out; simp; omega⟩
            · rw [List.length_append, HK.out, CNX.out, HA2.out]; rfl
            · rw [List.length_append, HK.out]; exact FK2.out
  case' done =>
    rintro D pre X hD hDX hfin ⟨⟨A, hA1, hA2, hI⟩, hlt⟩ hK
    have hfin' : pre.length = cnt ls nm ls.length := hfin
    obtain ⟨q, hq⟩ : ∃ q, cnt ls nm ls.length = q := ⟨_, rfl⟩
    obtain ⟨k, hk⟩ : ∃ k, pre.length = k := ⟨_, rfl⟩
    rw [hk] at hlt hI hfin'
    rw [hq] at hfin'
    have HM2 : Hid (q < m) := Lib.hid (by omega)
    have HM3 : Hid (decide ((q : Int) < (m : Int)) = true) := Lib.hid (by rw [decide_eq_true_eq]; omega)
    subst hfin'
  case' stop =>
    rintro D c pre X hD hDX ⟨rfl, ⟨A, hA1, hA2, hI⟩, hlt⟩ hK
    have hfin' := cnt_le ls nm hA1
    obtain ⟨q, hq⟩ : ∃ q, cnt ls nm ls.length = q := ⟨_, rfl⟩
    obtain ⟨k, hk⟩ : ∃ k, pre.length = k := ⟨_, rfl⟩
    rw [hk] at hlt hI hA2
    rw [hq, hA2] at hfin'
    have HM2 : Hid (¬ q < m) := Lib.hid (by omega)
    have HM3 : Hid (decide ((q : Int) < (m : Int)) = false) := Lib.hid (by rw [decide_eq_false_iff_not]; omega)
    subst hlt
    refine wpIn_exit ?_
  all_goals
    have HQ := Lib.hid hq
    have HI := Lib.hid hI
    have HKD := Lib.hid hK
    have hDb : S + 4 ≤ D := by omega
    have lx : ls.length ≤ 1000000 := SP.out.1
    have z2 := hI.lb.cell
    clear hq hk hA1 hA2 hI hK h06 t2 t3 bm1 bm2 hbs0 hbs6 x0 x1
    go_wp2_with fail
    go_loopw [14, 104] (fun c i W => ∃ j : Nat, j ≤ ls.length ∧ i = .int .i64 (j : Nat) ∧ c = .int .i64 (cnt ls nm j : Nat) ∧ Below X.heap.size X W) (fun _ i _ => ls.length - (intOf i).toNat)
    case atStart => exact ⟨0, Nat.zero_le _, rfl, rfl, Below.refl _ _⟩
    case round =>
      obtain ⟨j, hj, rfl, rfl, hbel⟩ := hrel
      have BE := Lib.hid hbel
      by_cases hjl : j < ls.length
      · obtain ⟨b, off, x, rfl, hp0, hp1, hbx⟩ := HX.out j hjl
        have hw := hN' HN.out (HI.out.below.trans (hbel.mono (by have := HI.out.size; omega)))
        have p0 := cell_old hw hp0
        have p1 := cell_old hw hp1
        have FX := (HI.out.low hNS (hbel.mono HI.out.size)).nb.cell
        have CS := cnt_succ ls nm j hjl
        obtain ⟨⟨nm', dt⟩, hcc⟩ : ∃ c, ls[j] = c := ⟨_, rfl⟩
        rw [hcc] at p0 hbx CS
        simp only at p0 hbx CS
        obtain ⟨a', c', rfl⟩ := hbx.len
        obtain ⟨n, hn⟩ : ∃ n, dt.length = n := ⟨_, rfl⟩
        rw [hn] at p1
        have e1 : decide ((j : Int) < (ls.length : Int)) = true := by rw [decide_eq_true_eq]; omega
        have ba : Below wr.heap.size wr (wr.alloc (.cells #[.string (strOf nm'), .slice a' n c'] 39)) := (Below.refl _ _).alloc (Nat.le_refl _) _
        have FX' := cell_old ba FX
        have BA : Hid (Below X.heap.size X (wr.alloc (.cells #[.string (strOf nm'), .slice a' n c'] 39))) := Lib.hid (hbel.trans (ba.mono hbel.size))
        have cl := cnt_len ls nm j
        have HCS := Lib.hid CS
        clear hp0 hp1 hbx hcc hbel hw ba CS
        by_cases hm : nm' = nm
        · subst hm
          have s1 : ((strOf nm').toList == (strOf nm').toList) = true := by rw [beq_iff_eq]
          go_wp2_with fail
          go_roundw
          case rel =>
            have h := HCS.out
            rw [if_pos rfl] at h
            exact ⟨j + 1, hjl, by go_num, by rw [h]; exact vi (by omega), BA.out⟩
          case measure => simp [intOf]; omega
        · have s1 : ((strOf nm').toList == (strOf nm).toList) = false := by rw [strOf_toList, strOf_toList, beq_eq_false_iff_ne]; exact hm
          have HM' := Lib.hid hm
          clear hm
          go_wp2_with fail
          go_roundw
          case rel =>
            have h := HCS.out
            rw [if_neg HM'.out] at h
            exact ⟨j + 1, hjl, by go_num, by rw [h]; rfl, BA.out⟩
          case measure => simp [intOf]; omega
      · obtain rfl : j = ls.length := by omega
        have e1 : decide ((ls.length : Int) < (ls.length : Int)) = false := by rw [decide_eq_false_iff_not]; omega
        rw [HQ.out]
        have FX := HI.out.low hNS (hbel.mono HI.out.size)
        have BUX : Hid (Bs wr (.slice ua l.length uc) l) := Lib.hid (HB.out.old (hN' HN.out FX.below))
        have BEL : Hid (Below X.heap.size X wr) := Lib.hid hbel
        have HFX := Lib.hid FX
        have x1 := boxed_low FX.kb (Below.refl (S + 4) wr).drew (by omega)
        have x2 := boxed_low FX.mb (Below.refl (S + 4) wr).drew (by omega)
        have x1c := x1.cell
        have x2c := x2.cell
        have KB := Lib.hid (fun (Y : World) (hY : Below wr.heap.size wr Y) => let h := HFX.out.low hNS (hY.mono HFX.out.size); And.intro h.kb.cell h.mb.cell)
        have RB : Hid (∀ W, Below wr.heap.size wr W → W.cell? ⟨N + 1 + 1 + 1, 0, none⟩ = some (.bool false) ∧ W.frozen? ⟨N + 1 + 1 + 1, 0, none⟩ = false) := Lib.hid (fun W hW => let h := (HFX.out.low hNS (hW.mono HFX.out.size)).rb; ⟨h.cell, h.frozen⟩)
        have FINW : Hid (∀ W, Below wr.heap.size wr W → Boxed (W.setCell ⟨N + 1 + 1 + 1, 0, none⟩ (.bool true)) (N + 1 + 1 + 1) 4 (.bool true) ∧ Below w.heap.size w (W.setCell ⟨N + 1 + 1 + 1, 0, none⟩ (.bool true)) ∧ (W.setCell ⟨N + 1 + 1 + 1, 0, none⟩ (.bool true)).heap[D]? = some (.deferred (some []))) := Lib.hid (fun W hW => by
          have h := HFX.out.low hNS (hW.mono HFX.out.size)
          refine ⟨Boxed.set _ h.rb, by rw [HN.out]; exact h.below.setCell (p := ⟨N + 1 + 1 + 1, 0, none⟩) (by simp only; omega) _, (KeepsOthers.setCell _ _ _).same D _ ?_ rfl⟩
          have dl := (Array.getElem?_eq_some_iff.1 HKD.out).1
          rw [hW.block D (by have := BEL.out.size; omega), BEL.out.block D dl]; exact HKD.out)
        have m3 := HM2.out
        have m4 := HM3.out
        clear hbel FX x1 x2 e1 z2
        by_cases h8 : l.length < 8
        · have d1 : decide ((8 : Int) ≤ (l.length : Int)) = false := by rw [decide_eq_false_iff_not]; omega
          have d2 : decide (8 ≤ l.length) = false := by rw [decide_eq_false_iff_not]; omega
          have CSG : Hid (∀ W, Below wr.heap.size wr W → Calls Try.prog 24 #[.slice ua l.length uc] W fun e w' => e = .returned (.bool false) ∧ Below wr.heap.size wr w') := Lib.hid (fun W hW => by
            refine (csigned_any _ l _ (BUX.out.old hW) (by omega)).mono ?_
            rintro e w' ⟨h1, h2⟩
            refine ⟨?_, hW.trans (h2.mono hW.size)⟩
            rw [h1]
            have : signedC l = false := by unfold signedC; rw [decide_eq_false_iff_not]; intro e; have := congrArg List.length e; rw [List.length_take] at this; simp [signL] at this; omega
            rw [this])
          clear h8
          go_upto_region 29 with (fail)
          refine wp_region_qt (fun Y => Below wr.heap.size wr Y) 21 (by kernel_rfl) (by kernel_rfl) (Below.refl _ _).drew ?_
          simp only [List.take_succ_cons, List.take_zero, List.drop_succ_cons, List.drop_zero]
          clear x1c x2c
          repeat
            first
            | go_big_quiet_skip
            | (go_big_quiet_want
               first
               | (go_big_quiet_op; go_big_quiet_on)
               | (apply Exists.intro
                  refine ⟨fun Y hY => ?_, ?_⟩
                  · obtain ⟨e1, e2⟩ := KB.out _ hY
                    have hYY := Lib.hid hY
                    clear hY
                    unfold Oper.quietAt
                    go_simp
                    first
                    | exact ⟨rfl, hYY.out⟩
                    | exact ⟨rfl, rfl⟩
                    | exact rfl
                    | (go_at_call 24; exact CSG.out _ hYY.out)
                  go_big_quiet_on
                  try simp only [Act.put, List.setIfInBounds_toArray, List.set_cons_zero, List.set_cons_succ]))
          refine wpQuiet_nil ?_
          rintro W7 hb7
          obtain ⟨y0, y1⟩ := RB.out _ hb7
          obtain ⟨r0, r1, r3⟩ := FINW.out _ hb7
          have R0 := Lib.hid r0
          have R1 := Lib.hid r1
          have R3 := Lib.hid r3
          clear r0 r1 r3 hb7
          go_wp2_with fail
          have r2 : ((W7.setCell ⟨N + 1 + 1 + 1, 0, none⟩ (.bool true)).putObj D (.deferred none)).cell? ⟨N + 1 + 1 + 1, 0, none⟩ = some (.bool true) := Boxed.cell (t := 4) ((World.putObj_heap_other (by omega)).trans R0.out)
          refine ⟨by simp, .inl ⟨_, _, rfl, run_takeDeferred R3.out, ?_⟩⟩
          refine ⟨.bool true, by simp [results, Try.f23, go_sem, r2], rfl, ?_⟩
          exact R1.out.trans ((sameBut_put _ _ _).below (by have := HN.out; omega))
        · obtain ⟨ub, uo, rfl, hcap⟩ : ∃ ub uo, ua = some ⟨ub, uo, none⟩ ∧ l.length ≤ uc := by
            rcases HB.out.shape with ⟨a', c', hv, h0⟩ | ⟨ub, uo, c', hv, hcc, _⟩
            · rw [h0] at h8; simp at h8
            · simp only [Value.slice.injEq] at hv; exact ⟨ub, uo, hv.1, by omega⟩
          have d1 : decide ((8 : Int) ≤ (l.length : Int)) = true := by rw [decide_eq_true_eq]; omega
          have d2 : decide (8 ≤ l.length) = true := by rw [decide_eq_true_eq]; omega
          have j2 : 8 ≤ l.length := by omega
          have j3 : (8 : Int) ≤ (uc : Int) := by omega
          have B8 : Hid (Bs wr (.slice (some ⟨ub, uo, none⟩) 8 uc) (l.take 8)) := Lib.hid (BUX.out.take 8 j2)
          obtain ⟨sg, hsg⟩ : ∃ sg, signedC l = sg := ⟨_, rfl⟩
          have s1 : ((strOf (l.take 8)).toList == (strOf signL).toList) = sg := by rw [strOf_toList, strOf_toList, beq_dec, ← hsg]; rfl
          have CSG : Hid (∀ W, Below wr.heap.size wr W → Calls Try.prog 24 #[.slice (some ⟨ub, uo, none⟩) l.length uc] W fun e w' => e = .returned (.bool sg) ∧ Below wr.heap.size wr w') := Lib.hid (fun W hW => by
            refine (csigned_any _ l _ (BUX.out.old hW) (by have := HL.out; omega)).mono ?_
            rintro e w' ⟨h1, h2⟩
            refine ⟨?_, hW.trans (h2.mono hW.size)⟩
            rw [h1, hsg])
          clear h8 hcap hsg
          go_upto_region 29 with (fail)
          refine wp_region_qa (fun Y => Below wr.heap.size wr Y) 11 (by kernel_rfl) (by kernel_rfl) (Below.refl _ _).drew ?_
          simp only [List.take_succ_cons, List.take_zero]
          clear x1c x2c
          repeat
            first
            | go_big_quiet_skip
            | (go_big_quiet_want
               first
               | (go_big_quiet_op; go_big_quiet_on)
               | (apply Exists.intro
                  refine ⟨fun Y hY => ?_, ?_⟩
                  · obtain ⟨e1, e2⟩ := KB.out _ hY
                    have hYY := Lib.hid hY
                    clear hY
                    unfold Oper.quietAt
                    go_simp
                    first
                    | exact ⟨rfl, hYY.out⟩
                    | exact ⟨rfl, rfl⟩
                    | exact rfl
                    | (go_at_call 24; exact CSG.out _ hYY.out)
                  go_big_quiet_on
                  try simp only [Act.put, List.setIfInBounds_toArray, List.set_cons_zero, List.set_cons_succ]))
          refine wpQuiet_nil ?_
          rintro W7 hb7
          have cvd := conv_str (B8.out.old hb7)
          have HB7 := Lib.hid hb7
          clear hb7
          simp only [List.size_toArray, List.length_cons, List.length_nil, Nat.reduceAdd, Nat.reduceSub]
          refine wpAny_ready (rs := [11]) (by kernel_rfl) (by simp) ?_
          refine AllReady.cons rfl (fun K hK => ?_) AllReady.nil
          go_simp
          try (refine hK _ _ ?_; clear hK K)
          refine wpAny_ready (rs := [12, 15]) (by kernel_rfl) (by simp) ?_
          refine (AllReady.cons rfl (fun K hK => ?_) (AllReady.cons rfl (fun K hK => ?_) AllReady.nil))
          · skip
            go_simp
            try (refine hK _ _ ?_; clear hK K)
            refine wpAny_ready (rs := [13, 15]) (by kernel_rfl) (by simp) ?_
            refine (AllReady.cons rfl (fun K hK => ?_) (AllReady.cons rfl (fun K hK => ?_) AllReady.nil))
            · skip
              go_simp
              try (refine hK _ _ ?_; clear hK K)
              refine wpAny_ready (rs := [14, 15]) (by kernel_rfl) (by simp) ?_
              refine (AllReady.cons rfl (fun K hK => ?_) (AllReady.cons rfl (fun K hK => ?_) AllReady.nil))
              · skip
                go_simp
                try (refine hK _ _ ?_; clear hK K)
                refine wpAny_ready (rs := [15]) (by kernel_rfl) (by simp) ?_
                refine (AllReady.cons rfl (fun K hK => ?_) AllReady.nil)
                · skip
                  go_simp
                  go_wp2_with ((go_at_call 26; refine (refSign_bs _).mono ?_; rintro e W8 ⟨v8, rfl, hbs, hb8⟩; have hb8' : Below wr.heap.size wr W8 := HB7.out.trans (hb8.mono HB7.out.size); have cvs := conv_str hbs; have cve := conv_str (B8.out.old hb8'); have HB8 := Lib.hid hb8'; clear hbs hb8 hb8'))
                  try (refine hK _ _ ?_; clear hK K)
                  refine wpAny_ready (rs := [16]) (by kernel_rfl) (by simp) ?_
                  refine (AllReady.cons rfl (fun K hK => ?_) AllReady.nil)
                  · skip
                    go_simp
                    try (refine hK _ _ ?_; clear hK K)
                    obtain ⟨y0, y1⟩ := RB.out _ HB8.out
                    refine wpAny_ready (rs := [17]) (by kernel_rfl) (by simp) ?_
                    refine AllReady.cons rfl (fun K hK => ?_) AllReady.nil
                    go_simp
                    try (refine hK _ _ ?_; clear hK K)
                    refine wpAny_ready (rs := [18]) (by kernel_rfl) (by simp) ?_
                    refine AllReady.cons rfl (fun K hK => ?_) AllReady.nil
                    go_simp
                    try (refine hK _ _ ?_; clear hK K)
                    refine wpAny_ready (rs := [19]) (by kernel_rfl) (by simp) ?_
                    refine AllReady.cons rfl (fun K hK => ?_) AllReady.nil
                    go_simp
                    try (refine hK _ _ ?_; clear hK K)
                    refine wpAny_ready (rs := [20]) (by kernel_rfl) (by simp) ?_
                    refine AllReady.cons rfl (fun K hK => ?_) AllReady.nil
                    go_simp
                    try (refine hK _ _ ?_; clear hK K)
                    refine wpAny_ready (rs := [21]) (by kernel_rfl) (by simp) ?_
                    refine AllReady.cons rfl (fun K hK => ?_) AllReady.nil
                    go_simp
                    try (refine hK _ _ ?_; clear hK K)
                    refine wpAny_done (by kernel_rfl) ?_ _
                    obtain ⟨r0, r1, r3⟩ := FINW.out _ HB8.out
                    have R0 := Lib.hid r0
                    have R1 := Lib.hid r1
                    have R3 := Lib.hid r3
                    clear r0 r1 r3 y0 y1 cvs cve
                    go_wp2_with fail
                    have r2 : ((W8.setCell ⟨N + 1 + 1 + 1, 0, none⟩ (.bool true)).putObj D (.deferred none)).cell? ⟨N + 1 + 1 + 1, 0, none⟩ = some (.bool true) := Boxed.cell (t := 4) ((World.putObj_heap_other (by omega)).trans R0.out)
                    refine ⟨by simp, .inl ⟨_, _, rfl, run_takeDeferred R3.out, ?_⟩⟩
                    refine ⟨.bool true, by simp [results, Try.f23, go_sem, r2], rfl, ?_⟩
                    exact R1.out.trans ((sameBut_put _ _ _).below (by have := HN.out; omega))
              · skip
                go_simp
                go_wp2_with ((go_at_call 26; refine (refSign_bs _).mono ?_; rintro e W8 ⟨v8, rfl, hbs, hb8⟩; have hb8' : Below wr.heap.size wr W8 := HB7.out.trans (hb8.mono HB7.out.size); have cvs := conv_str hbs; have cve := conv_str (B8.out.old hb8'); have HB8 := Lib.hid hb8'; clear hbs hb8 hb8'))
                try (refine hK _ _ ?_; clear hK K)
                refine wpAny_ready (rs := [14, 16]) (by kernel_rfl) (by simp) ?_
                refine (AllReady.cons rfl (fun K hK => ?_) (AllReady.cons rfl (fun K hK => ?_) AllReady.nil))
                · skip
                  go_simp
                  try (refine hK _ _ ?_; clear hK K)
                  refine wpAny_ready (rs := [16]) (by kernel_rfl) (by simp) ?_
                  refine (AllReady.cons rfl (fun K hK => ?_) AllReady.nil)
                  · skip
                    go_simp
                    try (refine hK _ _ ?_; clear hK K)
                    obtain ⟨y0, y1⟩ := RB.out _ HB8.out
                    refine wpAny_ready (rs := [17]) (by kernel_rfl) (by simp) ?_
                    refine AllReady.cons rfl (fun K hK => ?_) AllReady.nil
                    go_simp
                    try (refine hK _ _ ?_; clear hK K)
                    refine wpAny_ready (rs := [18]) (by kernel_rfl) (by simp) ?_
                    refine AllReady.cons rfl (fun K hK => ?_) AllReady.nil
                    go_simp
                    try (refine hK _ _ ?_; clear hK K)
                    refine wpAny_ready (rs := [19]) (by kernel_rfl) (by simp) ?_
                    refine AllReady.cons rfl (fun K hK => ?_) AllReady.nil
                    go_simp
                    try (refine hK _ _ ?_; clear hK K)
                    refine wpAny_ready (rs := [20]) (by kernel_rfl) (by simp) ?_
                    refine AllReady.cons rfl (fun K hK => ?_) AllReady.nil
                    go_simp
                    try (refine hK _ _ ?_; clear hK K)
                    refine wpAny_ready (rs := [21]) (by kernel_rfl) (by simp) ?_
                    refine AllReady.cons rfl (fun K hK => ?_) AllReady.nil
                    go_simp
                    try (refine hK _ _ ?_; clear hK K)
                    refine wpAny_done (by kernel_rfl) ?_ _
                    obtain ⟨r0, r1, r3⟩ := FINW.out _ HB8.out
                    have R0 := Lib.hid r0
                    have R1 := Lib.hid r1
                    have R3 := Lib.hid r3
                    clear r0 r1 r3 y0 y1 cvs cve
                    go_wp2_with fail
                    have r2 : ((W8.setCell ⟨N + 1 + 1 + 1, 0, none⟩ (.bool true)).putObj D (.deferred none)).cell? ⟨N + 1 + 1 + 1, 0, none⟩ = some (.bool true) := Boxed.cell (t := 4) ((World.putObj_heap_other (by omega)).trans R0.out)
                    refine ⟨by simp, .inl ⟨_, _, rfl, run_takeDeferred R3.out, ?_⟩⟩
                    refine ⟨.bool true, by simp [results, Try.f23, go_sem, r2], rfl, ?_⟩
                    exact R1.out.trans ((sameBut_put _ _ _).below (by have := HN.out; omega))
                · skip
                  go_simp
                  try (refine hK _ _ ?_; clear hK K)
                  refine wpAny_ready (rs := [14]) (by kernel_rfl) (by simp) ?_
                  refine (AllReady.cons rfl (fun K hK => ?_) AllReady.nil)
                  · skip
                    go_simp
                    try (refine hK _ _ ?_; clear hK K)
                    obtain ⟨y0, y1⟩ := RB.out _ HB8.out
                    refine wpAny_ready (rs := [17]) (by kernel_rfl) (by simp) ?_
                    refine AllReady.cons rfl (fun K hK => ?_) AllReady.nil
                    go_simp
                    try (refine hK _ _ ?_; clear hK K)
                    refine wpAny_ready (rs := [18]) (by kernel_rfl) (by simp) ?_
                    refine AllReady.cons rfl (fun K hK => ?_) AllReady.nil
                    go_simp
                    try (refine hK _ _ ?_; clear hK K)
                    refine wpAny_ready (rs := [19]) (by kernel_rfl) (by simp) ?_
                    refine AllReady.cons rfl (fun K hK => ?_) AllReady.nil
                    go_simp
                    try (refine hK _ _ ?_; clear hK K)
                    refine wpAny_ready (rs := [20]) (by kernel_rfl) (by simp) ?_
                    refine AllReady.cons rfl (fun K hK => ?_) AllReady.nil
                    go_simp
                    try (refine hK _ _ ?_; clear hK K)
                    refine wpAny_ready (rs := [21]) (by kernel_rfl) (by simp) ?_
                    refine AllReady.cons rfl (fun K hK => ?_) AllReady.nil
                    go_simp
                    try (refine hK _ _ ?_; clear hK K)
                    refine wpAny_done (by kernel_rfl) ?_ _
                    obtain ⟨r0, r1, r3⟩ := FINW.out _ HB8.out
                    have R0 := Lib.hid r0
                    have R1 := Lib.hid r1
                    have R3 := Lib.hid r3
                    clear r0 r1 r3 y0 y1 cvs cve
                    go_wp2_with fail
                    have r2 : ((W8.setCell ⟨N + 1 + 1 + 1, 0, none⟩ (.bool true)).putObj D (.deferred none)).cell? ⟨N + 1 + 1 + 1, 0, none⟩ = some (.bool true) := Boxed.cell (t := 4) ((World.putObj_heap_other (by omega)).trans R0.out)
                    refine ⟨by simp, .inl ⟨_, _, rfl, run_takeDeferred R3.out, ?_⟩⟩
                    refine ⟨.bool true, by simp [results, Try.f23, go_sem, r2], rfl, ?_⟩
                    exact R1.out.trans ((sameBut_put _ _ _).below (by have := HN.out; omega))
            · skip
              go_simp
              go_wp2_with ((go_at_call 26; refine (refSign_bs _).mono ?_; rintro e W8 ⟨v8, rfl, hbs, hb8⟩; have hb8' : Below wr.heap.size wr W8 := HB7.out.trans (hb8.mono HB7.out.size); have cvs := conv_str hbs; have cve := conv_str (B8.out.old hb8'); have HB8 := Lib.hid hb8'; clear hbs hb8 hb8'))
              try (refine hK _ _ ?_; clear hK K)
              refine wpAny_ready (rs := [13, 16]) (by kernel_rfl) (by simp) ?_
              refine (AllReady.cons rfl (fun K hK => ?_) (AllReady.cons rfl (fun K hK => ?_) AllReady.nil))
              · skip
                go_simp
                try (refine hK _ _ ?_; clear hK K)
                refine wpAny_ready (rs := [14, 16]) (by kernel_rfl) (by simp) ?_
                refine (AllReady.cons rfl (fun K hK => ?_) (AllReady.cons rfl (fun K hK => ?_) AllReady.nil))
                · skip
                  go_simp
                  try (refine hK _ _ ?_; clear hK K)
                  refine wpAny_ready (rs := [16]) (by kernel_rfl) (by simp) ?_
                  refine (AllReady.cons rfl (fun K hK => ?_) AllReady.nil)
                  · skip
                    go_simp
                    try (refine hK _ _ ?_; clear hK K)
                    obtain ⟨y0, y1⟩ := RB.out _ HB8.out
                    refine wpAny_ready (rs := [17]) (by kernel_rfl) (by simp) ?_
                    refine AllReady.cons rfl (fun K hK => ?_) AllReady.nil
                    go_simp
                    try (refine hK _ _ ?_; clear hK K)
                    refine wpAny_ready (rs := [18]) (by kernel_rfl) (by simp) ?_
                    refine AllReady.cons rfl (fun K hK => ?_) AllReady.nil
                    go_simp
                    try (refine hK _ _ ?_; clear hK K)
                    refine wpAny_ready (rs := [19]) (by kernel_rfl) (by simp) ?_
                    refine AllReady.cons rfl (fun K hK => ?_) AllReady.nil
                    go_simp
                    try (refine hK _ _ ?_; clear hK K)
                    refine wpAny_ready (rs := [20]) (by kernel_rfl) (by simp) ?_
                    refine AllReady.cons rfl (fun K hK => ?_) AllReady.nil
                    go_simp
                    try (refine hK _ _ ?_; clear hK K)
                    refine wpAny_ready (rs := [21]) (by kernel_rfl) (by simp) ?_
                    refine AllReady.cons rfl (fun K hK => ?_) AllReady.nil
                    go_simp
                    try (refine hK _ _ ?_; clear hK K)
                    refine wpAny_done (by kernel_rfl) ?_ _
                    obtain ⟨r0, r1, r3⟩ := FINW.out _ HB8.out
                    have R0 := Lib.hid r0
                    have R1 := Lib.hid r1
                    have R3 := Lib.hid r3
                    clear r0 r1 r3 y0 y1 cvs cve
                    go_wp2_with fail
                    have r2 : ((W8.setCell ⟨N + 1 + 1 + 1, 0, none⟩ (.bool true)).putObj D (.deferred none)).cell? ⟨N + 1 + 1 + 1, 0, none⟩ = some (.bool true) := Boxed.cell (t := 4) ((World.putObj_heap_other (by omega)).trans R0.out)
                    refine ⟨by simp, .inl ⟨_, _, rfl, run_takeDeferred R3.out, ?_⟩⟩
                    refine ⟨.bool true, by simp [results, Try.f23, go_sem, r2], rfl, ?_⟩
                    exact R1.out.trans ((sameBut_put _ _ _).below (by have := HN.out; omega))
                · skip
                  go_simp
                  try (refine hK _ _ ?_; clear hK K)
                  refine wpAny_ready (rs := [14]) (by kernel_rfl) (by simp) ?_
                  refine (AllReady.cons rfl (fun K hK => ?_) AllReady.nil)
                  · skip
                    go_simp
                    try (refine hK _ _ ?_; clear hK K)
                    obtain ⟨y0, y1⟩ := RB.out _ HB8.out
                    refine wpAny_ready (rs := [17]) (by kernel_rfl) (by simp) ?_
                    refine AllReady.cons rfl (fun K hK => ?_) AllReady.nil
                    go_simp
                    try (refine hK _ _ ?_; clear hK K)
                    refine wpAny_ready (rs := [18]) (by kernel_rfl) (by simp) ?_
                    refine AllReady.cons rfl (fun K hK => ?_) AllReady.nil
                    go_simp
                    try (refine hK _ _ ?_; clear hK K)
                    refine wpAny_ready (rs := [19]) (by kernel_rfl) (by simp) ?_
                    refine AllReady.cons rfl (fun K hK => ?_) AllReady.nil
                    go_simp
                    try (refine hK _ _ ?_; clear hK K)
                    refine wpAny_ready (rs := [20]) (by kernel_rfl) (by simp) ?_
                    refine AllReady.cons rfl (fun K hK => ?_) AllReady.nil
                    go_simp
                    try (refine hK _ _ ?_; clear hK K)
                    refine wpAny_ready (rs := [21]) (by kernel_rfl) (by simp) ?_
                    refine AllReady.cons rfl (fun K hK => ?_) AllReady.nil
                    go_simp
                    try (refine hK _ _ ?_; clear hK K)
                    refine wpAny_done (by kernel_rfl) ?_ _
                    obtain ⟨r0, r1, r3⟩ := FINW.out _ HB8.out
                    have R0 := Lib.hid r0
                    have R1 := Lib.hid r1
                    have R3 := Lib.hid r3
                    clear r0 r1 r3 y0 y1 cvs cve
                    go_wp2_with fail
                    have r2 : ((W8.setCell ⟨N + 1 + 1 + 1, 0, none⟩ (.bool true)).putObj D (.deferred none)).cell? ⟨N + 1 + 1 + 1, 0, none⟩ = some (.bool true) := Boxed.cell (t := 4) ((World.putObj_heap_other (by omega)).trans R0.out)
                    refine ⟨by simp, .inl ⟨_, _, rfl, run_takeDeferred R3.out, ?_⟩⟩
                    refine ⟨.bool true, by simp [results, Try.f23, go_sem, r2], rfl, ?_⟩
                    exact R1.out.trans ((sameBut_put _ _ _).below (by have := HN.out; omega))
              · skip
                go_simp
                try (refine hK _ _ ?_; clear hK K)
                refine wpAny_ready (rs := [13]) (by kernel_rfl) (by simp) ?_
                refine (AllReady.cons rfl (fun K hK => ?_) AllReady.nil)
                · skip
                  go_simp
                  try (refine hK _ _ ?_; clear hK K)
                  refine wpAny_ready (rs := [14]) (by kernel_rfl) (by simp) ?_
                  refine (AllReady.cons rfl (fun K hK => ?_) AllReady.nil)
                  · skip
                    go_simp
                    try (refine hK _ _ ?_; clear hK K)
                    obtain ⟨y0, y1⟩ := RB.out _ HB8.out
                    refine wpAny_ready (rs := [17]) (by kernel_rfl) (by simp) ?_
                    refine AllReady.cons rfl (fun K hK => ?_) AllReady.nil
                    go_simp
                    try (refine hK _ _ ?_; clear hK K)
                    refine wpAny_ready (rs := [18]) (by kernel_rfl) (by simp) ?_
                    refine AllReady.cons rfl (fun K hK => ?_) AllReady.nil
                    go_simp
                    try (refine hK _ _ ?_; clear hK K)
                    refine wpAny_ready (rs := [19]) (by kernel_rfl) (by simp) ?_
                    refine AllReady.cons rfl (fun K hK => ?_) AllReady.nil
                    go_simp
                    try (refine hK _ _ ?_; clear hK K)
                    refine wpAny_ready (rs := [20]) (by kernel_rfl) (by simp) ?_
                    refine AllReady.cons rfl (fun K hK => ?_) AllReady.nil
                    go_simp
                    try (refine hK _ _ ?_; clear hK K)
                    refine wpAny_ready (rs := [21]) (by kernel_rfl) (by simp) ?_
                    refine AllReady.cons rfl (fun K hK => ?_) AllReady.nil
                    go_simp
                    try (refine hK _ _ ?_; clear hK K)
                    refine wpAny_done (by kernel_rfl) ?_ _
                    obtain ⟨r0, r1, r3⟩ := FINW.out _ HB8.out
                    have R0 := Lib.hid r0
                    have R1 := Lib.hid r1
                    have R3 := Lib.hid r3
                    clear r0 r1 r3 y0 y1 cvs cve
                    go_wp2_with fail
                    have r2 : ((W8.setCell ⟨N + 1 + 1 + 1, 0, none⟩ (.bool true)).putObj D (.deferred none)).cell? ⟨N + 1 + 1 + 1, 0, none⟩ = some (.bool true) := Boxed.cell (t := 4) ((World.putObj_heap_other (by omega)).trans R0.out)
                    refine ⟨by simp, .inl ⟨_, _, rfl, run_takeDeferred R3.out, ?_⟩⟩
                    refine ⟨.bool true, by simp [results, Try.f23, go_sem, r2], rfl, ?_⟩
                    exact R1.out.trans ((sameBut_put _ _ _).below (by have := HN.out; omega))
          · skip
            go_simp
            go_wp2_with ((go_at_call 26; refine (refSign_bs _).mono ?_; rintro e W8 ⟨v8, rfl, hbs, hb8⟩; have hb8' : Below wr.heap.size wr W8 := HB7.out.trans (hb8.mono HB7.out.size); have cvs := conv_str hbs; have cve := conv_str (B8.out.old hb8'); have HB8 := Lib.hid hb8'; clear hbs hb8 hb8'))
            try (refine hK _ _ ?_; clear hK K)
            refine wpAny_ready (rs := [12, 16]) (by kernel_rfl) (by simp) ?_
            refine (AllReady.cons rfl (fun K hK => ?_) (AllReady.cons rfl (fun K hK => ?_) AllReady.nil))
            · skip
              go_simp
              try (refine hK _ _ ?_; clear hK K)
              refine wpAny_ready (rs := [13, 16]) (by kernel_rfl) (by simp) ?_
              refine (AllReady.cons rfl (fun K hK => ?_) (AllReady.cons rfl (fun K hK => ?_) AllReady.nil))
              · skip
                go_simp
                try (refine hK _ _ ?_; clear hK K)
                refine wpAny_ready (rs := [14, 16]) (by kernel_rfl) (by simp) ?_
                refine (AllReady.cons rfl (fun K hK => ?_) (AllReady.cons rfl (fun K hK => ?_) AllReady.nil))
                · skip
                  go_simp
                  try (refine hK _ _ ?_; clear hK K)
                  refine wpAny_ready (rs := [16]) (by kernel_rfl) (by simp) ?_
                  refine (AllReady.cons rfl (fun K hK => ?_) AllReady.nil)
                  · skip
                    go_simp
                    try (refine hK _ _ ?_; clear hK K)
                    obtain ⟨y0, y1⟩ := RB.out _ HB8.out
                    refine wpAny_ready (rs := [17]) (by kernel_rfl) (by simp) ?_
                    refine AllReady.cons rfl (fun K hK => ?_) AllReady.nil
                    go_simp
                    try (refine hK _ _ ?_; clear hK K)
                    refine wpAny_ready (rs := [18]) (by kernel_rfl) (by simp) ?_
                    refine AllReady.cons rfl (fun K hK => ?_) AllReady.nil
                    go_simp
                    try (refine hK _ _ ?_; clear hK K)
                    refine wpAny_ready (rs := [19]) (by kernel_rfl) (by simp) ?_
                    refine AllReady.cons rfl (fun K hK => ?_) AllReady.nil
                    go_simp
                    try (refine hK _ _ ?_; clear hK K)
                    refine wpAny_ready (rs := [20]) (by kernel_rfl) (by simp) ?_
                    refine AllReady.cons rfl (fun K hK => ?_) AllReady.nil
                    go_simp
                    try (refine hK _ _ ?_; clear hK K)
                    refine wpAny_ready (rs := [21]) (by kernel_rfl) (by simp) ?_
                    refine AllReady.cons rfl (fun K hK => ?_) AllReady.nil
                    go_simp
                    try (refine hK _ _ ?_; clear hK K)
                    refine wpAny_done (by kernel_rfl) ?_ _
                    obtain ⟨r0, r1, r3⟩ := FINW.out _ HB8.out
                    have R0 := Lib.hid r0
                    have R1 := Lib.hid r1
                    have R3 := Lib.hid r3
                    clear r0 r1 r3 y0 y1 cvs cve
                    go_wp2_with fail
                    have r2 : ((W8.setCell ⟨N + 1 + 1 + 1, 0, none⟩ (.bool true)).putObj D (.deferred none)).cell? ⟨N + 1 + 1 + 1, 0, none⟩ = some (.bool true) := Boxed.cell (t := 4) ((World.putObj_heap_other (by omega)).trans R0.out)
                    refine ⟨by simp, .inl ⟨_, _, rfl, run_takeDeferred R3.out, ?_⟩⟩
                    refine ⟨.bool true, by simp [results, Try.f23, go_sem, r2], rfl, ?_⟩
                    exact R1.out.trans ((sameBut_put _ _ _).below (by have := HN.out; omega))
                · skip
                  go_simp
                  try (refine hK _ _ ?_; clear hK K)
                  refine wpAny_ready (rs := [14]) (by kernel_rfl) (by simp) ?_
                  refine (AllReady.cons rfl (fun K hK => ?_) AllReady.nil)
                  · skip
                    go_simp
                    try (refine hK _ _ ?_; clear hK K)
                    obtain ⟨y0, y1⟩ := RB.out _ HB8.out
                    refine wpAny_ready (rs := [17]) (by kernel_rfl) (by simp) ?_
                    refine AllReady.cons rfl (fun K hK => ?_) AllReady.nil
                    go_simp
                    try (refine hK _ _ ?_; clear hK K)
                    refine wpAny_ready (rs := [18]) (by kernel_rfl) (by simp) ?_
                    refine AllReady.cons rfl (fun K hK => ?_) AllReady.nil
                    go_simp
                    try (refine hK _ _ ?_; clear hK K)
                    refine wpAny_ready (rs := [19]) (by kernel_rfl) (by simp) ?_
                    refine AllReady.cons rfl (fun K hK => ?_) AllReady.nil
                    go_simp
                    try (refine hK _ _ ?_; clear hK K)
                    refine wpAny_ready (rs := [20]) (by kernel_rfl) (by simp) ?_
                    refine AllReady.cons rfl (fun K hK => ?_) AllReady.nil
                    go_simp
                    try (refine hK _ _ ?_; clear hK K)
                    refine wpAny_ready (rs := [21]) (by kernel_rfl) (by simp) ?_
                    refine AllReady.cons rfl (fun K hK => ?_) AllReady.nil
                    go_simp
                    try (refine hK _ _ ?_; clear hK K)
                    refine wpAny_done (by kernel_rfl) ?_ _
                    obtain ⟨r0, r1, r3⟩ := FINW.out _ HB8.out
                    have R0 := Lib.hid r0
                    have R1 := Lib.hid r1
                    have R3 := Lib.hid r3
                    clear r0 r1 r3 y0 y1 cvs cve
                    go_wp2_with fail
                    have r2 : ((W8.setCell ⟨N + 1 + 1 + 1, 0, none⟩ (.bool true)).putObj D (.deferred none)).cell? ⟨N + 1 + 1 + 1, 0, none⟩ = some (.bool true) := Boxed.cell (t := 4) ((World.putObj_heap_other (by omega)).trans R0.out)
                    refine ⟨by simp, .inl ⟨_, _, rfl, run_takeDeferred R3.out, ?_⟩⟩
                    refine ⟨.bool true, by simp [results, Try.f23, go_sem, r2], rfl, ?_⟩
                    exact R1.out.trans ((sameBut_put _ _ _).below (by have := HN.out; omega))
              · skip
                go_simp
                try (refine hK _ _ ?_; clear hK K)
                refine wpAny_ready (rs := [13]) (by kernel_rfl) (by simp) ?_
                refine (AllReady.cons rfl (fun K hK => ?_) AllReady.nil)
                · skip
                  go_simp
                  try (refine hK _ _ ?_; clear hK K)
                  refine wpAny_ready (rs := [14]) (by kernel_rfl) (by simp) ?_
                  refine (AllReady.cons rfl (fun K hK => ?_) AllReady.nil)
                  · skip
                    go_simp
                    try (refine hK _ _ ?_; clear hK K)
                    obtain ⟨y0, y1⟩ := RB.out _ HB8.out
                    refine wpAny_ready (rs := [17]) (by kernel_rfl) (by simp) ?_
                    refine AllReady.cons rfl (fun K hK => ?_) AllReady.nil
                    go_simp
                    try (refine hK _ _ ?_; clear hK K)
                    refine wpAny_ready (rs := [18]) (by kernel_rfl) (by simp) ?_
                    refine AllReady.cons rfl (fun K hK => ?_) AllReady.nil
                    go_simp
                    try (refine hK _ _ ?_; clear hK K)
                    refine wpAny_ready (rs := [19]) (by kernel_rfl) (by simp) ?_
                    refine AllReady.cons rfl (fun K hK => ?_) AllReady.nil
                    go_simp
                    try (refine hK _ _ ?_; clear hK K)
                    refine wpAny_ready (rs := [20]) (by kernel_rfl) (by simp) ?_
                    refine AllReady.cons rfl (fun K hK => ?_) AllReady.nil
                    go_simp
                    try (refine hK _ _ ?_; clear hK K)
                    refine wpAny_ready (rs := [21]) (by kernel_rfl) (by simp) ?_
                    refine AllReady.cons rfl (fun K hK => ?_) AllReady.nil
                    go_simp
                    try (refine hK _ _ ?_; clear hK K)
                    refine wpAny_done (by kernel_rfl) ?_ _
                    obtain ⟨r0, r1, r3⟩ := FINW.out _ HB8.out
                    have R0 := Lib.hid r0
                    have R1 := Lib.hid r1
                    have R3 := Lib.hid r3
                    clear r0 r1 r3 y0 y1 cvs cve
                    go_wp2_with fail
                    have r2 : ((W8.setCell ⟨N + 1 + 1 + 1, 0, none⟩ (.bool true)).putObj D (.deferred none)).cell? ⟨N + 1 + 1 + 1, 0, none⟩ = some (.bool true) := Boxed.cell (t := 4) ((World.putObj_heap_other (by omega)).trans R0.out)
                    refine ⟨by simp, .inl ⟨_, _, rfl, run_takeDeferred R3.out, ?_⟩⟩
                    refine ⟨.bool true, by simp [results, Try.f23, go_sem, r2], rfl, ?_⟩
                    exact R1.out.trans ((sameBut_put _ _ _).below (by have := HN.out; omega))
            · skip
              go_simp
              try (refine hK _ _ ?_; clear hK K)
              refine wpAny_ready (rs := [12]) (by kernel_rfl) (by simp) ?_
              refine (AllReady.cons rfl (fun K hK => ?_) AllReady.nil)
              · skip
                go_simp
                try (refine hK _ _ ?_; clear hK K)
                refine wpAny_ready (rs := [13]) (by kernel_rfl) (by simp) ?_
                refine (AllReady.cons rfl (fun K hK => ?_) AllReady.nil)
                · skip
                  go_simp
                  try (refine hK _ _ ?_; clear hK K)
                  refine wpAny_ready (rs := [14]) (by kernel_rfl) (by simp) ?_
                  refine (AllReady.cons rfl (fun K hK => ?_) AllReady.nil)
                  · skip
                    go_simp
                    try (refine hK _ _ ?_; clear hK K)
                    obtain ⟨y0, y1⟩ := RB.out _ HB8.out
                    refine wpAny_ready (rs := [17]) (by kernel_rfl) (by simp) ?_
                    refine AllReady.cons rfl (fun K hK => ?_) AllReady.nil
                    go_simp
                    try (refine hK _ _ ?_; clear hK K)
                    refine wpAny_ready (rs := [18]) (by kernel_rfl) (by simp) ?_
                    refine AllReady.cons rfl (fun K hK => ?_) AllReady.nil
                    go_simp
                    try (refine hK _ _ ?_; clear hK K)
                    refine wpAny_ready (rs := [19]) (by kernel_rfl) (by simp) ?_
                    refine AllReady.cons rfl (fun K hK => ?_) AllReady.nil
                    go_simp
                    try (refine hK _ _ ?_; clear hK K)
                    refine wpAny_ready (rs := [20]) (by kernel_rfl) (by simp) ?_
                    refine AllReady.cons rfl (fun K hK => ?_) AllReady.nil
                    go_simp
                    try (refine hK _ _ ?_; clear hK K)
                    refine wpAny_ready (rs := [21]) (by kernel_rfl) (by simp) ?_
                    refine AllReady.cons rfl (fun K hK => ?_) AllReady.nil
                    go_simp
                    try (refine hK _ _ ?_; clear hK K)
                    refine wpAny_done (by kernel_rfl) ?_ _
                    obtain ⟨r0, r1, r3⟩ := FINW.out _ HB8.out
                    have R0 := Lib.hid r0
                    have R1 := Lib.hid r1
                    have R3 := Lib.hid r3
                    clear r0 r1 r3 y0 y1 cvs cve
                    go_wp2_with fail
                    have r2 : ((W8.setCell ⟨N + 1 + 1 + 1, 0, none⟩ (.bool true)).putObj D (.deferred none)).cell? ⟨N + 1 + 1 + 1, 0, none⟩ = some (.bool true) := Boxed.cell (t := 4) ((World.putObj_heap_other (by omega)).trans R0.out)
                    refine ⟨by simp, .inl ⟨_, _, rfl, run_takeDeferred R3.out, ?_⟩⟩
                    refine ⟨.bool true, by simp [results, Try.f23, go_sem, r2], rfl, ?_⟩
                    exact R1.out.trans ((sameBut_put _ _ _).below (by have := HN.out; omega))
end Go.Proofs.Ytmdbnnnaiidheaa
