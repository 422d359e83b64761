/- Bytes and slices of structs that came in, opened (a spare place counts, too). By an AI agent. -/
import Derived.Test.YtnhalnjdlkdnkaaProg
import Derived.Test.YtnhalnjdlkdnkaaLib
import Derived.WideShapes
import Derived.ChangeArms
import Derived.OpenShut
import Derived.SizedLaws
import Derived.Deep.SlicePairs
namespace Go.Proofs.Ytnhalnjdlkdnkaa
open Go.ChangeShapes Go.WideShapes Go.RowKit
set_option linter.unusedVariables false
set_option linter.unusedSimpArgs false

variable {H : Type} {enc : TypeId × Value → H} {w : World} {base : Nat} {spare : Nat → Bool} {held : Bool}
theorem weightsAll_mem {P : Program} {e : TypeId} : ∀ {l : List (DataW H)} {d : DataW H}, d ∈ l → ∀ n ∈ d.weights P e, n ∈ DataW.weightsAll P e l
  | x :: r, d, h, n, hn => by
    rw [DataW.weightsAll, List.mem_append]
    rcases List.mem_cons.1 h with rfl | h
    · exact .inl hn
    · exact .inr (weightsAll_mem h n hn)
/-- bytes that are read: they are few enough -/
theorem bs_of_trod {n : Nat} {v : Value} {y : DataW H × List MemPlace} (h : DataW.trod enc Try.prog w base spare held n 71 [v] = some y) (hb : ∀ k ∈ DataW.weights Try.prog 71 y.1, k ≤ reachBytes) :
    ∃ l : List UInt8, Bs w v l ∧ l.length ≤ 140737488351232 := by
  have hti : Try.prog.underlying 5 = some (.int .u8) := Try.underlying5
  have ht : Try.prog.underlying 71 = some (.slice 5) := Try.underlying71
  rcases open_ints ht hti (by kernel_rfl) h with ⟨hcs, _⟩ | ⟨x, len, c, zs, hcs, _, hl, hm, hz, hd, hcell, hwz⟩
  · simp only [List.cons.injEq, and_true] at hcs
    subst hcs
    exact ⟨[], Bs.nil _ _ _, by simp⟩
  · simp only [List.cons.injEq, and_true] at hcs
    subst hcs
    have hlz : len ≤ zs.length := by rw [hz]; split <;> omega
    have hb1 : Try.prog.bytesOf 5 = 1 := by kernel_rfl
    have h1 := hb (((zs.take len).length + (zs.drop len).length) * 1) (by rw [hd]; simp [DataW.weights, ht, hb1, lits])
    rw [List.length_take, List.length_drop] at h1
    unfold reachBytes at h1
    by_cases h0 : len = 0
    · subst h0
      exact ⟨[], Bs.nil _ _ _, by simp⟩
    · have hlen : (bytesOf zs len).length = len := by simp [bytesOf]; omega
      refine ⟨bytesOf zs len, ⟨by simp [vBs], ?_⟩, by omega⟩
      rw [hlen]
      obtain ⟨b, off, sp⟩ := x
      have hc0 := hcell 0 (by omega)
      have hsp : sp = none := by simpa [Addr.add] using World.cell?_spot hc0
      subst hsp
      refine .inr ⟨b, off, c, rfl, hl, by omega, fun i u hu => ?_⟩
      have hi : i < len := by have := (List.getElem?_eq_some_iff.1 hu).1; simp [vBs, hlen] at this; exact this
      have hc := hcell i (by omega)
      rw [add_at] at hc
      rw [hc]
      have hg : zs.getD i 0 = zs[i]'(by omega) := by simp [List.getD_eq_getElem?_getD, List.getElem?_eq_getElem (show i < zs.length by omega)]
      rw [hg]
      have hw := hwz (zs[i]'(by omega)) (List.getElem_mem _)
      have hbd : 0 ≤ zs[i]'(by omega) ∧ zs[i]'(by omega) ≤ 255 := by simpa [Lit.wf, IntKind.min, IntKind.max, IntKind.signed, IntKind.bits] using hw
      have hu2 : u = vB (UInt8.ofNat (zs[i]'(by omega)).toNat) := by
        simp only [vBs, bytesOf, List.map_map, List.getElem?_map, List.getElem?_take, hi, if_true, List.getElem?_eq_getElem (show i < zs.length by omega), Option.map_some, Option.some.injEq] at hu
        exact hu.symm
      rw [hu2]
      simp only [vB, Option.some.injEq]
      refine vi ?_
      rw [UInt8.toNat_ofNat']
      omega
end Go.Proofs.Ytnhalnjdlkdnkaa
