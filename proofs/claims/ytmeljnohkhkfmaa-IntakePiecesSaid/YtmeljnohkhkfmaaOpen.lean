import Derived.Test.YtmeljnohkhkfmaaOwn
import Derived.Deep.Slices
import Derived.ProofKit
import Derived.OpenShut
set_option linter.unusedVariables false
set_option linter.unusedSimpArgs false
namespace Go.Proofs.Ytmeljnohkhkfmaa
open Go.RowKit
variable {H : Type} {enc : TypeId × Value → H} {W : World} {base : Nat} {spare : Nat → Bool} {held : Bool}

theorem byte_of (z : Int) (h : (Lit.int .u8 z).wf = true) : z = ((UInt8.ofNat z.toNat).toNat : Int) := by
  have := bounds_u8 h
  simp
  omega

theorem cells_u8 : Try.prog.cellsOf 5 = 1 := by kernel_rfl

/-- A slice of bytes that came in. -/
theorem open_bytes {fuel : Nat} {cs : List Value} {x : DataW H × List MemPlace} (h : DataW.trod enc Try.prog W base spare held fuel 24 cs = some x) : ∃ A c l, cs = [.slice A (l : List UInt8).length c] ∧ Rd W A c l := by
  rcases Deep.open_slice1 Try.underlying24 cells_u8 h with ⟨rfl, _⟩ | ⟨a, len, cap, m, n, V, D, Pl, rfl, _, hl, hm, hmm, _, hx⟩
  · exact ⟨none, 0, [], rfl, Rd.zero (by decide) (fun _ => rfl)⟩
  · have hlm : len ≤ m := by subst hmm; split <;> omega
    have hb : ∀ i, i < len → ∃ b : UInt8, W.cell? (a.add i) = some (u8 b) := fun i hi => by
      obtain ⟨h1, h2⟩ := hx i (by omega)
      obtain ⟨z, e1, _, wz⟩ := DataW.trod_int Try.underlying5 h2
      simp only [List.cons.injEq, and_true] at e1
      refine ⟨UInt8.ofNat z.toNat, ?_⟩
      rw [h1, e1, u8, ← byte_of z wz]
    obtain ⟨f, hf⟩ := Deep.choose_lt hb
    have hlen : ((List.range len).map f).length = len := by simp
    refine ⟨some a, cap, (List.range len).map f, by rw [hlen], by simp [u8s], by rw [hlen]; exact hl, by simpa only [maxLen] using hm, (fun hh => by cases hh), u8s_one _, fun ad ha j u hj => ?_⟩
    cases ha
    obtain ⟨hj', rfl⟩ := u8s_get _ j u hj
    rw [hlen] at hj'
    rw [hf j hj']
    simp
end Go.Proofs.Ytmeljnohkhkfmaa
