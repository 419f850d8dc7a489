import Derived.Test.YtmeljnohkhkfmaaOpen5
set_option linter.unusedVariables false
set_option linter.unusedSimpArgs false
namespace Go.Proofs.Ytmeljnohkhkfmaa
open Go.RowKit Go.WideShapes
variable {H : Type} {enc : TypeId × Value → H} {W : World} {base b0 : Nat} {spare : Nat → Bool} {held : Bool} {r : Reach}

/-- A slice of sizes that came in. -/
structure Pcs (w : World) (A : Option Addr) (c : Nat) (ns : List Nat) : Prop where
  le : ns.length ≤ c
  max : c ≤ 9223372036854775807
  at_ : ∀ (i : Nat) (hi : i < ns.length), ∃ b o, A = some ⟨b, o, none⟩ ∧ w.cell? ⟨b, o + i, none⟩ = some (.int .u16 ns[i]) ∧ ns[i] ≤ 65535
theorem Pcs.cell {w : World} {A : Option Addr} {c : Nat} {ns : List Nat} (h : Pcs w A c ns) {F : List Nat} {w' : World} (t : Tch F w w') (hF : ∀ b o, A = some ⟨b, o, none⟩ → b ∉ F) : Pcs w' A c ns :=
  ⟨h.le, h.max, fun i hi => by
    obtain ⟨b, o, h1, h2, h3⟩ := h.at_ i hi
    exact ⟨b, o, h1, t.cell h2 (hF b o h1), h3⟩⟩
theorem cells_u16 : Try.prog.cellsOf 37 = 1 := by kernel_rfl
theorem open_pcs {fuel : Nat} {cs : List Value} {x : DataW H × List MemPlace} (h : DataW.trod enc Try.prog W base spare held fuel 47 cs = some x) : ∃ A c ns, cs = [.slice A (ns : List Nat).length c] ∧ Pcs W A c ns := by
  rcases Deep.open_slice1 Try.underlying47 cells_u16 h with ⟨rfl, _⟩ | ⟨a, len, cap, m, n, V, D, Pl, rfl, _, hl, hm, hmm, rfl, hx⟩
  · exact ⟨none, 0, [], rfl, ⟨by simp, by decide, fun i hi => by simp at hi⟩⟩
  · have hlm : len ≤ m := by subst hmm; split <;> omega
    have hb : ∀ i, i < len → ∃ f : Nat, ∃ b o, a = ⟨b, o, none⟩ ∧ W.cell? ⟨b, o + i, none⟩ = some (.int .u16 f) ∧ f ≤ 65535 := fun i hi => by
      obtain ⟨h1, h2⟩ := hx i (by omega)
      obtain ⟨z, e0, _, wz⟩ := DataW.trod_int Try.underlying37 h2
      simp only [List.cons.injEq, and_true] at e0
      obtain ⟨g0, g1⟩ := wf_u16 wz
      obtain ⟨f, rfl⟩ := Int.eq_ofNat_of_zero_le g0
      obtain ⟨h0, _⟩ := hx 0 (by omega)
      have c0 := no_spot h0
      rw [show a.add 0 = a from rfl] at c0
      obtain ⟨b, o, sp⟩ := a
      cases c0
      rw [plain_add, e0] at h1
      exact ⟨f, b, o, rfl, h1, by omega⟩
    obtain ⟨g, hg⟩ := Deep.choose_lt hb
    have hlen : ((List.range len).map g).length = len := by simp
    refine ⟨some a, cap, (List.range len).map g, by rw [hlen], ⟨by rw [hlen]; exact hl, by simpa only [maxLen] using hm, fun i hi => ?_⟩⟩
    rw [hlen] at hi
    obtain ⟨b, o, e, k1, k2⟩ := hg i hi
    exact ⟨b, o, by rw [e], by simpa using k1, by simpa using k2⟩
end Go.Proofs.Ytmeljnohkhkfmaa
