import Derived.Test.YtkihafkiinhbkaaOpen
import Derived.Test.YtkihafkiinhbkaaORow
set_option linter.unusedVariables false
set_option linter.unusedSimpArgs false
namespace Go.Proofs.Ytkihafkiinhbkaa
open Go.RowKit Go.WideShapes
variable {H : Type} {enc : TypeId × Value → H} {W : World} {base b0 : Nat} {spare : Nat → Bool} {held : Bool} {r : Reach}

instance : Inhabited PieceAt := ⟨⟨none, 0, []⟩⟩
theorem no_spot {w : World} {ad : Addr} {v : Value} (hc : w.cell? ad = some v) : ad.spot = none := by
  cases hs : ad.spot with
  | none => rfl
  | some s =>
    exfalso
    unfold World.cell? at hc
    simp only [hs] at hc
    split at hc <;> simp at hc
theorem cells_bs : Try.prog.cellsOf 23 = 1 := by kernel_rfl
theorem cells_bool : Try.prog.cellsOf 4 = 1 := by kernel_rfl

/-- A slice of rows of bytes that came in. -/
theorem open_rows {fuel : Nat} {cs : List Value} {x : DataW H × List MemPlace} (h : DataW.trod enc Try.prog W base spare held fuel 31 cs = some x) : ∃ A c ps, cs = [.slice A (ps : List PieceAt).length c] ∧ Rws W A c ps := by
  rcases Deep.open_slice1 Try.underlying31 cells_bs h with ⟨rfl, _⟩ | ⟨a, len, cap, m, n, V, D, Pl, rfl, _, hl, hm, hmm, _, hx⟩
  · exact ⟨none, 0, [], rfl, ⟨by simp, by decide, fun i hi => by simp at hi⟩⟩
  · have hlm : len ≤ m := by subst hmm; split <;> omega
    have hb : ∀ i, i < len → ∃ f : PieceAt, ∃ b o, a = ⟨b, o, none⟩ ∧ W.cell? ⟨b, o + i, none⟩ = some (.slice f.A f.l.length f.c) ∧ Rd W f.A f.c f.l := fun i hi => by
      obtain ⟨h1, h2⟩ := hx i (by omega)
      obtain ⟨A, c, l, e1, hr⟩ := open_bytes h2
      simp only [List.cons.injEq, and_true] at e1
      obtain ⟨h0, _⟩ := hx 0 (by omega)
      have c0 := no_spot h0
      rw [show a.add 0 = a from rfl] at c0
      obtain ⟨b, o, sp⟩ := a
      cases c0
      rw [plain_add, e1] at h1
      exact ⟨⟨A, c, l⟩, b, o, rfl, h1, hr⟩
    obtain ⟨g, hg⟩ := Deep.choose_lt hb
    have hlen : ((List.range len).map g).length = len := by simp
    refine ⟨some a, cap, (List.range len).map g, by rw [hlen], ⟨by rw [hlen]; exact hl, by simpa only [maxLen] using hm, fun i hi => ?_⟩⟩
    rw [hlen] at hi
    obtain ⟨b, o, e, k1, k2⟩ := hg i hi
    exact ⟨b, o, by rw [e], by simpa using k1, by simpa using k2⟩

/-- A slice of bools that came in. -/
theorem open_bools {fuel : Nat} {cs : List Value} {x : DataW H × List MemPlace} (h : DataW.trod enc Try.prog W base spare held fuel 59 cs = some x) : ∃ A c bs, cs = [.slice A (bs : List Bool).length c] ∧ Bls W A c bs := by
  rcases Deep.open_slice1 Try.underlying59 cells_bool h with ⟨rfl, _⟩ | ⟨a, len, cap, m, n, V, D, Pl, rfl, _, hl, hm, hmm, _, hx⟩
  · exact ⟨none, 0, [], rfl, ⟨by simp, by decide, fun i hi => by simp at hi⟩⟩
  · have hlm : len ≤ m := by subst hmm; split <;> omega
    have hb : ∀ i, i < len → ∃ f : Bool, ∃ b o, a = ⟨b, o, none⟩ ∧ W.cell? ⟨b, o + i, none⟩ = some (.bool f) := fun i hi => by
      obtain ⟨h1, h2⟩ := hx i (by omega)
      obtain ⟨f, e1, _⟩ := DataW.trod_bool Try.underlying4 h2
      simp only [List.cons.injEq, and_true] at e1
      obtain ⟨h0, _⟩ := hx 0 (by omega)
      have c0 := no_spot h0
      rw [show a.add 0 = a from rfl] at c0
      obtain ⟨b, o, sp⟩ := a
      cases c0
      rw [plain_add, e1] at h1
      exact ⟨f, b, o, rfl, h1⟩
    obtain ⟨g, hg⟩ := Deep.choose_lt hb
    have hlen : ((List.range len).map g).length = len := by simp
    refine ⟨some a, cap, (List.range len).map g, by rw [hlen], ⟨by rw [hlen]; exact hl, by simpa only [maxLen] using hm, fun i hi => ?_⟩⟩
    rw [hlen] at hi
    obtain ⟨b, o, e, k1⟩ := hg i hi
    exact ⟨b, o, by rw [e], by simpa using k1⟩
end Go.Proofs.Ytkihafkiinhbkaa
