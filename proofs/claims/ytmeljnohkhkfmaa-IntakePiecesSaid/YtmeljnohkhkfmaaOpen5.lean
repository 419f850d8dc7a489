import Derived.Test.YtmeljnohkhkfmaaOpen
import Derived.Test.YtmeljnohkhkfmaaRws
import Derived.SizedLaws
set_option linter.unusedVariables false
set_option linter.unusedSimpArgs false
namespace Go.Proofs.Ytmeljnohkhkfmaa
open Go.RowKit Go.WideShapes
variable {H : Type} {enc : TypeId × Value → H} {W : World} {base b0 : Nat} {spare : Nat → Bool} {held : Bool} {r : Reach}

instance : Inhabited PieceAt := ⟨⟨none, 0, []⟩⟩
theorem no_spot {w : World} {ad : Addr} {v : Value} (hc : w.cell? ad = some v) : ad.spot = none := by
  cases hs : ad.spot with
  | none => rfl
  | some s =>
    exfalso
    unfold World.cell? at hc
    simp only [hs] at hc
    split at hc <;> simp at hc
theorem cells_bs : Try.prog.cellsOf 24 = 1 := by kernel_rfl
theorem bytes_u8 : Try.prog.bytesOf 5 = 1 := by kernel_rfl
theorem weightsAll_mem {P : Program} {e : TypeId} : ∀ {l : List (DataW H)} {d : DataW H}, d ∈ l → ∀ n ∈ d.weights P e, n ∈ DataW.weightsAll P e l
  | d' :: r, d, hd, n, hn => by
    simp only [DataW.weightsAll, List.mem_append]
    rcases List.mem_cons.1 hd with rfl | h
    · exact Or.inl hn
    · exact Or.inr (weightsAll_mem h n hn)
/-- A slice of bytes, and how much it weighs. -/
theorem open_bytes_w {fuel : Nat} {cs : List Value} {x : DataW H × List MemPlace} (h : DataW.trod enc Try.prog W base spare held fuel 24 cs = some x) : ∃ A c l, cs = [.slice A (l : List UInt8).length c] ∧ Rd W A c l ∧ (l.length = 0 ∨ ∃ k ∈ x.1.weights Try.prog 24, l.length ≤ k) := by
  obtain ⟨A, c, l, e, hr⟩ := open_bytes h
  refine ⟨A, c, l, e, hr, ?_⟩
  rcases Deep.open_slice1 Try.underlying24 cells_u8 h with ⟨rfl, _⟩ | ⟨a, len, cap, m, n, V, D, Pl, rfl, _, hl, hm, hmm, rfl, hx⟩
  · left
    simp at e
    omega
  · right
    simp at e
    refine ⟨_, by simp [DataW.weights, Try.underlying24]; exact .inl rfl, ?_⟩
    rw [bytes_u8]
    simp
    omega
/-- A slice of rows of bytes that came in. -/
theorem open_rows {fuel : Nat} {cs : List Value} {x : DataW H × List MemPlace} (h : DataW.trod enc Try.prog W base spare held fuel 23 cs = some x) (hz : ∀ n ∈ x.1.weights Try.prog 23, decide (n ≤ reachBytes) = true) : ∃ A c ps, cs = [.slice A (ps : List PieceAt).length c] ∧ Rws W A c ps := by
  rcases Deep.open_slice1 Try.underlying23 cells_bs h with ⟨rfl, _⟩ | ⟨a, len, cap, m, n, V, D, Pl, rfl, _, hl, hm, hmm, rfl, hx⟩
  · exact ⟨none, 0, [], rfl, ⟨by simp, by decide, fun i hi => by simp at hi, by simp⟩⟩
  · have hlm : len ≤ m := by subst hmm; split <;> omega
    have hb : ∀ i, i < len → ∃ f : PieceAt, (∃ b o, a = ⟨b, o, none⟩ ∧ W.cell? ⟨b, o + i, none⟩ = some (.slice f.A f.l.length f.c) ∧ Rd W f.A f.c f.l) ∧ f.l.length ≤ 140737488351232 := fun i hi => by
      obtain ⟨h1, h2⟩ := hx i (by omega)
      obtain ⟨A, c, l, e1, hr, hw⟩ := open_bytes_w h2
      simp only [List.cons.injEq, and_true] at e1
      obtain ⟨h0, _⟩ := hx 0 (by omega)
      have c0 := no_spot h0
      rw [show a.add 0 = a from rfl] at c0
      obtain ⟨b, o, sp⟩ := a
      cases c0
      rw [plain_add, e1] at h1
      refine ⟨⟨A, c, l⟩, ⟨b, o, rfl, h1, hr⟩, ?_⟩
      rcases hw with hw | ⟨k, hk, hlk⟩
      · simp only; omega
      · have hk2 := of_decide_eq_true (hz k (by
          simp only [DataW.weights, Try.underlying23, List.mem_cons, List.mem_append]
          exact .inr (.inl (weightsAll_mem (List.mem_map.2 ⟨i, by simpa using hi, rfl⟩) k hk))))
        have : reachBytes = 140737488351232 := rfl
        simp only
        omega
    obtain ⟨g, hg⟩ := Deep.choose_lt hb
    have hlen : ((List.range len).map g).length = len := by simp
    refine ⟨some a, cap, (List.range len).map g, by rw [hlen], ⟨by rw [hlen]; exact hl, by simpa only [maxLen] using hm, fun i hi => ?_, fun p hp => ?_⟩⟩
    · rw [hlen] at hi
      obtain ⟨b, o, e, k1, k2⟩ := (hg i hi).1
      exact ⟨b, o, by rw [e], by simpa using k1, by simpa using k2⟩
    · obtain ⟨i, hi, rfl⟩ := List.mem_map.1 hp
      exact (hg i (by simpa using hi)).2
end Go.Proofs.Ytmeljnohkhkfmaa
