import Derived.Test.YtgmoodcojpbbdaaOpenN
set_option linter.unusedVariables false
set_option linter.unusedSimpArgs false
namespace Go.Proofs.Ytgmoodcojpbbdaa
open Go.RowKit Go.WideShapes Go.Joins
variable {H : Type} {enc : TypeId × Value → H} {W : World} {base b0 : Nat} {spare : Nat → Bool} {held : Bool} {r : Reach}

instance : Inhabited OpD := ⟨⟨0, [], oz, none, 0, 0, []⟩⟩
theorem opc_one (d : OpD) : ∀ u ∈ opc d, u.oneCell' = true := by
  intro u hu
  simp only [opc, List.mem_cons, List.not_mem_nil, or_false] at hu
  rcases hu with rfl | rfl | rfl | rfl | rfl | rfl | rfl <;> rfl
/-- What a thing to be done has in memory. -/
def OkD (W : World) (d : OpD) : Prop := d.n = d.th.length ∧ RdC 5 W d.A d.n d.c (mcs d.th)
abbrev RdO (W : World) (A : Option Addr) (c : Nat) (l : List OpD) : Prop := RdC 7 W A l.length c (opcs l) ∧ ∀ d ∈ l, OkD W d
theorem open_ops {fuel : Nat} {cs : List Value} {x : DataW H × List MemPlace} (h : DataW.trod enc Try.prog W base spare held fuel 22 cs = some x) : ∃ A c l, cs = [.slice A (l : List OpD).length c] ∧ RdO W A c l := by
  rcases Deep.open_slice Try.underlying22 h with ⟨rfl, _⟩ | ⟨a, len, cap, m, n, D, Pl, rfl, _, hl, hm, hmm, _, hx⟩
  · exact ⟨none, 0, [], rfl, ⟨rfl, Nat.le_refl _, by decide, fun _ => ⟨rfl, rfl⟩, by simp [opcs], fun ad ha => by cases ha⟩, by simp⟩
  · have hlm : len ≤ m := by subst hmm; split <;> omega
    have hb : ∀ i, i < len → ∃ p : OpD, OkD W p ∧ ∀ j u, (opc p)[j]? = some u → W.cell? (a.add (i * 7 + j)) = some u := fun i hi => by
      obtain ⟨cs', h1, h2⟩ := hx i (by omega)
      rw [cells_op] at h1
      obtain ⟨p, rfl, hok1, hok2⟩ := trod_op h2
      obtain ⟨_, _, g3⟩ := World.cells?_some h1
      refine ⟨p, ⟨hok1, hok2⟩, fun j u hj => ?_⟩
      have := g3 j (List.getElem?_eq_some_iff.1 hj).1
      rw [Addr.add_add] at this
      rw [this, ← hj]
    obtain ⟨g, hg⟩ := Deep.choose_lt hb
    have hlen : ((List.range len).map g).length = len := by simp
    refine ⟨some a, cap, (List.range len).map g, by rw [hlen], ?_, ?_⟩
    · rw [hlen]
      refine ⟨by rw [opcs_length, hlen], hl, by simpa only [maxLen] using hm, (fun hh => by cases hh), ?_, fun ad ha j u hj => ?_⟩
      · intro u hu
        obtain ⟨q, _, hq⟩ := List.mem_flatMap.1 hu
        exact opc_one q u hq
      · cases ha
        have hj1 : j < len * 7 := by
          have := (List.getElem?_eq_some_iff.1 hj).1
          rwa [opcs_length, hlen] at this
        have hi : j / 7 < len := by omega
        have hm5 : j % 7 < 7 := Nat.mod_lt _ (by decide)
        have e : j / 7 * 7 + j % 7 = j := by omega
        have := flat_at opc 7 ((List.range len).map g) (fun _ _ => rfl) (j / 7) (by rw [hlen]; exact hi) (j % 7) hm5
        rw [e] at this
        have hj' : (((List.range len).map g).flatMap opc)[j]? = some u := hj
        rw [hj', List.getElem_map, List.getElem_range] at this
        have h2 := (hg (j / 7) hi).2 (j % 7) u this.symm
        rwa [e] at h2
    · intro d hd
      obtain ⟨i, hi, rfl⟩ := List.mem_map.1 hd
      exact (hg i (by simpa using hi)).1
end Go.Proofs.Ytgmoodcojpbbdaa
