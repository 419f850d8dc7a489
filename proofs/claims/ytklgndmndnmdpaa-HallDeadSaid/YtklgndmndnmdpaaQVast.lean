import Derived.Test.YtklgndmndnmdpaaQOwn
set_option linter.unusedVariables false
set_option linter.unusedSimpArgs false
namespace Go.Proofs.Ytklgndmndnmdpaa
open Go.RowKit Go.Shelf

theorem flat_at {α : Type} (f : α → List Value) (sz : Nat) (l : List α) (hf : ∀ x ∈ l, (f x).length = sz) (i : Nat) (hi : i < l.length) (j : Nat) (hj : j < sz) : (l.flatMap f)[i * sz + j]? = (f l[i])[j]? := by
  induction l generalizing i with
  | nil => simp at hi
  | cons p ms ih =>
    have hl : (f p).length = sz := hf p (by simp)
    rw [List.flatMap_cons]
    cases i with
    | zero => rw [List.getElem?_append_left (by omega)]; simp
    | succ i =>
      have e : (i + 1) * sz + j - sz = i * sz + j := by rw [Nat.succ_mul]; omega
      rw [List.getElem?_append_right (by rw [hl, Nat.succ_mul]; omega), hl, e, ih (fun x hx => hf x (by simp [hx])) i (by simpa using hi)]
      rfl
theorem flat_length {α : Type} (f : α → List Value) (sz : Nat) (hf : ∀ x, (f x).length = sz) : ∀ l : List α, (l.flatMap f).length = l.length * sz
  | [] => by simp
  | p :: ms => by rw [List.flatMap_cons, List.length_append, flat_length f sz hf ms, hf, List.length_cons, Nat.succ_mul]; omega
/-- An element of a row in memory, cell by cell. -/
theorem flat_cells {α : Type} (f : α → List Value) (sz : Nat) (h0 : 0 < sz) (hf : ∀ x, (f x).length = sz) {w : World} {A : Option Addr} {n c : Nat} {l : List α} (h : RdC sz w A n c (l.flatMap f)) (i : Nat) (hi : i < l.length) :
    ∃ b o, A = some ⟨b, o, none⟩ ∧ ∀ j u, (f l[i])[j]? = some u → w.cell? ⟨b, o + (i * sz + j), none⟩ = some u := by
  have hc : ∀ j u, (f l[i])[j]? = some u → ∃ ad, A = some ad ∧ w.cell? (ad.add (i * sz + j)) = some u := fun j u hj => by
    refine h.cell (i * sz + j) u ?_
    have hj5 : j < sz := by
      have := (List.getElem?_eq_some_iff.1 hj).1
      rwa [hf] at this
    rw [flat_at f sz l (fun x _ => hf x) i hi j hj5]
    exact hj
  have hz : ∃ ad u, A = some ad ∧ w.cell? ad = some u := by
    have h1 : 0 < l.length := by omega
    have h2 : 0 < (f l[0]).length := by rw [hf]; exact h0
    have h3 := flat_at f sz l (fun x _ => hf x) 0 h1 0 h0
    simp only [Nat.zero_mul, Nat.zero_add] at h3
    obtain ⟨ad, e, hh⟩ := h.cell 0 ((f l[0])[0]) (by rw [h3]; exact List.getElem?_eq_getElem h2)
    exact ⟨ad, _, e, hh⟩
  obtain ⟨ad, u, rfl, hu⟩ := hz
  have hs : ad.spot = none := by
    cases hs : ad.spot with
    | none => rfl
    | some s =>
      exfalso
      unfold World.cell? at hu
      simp only [hs] at hu
      split at hu <;> simp at hu
  obtain ⟨b, o, sp⟩ := ad
  cases hs
  refine ⟨b, o, rfl, fun j u hj => ?_⟩
  obtain ⟨ad, e, hh⟩ := hc j u hj
  cases e
  rw [plain_add] at hh
  exact hh
end Go.Proofs.Ytklgndmndnmdpaa
