import Derived.Test.YtmeljnohkhkfmaaIntRoom
set_option linter.unusedVariables false
set_option linter.unusedSimpArgs false
namespace Go.Proofs.Ytmeljnohkhkfmaa
open Go.RowKit

/-- What is told: a kind, and a frame. -/
structure Ev where
  kind : Nat
  ch : Nat
  body : List UInt8
def NxI.ev (r : NxI) : Ev := ⟨r.kind, r.ch, r.body⟩
/-- All that is told of bytes, if no more come. -/
inductive Tells (M : Nat) : List UInt8 → Nat → List Ev → Prop
  | none (l : List UInt8) (ph : Nat) (h : (nextI M l ph).kind = 0) : Tells M l ph []
  | bad (l : List UInt8) (ph : Nat) (h : (nextI M l ph).kind = 3) : Tells M l ph [⟨3, 0, []⟩]
  | more (l : List UInt8) (ph : Nat) (E : List Ev) (h : (nextI M l ph).kind = 1 ∨ (nextI M l ph).kind = 2) (t : Tells M (nextI M l ph).l (nextI M l ph).ph E) : Tells M l ph ((nextI M l ph).ev :: E)
theorem Tells.same {M ph : Nat} {l : List UInt8} {E : List Ev} (h : Tells M l ph E) : ∀ {E' : List Ev}, Tells M l ph E' → E = E' := by
  induction h with
  | none l ph h =>
    intro E' h'
    cases h' with
    | none => rfl
    | bad _ _ h2 => omega
    | more _ _ _ h2 => omega
  | bad l ph h =>
    intro E' h'
    cases h' with
    | none _ _ h2 => omega
    | bad => rfl
    | more _ _ _ h2 => omega
  | more l ph E h t ih =>
    intro E' h'
    cases h' with
    | none _ _ h2 => omega
    | bad _ _ h2 => omega
    | more _ _ _ _ t2 => rw [ih t2]

theorem next_app_one {M ph : Nat} {l : List UInt8} (m : List UInt8) (h : (nextI M l ph).kind = 1 ∨ (nextI M l ph).kind = 2) : nextI M (l ++ m) ph = ⟨(nextI M l ph).kind, (nextI M l ph).ch, (nextI M l ph).body, (nextI M l ph).l ++ m, (nextI M l ph).ph⟩ := by
  unfold nextI at h ⊢
  by_cases h0 : ph = 0
  · simp only [if_pos h0] at h ⊢
    by_cases h1 : l.take (min l.length 8) = stB.take (min l.length 8)
    · simp only [if_pos h1] at h ⊢
      by_cases h2 : l.length < 8
      · rw [if_pos h2] at h; simp at h
      · have e : min l.length 8 = 8 := by omega
        have e2 : min (l ++ m).length 8 = 8 := by rw [List.length_append]; omega
        rw [e] at h1
        rw [if_neg h2, e2, List.take_append_of_le_length (by omega), if_pos h1, if_neg (by rw [List.length_append]; omega), List.drop_append_of_le_length (by omega)]
    · simp only [if_neg h1] at h; simp at h
  · simp only [if_neg h0] at h ⊢
    by_cases h1 : ph = 1
    · simp only [if_pos h1] at h ⊢
      rcases fr_err l M with e | e | ⟨e, g1, g2, g3, g4⟩
      · rw [e] at h; simp at h
      · rw [e] at h; simp at h
      · have e2 := fr_app_ok m g1 g2 g3 g4
        rw [e, e2]
        have g5 : (fgood l).err = 0 := rfl
        have g6 : (fgood l).n = fsz l := rfl
        rw [g5, g6, if_neg (by decide), if_pos rfl, if_neg (by decide), if_pos rfl, List.drop_append_of_le_length g4]
    · simp only [if_neg h1] at h; simp at h
theorem next_app_bad {M ph : Nat} {l : List UInt8} (m : List UInt8) (h : (nextI M l ph).kind = 3) : (nextI M (l ++ m) ph).kind = 3 := by
  unfold nextI at h ⊢
  by_cases h0 : ph = 0
  · simp only [if_pos h0] at h ⊢
    by_cases h1 : l.take (min l.length 8) = stB.take (min l.length 8)
    · simp only [if_pos h1] at h
      by_cases h2 : l.length < 8
      · rw [if_pos h2] at h; simp at h
      · rw [if_neg h2] at h; simp at h
    · rw [if_neg]
      intro e
      apply h1
      have := congrArg (fun x => x.take (min l.length 8)) e
      simp only [List.take_take, List.length_append] at this
      rw [show min (min l.length 8) (min (l.length + m.length) 8) = min l.length 8 by omega, List.take_append_of_le_length (by omega)] at this
      exact this
  · simp only [if_neg h0] at h ⊢
    by_cases h1 : ph = 1
    · simp only [if_pos h1] at h ⊢
      rcases fr_err l M with e | e | ⟨e, g1, g2, g3, g4⟩
      · rw [e] at h; simp at h
      · rw [fr_app_six m e]; simp
      · rw [e] at h
        have g5 : (fgood l).err = 0 := rfl
        rw [g5] at h
        simp at h
    · simp only [if_neg h1]

/-- What was told so far of b, of which m is to come: all that will be told is that, and what will be told of what is held and m. -/
def SoFar (M : Nat) (b : List UInt8) (D : List Ev) (l : List UInt8) (ph : Nat) (m : List UInt8) : Prop := ∀ E, Tells M (l ++ m) ph E → Tells M b 0 (D ++ E)
theorem SoFar.start (M : Nat) (b : List UInt8) : SoFar M b [] [] 0 b := fun E h => by simpa using h
theorem SoFar.put {M ph : Nat} {b l m : List UInt8} {D : List Ev} (h : SoFar M b D l ph m) (k : Nat) : SoFar M b D (l ++ m.take k) ph (m.drop k) := fun E hE => h E (by rwa [List.append_assoc, List.take_append_drop] at hE)
theorem SoFar.one {M ph : Nat} {b l m : List UInt8} {D : List Ev} (h : SoFar M b D l ph m) (hk : (nextI M l ph).kind = 1 ∨ (nextI M l ph).kind = 2) : SoFar M b (D ++ [(nextI M l ph).ev]) (nextI M l ph).l (nextI M l ph).ph m := fun E hE => by
  have h1 := next_app_one m hk
  have h2 := h ((nextI M l ph).ev :: E) (by
    have t := Tells.more (M := M) (l ++ m) ph E (by rw [h1]; exact hk) (by rw [h1]; exact hE)
    rw [h1] at t
    exact t)
  simpa using h2
theorem SoFar.bad {M ph : Nat} {b l m : List UInt8} {D : List Ev} (h : SoFar M b D l ph m) (hk : (nextI M l ph).kind = 3) : Tells M b 0 (D ++ [⟨3, 0, []⟩]) := h _ (.bad _ _ (next_app_bad m hk))
theorem SoFar.done {M ph : Nat} {b l : List UInt8} {D : List Ev} (h : SoFar M b D l ph []) (hk : (nextI M l ph).kind = 0) : Tells M b 0 D := by
  have := h [] (.none _ _ (by rwa [List.append_nil]))
  rwa [List.append_nil] at this
end Go.Proofs.Ytmeljnohkhkfmaa
