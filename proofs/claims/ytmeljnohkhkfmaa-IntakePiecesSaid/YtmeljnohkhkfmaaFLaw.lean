import Derived.Test.YtmeljnohkhkfmaaFWrite
set_option linter.unusedVariables false
set_option linter.unusedSimpArgs false
namespace Go.Proofs.Ytmeljnohkhkfmaa
open Go.RowKit

/-- The size, the place of the body, and the type that bytes name. -/
def fsz (l : List UInt8) : Nat := be (l.take 4)
def fpl (l : List UInt8) : Nat := 4 * ((l[4]?).getD 0).toNat
def fty (l : List UInt8) : Nat := ((l[5]?).getD 0).toNat
def fgood (l : List UInt8) : Fr := ⟨0, fsz l, be ((l.take 8).drop 6), (l.take (fsz l)).drop (fpl l)⟩

theorem fr_eq (l : List UInt8) (most : Nat) : fr l most =
    if l.length < 4 then ⟨7, 0, 0, []⟩ else if ¬ (8 ≤ fsz l ∧ fsz l ≤ most) then ⟨6, 0, 0, []⟩ else if l.length < 5 then ⟨7, 0, 0, []⟩ else
    if ¬ (8 ≤ fpl l ∧ fpl l ≤ fsz l) then ⟨6, 0, 0, []⟩ else if l.length < 6 then ⟨7, 0, 0, []⟩ else if fty l ≠ 0 then ⟨6, 0, 0, []⟩ else if l.length < fsz l then ⟨7, 0, 0, []⟩ else fgood l := by
  simp only [fr, okSize, decide_eq_false_iff_not]
  rfl

theorem fr_ok {l : List UInt8} {most : Nat} (h1 : 8 ≤ fsz l ∧ fsz l ≤ most) (h2 : 8 ≤ fpl l ∧ fpl l ≤ fsz l) (h3 : fty l = 0) (h4 : fsz l ≤ l.length) : fr l most = fgood l := by
  rw [fr_eq, if_neg (by omega), if_neg (by omega), if_neg (by omega), if_neg (by omega), if_neg (by omega), if_neg (by omega), if_neg (by omega)]
theorem fr_err (l : List UInt8) (most : Nat) : fr l most = ⟨7, 0, 0, []⟩ ∨ fr l most = ⟨6, 0, 0, []⟩ ∨ (fr l most = fgood l ∧ (8 ≤ fsz l ∧ fsz l ≤ most) ∧ (8 ≤ fpl l ∧ fpl l ≤ fsz l) ∧ fty l = 0 ∧ fsz l ≤ l.length) := by
  rw [fr_eq]
  by_cases c1 : l.length < 4
  · exact .inl (if_pos c1)
  rw [if_neg c1]
  by_cases c2 : ¬ (8 ≤ fsz l ∧ fsz l ≤ most)
  · exact .inr (.inl (if_pos c2))
  rw [if_neg c2]
  by_cases c3 : l.length < 5
  · exact .inl (if_pos c3)
  rw [if_neg c3]
  by_cases c4 : ¬ (8 ≤ fpl l ∧ fpl l ≤ fsz l)
  · exact .inr (.inl (if_pos c4))
  rw [if_neg c4]
  by_cases c5 : l.length < 6
  · exact .inl (if_pos c5)
  rw [if_neg c5]
  by_cases c6 : fty l ≠ 0
  · exact .inr (.inl (if_pos c6))
  rw [if_neg c6]
  by_cases c7 : l.length < fsz l
  · exact .inl (if_pos c7)
  rw [if_neg c7]
  exact .inr (.inr ⟨rfl, by omega, by omega, by omega, by omega⟩)
/-- What is wrong, and as soon as the byte is there that makes it so. -/
theorem fr_six {l : List UInt8} {most : Nat} (h : fr l most = ⟨6, 0, 0, []⟩) : (4 ≤ l.length ∧ ¬ (8 ≤ fsz l ∧ fsz l ≤ most)) ∨ (5 ≤ l.length ∧ ¬ (8 ≤ fpl l ∧ fpl l ≤ fsz l)) ∨ (6 ≤ l.length ∧ fty l ≠ 0) := by
  rw [fr_eq] at h
  by_cases c1 : l.length < 4
  · rw [if_pos c1] at h; cases h
  by_cases c2 : ¬ (8 ≤ fsz l ∧ fsz l ≤ most)
  · exact .inl ⟨by omega, c2⟩
  by_cases c3 : l.length < 5
  · rw [if_neg c1, if_neg c2, if_pos c3] at h; cases h
  by_cases c4 : ¬ (8 ≤ fpl l ∧ fpl l ≤ fsz l)
  · exact .inr (.inl ⟨by omega, c4⟩)
  by_cases c5 : l.length < 6
  · rw [if_neg c1, if_neg c2, if_neg c3, if_neg c4, if_pos c5] at h; cases h
  by_cases c6 : fty l ≠ 0
  · exact .inr (.inr ⟨by omega, c6⟩)
  by_cases c7 : l.length < fsz l
  · rw [if_neg c1, if_neg c2, if_neg c3, if_neg c4, if_neg c5, if_neg c6, if_pos c7] at h; cases h
  · rw [if_neg c1, if_neg c2, if_neg c3, if_neg c4, if_neg c5, if_neg c6, if_neg c7] at h; cases h
theorem fr_wrong {l : List UInt8} {most : Nat} (h : (4 ≤ l.length ∧ ¬ (8 ≤ fsz l ∧ fsz l ≤ most)) ∨ (5 ≤ l.length ∧ ¬ (8 ≤ fpl l ∧ fpl l ≤ fsz l)) ∨ (6 ≤ l.length ∧ fty l ≠ 0)) : fr l most = ⟨6, 0, 0, []⟩ := by
  rw [fr_eq, if_neg (by omega)]
  by_cases c2 : ¬ (8 ≤ fsz l ∧ fsz l ≤ most)
  · rw [if_pos c2]
  rw [if_neg c2, if_neg (by omega)]
  by_cases c4 : ¬ (8 ≤ fpl l ∧ fpl l ≤ fsz l)
  · rw [if_pos c4]
  rw [if_neg c4, if_neg (by omega), if_pos (by omega)]
theorem fr_short {l : List UInt8} {most : Nat} (h1 : 4 ≤ l.length → 8 ≤ fsz l ∧ fsz l ≤ most) (h2 : 5 ≤ l.length → 8 ≤ fpl l ∧ fpl l ≤ fsz l) (h3 : 6 ≤ l.length → fty l = 0) (h4 : 6 ≤ l.length → l.length < fsz l) : fr l most = ⟨7, 0, 0, []⟩ := by
  rw [fr_eq]
  by_cases c1 : l.length < 4
  · rw [if_pos c1]
  rw [if_neg c1, if_neg (by omega)]
  by_cases c3 : l.length < 5
  · rw [if_pos c3]
  rw [if_neg c3, if_neg (by omega)]
  by_cases c5 : l.length < 6
  · rw [if_pos c5]
  rw [if_neg c5, if_neg (by omega), if_pos (by omega)]

/-! ### What follows behind does not matter -/
theorem fsz_app (l m : List UInt8) (h : 4 ≤ l.length) : fsz (l ++ m) = fsz l := by rw [fsz, fsz, List.take_append_of_le_length h]
theorem fpl_app (l m : List UInt8) (h : 5 ≤ l.length) : fpl (l ++ m) = fpl l := by rw [fpl, fpl, List.getElem?_append_left (by omega)]
theorem fty_app (l m : List UInt8) (h : 6 ≤ l.length) : fty (l ++ m) = fty l := by rw [fty, fty, List.getElem?_append_left (by omega)]
theorem fgood_app (l m : List UInt8) (h : 8 ≤ l.length) (h2 : fsz l ≤ l.length) : fgood (l ++ m) = fgood l := by
  rw [fgood, fgood, fsz_app l m (by omega), fpl_app l m (by omega), List.take_append_of_le_length h, List.take_append_of_le_length h2]
theorem fr_app_ok {l : List UInt8} {most : Nat} (m : List UInt8) (h1 : 8 ≤ fsz l ∧ fsz l ≤ most) (h2 : 8 ≤ fpl l ∧ fpl l ≤ fsz l) (h3 : fty l = 0) (h4 : fsz l ≤ l.length) : fr (l ++ m) most = fgood l := by
  rw [fr_ok (by rw [fsz_app l m (by omega)]; exact h1) (by rw [fsz_app l m (by omega), fpl_app l m (by omega)]; exact h2) (by rw [fty_app l m (by omega)]; exact h3) (by rw [fsz_app l m (by omega), List.length_append]; omega), fgood_app l m (by omega) h4]
theorem fr_app_six {l : List UInt8} {most : Nat} (m : List UInt8) (h : fr l most = ⟨6, 0, 0, []⟩) : fr (l ++ m) most = ⟨6, 0, 0, []⟩ := by
  refine fr_wrong ?_
  rw [List.length_append]
  rcases fr_six h with ⟨h1, h2⟩ | ⟨h1, h2⟩ | ⟨h1, h2⟩
  · exact .inl ⟨by omega, by rw [fsz_app l m h1]; exact h2⟩
  · exact .inr (.inl ⟨by omega, by rw [fsz_app l m (by omega), fpl_app l m h1]; exact h2⟩)
  · exact .inr (.inr ⟨by omega, by rw [fty_app l m h1]; exact h2⟩)
/-- Cut anywhere a frame is short. -/
theorem fr_cut {l : List UInt8} {most : Nat} (k : Nat) (h1 : 8 ≤ fsz l ∧ fsz l ≤ most) (h2 : 8 ≤ fpl l ∧ fpl l ≤ fsz l) (h3 : fty l = 0) (h4 : fsz l ≤ l.length) (hk : k < fsz l) : fr (l.take k) most = ⟨7, 0, 0, []⟩ := by
  have hl : (l.take k).length = k := by rw [List.length_take]; omega
  have e := List.take_append_drop k l
  have e1 : 4 ≤ k → fsz (l.take k) = fsz l := fun hh => by rw [← fsz_app (l.take k) (l.drop k) (by omega), e]
  have e2 : 5 ≤ k → fpl (l.take k) = fpl l := fun hh => by rw [← fpl_app (l.take k) (l.drop k) (by omega), e]
  have e3 : 6 ≤ k → fty (l.take k) = fty l := fun hh => by rw [← fty_app (l.take k) (l.drop k) (by omega), e]
  exact fr_short (fun hh => by rw [e1 (by omega)]; exact h1) (fun hh => by rw [e1 (by omega), e2 (by omega)]; exact h2) (fun hh => by rw [e3 (by omega)]; exact h3) (fun hh => by rw [e1 (by omega)]; omega)
/-- What is short has no frame within itself. -/
theorem fr_app_seven {l : List UInt8} {most : Nat} (m : List UInt8) (h : fr l most = ⟨7, 0, 0, []⟩) : (fr (l ++ m) most).err ≠ 0 ∨ l.length < (fr (l ++ m) most).n := by
  rcases fr_err (l ++ m) most with e | e | ⟨e, h1, h2, h3, h4⟩
  · left; rw [e]; decide
  · left; rw [e]; decide
  · right
    rw [e]
    show l.length < fsz (l ++ m)
    refine Nat.lt_of_not_le fun hle => ?_
    have h8 : 8 ≤ l.length := by omega
    rw [fsz_app l m (by omega)] at h1 h2 hle
    rw [fpl_app l m (by omega)] at h2
    rw [fty_app l m (by omega)] at h3
    rw [fr_ok h1 h2 h3 hle] at h
    cases h
end Go.Proofs.Ytmeljnohkhkfmaa
