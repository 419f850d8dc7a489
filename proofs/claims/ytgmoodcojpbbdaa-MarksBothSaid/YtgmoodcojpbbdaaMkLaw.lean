import Derived.Test.YtgmoodcojpbbdaaStr
set_option linter.unusedVariables false
set_option linter.unusedSimpArgs false
namespace Go.Proofs.Ytgmoodcojpbbdaa
open Go.RowKit

/-- An outcome. -/
structure Outc where
  k : Nat
  a : Nat
  b : Nat
  c : List UInt8
  deriving DecidableEq
def ov (o : Outc) : Value := .agg #[.int .u8 o.k, .int .u64 o.a, .int .u64 o.b, str o.c]
/-- The outcome's four cells. -/
def ocs (o : Outc) : List Value := [.int .u8 o.k, .int .u64 o.a, .int .u64 o.b, str o.c]
def oz : Outc := ⟨0, 0, 0, []⟩
def fin (o : Outc) : Bool := decide (2 ≤ o.k) && decide (o.k ≤ 5)
/-- Marks: tags, with their states. -/
abbrev Ms := List (List UInt8 × Outc)
def mat (ms : Ms) (t : List UInt8) : Option Outc := (ms.find? fun p => decide (p.1 = t)).map (·.2)
theorem mat_cons (p : List UInt8 × Outc) (ms : Ms) (t : List UInt8) : mat (p :: ms) t = if p.1 = t then some p.2 else mat ms t := by
  simp only [mat, List.find?_cons]
  split <;> (rename_i h; simp at h; simp [h])
theorem mat_none {ms : Ms} {t : List UInt8} : mat ms t = none ↔ ∀ p ∈ ms, p.1 ≠ t := by simp [mat, List.find?_eq_none]
theorem mat_mem {ms : Ms} {t : List UInt8} {o : Outc} (h : mat ms t = some o) : (t, o) ∈ ms := by
  simp only [mat, Option.map_eq_some_iff] at h
  obtain ⟨p, hp, rfl⟩ := h
  have h1 := List.find?_some hp
  simp at h1
  subst h1
  exact List.mem_of_find?_eq_some hp
theorem mat_of_mem : ∀ {ms : Ms} {t : List UInt8} {o : Outc}, (ms.map (·.1)).Nodup → (t, o) ∈ ms → mat ms t = some o
  | [], _, _, _, h => by cases h
  | p :: ms, t, o, hn, h => by
    simp only [List.map_cons, List.nodup_cons] at hn
    rw [mat_cons]
    cases h with
    | head => simp
    | tail _ h =>
      have : p.1 ≠ t := fun e => hn.1 (List.mem_map.2 ⟨(t, o), h, e.symm⟩)
      rw [if_neg this]
      exact mat_of_mem hn.2 h
def addM (ms : Ms) (t : List UInt8) : Nat × Ms :=
  if t.length < 1 ∨ 32 < t.length then (1, ms) else if (mat ms t).isSome then (8, ms) else if 32 ≤ ms.length then (4, ms) else (0, ms ++ [(t, oz)])
def setM (ms : Ms) (t : List UInt8) (o : Outc) : Ms := ms.map fun p => if p.1 = t then (p.1, o) else p
def tellM (ms : Ms) (t : List UInt8) (o : Outc) : Bool × Ms :=
  match mat ms t with
  | none => (false, ms)
  | some was => if fin was || !fin o then (false, ms) else (true, setM ms t o)
def getM (ms : Ms) (t : List UInt8) : Outc × Bool := ((mat ms t).getD oz, (mat ms t).isSome)
def dropM (ms : Ms) (t : List UInt8) : Ms := ms.filter fun p => decide (p.1 ≠ t)
def settleM (ms : Ms) (t : List UInt8) : Outc × Bool × Ms :=
  match mat ms t with
  | none => (oz, false, ms)
  | some o => (o, true, dropM ms t)
/-- A step: its tag, its kind, its state. -/
abbrev St := List UInt8 × Nat × Outc
def stepM (th : Ms) (p : List UInt8 × Outc) : (List UInt8 × Outc) × St :=
  match mat th p.1 with
  | some o => let own := if !fin p.2 && fin o then o else p.2
    ((p.1, own), if fin own then (p.1, 3, own) else (p.1, 2, oz))
  | none => (p, if fin p.2 then (p.1, 4, p.2) else (p.1, 1, oz))
def meetM (th ms : Ms) : Ms × List St := (ms.map fun p => (stepM th p).1, ms.map fun p => (stepM th p).2)
def keepM (th ms : Ms) : List (List UInt8) × Ms := ((ms.filter fun p => (mat th p.1).isNone).map (·.1), ms.filter fun p => (mat th p.1).isSome)

theorem keys_set (ms : Ms) (t : List UInt8) (o : Outc) : (setM ms t o).map (·.1) = ms.map (·.1) := by
  rw [setM, List.map_map]
  apply List.map_congr_left
  intro p _
  simp only [Function.comp]
  split <;> rfl
theorem mat_set (ms : Ms) (t : List UInt8) (o : Outc) (j : List UInt8) : mat (setM ms t o) j = if j = t then (mat ms t).map (fun _ => o) else mat ms j := by
  induction ms with
  | nil => simp [setM, mat]
  | cons p ms ih =>
    simp only [setM, List.map_cons] at ih ⊢
    rw [mat_cons, ih]
    by_cases hp : p.1 = t
    · subst hp
      simp only [if_true, mat_cons]
      by_cases hj : j = p.1
      · subst hj; simp
      · have hj' : ¬ p.1 = j := fun e => hj e.symm
        simp [hj, hj']
    · simp only [hp, if_false, mat_cons]
      by_cases hj : j = t
      · subst hj; simp [hp]
      · simp [hj]
theorem mat_snoc (ms : Ms) (t : List UInt8) (o : Outc) (h : mat ms t = none) (j : List UInt8) : mat (ms ++ [(t, o)]) j = if j = t then some o else mat ms j := by
  induction ms with
  | nil =>
    simp only [List.nil_append, mat_cons]
    by_cases hj : j = t
    · subst hj; simp
    · have hj' : ¬ t = j := fun e => hj e.symm
      simp [hj, hj']
  | cons p ms ih =>
    rw [mat_cons] at h
    by_cases hp : p.1 = t
    · simp [hp] at h
    · simp only [hp, if_false] at h
      rw [List.cons_append, mat_cons, mat_cons, ih h]
      by_cases hj : j = t
      · subst hj; simp [hp]
      · simp [hj]
theorem mat_drop (ms : Ms) (t j : List UInt8) : mat (dropM ms t) j = if j = t then none else mat ms j := by
  induction ms with
  | nil => simp [dropM, mat]
  | cons p ms ih =>
    simp only [dropM, List.filter_cons] at ih ⊢
    by_cases hp : p.1 = t
    · subst hp
      simp only [ne_eq, not_true, decide_false, Bool.false_eq_true, if_false]
      rw [ih, mat_cons]
      by_cases hj : j = p.1
      · simp [hj]
      · have hj' : ¬ p.1 = j := fun e => hj e.symm
        simp [hj, hj']
    · simp only [ne_eq, hp, not_false_eq_true, decide_true, if_true]
      rw [mat_cons, ih, mat_cons]
      by_cases hpj : p.1 = j
      · subst hpj; simp [hp]
      · simp [hpj]
theorem nodup_snoc {ms : Ms} (hn : (ms.map (·.1)).Nodup) {t : List UInt8} (h : mat ms t = none) (o : Outc) : ((ms ++ [(t, o)]).map (·.1)).Nodup := by
  rw [List.map_append]
  refine List.nodup_append.2 ⟨hn, by simp, ?_⟩
  intro a ha b hb e
  simp at hb
  subst hb e
  obtain ⟨p, hp, rfl⟩ := List.mem_map.1 ha
  exact mat_none.1 h p hp rfl
theorem nodup_drop {ms : Ms} (hn : (ms.map (·.1)).Nodup) (t : List UInt8) : ((dropM ms t).map (·.1)).Nodup := by
  have : (dropM ms t).map (·.1) = (ms.map (·.1)).filter fun j => decide (j ≠ t) := by
    rw [dropM, List.filter_map]
    rfl
  rw [this]
  exact hn.filter _
end Go.Proofs.Ytgmoodcojpbbdaa
