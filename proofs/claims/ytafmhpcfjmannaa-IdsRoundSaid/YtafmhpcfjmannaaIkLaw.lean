import Derived.Test.YtafmhpcfjmannaaStr
set_option linter.unusedVariables false
set_option linter.unusedSimpArgs false
namespace Go.Proofs.Ytafmhpcfjmannaa
open Go.RowKit

/-- A key: its handle, its tag. -/
structure Ky where
  h : Int
  t : List UInt8
  deriving DecidableEq
def kv (k : Ky) : Value := .agg #[.int .i64 k.h, str k.t]
def kcs (k : Ky) : List Value := [.int .i64 k.h, str k.t]
def kz : Ky := ⟨0, []⟩
theorem kv_is (k : Ky) : kv k = .agg #[.int .i64 k.h, .string ⟨k.t.toArray⟩] := rfl
/-- A number of 32 bits. -/
def uv (n : Nat) : Value := .int .u32 n
theorem uv_one (n : Nat) : (uv n).oneCell' = true := rfl
theorem same_uv (a b : Nat) : Instr.sameNow (.int .u32) (uv a) (uv b) = some (decide (a = b)) := by
  show some (((a : Int) == (b : Int))) = _
  congr 1
  by_cases h : a = b
  · subst h; simp
  · have : (a : Int) ≠ b := by omega
    simp [h, this]
theorem keyU : KeyOK Try.prog 33 uv := ⟨⟨_, Try.underlying33, same_uv, fun em a w => by
  unfold Instr.checkKey
  rw [Sem.run_bind, run_underlying Try.underlying33]
  rfl⟩, fun a => by unfold uv Instr.sameBits; simp⟩

/-- Entries: their numbers, with their keys. -/
abbrev Is := List (Nat × Ky)
def geI (es : Is) (i : Nat) : Option Ky := (es.find? fun p => decide (p.1 = i)).map (·.2)
def fiI (es : Is) (k : Ky) : Option Nat := (es.find? fun p => decide (p.2 = k)).map (·.1)
theorem geI_cons (p : Nat × Ky) (es : Is) (t : Nat) : geI (p :: es) t = if p.1 = t then some p.2 else geI es t := by
  simp only [geI, List.find?_cons]
  split <;> (rename_i h; simp at h; simp [h])
theorem geI_none {es : Is} {t : Nat} : geI es t = none ↔ ∀ p ∈ es, p.1 ≠ t := by simp [geI, List.find?_eq_none]
theorem fiI_none {es : Is} {k : Ky} : fiI es k = none ↔ ∀ p ∈ es, p.2 ≠ k := by simp [fiI, List.find?_eq_none]
theorem geI_mem {es : Is} {t : Nat} {o : Ky} (h : geI es t = some o) : (t, o) ∈ es := by
  simp only [geI, Option.map_eq_some_iff] at h
  obtain ⟨p, hp, rfl⟩ := h
  have h1 := List.find?_some hp
  simp at h1
  subst h1
  exact List.mem_of_find?_eq_some hp
theorem fiI_mem {es : Is} {k : Ky} {i : Nat} (h : fiI es k = some i) : (i, k) ∈ es := by
  simp only [fiI, Option.map_eq_some_iff] at h
  obtain ⟨p, hp, rfl⟩ := h
  have h1 := List.find?_some hp
  simp at h1
  subst h1
  exact List.mem_of_find?_eq_some hp
theorem geI_of_mem : ∀ {es : Is} {t : Nat} {o : Ky}, (es.map (·.1)).Nodup → (t, o) ∈ es → geI es t = some o
  | [], _, _, _, h => by cases h
  | p :: es, t, o, hn, h => by
    simp only [List.map_cons, List.nodup_cons] at hn
    rw [geI_cons]
    cases h with
    | head => simp
    | tail _ h =>
      have : p.1 ≠ t := fun e => hn.1 (List.mem_map.2 ⟨(t, o), h, e.symm⟩)
      rw [if_neg this]
      exact geI_of_mem hn.2 h
def putI (es : Is) (i : Nat) (k : Ky) : Nat × Is := if (geI es i).isSome || (fiI es k).isSome then (8, es) else if 512 ≤ es.length then (4, es) else (0, es ++ [(i, k)])
def rmI (es : Is) (i : Nat) : Is := es.filter fun p => decide (p.1 ≠ i)
def dropI (es : Is) (i : Nat) : Bool × Is := if (geI es i).isSome then (true, rmI es i) else (false, es)
/-- How many steps it is from one number to another one. -/
def stp (a b : Nat) : Nat := (b + 4294967296 - a) % 4294967296
def inR (f l : Nat) (i : Nat) : Bool := decide (stp f i ≤ stp f l)
def rangeI (es : Is) (f l : Nat) : List Nat := if stp f l < 2147483648 then (es.filter fun p => inR f l p.1).map (·.1) else []
def leaveI (es : Is) (h : Int) : List Ky × Is := ((es.filter fun p => decide (p.2.h = h)).map (·.2), es.filter fun p => decide (p.2.h ≠ h))
theorem geI_snoc (es : Is) (t : Nat) (o : Ky) (h : geI es t = none) (j : Nat) : geI (es ++ [(t, o)]) j = if j = t then some o else geI es j := by
  induction es with
  | nil =>
    simp only [List.nil_append, geI_cons]
    by_cases hj : j = t
    · subst hj; simp
    · have hj' : ¬ t = j := fun e => hj e.symm
      simp [hj, hj']
  | cons p es ih =>
    rw [geI_cons] at h
    by_cases hp : p.1 = t
    · simp [hp] at h
    · simp only [hp, if_false] at h
      rw [List.cons_append, geI_cons, geI_cons, ih h]
      by_cases hj : j = t
      · subst hj; simp [hp]
      · simp [hj]
theorem geI_rm (es : Is) (t j : Nat) : geI (rmI es t) j = if j = t then none else geI es j := by
  induction es with
  | nil => simp [rmI, geI]
  | cons p es ih =>
    simp only [rmI, List.filter_cons] at ih ⊢
    by_cases hp : p.1 = t
    · subst hp
      simp only [ne_eq, not_true, decide_false, Bool.false_eq_true, if_false]
      rw [ih, geI_cons]
      by_cases hj : j = p.1
      · simp [hj]
      · have hj' : ¬ p.1 = j := fun e => hj e.symm
        simp [hj, hj']
    · simp only [ne_eq, hp, not_false_eq_true, decide_true, if_true]
      rw [geI_cons, ih, geI_cons]
      by_cases hpj : p.1 = j
      · subst hpj; simp [hp]
      · simp [hpj]
theorem nodupI_snoc {es : Is} (hn : (es.map (·.1)).Nodup) {t : Nat} (h : geI es t = none) (o : Ky) : ((es ++ [(t, o)]).map (·.1)).Nodup := by
  rw [List.map_append]
  refine List.nodup_append.2 ⟨hn, by simp, ?_⟩
  intro a ha b hb e
  simp at hb
  subst hb e
  obtain ⟨p, hp, rfl⟩ := List.mem_map.1 ha
  exact geI_none.1 h p hp rfl
theorem nodupI_sub {es es' : Is} (hn : (es.map (·.1)).Nodup) (h : es'.Sublist es) : ((es'.map (·.1))).Nodup := hn.sublist (h.map _)
theorem nodupI_rm {es : Is} (hn : (es.map (·.1)).Nodup) (t : Nat) : ((rmI es t).map (·.1)).Nodup := nodupI_sub hn List.filter_sublist
end Go.Proofs.Ytafmhpcfjmannaa
