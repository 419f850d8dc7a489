import Derived.Test.YtafmhpcfjmannaaISame
import Derived.Test.YtafmhpcfjmannaaIFull
set_option linter.unusedVariables false
set_option linter.unusedSimpArgs false
namespace Go.Proofs.Ytafmhpcfjmannaa
open Go.RowKit

/-- A number, moved. -/
def mv (s x : Nat) : Nat := mod32 (x + s)
theorem mv_lt (s x : Nat) : mv s x < 4294967296 := mod32_lt _
theorem mv_inj {s x y : Nat} (hs : s < 4294967296) (hx : x < 4294967296) (hy : y < 4294967296) (h : mv s x = mv s y) : x = y := by unfold mv mod32 at h; omega
theorem mv_stp {s x y : Nat} (hs : s < 4294967296) (hx : x < 4294967296) (hy : y < 4294967296) : stp (mv s x) (mv s y) = stp x y := by unfold mv mod32 stp; omega
theorem mv_back {s x : Nat} (hs : s < 4294967296) (hx : x < 4294967296) : (((mv s x : Nat) : Int) - (s : Int)) % 4294967296 = (x : Int) := by unfold mv mod32; omega
theorem mv_walk {s x : Nat} : ((x : Int) + (s : Int)) % 4294967296 = ((mv s x : Nat) : Int) := by unfold mv mod32; omega
def shI (s : Nat) (es : Is) : Is := es.map fun p => (mv s p.1, p.2)
theorem sh_ge {s : Nat} (hs : s < 4294967296) {es : Is} (hsm : Small es) {i : Nat} (hi : i < 4294967296) : geI (shI s es) (mv s i) = geI es i := by
  induction es with
  | nil => rfl
  | cons p es ih =>
    have hp : p.1 < 4294967296 := hsm p (by simp)
    have hsm' : Small es := fun q hq => hsm q (by simp [hq])
    have h1 : shI s (p :: es) = (mv s p.1, p.2) :: shI s es := rfl
    rw [h1, geI_cons, geI_cons, ih hsm']
    by_cases e : p.1 = i
    · simp [e]
    · have : mv s p.1 ≠ mv s i := fun h => e (mv_inj hs hp hi h)
      simp [e, this]
theorem fiI_cons (p : Nat × Ky) (es : Is) (k : Ky) : fiI (p :: es) k = if p.2 = k then some p.1 else fiI es k := by
  simp only [fiI, List.find?_cons]
  split <;> (rename_i h; simp at h; simp [h])
theorem sh_fi (s : Nat) (es : Is) (k : Ky) : fiI (shI s es) k = (fiI es k).map (mv s) := by
  induction es with
  | nil => rfl
  | cons p es ih =>
    have h1 : shI s (p :: es) = (mv s p.1, p.2) :: shI s es := rfl
    rw [h1, fiI_cons, fiI_cons, ih]
    by_cases e : p.2 = k <;> simp [e]
theorem sh_len (s : Nat) (es : Is) : (shI s es).length = es.length := by simp [shI]
theorem sh_rm {s : Nat} (hs : s < 4294967296) {es : Is} (hsm : Small es) {i : Nat} (hi : i < 4294967296) : rmI (shI s es) (mv s i) = shI s (rmI es i) := by
  unfold rmI shI
  rw [List.filter_map]
  congr 1
  apply List.filter_congr
  intro p hp
  have hp' := hsm p hp
  simp only [Function.comp]
  rw [decide_eq_decide]
  constructor
  · intro h e; exact h (by rw [e])
  · intro h e; exact h (mv_inj hs hp' hi e)
/-- What is done with numbers that are moved. -/
def shD (s : Nat) (d : OpI) : OpI := ⟨d.K, mv s d.id, mv s d.last, d.k⟩
def shA (s : Nat) (d : OpI) (x : AnsI) : AnsI := ⟨x.e, x.l.map (mv s), x.k, if x.is = true ∧ d.K = 3 then mv s x.n else x.n, x.is⟩
theorem sh_put {s : Nat} (hs : s < 4294967296) {es : Is} (hg : GoodI es) {i : Nat} (hi : i < 4294967296) (k : Ky) {n : Nat} {es' : Is} (r : putI es i k = (n, es')) : putI (shI s es) (mv s i) k = (n, shI s es') := by
  have e1 := sh_ge hs hg.sm hi
  have e2 := sh_fi s es k
  have e3 := sh_len s es
  unfold putI at r ⊢
  rw [e1, e2, e3, Option.isSome_map]
  obtain ⟨y, hy⟩ : ∃ y, mv s i = y := ⟨_, rfl⟩
  by_cases c1 : ((geI es i).isSome || (fiI es k).isSome) = true
  · rw [if_pos c1] at r ⊢
    cases r
    rfl
  · rw [if_neg c1] at r ⊢
    by_cases c2 : 512 ≤ es.length
    · rw [if_pos c2] at r ⊢
      cases r
      rfl
    · rw [if_neg c2] at r ⊢
      cases r
      rw [show shI s (es ++ [(i, k)]) = shI s es ++ [(mv s i, k)] by rw [shI, List.map_append]; rfl]
theorem inR_mv {s : Nat} (hs : s < 4294967296) {f l x : Nat} (hf : f < 4294967296) (hl : l < 4294967296) (hx : x < 4294967296) : inR (mv s f) (mv s l) (mv s x) = inR f l x := by
  unfold inR
  rw [mv_stp hs hf hl, mv_stp hs hf hx]
theorem sh_filt {s : Nat} (hs : s < 4294967296) {es : Is} (hg : GoodI es) {f l : Nat} (hf : f < 4294967296) (hl : l < 4294967296) : ((shI s es).filter fun p => inR (mv s f) (mv s l) p.1).map (·.1) = ((es.filter fun p => inR f l p.1).map (·.1)).map (mv s) := by
  have hsm := hg.sm
  clear hg
  induction es with
  | nil => rfl
  | cons p es ih =>
    have hsm' : Small es := fun q hq => hsm q (by simp [hq])
    have h1 : shI s (p :: es) = (mv s p.1, p.2) :: shI s es := rfl
    have h2 := inR_mv hs hf hl (hsm p (by simp))
    rw [h1, List.filter_cons, List.filter_cons]
    simp only [h2]
    cases inR f l p.1
    · simp only [Bool.false_eq_true, if_false]
      exact ih hsm'
    · simp only [if_true, List.map_cons]
      rw [ih hsm']
theorem sh_range {s : Nat} (hs : s < 4294967296) {es : Is} (hg : GoodI es) {f l : Nat} (hf : f < 4294967296) (hl : l < 4294967296) : rangeI (shI s es) (mv s f) (mv s l) = (rangeI es f l).map (mv s) := by
  unfold rangeI
  rw [mv_stp hs hf hl]
  by_cases c : stp f l < 2147483648
  · rw [if_pos c, if_pos c]
    exact sh_filt hs hg hf hl
  · rw [if_neg c, if_neg c]
    rfl
theorem sh_leave (s : Nat) (es : Is) (h : Int) : leaveI (shI s es) h = ((leaveI es h).1, shI s (leaveI es h).2) := by
  unfold leaveI shI
  rw [List.filter_map, List.filter_map, List.map_map]
  rfl
theorem sh_fnd (s : Nat) (es : Is) (k : Ky) : (fndA (shI s es) k).2 = (fndA es k).2 ∧ (fndA (shI s es) k).1 = if (fndA es k).2 = true then mv s (fndA es k).1 else (fndA es k).1 := by
  unfold fndA
  rw [sh_fi]
  cases fiI es k with
  | none => exact ⟨rfl, rfl⟩
  | some i => exact ⟨rfl, rfl⟩
theorem sh_drop {s : Nat} (hs : s < 4294967296) {es : Is} (hg : GoodI es) {i : Nat} (hi : i < 4294967296) : dropI (shI s es) (mv s i) = ((dropI es i).1, shI s (dropI es i).2) := by
  unfold dropI
  rw [sh_ge hs hg.sm hi, sh_rm hs hg.sm hi]
  by_cases c : (geI es i).isSome = true
  · rw [if_pos c, if_pos c]
  · rw [if_neg c, if_neg c]
theorem sh_do {s : Nat} (hs : s < 4294967296) {es : Is} (hg : GoodI es) {d : OpI} (hd : OkI d) {x : AnsI} {es' : Is} (r : doI es d = (x, es')) : doI (shI s es) (shD s d) = (shA s d x, shI s es') := by
  obtain ⟨hd1, hd2⟩ := hd
  obtain ⟨K, i, l, k⟩ := d
  simp only at hd1 hd2
  have p1 := sh_put hs hg hd1 k (n := (putI es i k).1) (es' := (putI es i k).2) rfl
  have p2 := sh_range hs hg hd1 hd2
  have p3 : getA (shI s es) (mv s i) = getA es i := by unfold getA; rw [sh_ge hs hg.sm hd1]
  have p4 := sh_fnd s es k
  have p5 := sh_drop hs hg hd1
  have p6 := sh_leave s es k.h
  unfold shD
  obtain ⟨i', hi'⟩ : ∃ i', mv s i = i' := ⟨_, rfl⟩
  obtain ⟨l', hl'⟩ : ∃ l', mv s l = l' := ⟨_, rfl⟩
  simp only
  rw [hi', hl'] at p2 ⊢
  rw [hi'] at p1 p3 p5
  obtain ⟨mvs, hmvs⟩ : ∃ g : Nat → Nat, mv s = g := ⟨_, rfl⟩
  unfold shA
  rw [hmvs] at p2 p4 ⊢
  clear hd1 hd2 hi' hl' hmvs
  by_cases k0 : K = 0
  · subst k0
    simp only [doI, if_true] at r ⊢
    cases r
    rw [p1]
    simp
  by_cases k1 : K = 1
  · subst k1
    simp only [doI, if_neg k0, if_true] at r ⊢
    cases r
    rw [p2]
    simp
  by_cases k2 : K = 2
  · subst k2
    simp only [doI, if_neg k0, if_neg k1, if_true] at r ⊢
    cases r
    rw [p3]
    simp
  by_cases k3 : K = 3
  · subst k3
    simp only [doI, if_neg k0, if_neg k1, if_neg k2, if_true] at r ⊢
    cases r
    rw [p4.1, p4.2]
    simp
  by_cases k4 : K = 4
  · subst k4
    simp only [doI, if_neg k0, if_neg k1, if_neg k2, if_neg k3, if_true] at r ⊢
    cases r
    rw [p5]
    simp
  by_cases k5 : K = 5
  · subst k5
    simp only [doI, if_neg k0, if_neg k1, if_neg k2, if_neg k3, if_neg k4, if_true] at r ⊢
    cases r
    rw [p6]
    simp
  simp only [doI, if_neg k0, if_neg k1, if_neg k2, if_neg k3, if_neg k4, if_neg k5] at r ⊢
  cases r
  simp [k3]
theorem small_do {es : Is} (hg : GoodI es) {d : OpI} {x : AnsI} {es' : Is} (r : doI es d = (x, es')) : (∀ y ∈ x.l, y < 4294967296) ∧ x.n < 4294967296 ∧ x.l.length ≤ 512 := by
  have hz : (0 : Nat) < 4294967296 := by omega
  unfold doI at r
  repeat' split at r
  all_goals cases r
  · exact ⟨by simp, hz, by simp⟩
  · refine ⟨fun y hy => ?_, hz, ?_⟩
    · simp only [rangeI] at hy
      split at hy
      · obtain ⟨p, hp, rfl⟩ := List.mem_map.1 hy
        exact hg.sm p (List.mem_filter.1 hp).1
      · cases hy
    · simp only [rangeI]
      split
      · rw [List.length_map]; exact Nat.le_trans (List.length_filter_le _ _) hg.few
      · simp
  · exact ⟨by simp, hz, by simp⟩
  · refine ⟨by simp, ?_, by simp⟩
    simp only [fndA]
    cases hf : fiI es d.k with
    | none => exact hz
    | some i => exact hg.sm _ (fiI_mem hf)
  · exact ⟨by simp, hz, by simp⟩
  · exact ⟨by simp, hz, by simp⟩
  · exact ⟨by simp, hz, by simp⟩
end Go.Proofs.Ytafmhpcfjmannaa
