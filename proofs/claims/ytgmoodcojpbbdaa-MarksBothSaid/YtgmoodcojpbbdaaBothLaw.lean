import Derived.Test.YtgmoodcojpbbdaaOnceLaw
set_option linter.unusedVariables false
set_option linter.unusedSimpArgs false
namespace Go.Proofs.Ytgmoodcojpbbdaa
open Go.RowKit

theorem nodup_len {α : Type} [DecidableEq α] : ∀ (l m : List α), l.Nodup → (∀ x ∈ l, x ∈ m) → l.length ≤ m.length
  | [], m, _, _ => Nat.zero_le _
  | a :: l, m, hn, hs => by
    have ha := hs a (by simp)
    obtain ⟨m1, m2, rfl⟩ := List.append_of_mem ha
    have := nodup_len l (m1 ++ m2) (List.nodup_cons.1 hn).2 (fun x hx => by
      have h := hs x (by simp [hx])
      have hxa : x ≠ a := fun e => (List.nodup_cons.1 hn).1 (e ▸ hx)
      simp only [List.mem_append, List.mem_cons] at h ⊢
      rcases h with h | h | h
      · exact .inl h
      · exact absurd h hxa
      · exact .inr h)
    simp at this ⊢
    omega
theorem mat_keep (S R : Ms) (t : List UInt8) : mat (keepM S R).2 t = if (mat S t).isSome then mat R t else none := by
  induction R with
  | nil => (show (none : Option Outc) = _; split <;> rfl)
  | cons p R ih =>
    simp only [keepM, List.filter_cons] at ih ⊢
    by_cases hp : (mat S p.1).isSome = true
    · simp only [hp, if_true]
      rw [mat_cons, mat_cons, ih]
      by_cases e : p.1 = t
      · subst e; simp [hp]
      · simp [e]
    · simp only [hp, if_false]
      rw [mat_cons]
      by_cases e : p.1 = t
      · subst e
        simp only [hp, if_false] at ih ⊢
        exact ih
      · simp only [e, if_false]; exact ih
theorem mat_isSome {ms : Ms} {t : List UInt8} : (mat ms t).isSome = true ↔ t ∈ ms.map (·.1) := by
  cases h : mat ms t with
  | none =>
    simp only [Option.isSome_none, Bool.false_eq_true, false_iff]
    intro hm
    obtain ⟨p, hp, rfl⟩ := List.mem_map.1 hm
    exact mat_none.1 h p hp rfl
  | some o =>
    simp only [Option.isSome_some, true_iff]
    exact List.mem_map.2 ⟨_, mat_mem h, rfl⟩

/-- When k steps are done. -/
structure BInv (S0 R0 : Ms) (k : Nat) (S R : Ms) : Prop where
  sn : (S.map (·.1)).Nodup
  rn : (R.map (·.1)).Nodup
  s : ∀ j (hj : j < S0.length), mat S S0[j].1 = if j < k ∧ fin (stepM R0 S0[j]).1.2 = true then none else some (stepM R0 S0[j]).1.2
  r : ∀ j (hj : j < S0.length), (mat R S0[j].1).isSome = if j < k then !fin (stepM R0 S0[j]).1.2 else (mat R0 S0[j].1).isSome
  so : ∀ t, t ∉ S0.map (·.1) → mat S t = none
  ro : ∀ t, t ∉ S0.map (·.1) → mat R t = none
theorem key_ne {S0 : Ms} (hn : (S0.map (·.1)).Nodup) {i j : Nat} (hi : i < S0.length) (hj : j < S0.length) (hne : i ≠ j) : S0[i].1 ≠ S0[j].1 := by
  intro e
  have h1 : (S0.map (·.1))[i]'(by simpa using hi) = (S0.map (·.1))[j]'(by simpa using hj) := by rw [List.getElem_map, List.getElem_map]; exact e
  exact hne ((List.getElem_inj hn).1 h1)
theorem BInv.start {S0 R0 : Ms} (hs : (S0.map (·.1)).Nodup) (hr : (R0.map (·.1)).Nodup) : BInv S0 R0 0 (meetM R0 S0).1 (keepM S0 R0).2 := by
  have hmem : ∀ j (hj : j < S0.length), mat S0 S0[j].1 = some S0[j].2 := fun j hj => mat_of_mem hs (List.getElem_mem hj)
  refine ⟨?_, ?_, fun j hj => ?_, fun j hj => ?_, fun t ht => ?_, fun t ht => ?_⟩
  · have : (meetM R0 S0).1.map (·.1) = S0.map (·.1) := by
      rw [meetM, List.map_map]
      apply List.map_congr_left
      intro p _
      exact step_key R0 p
    rw [this]; exact hs
  · exact hr.sublist (List.filter_sublist.map _)
  · rw [mat_meet, hmem j hj]
    simp
  · rw [mat_keep, hmem j hj]
    simp
  · rw [mat_meet]
    cases h : mat S0 t with
    | none => rfl
    | some o => exact absurd (mat_isSome.1 (by rw [h]; rfl)) ht
  · rw [mat_keep]
    cases h : mat S0 t with
    | none => rfl
    | some o => exact absurd (mat_isSome.1 (by rw [h]; rfl)) ht
theorem BInv.few {S0 R0 S R : Ms} {k : Nat} (h : BInv S0 R0 k S R) : R.length ≤ S0.length := by
  have := nodup_len (R.map (·.1)) (S0.map (·.1)) h.rn (fun t ht => by
    by_cases hm : t ∈ S0.map (·.1)
    · exact hm
    · have := mat_isSome.2 ht
      rw [h.ro t hm] at this
      cases this)
  simpa using this
/-- A step that is done. -/
theorem BInv.next {S0 R0 S R S' R' : Ms} {k : Nat} (hn : (S0.map (·.1)).Nodup) (h : BInv S0 R0 k S R) (hk : k < S0.length) (sn : (S'.map (·.1)).Nodup) (rn : (R'.map (·.1)).Nodup)
    (s1 : ∀ t, t ≠ S0[k].1 → mat S' t = mat S t) (r1 : ∀ t, t ≠ S0[k].1 → mat R' t = mat R t)
    (s2 : mat S' S0[k].1 = if fin (stepM R0 S0[k]).1.2 = true then none else some (stepM R0 S0[k]).1.2) (r2 : (mat R' S0[k].1).isSome = !fin (stepM R0 S0[k]).1.2) : BInv S0 R0 (k + 1) S' R' := by
  refine ⟨sn, rn, fun j hj => ?_, fun j hj => ?_, fun t ht => ?_, fun t ht => ?_⟩
  · by_cases e : j = k
    · subst e
      rw [s2]
      simp
    · rw [s1 _ (key_ne hn hj hk e), h.s j hj]
      have : (j < k + 1) = (j < k) := by apply propext; omega
      simp only [this]
  · by_cases e : j = k
    · subst e
      rw [r2]
      simp
    · rw [r1 _ (key_ne hn hj hk e), h.r j hj]
      have : (j < k + 1) = (j < k) := by apply propext; omega
      simp only [this]
  · have : t ≠ S0[k].1 := fun e => ht (by rw [e]; exact List.mem_map.2 ⟨_, List.getElem_mem hk, rfl⟩)
    rw [s1 t this, h.so t ht]
  · have : t ≠ S0[k].1 := fun e => ht (by rw [e]; exact List.mem_map.2 ⟨_, List.getElem_mem hk, rfl⟩)
    rw [r1 t this, h.ro t ht]
/-- What is done at a step: send, ask, tell, done. -/
theorem both_step {S0 R0 S R : Ms} {k : Nat} (hn : (S0.map (·.1)).Nodup) (hg : GoodM 20 S0) (h : BInv S0 R0 k S R) (hk : k < S0.length) :
    ∃ own kd st, stepM R0 S0[k] = ((S0[k].1, own), (S0[k].1, kd, st)) ∧
      ((kd = 1 ∧ mat R0 S0[k].1 = none ∧ addM R S0[k].1 = (0, R ++ [(S0[k].1, oz)]) ∧ BInv S0 R0 (k + 1) S (R ++ [(S0[k].1, oz)])) ∨
       (kd = 2 ∧ (getM R S0[k].1).2 = true ∧ BInv S0 R0 (k + 1) S R) ∨
       (kd = 3 ∧ settleM S S0[k].1 = (st, true, dropM S S0[k].1) ∧ (∃ o2, settleM R S0[k].1 = (o2, true, dropM R S0[k].1)) ∧ BInv S0 R0 (k + 1) (dropM S S0[k].1) (dropM R S0[k].1)) ∨
       (kd = 4 ∧ settleM S S0[k].1 = (st, true, dropM S S0[k].1) ∧ (getM R S0[k].1).2 = false ∧ BInv S0 R0 (k + 1) (dropM S S0[k].1) R)) := by
  obtain ⟨own, kd, st, e, hc⟩ := step_spec R0 S0[k]
  have hs := h.s k hk
  have hr := h.r k hk
  have hfew := h.few
  have ht := hg.tags _ (List.getElem_mem hk)
  have nx := fun (S' R' : Ms) => BInv.next (S' := S') (R' := R') hn h hk
  rw [e] at hs hr nx
  simp only [Nat.lt_irrefl, false_and, if_false] at hs hr
  simp only at nx
  obtain ⟨t, hte⟩ : ∃ t, S0[k].1 = t := ⟨_, rfl⟩
  rw [hte] at hs hr nx ht hc ⊢
  refine ⟨own, kd, st, by rw [e, hte], ?_⟩
  rcases hc with ⟨h1, h2, h3, h4⟩ | ⟨h1, h2, h3, h4⟩ | ⟨h1, h2, h3, h4⟩ | ⟨h1, h2, h3, h4⟩
  · have hrs : (mat R t).isSome = true := by rw [hr]; exact h1
    obtain ⟨o2, ho2⟩ := Option.isSome_iff_exists.1 hrs
    refine .inr (.inr (.inl ⟨h3, by rw [settleM, hs, h4], ⟨o2, by rw [settleM, ho2]⟩, ?_⟩))
    refine nx _ _ (nodup_drop h.sn t) (nodup_drop h.rn t) (fun j hj => by rw [mat_drop, if_neg hj]) (fun j hj => by rw [mat_drop, if_neg hj]) ?_ ?_
    · rw [mat_drop, if_pos rfl, if_pos h2]
    · rw [mat_drop, if_pos rfl, h2]; rfl
  · refine .inr (.inl ⟨h3, by unfold getM; simp only; rw [hr]; exact h1, ?_⟩)
    refine nx _ _ h.sn h.rn (fun _ _ => rfl) (fun _ _ => rfl) ?_ ?_
    · rw [hs, h2]; rfl
    · rw [hr, h2]; exact h1
  · have hrn : (mat R t).isSome = false := by rw [hr]; exact h1
    refine .inr (.inr (.inr ⟨h3, by rw [settleM, hs, h4], hrn, ?_⟩))
    refine nx _ _ (nodup_drop h.sn t) h.rn (fun j hj => by rw [mat_drop, if_neg hj]) (fun _ _ => rfl) ?_ ?_
    · rw [mat_drop, if_pos rfl, if_pos h2]
    · rw [hrn, h2]; rfl
  · have hrn : mat R t = none := by
      have : (mat R t).isSome = false := by rw [hr]; exact h1
      simpa using this
    have hr0 : mat R0 t = none := by
      have : (mat R0 t).isSome = false := h1
      simpa using this
    refine .inl ⟨h3, hr0, ?_, ?_⟩
    · have := hg.few
      rw [addM, if_neg (by omega), hrn, if_neg (by simp), if_neg (by omega)]
    · refine nx _ _ h.sn (nodup_snoc h.rn hrn oz) (fun _ _ => rfl) (fun j hj => by rw [mat_snoc _ _ _ hrn, if_neg hj]) ?_ ?_
      · rw [hs, h2]; rfl
      · rw [mat_snoc _ _ _ hrn, if_pos rfl, h2]; rfl
/-- At the end both have the same tags, none of them final at the sender. -/
theorem both_end {S0 R0 S R : Ms} (h : BInv S0 R0 S0.length S R) : S.length = R.length ∧ ∀ p ∈ S, (getM R p.1).2 = true ∧ fin p.2 = false := by
  have key : ∀ t o, mat S t = some o → (mat R t).isSome = true ∧ fin o = false := by
    intro t o ho
    by_cases hm : t ∈ S0.map (·.1)
    · obtain ⟨p, hp, rfl⟩ := List.mem_map.1 hm
      obtain ⟨j, hj, rfl⟩ := List.getElem_of_mem hp
      have h1 := h.s j hj
      have h2 := h.r j hj
      rw [ho] at h1
      simp only [hj, true_and, if_true] at h1 h2
      cases hf : fin (stepM R0 S0[j]).1.2
      · rw [hf] at h1 h2
        simp at h1
        exact ⟨h2, by rw [h1]; exact hf⟩
      · rw [hf] at h1
        simp at h1
    · rw [h.so t hm] at ho; cases ho
  refine ⟨Nat.le_antisymm ?_ ?_, fun p hp => ?_⟩
  · have := nodup_len (S.map (·.1)) (R.map (·.1)) h.sn (fun t ht => by
      obtain ⟨o, ho⟩ := Option.isSome_iff_exists.1 (mat_isSome.2 ht)
      exact mat_isSome.1 (key t o ho).1)
    simpa using this
  · have := nodup_len (R.map (·.1)) (S.map (·.1)) h.rn (fun t ht => by
      have hs := mat_isSome.2 ht
      by_cases hm : t ∈ S0.map (·.1)
      · obtain ⟨p, hp, rfl⟩ := List.mem_map.1 hm
        obtain ⟨j, hj, rfl⟩ := List.getElem_of_mem hp
        have h1 := h.s j hj
        have h2 := h.r j hj
        simp only [hj, true_and, if_true] at h1 h2
        rw [hs] at h2
        have hf : fin (stepM R0 S0[j]).1.2 = false := by simpa using h2.symm
        rw [hf] at h1
        simp at h1
        exact mat_isSome.1 (by rw [h1]; rfl)
      · rw [h.ro t hm] at hs; cases hs)
    simpa using this
  · have ho := mat_of_mem h.sn (show (p.1, p.2) ∈ S from hp)
    exact key p.1 p.2 ho
end Go.Proofs.Ytgmoodcojpbbdaa
