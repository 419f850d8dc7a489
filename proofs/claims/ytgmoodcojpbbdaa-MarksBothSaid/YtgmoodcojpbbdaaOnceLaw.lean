import Derived.Test.YtgmoodcojpbbdaaDoM
set_option linter.unusedVariables false
set_option linter.unusedSimpArgs false
namespace Go.Proofs.Ytgmoodcojpbbdaa
open Go.RowKit

theorem GoodM.sub {N : Nat} {ms ms' : Ms} (h : GoodM N ms) (hs : ms'.Sublist ms) : GoodM N ms' :=
  ⟨Nat.le_trans hs.length_le h.few, h.most, fun p hp => h.tags p (hs.subset hp), fun p hp => h.fins p (hs.subset hp)⟩
theorem step_fin (th : Ms) (p : List UInt8 × Outc) (h : p.2 = oz ∨ fin p.2 = true) : (stepM th p).1.2 = oz ∨ fin (stepM th p).1.2 = true := by
  unfold stepM
  cases hm : mat th p.1 with
  | none => exact h
  | some o =>
    simp only
    split
    · rename_i hc
      simp at hc
      exact .inr hc.2
    · exact h
theorem good_do {ms ms' : Ms} (h : GoodM 32 ms) {d : OpD} {x : AnsM} (r : doM ms d = (x, ms')) : GoodM 32 ms' := by
  unfold doM at r
  repeat' split at r
  all_goals cases r
  · unfold addM
    split
    · exact h
    · rename_i h1
      split
      · exact h
      · split
        · exact h
        · rename_i h3
          refine ⟨by simp; omega, h.most, fun p hp => ?_, fun p hp => ?_⟩
          · rcases List.mem_append.1 hp with e | e
            · exact h.tags p e
            · simp at e; subst e; simp only; omega
          · rcases List.mem_append.1 hp with e | e
            · exact h.fins p e
            · simp at e; subst e; exact .inl rfl
  · exact h.tell rfl
  · exact h
  · unfold settleM
    cases mat ms d.t with
    | none => exact h
    | some o => exact h.sub List.filter_sublist
  · refine ⟨by simpa [meetM] using h.few, h.most, fun p hp => ?_, fun p hp => ?_⟩
    · obtain ⟨q, hq, rfl⟩ := List.mem_map.1 hp
      rw [step_key]
      exact h.tags q hq
    · obtain ⟨q, hq, rfl⟩ := List.mem_map.1 hp
      exact step_fin _ _ (h.fins q hq)
  · exact h.sub List.filter_sublist
  · exact h
theorem mat_meet (th ms : Ms) (t : List UInt8) : mat (meetM th ms).1 t = (mat ms t).map fun o => (stepM th (t, o)).1.2 := by
  induction ms with
  | nil => rfl
  | cons p ms ih =>
    have h1 : (meetM th (p :: ms)).1 = (stepM th p).1 :: (meetM th ms).1 := rfl
    rw [h1, mat_cons, mat_cons, ih, step_key]
    by_cases e : p.1 = t
    · subst e; simp
    · simp [e]
/-- A state that is final never turns. -/
theorem once_law {ms ms' : Ms} (hn : (ms.map (·.1)).Nodup) {d : OpD} {x : AnsM} (r : doM ms d = (x, ms')) {t : List UInt8} {p q : Outc} (hp : mat ms t = some p) (hf : fin p = true) (hq : mat ms' t = some q) : q = p := by
  unfold doM at r
  repeat' split at r
  all_goals cases r
  · unfold addM at hq
    split at hq
    · rw [hp] at hq; exact (Option.some.inj hq).symm
    · split at hq
      · rw [hp] at hq; exact (Option.some.inj hq).symm
      · split at hq
        · rw [hp] at hq; exact (Option.some.inj hq).symm
        · rename_i h2 _
          have h2' : mat ms d.t = none := by cases h : mat ms d.t <;> simp_all
          rw [mat_snoc _ _ _ h2'] at hq
          split at hq
          · rename_i e
            subst e
            rw [h2'] at hp
            cases hp
          · rw [hp] at hq; exact (Option.some.inj hq).symm
  · unfold tellM at hq
    cases hm : mat ms d.t with
    | none =>
      rw [hm] at hq
      simp only at hq
      rw [hp] at hq; exact (Option.some.inj hq).symm
    | some was =>
      rw [hm] at hq
      simp only at hq
      split at hq
      · rw [hp] at hq; exact (Option.some.inj hq).symm
      · rename_i hc
        rw [mat_set] at hq
        split at hq
        · rename_i e
          subst e
          rw [hm] at hp
          cases hp
          rw [hf] at hc
          simp at hc
        · rw [hp] at hq; exact (Option.some.inj hq).symm
  · rw [hp] at hq; exact (Option.some.inj hq).symm
  · unfold settleM at hq
    cases hm : mat ms d.t with
    | none =>
      rw [hm] at hq
      simp only at hq
      rw [hp] at hq; exact (Option.some.inj hq).symm
    | some was =>
      rw [hm] at hq
      simp only at hq
      rw [mat_drop] at hq
      split at hq
      · cases hq
      · rw [hp] at hq; exact (Option.some.inj hq).symm
  · rw [mat_meet, hp] at hq
    simp only [Option.map_some, Option.some.injEq] at hq
    rw [← hq]
    unfold stepM
    cases hm : mat d.th t with
    | none => rfl
    | some o => simp [hf]
  · have hm := (List.mem_filter.1 (mat_mem hq)).1
    have := mat_of_mem hn hm
    rw [hp] at this
    exact (Option.some.inj this).symm
  · rw [hp] at hq; exact (Option.some.inj hq).symm
theorem settle_ans {ms ms' : Ms} {d : OpD} {x : AnsM} (r : doM ms d = (x, ms')) (hk : d.K = 3) : x.is = (mat ms d.t).isSome ∧ x.o = (mat ms d.t).getD oz := by
  unfold doM at r
  rw [hk] at r
  simp only [show ¬ (3 : Int) = 0 by decide, show ¬ (3 : Int) = 1 by decide, show ¬ (3 : Int) = 2 by decide, if_false, if_true] at r
  cases r
  unfold settleM
  cases mat ms d.t <;> exact ⟨rfl, rfl⟩
theorem mat_take_none {ms : Ms} (hn : (ms.map (·.1)).Nodup) (j : Nat) (hj : j < ms.length) : mat (ms.take j) ms[j].1 = none := mat_none.2 fun p hp e => by
  obtain ⟨i, hi, rfl⟩ := List.getElem_of_mem hp
  rw [List.getElem_take] at e
  have hij : i < j := by simp at hi; omega
  have h1 : (ms.map (·.1))[i]'(by simp; omega) = (ms.map (·.1))[j]'(by simpa using hj) := by
    rw [List.getElem_map, List.getElem_map]; exact e
  have := (List.getElem_inj hn).1 h1
  omega
end Go.Proofs.Ytgmoodcojpbbdaa
