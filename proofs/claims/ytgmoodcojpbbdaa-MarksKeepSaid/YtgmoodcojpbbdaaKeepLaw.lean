import Derived.Test.YtgmoodcojpbbdaaGood
set_option linter.unusedVariables false
set_option linter.unusedSimpArgs false
namespace Go.Proofs.Ytgmoodcojpbbdaa
open Go.RowKit

theorem filter_at {α : Type} (q : α → Bool) (l : List α) (i : Nat) (hi : i < l.length) (h : q l[i] = true) : (l.filter q)[((l.take i).filter q).length]? = some l[i] := by
  have e : l.filter q = (l.take i).filter q ++ l[i] :: (l.drop (i + 1)).filter q := by
    conv => lhs; rw [← List.take_append_drop i l, List.drop_eq_getElem_cons hi, List.filter_append, List.filter_cons_of_pos h]
  rw [e, List.getElem?_append_right (Nat.le_refl _)]
  simp
def hasB (th : Ms) (p : List UInt8 × Outc) : Bool := (mat th p.1).isSome
def nonB (th : Ms) (p : List UInt8 × Outc) : Bool := (mat th p.1).isNone
def kkL (th ms : Ms) (i : Nat) : Nat := ((ms.take i).filter (hasB th)).length
def ggL (th ms : Ms) (i : Nat) : Nat := ((ms.take i).filter (nonB th)).length
theorem keep_two (th ms : Ms) : (keepM th ms).2.length + (keepM th ms).1.length = ms.length := by
  simp only [keepM, List.length_map]
  induction ms with
  | nil => rfl
  | cons p ms ih =>
    simp only [List.filter_cons, List.length_cons]
    cases h : mat th p.1 <;> simp <;> omega
theorem kg_zero (th ms : Ms) : kkL th ms 0 = 0 ∧ ggL th ms 0 = 0 := by simp [kkL, ggL]
theorem kg_yes (th ms : Ms) (i : Nat) (hi : i < ms.length) (h : hasB th ms[i] = true) : kkL th ms (i + 1) = kkL th ms i + 1 ∧ ggL th ms (i + 1) = ggL th ms i ∧ (keepM th ms).2[kkL th ms i]? = some ms[i] := by
  have h2 : nonB th ms[i] = false := by unfold hasB at h; unfold nonB; cases hm : mat th ms[i].1 <;> simp_all
  refine ⟨?_, ?_, filter_at (hasB th) ms i hi h⟩
  · rw [kkL, List.take_succ_eq_append_getElem hi, List.filter_append, List.length_append]
    simp [h, kkL]
  · rw [ggL, List.take_succ_eq_append_getElem hi, List.filter_append, List.length_append]
    simp [h2, ggL]
theorem kg_no (th ms : Ms) (i : Nat) (hi : i < ms.length) (h : hasB th ms[i] = false) : kkL th ms (i + 1) = kkL th ms i ∧ ggL th ms (i + 1) = ggL th ms i + 1 ∧ (keepM th ms).1[ggL th ms i]? = some ms[i].1 := by
  have h2 : nonB th ms[i] = true := by unfold hasB at h; unfold nonB; cases hm : mat th ms[i].1 <;> simp_all
  refine ⟨?_, ?_, ?_⟩
  · rw [kkL, List.take_succ_eq_append_getElem hi, List.filter_append, List.length_append]
    simp [h, kkL]
  · rw [ggL, List.take_succ_eq_append_getElem hi, List.filter_append, List.length_append]
    simp [h2, ggL]
  · have := filter_at (nonB th) ms i hi h2
    show ((ms.filter (nonB th)).map (·.1))[ggL th ms i]? = _
    rw [List.getElem?_map, ggL, this]
    rfl
theorem kg_end (th ms : Ms) : kkL th ms ms.length = (keepM th ms).2.length ∧ ggL th ms ms.length = (keepM th ms).1.length := by
  simp [kkL, ggL, keepM, hasB, nonB]
  exact ⟨rfl, rfl⟩
/-- The marks when g of the forgotten ones are added anew. -/
def curG (th ms : Ms) (g : Nat) : Ms := (keepM th ms).2 ++ ((keepM th ms).1.take g).map fun t => (t, oz)
theorem cur_add (th ms : Ms) (hn : (ms.map (·.1)).Nodup) {N : Nat} (hG : GoodM N ms) (g : Nat) (hg : g < (keepM th ms).1.length) : addM (curG th ms g) (keepM th ms).1[g] = (0, curG th ms (g + 1)) := by
  obtain ⟨t, ht⟩ : ∃ t, (keepM th ms).1[g] = t := ⟨_, rfl⟩
  have hmem : t ∈ (keepM th ms).1 := by rw [← ht]; exact List.getElem_mem _
  obtain ⟨q, hq, hqt⟩ := List.mem_map.1 hmem
  have hq2 := List.mem_filter.1 hq
  have htl := hG.tags q hq2.1
  rw [hqt] at htl
  have hnd : ((keepM th ms).1).Nodup := by
    have : (keepM th ms).1 = ((ms.filter fun p => (mat th p.1).isNone).map (·.1)) := rfl
    rw [this]
    exact hn.sublist (List.filter_sublist.map _)
  have hmn : mat (curG th ms g) t = none := mat_none.2 fun p hp e => by
    rcases List.mem_append.1 hp with h | h
    · have h1 := (List.mem_filter.1 h).2
      have h2 := hq2.2
      rw [hqt] at h2
      rw [e] at h1
      cases hm : mat th t <;> simp_all
    · obtain ⟨s, hs, rfl⟩ := List.mem_map.1 h
      simp only at e
      subst e
      obtain ⟨j, hj, hjs⟩ := List.getElem_of_mem hs
      rw [List.getElem_take] at hjs
      have hj2 : j < g := by simp at hj; omega
      have := (List.getElem_inj hnd).1 (hjs.trans ht.symm)
      omega
  have hlen : (curG th ms g).length < 32 := by
    have := keep_two th ms
    have h1 := hG.few
    have h2 := hG.most
    simp only [curG, List.length_append, List.length_map, List.length_take]
    omega
  rw [ht]
  unfold addM
  rw [if_neg (by omega), hmn, if_neg (by simp), if_neg (by omega)]
  congr 1
  rw [curG, curG, List.append_assoc]
  congr 1
  rw [List.take_succ_eq_append_getElem hg, ht, List.map_append]
  rfl
end Go.Proofs.Ytgmoodcojpbbdaa
