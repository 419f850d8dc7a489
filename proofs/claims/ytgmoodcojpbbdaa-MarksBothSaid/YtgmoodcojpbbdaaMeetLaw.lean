import Derived.Test.YtgmoodcojpbbdaaFirst
set_option linter.unusedVariables false
set_option linter.unusedSimpArgs false
namespace Go.Proofs.Ytgmoodcojpbbdaa
open Go.RowKit

/-- The marks, when the first k of them have met. -/
def curM (th ms : Ms) (k : Nat) : Ms := (ms.take k).map (fun p => (stepM th p).1) ++ ms.drop k
theorem step_key (th : Ms) (p : List UInt8 × Outc) : (stepM th p).1.1 = p.1 := by
  unfold stepM
  split <;> rfl
theorem cur_zero (th ms : Ms) : curM th ms 0 = ms := by simp [curM]
theorem cur_all (th ms : Ms) : curM th ms ms.length = (meetM th ms).1 := by simp [curM, meetM]
theorem cur_keys (th ms : Ms) (k : Nat) : (curM th ms k).map (·.1) = ms.map (·.1) := by
  rw [curM, List.map_append, List.map_map]
  have : (ms.take k).map ((·.1) ∘ fun p => (stepM th p).1) = (ms.take k).map (·.1) := by
    apply List.map_congr_left
    intro p _
    exact step_key th p
  rw [this, ← List.map_append, List.take_append_drop]
theorem cur_at (th ms : Ms) (k : Nat) (hk : k < ms.length) : curM th ms k = (ms.take k).map (fun p => (stepM th p).1) ++ ms[k] :: ms.drop (k + 1) := by
  rw [curM, List.drop_eq_getElem_cons hk]
theorem cur_succ (th ms : Ms) (k : Nat) (hk : k < ms.length) : curM th ms (k + 1) = (ms.take k).map (fun p => (stepM th p).1) ++ (stepM th ms[k]).1 :: ms.drop (k + 1) := by
  rw [curM, List.take_succ_eq_append_getElem hk, List.map_append, List.append_assoc]
  rfl
theorem cur_mat (th ms : Ms) (hn : (ms.map (·.1)).Nodup) (k : Nat) (hk : k < ms.length) : mat (curM th ms k) ms[k].1 = some ms[k].2 := by
  apply mat_of_mem
  · rw [cur_keys]; exact hn
  · rw [cur_at th ms k hk]
    exact List.mem_append_right _ List.mem_cons_self
theorem cur_mat_succ (th ms : Ms) (hn : (ms.map (·.1)).Nodup) (k : Nat) (hk : k < ms.length) : mat (curM th ms (k + 1)) ms[k].1 = some (stepM th ms[k]).1.2 := by
  apply mat_of_mem
  · rw [cur_keys]; exact hn
  · rw [cur_succ th ms k hk]
    have : ((ms[k]).1, (stepM th ms[k]).1.2) = (stepM th ms[k]).1 := by rw [← step_key th ms[k]]
    rw [this]
    exact List.mem_append_right _ List.mem_cons_self
theorem set_mid (xs ys : Ms) (p : List UInt8 × Outc) (o : Outc) (h1 : ∀ q ∈ xs, q.1 ≠ p.1) (h2 : ∀ q ∈ ys, q.1 ≠ p.1) : setM (xs ++ p :: ys) p.1 o = xs ++ (p.1, o) :: ys := by
  have e : ∀ zs : Ms, (∀ q ∈ zs, q.1 ≠ p.1) → zs.map (fun q => if q.1 = p.1 then (q.1, o) else q) = zs := fun zs hz => by
    conv => rhs; rw [← List.map_id zs]
    apply List.map_congr_left
    intro q hq
    simp [hz q hq]
  rw [setM, List.map_append, List.map_cons, e xs h1, e ys h2]
  simp
theorem cur_tell (th ms : Ms) (hn : (ms.map (·.1)).Nodup) (k : Nat) (hk : k < ms.length) : (tellM (curM th ms k) ms[k].1 (getM th ms[k].1).1).2 = curM th ms (k + 1) := by
  have hm := cur_mat th ms hn k hk
  obtain ⟨p, hp⟩ : ∃ p, ms[k] = p := ⟨_, rfl⟩
  have hk2 := cur_keys th ms k
  have h3 := cur_at th ms k hk
  have h4 := cur_succ th ms k hk
  rw [hp] at hm h3 h4 ⊢
  rw [tellM, hm]
  have hnk : ((curM th ms k).map (·.1)).Nodup := by rw [hk2]; exact hn
  rw [h3, List.map_append, List.map_cons] at hnk
  have hd := List.nodup_append.1 hnk
  have d1 : ∀ q ∈ (ms.take k).map (fun p => (stepM th p).1), q.1 ≠ p.1 := fun q hq e => hd.2.2 q.1 (List.mem_map.2 ⟨q, hq, rfl⟩) p.1 (by simp) e
  have d2 : ∀ q ∈ ms.drop (k + 1), q.1 ≠ p.1 := fun q hq e => by
    have := (List.nodup_cons.1 hd.2.1).1
    exact this (List.mem_map.2 ⟨q, hq, e⟩)
  cases ht : mat th p.1 with
  | none =>
    have h1 : getM th p.1 = (oz, false) := by simp [getM, ht]
    have h2 : (stepM th p).1 = p := by unfold stepM; rw [ht]
    rw [h1, h4, h2, h3]
    simp [fin, oz]
  | some o =>
    have h1 : getM th p.1 = (o, true) := by simp [getM, ht]
    have h2 : (stepM th p).1 = (p.1, if !fin p.2 && fin o then o else p.2) := by unfold stepM; rw [ht]
    rw [h1, h4, h2, h3]
    cases f1 : fin p.2 <;> cases f2 : fin o
    · simp [f1, f2]
    · have := set_mid _ _ p o d1 d2
      simp only [f1, f2, Bool.not_true, Bool.or_self, Bool.false_eq_true, if_false, Bool.not_false, Bool.true_and, if_true]
      exact this
    · simp [f1, f2]
    · simp [f1, f2]
/-- A step's six cells. -/
def sc (s : St) : List Value := [str s.1, .int .i64 s.2.1] ++ ocs s.2.2
def scs (l : List St) : List Value := l.flatMap sc
theorem scs_snoc (l : List St) (s : St) : scs (l ++ [s]) = scs l ++ sc s := by simp [scs]
theorem sc_one (s : St) : ∀ u ∈ sc s, u.oneCell' = true := by
  intro u hu
  simp only [sc, List.mem_append, List.mem_cons, List.not_mem_nil, or_false] at hu
  rcases hu with (rfl | rfl) | hu
  · rfl
  · rfl
  · exact ov_one s.2.2 u hu
theorem scs_length (l : List St) : (scs l).length = l.length * 6 := by
  induction l with
  | nil => rfl
  | cons p ms ih =>
    have : scs (p :: ms) = sc p ++ scs ms := rfl
    rw [this, List.length_append, ih, List.length_cons]
    simp [sc, ocs]
    omega
theorem scs_at (l : List St) (i : Nat) (hi : i < l.length) (j : Nat) (hj : j < 6) : (scs l)[i * 6 + j]? = (sc l[i])[j]? := by
  induction l generalizing i with
  | nil => simp at hi
  | cons p ms ih =>
    have h0 : scs (p :: ms) = sc p ++ scs ms := rfl
    have hl : (sc p).length = 6 := by simp [sc, ocs]
    rw [h0]
    cases i with
    | zero => rw [List.getElem?_append_left (by omega)]; simp
    | succ i =>
      rw [List.getElem?_append_right (by omega), hl, show (i + 1) * 6 + j - 6 = i * 6 + j by omega, ih i (by simpa using hi)]
      rfl
end Go.Proofs.Ytgmoodcojpbbdaa
